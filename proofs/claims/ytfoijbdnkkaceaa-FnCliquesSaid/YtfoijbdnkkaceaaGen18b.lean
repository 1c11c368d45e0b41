/- Plain functions of the program and that the program computes them: printed by the own tool gen.py. No conditions. -/
import Derived.Test.YtfoijbdnkkaceaaGen18a
set_option linter.unusedVariables false
set_option linter.unusedSimpArgs false
namespace Go.Proofs.Ytfoijbdnkkaceaa
open Go Go.RowKit Ab

-- loop.example/g01362/spec.l01Draw
def spec_l01Draw_l0 (k : Nat) : Nat → Int → Src → Col → Option (Src × Col)
 | 0, _, _, _ => none
 | k0 + 1, x12, x13, x14 => (if decide (0 < x12) then (spec_l01DrawOrder k x13 x14.p).bind fun r16 => (if 0 ≤ (0 : Int) ∧ (0 : Int) < (r16.1.length : Int) then (if 0 ≤ (1 : Int) ∧ (1 : Int) < (r16.1.length : Int) then (spec_l01Next r16.2 x14.k).bind fun r19 => (spec_l01With x14 (r16.1.getD (0 : Int).toNat 0) (r16.1.getD (1 : Int).toNat 0) r19.1).bind fun r20 => spec_l01Draw_l0 k k0 (w64 (x12 - 1)) r19.2 r20 else none) else none) else some (x13, x14))
def spec_l01Draw (k : Nat) (p0 : Src) : Option (Col × Src) :=
 ((spec_l01Next p0 4).bind fun r1 => (if decide (r1.1 = 0) then (spec_l01Next r1.2 ((spec_l01Names).length : Int)).bind fun r4 => (if 0 ≤ r4.1 ∧ r4.1 < ((spec_l01Names).length : Int) then (spec_l01Named k ((spec_l01Names).getD r4.1.toNat ByteArray.empty)).bind fun r6 => (spec_l01DrawOrder k r4.2 r6.1.p).bind fun r7 => (spec_l01Renamed k r6.1 r7.1).bind fun r8 => ((spec_l01Next r7.2 2).bind fun r9 => (if decide (r9.1 = 0) then (spec_l01Next r9.2 3).bind fun r11 => spec_l01Draw_l0 k k r11.1 r11.2 r8 else some (r9.2, r8)) : Option (Src × Col)).bind fun s21 => some (.inr (s21.2, s21.1)) else none) else (if decide (r1.1 = 1) then (spec_l01Next r1.2 17).bind fun r23 => (spec_l01Pick r23.2 ([2, 2, 3, 4])).bind fun r24 => (spec_l01DrawOf k r24.2 (w64 (1 + r23.1)) r24.1).bind fun r25 => some (.inr (r25.1, r25.2)) else some (.inl r1.2))) : Option (Sum (Src) (Col × Src))).bind fun os26 => (match os26 with | .inl s26 => (spec_l01Small k s26).bind fun r27 => some (r27.1, r27.2) | .inr rr => some rr)
set_option maxRecDepth 100000 in
theorem spec_l01Draw_ac (k : Nat) (p0 : Src) (r : Col × Src) (h : spec_l01Draw k p0 = some r) : AC Try.prog 189 [.ptr 0 0] [.box (srcD p0)] (fun res H' => res = [.d (.agg (colD r.1))] ∧ H' = [.box (srcD r.2)]) := by
 refine AC_of_body true Try.func189 rfl Try.ntmps189 (rvs := [.cell 2 29]) rfl rfl (fun G hG => ?_)
 have hm : G.H.length = 1 := by rw [hG]; rfl
 have hz : zeroG G.H = true := by rw [hG]; rfl
 unfold spec_l01Draw at h
 refine ACode_seq (ACode_region ?_)
 refine AOps_alloc 2 _ _ (colD Col.zero) (zero_of Try.typeInfo29 rfl) (by rfl) rfl rfl rfl rfl ?_
 refine AOps_nil ?_
 obtain ⟨os26, hss26, hks26⟩ := bindO h
 clear h
 refine ACode_seqJ (fun E' H' => ∃ s26 : Src, os26 = .inl s26 ∧ Weak 68 G E' H' [(0, .ptr 0 0), (2, .ptr 1 0)] [.box (srcD s26), .box (colD Col.zero)]) ?_ ?_
 ·have h := hss26
  clear hss26
  refine ACode_seq (ACode_region ?_)
  refine AOps_q 8 _ rfl rfl rfl (QOp_move _ _ rfl rfl) ?_
  obtain ⟨r1, hr1, h⟩ := bindO h
  refine AOps_call [0] 9 _ _ _ _ _ _ _ _ _ _ rfl rfl rfl rfl rfl rfl rfl Try.call77 rfl (nodupB_sound _ rfl) rfl rfl rfl (spec_l01Next_ac p0 4 _ hr1) ?_
  rintro _ _ ⟨rfl, rfl⟩
  refine ⟨(allc (fun _ _ => trivial) (fun _ h => nomatch h)), (allc (trivial) (fun _ h => nomatch h)), AOps_as 9 (v' := iV r1.1) (H' := [.box (srcD r1.2), .box (colD Col.zero)]) rfl rfl ?_⟩
  refine AOps_nil ?_
  refine ACode_block ?_
  refine ACode_seq (ACode_region ?_)
  refine AOps_q 11 _ rfl rfl rfl (QOp_eql _ _ _ _ _ _ _ rfl rfl rfl) ?_
  refine AOps_q 10 _ rfl rfl rfl (QOp_assign _ _ rfl rfl) ?_
  refine AOps_nil ?_
  refine ACode_cond _ rfl (fun hb2 => ?_) (fun hb2 => ?_)
  ·have h := iteT hb2 h
   refine ACode_seq (ACode_region ?_)
   refine AOps_call [] 12 _ _ _ _ _ _ _ _ _ _ rfl rfl rfl rfl rfl rfl rfl Try.call219 rfl (nodupB_sound _ rfl) rfl rfl rfl (spec_l01Names_ac) ?_
   rintro _ _ ⟨rfl, rfl⟩
   refine ⟨(allc (fun _ _ => trivial) (fun _ h => nomatch h)), (allc (trivial) (fun _ h => nomatch h)), AOps_as 12 (v' := .vec 2 0) (H' := [.box (srcD r1.2), .box (colD Col.zero), .vec 0 (stsD (spec_l01Names))]) rfl rfl ?_⟩
   refine AOps_q 3 _ rfl rfl rfl (QOp_assign _ _ rfl rfl) ?_
   refine AOps_nil ?_
   refine ACode_seq (ACode_region ?_)
   refine AOps_q 14 _ rfl rfl rfl (QOp_move _ _ rfl rfl) ?_
   refine AOps_q 15 _ rfl rfl rfl (QOp_move _ _ rfl rfl) ?_
   refine AOps_q 16 _ rfl rfl rfl (QOp_move _ _ rfl rfl) ?_
   refine AOps_q 17 _ rfl rfl rfl (QOp_len_vec _ _ _ _ _ _ _ _ (stsD_length _) rfl rfl rfl rfl Try.underlying170 rfl rfl) ?_
   obtain ⟨r4, hr4, h⟩ := bindO h
   refine AOps_call [0] 18 _ _ _ _ _ _ _ _ _ _ rfl rfl rfl rfl rfl rfl rfl Try.call77 rfl (nodupB_sound _ rfl) rfl rfl rfl (spec_l01Next_ac r1.2 ((spec_l01Names).length : Int) _ hr4) ?_
   rintro _ _ ⟨rfl, rfl⟩
   refine ⟨(allc (fun _ _ => trivial) (fun _ h => nomatch h)), (allc (trivial) (fun _ h => nomatch h)), AOps_as 18 (v' := iV r4.1) (H' := [.box (srcD r4.2), .box (colD Col.zero), .vec 0 (stsD (spec_l01Names))]) rfl rfl ?_⟩
   obtain ⟨hc5, h⟩ := guardO h
   refine AOps_q 19 _ rfl rfl rfl (QOp_indexAddr_vec _ _ _ _ _ _ _ _ _ rfl Try.underlying170 Try.sizeOf9 hc5.1 (by rw [stsD_length]; exact hc5.2) rfl rfl rfl) ?_
   refine AOps_q 20 _ rfl rfl rfl (QOp_load_eptr _ _ _ _ _ _ _ rfl Try.isAgg9 rfl rfl (stsD_get _ _ ByteArray.empty (by omega))) ?_
   obtain ⟨r6, hr6, h⟩ := bindO h
   refine AOps_call [] 21 _ _ _ _ _ _ _ _ _ _ rfl rfl rfl rfl rfl rfl rfl Try.call220 rfl (nodupB_sound _ rfl) rfl rfl rfl (spec_l01Named_ac k ((spec_l01Names).getD r4.1.toNat ByteArray.empty) _ hr6) ?_
   rintro _ _ ⟨rfl, rfl⟩
   refine ⟨(fun _ h => nomatch h), (allc (trivial) (allc (trivial) (fun _ h => nomatch h))), AOps_as 21 (v' := .tup [.d (.agg (colD r6.1)), bV r6.2]) (H' := [.box (srcD r4.2), .box (colD Col.zero), .vec 0 (stsD (spec_l01Names))]) rfl rfl ?_⟩
   refine AOps_q 13 _ rfl rfl rfl (QOp_move _ _ rfl rfl) ?_
   refine AOps_q 22 _ rfl rfl rfl (QOp_extract _ _ _ _ rfl rfl rfl) ?_
   refine AOps_q 23 _ rfl rfl rfl (QOp_extract _ _ _ _ rfl rfl rfl) ?_
   refine AOps_alloc 4 _ _ (colD Col.zero) (zero_of Try.typeInfo29 rfl) (by rfl) rfl rfl rfl rfl ?_
   refine AOps_store _ _ _ _ _ _ (colD _) _ _ rfl rfl rfl rfl rfl rfl rfl (colD_one _) (by rw [colD_length]; exact Try.sizeOf29) (by rw [colD_length, colD_length]; decide) (colD_whole _ _) ?_
   refine AOps_q 5 _ rfl rfl rfl (QOp_assign _ _ rfl rfl) ?_
   refine AOps_nil ?_
   obtain ⟨r7, hr7, h⟩ := bindO h
   obtain ⟨r8, hr8, h⟩ := bindO h
   refine ACode_seq (ACode_reg [(0, .ptr 0 0), (2, .ptr 1 0), (4, .ptr 2 0)] [.box (srcD r7.2), .box (colD Col.zero), .box (colD r8)] ?_ ?_)
   ·refine ACode_anyU mixed ?_
    refine AU_u 1 25 _ rfl (by kernel_rfl) rfl rfl rfl (UOp_move _ _ rfl rfl) ?_
    refine AU_u 2 26 _ rfl (by kernel_rfl) rfl rfl rfl (UOp_fieldAddr_ptr _ _ _ _ _ _ 0 _ _ rfl Try.underlying29 rfl _ Try.sizeOf2 rfl rfl rfl rfl) ?_
    refine AU_all [0, 3] (by kernel_rfl) rfl (allc ?_ (allc ?_ (fun _ h => nomatch h)))
    ·refine US_of 0 rfl rfl ?_
     refine AOps_q 24 _ rfl rfl rfl (QOp_loadN_ptr _ _ _ _ _ _ _ rfl Try.isAgg29 Try.sizeOf29 rfl rfl (colD_all _) (colD_length _)) ?_
     refine AOps_nil ?_
     refine AU_all [3] (by kernel_rfl) rfl (allc ?_ (fun _ h => nomatch h))
     ·refine US_of 3 rfl rfl ?_
      refine AOps_q 27 _ rfl rfl rfl (QOp_load_ptr _ _ _ _ _ _ rfl Try.isAgg2 rfl rfl rfl) ?_
      refine AOps_nil ?_
      refine AU_all [4] (by kernel_rfl) rfl (allc ?_ (fun _ h => nomatch h))
      ·refine US_of 4 rfl rfl ?_
       refine AOps_call [0] 28 _ _ _ _ _ _ _ _ _ _ rfl rfl rfl rfl rfl rfl rfl Try.call222 rfl (nodupB_sound _ rfl) rfl rfl rfl (spec_l01DrawOrder_ac k r4.2 r6.1.p _ hr7) ?_
       rintro _ _ ⟨rfl, rfl⟩
       refine ⟨(allc (fun _ _ => trivial) (allc (fun _ _ => trivial) (fun _ h => nomatch h))), (allc (trivial) (fun _ h => nomatch h)), AOps_as 28 (v' := .vec 4 0) (H' := [.box (srcD r7.2), .box (colD Col.zero), .vec 0 (stsD (spec_l01Names)), .box (colD r6.1), .vec 0 (intsD r7.1)]) rfl rfl ?_⟩
       refine AOps_nil ?_
       refine AU_all [5] (by kernel_rfl) rfl (allc ?_ (fun _ h => nomatch h))
       ·refine US_of 5 rfl rfl ?_
        refine AOps_callL [] 29 _ _ _ _ _ _ _ _ _ _ rfl rfl rfl rfl rfl rfl rfl Try.call221 rfl (nodupB_sound _ rfl) rfl rfl rfl (spec_l01Renamed_ac k r6.1 r7.1 _ hr8) ?_
        rintro _ _ ⟨rfl, rfl⟩
        refine ⟨(fun _ h => nomatch h), (allc (flat_agg (colD_flat _)) (fun _ h => nomatch h)), AOps_as 29 (v' := .d (.agg (colD r8))) (H' := [.box (srcD r7.2), .box (colD Col.zero), .vec 0 (stsD (spec_l01Names)), .box (colD r6.1), .vec 0 (intsD r7.1)]) rfl rfl ?_⟩
        refine AOps_nil ?_
        refine AU_all [6] (by kernel_rfl) rfl (allc ?_ (fun _ h => nomatch h))
        ·refine US_of 6 rfl rfl ?_
         refine AOps_store _ _ _ _ _ _ (colD _) _ _ rfl rfl rfl rfl rfl rfl rfl (colD_one _) (by rw [colD_length]; exact Try.sizeOf29) (by rw [colD_length, colD_length]; decide) (colD_whole _ _) ?_
         refine AOps_nil ?_
         refine AU_done (by kernel_rfl) ?_
         exact ⟨rfl, Weak_keep 1 hm [0, 2, 4] [1, 3] _ _ rfl rfl rfl⟩
    ·refine US_of 3 rfl rfl ?_
     refine AOps_q 27 _ rfl rfl rfl (QOp_load_ptr _ _ _ _ _ _ rfl Try.isAgg2 rfl rfl rfl) ?_
     refine AOps_nil ?_
     refine AU_all [0, 4] (by kernel_rfl) rfl (allc ?_ (allc ?_ (fun _ h => nomatch h)))
     ·refine US_of 0 rfl rfl ?_
      refine AOps_q 24 _ rfl rfl rfl (QOp_loadN_ptr _ _ _ _ _ _ _ rfl Try.isAgg29 Try.sizeOf29 rfl rfl (colD_all _) (colD_length _)) ?_
      refine AOps_nil ?_
      refine AU_all [4] (by kernel_rfl) rfl (allc ?_ (fun _ h => nomatch h))
      ·refine US_of 4 rfl rfl ?_
       refine AOps_call [0] 28 _ _ _ _ _ _ _ _ _ _ rfl rfl rfl rfl rfl rfl rfl Try.call222 rfl (nodupB_sound _ rfl) rfl rfl rfl (spec_l01DrawOrder_ac k r4.2 r6.1.p _ hr7) ?_
       rintro _ _ ⟨rfl, rfl⟩
       refine ⟨(allc (fun _ _ => trivial) (allc (fun _ _ => trivial) (fun _ h => nomatch h))), (allc (trivial) (fun _ h => nomatch h)), AOps_as 28 (v' := .vec 4 0) (H' := [.box (srcD r7.2), .box (colD Col.zero), .vec 0 (stsD (spec_l01Names)), .box (colD r6.1), .vec 0 (intsD r7.1)]) rfl rfl ?_⟩
       refine AOps_nil ?_
       refine AU_all [5] (by kernel_rfl) rfl (allc ?_ (fun _ h => nomatch h))
       ·refine US_of 5 rfl rfl ?_
        refine AOps_callL [] 29 _ _ _ _ _ _ _ _ _ _ rfl rfl rfl rfl rfl rfl rfl Try.call221 rfl (nodupB_sound _ rfl) rfl rfl rfl (spec_l01Renamed_ac k r6.1 r7.1 _ hr8) ?_
        rintro _ _ ⟨rfl, rfl⟩
        refine ⟨(fun _ h => nomatch h), (allc (flat_agg (colD_flat _)) (fun _ h => nomatch h)), AOps_as 29 (v' := .d (.agg (colD r8))) (H' := [.box (srcD r7.2), .box (colD Col.zero), .vec 0 (stsD (spec_l01Names)), .box (colD r6.1), .vec 0 (intsD r7.1)]) rfl rfl ?_⟩
        refine AOps_nil ?_
        refine AU_all [6] (by kernel_rfl) rfl (allc ?_ (fun _ h => nomatch h))
        ·refine US_of 6 rfl rfl ?_
         refine AOps_store _ _ _ _ _ _ (colD _) _ _ rfl rfl rfl rfl rfl rfl rfl (colD_one _) (by rw [colD_length]; exact Try.sizeOf29) (by rw [colD_length, colD_length]; decide) (colD_whole _ _) ?_
         refine AOps_nil ?_
         refine AU_done (by kernel_rfl) ?_
         exact ⟨rfl, Weak_keep 1 hm [0, 2, 4] [1, 3] _ _ rfl rfl rfl⟩
     ·refine US_of 4 rfl rfl ?_
      refine AOps_call [0] 28 _ _ _ _ _ _ _ _ _ _ rfl rfl rfl rfl rfl rfl rfl Try.call222 rfl (nodupB_sound _ rfl) rfl rfl rfl (spec_l01DrawOrder_ac k r4.2 r6.1.p _ hr7) ?_
      rintro _ _ ⟨rfl, rfl⟩
      refine ⟨(allc (fun _ _ => trivial) (allc (fun _ _ => trivial) (fun _ h => nomatch h))), (allc (trivial) (fun _ h => nomatch h)), AOps_as 28 (v' := .vec 4 0) (H' := [.box (srcD r7.2), .box (colD Col.zero), .vec 0 (stsD (spec_l01Names)), .box (colD r6.1), .vec 0 (intsD r7.1)]) rfl rfl ?_⟩
      refine AOps_nil ?_
      refine AU_all [0] (by kernel_rfl) rfl (allc ?_ (fun _ h => nomatch h))
      ·refine US_of 0 rfl rfl ?_
       refine AOps_q 24 _ rfl rfl rfl (QOp_loadN_ptr _ _ _ _ _ _ _ rfl Try.isAgg29 Try.sizeOf29 rfl rfl (colD_all _) (colD_length _)) ?_
       refine AOps_nil ?_
       refine AU_all [5] (by kernel_rfl) rfl (allc ?_ (fun _ h => nomatch h))
       ·refine US_of 5 rfl rfl ?_
        refine AOps_callL [] 29 _ _ _ _ _ _ _ _ _ _ rfl rfl rfl rfl rfl rfl rfl Try.call221 rfl (nodupB_sound _ rfl) rfl rfl rfl (spec_l01Renamed_ac k r6.1 r7.1 _ hr8) ?_
        rintro _ _ ⟨rfl, rfl⟩
        refine ⟨(fun _ h => nomatch h), (allc (flat_agg (colD_flat _)) (fun _ h => nomatch h)), AOps_as 29 (v' := .d (.agg (colD r8))) (H' := [.box (srcD r7.2), .box (colD Col.zero), .vec 0 (stsD (spec_l01Names)), .box (colD r6.1), .vec 0 (intsD r7.1)]) rfl rfl ?_⟩
        refine AOps_nil ?_
        refine AU_all [6] (by kernel_rfl) rfl (allc ?_ (fun _ h => nomatch h))
        ·refine US_of 6 rfl rfl ?_
         refine AOps_store _ _ _ _ _ _ (colD _) _ _ rfl rfl rfl rfl rfl rfl rfl (colD_one _) (by rw [colD_length]; exact Try.sizeOf29) (by rw [colD_length, colD_length]; decide) (colD_whole _ _) ?_
         refine AOps_nil ?_
         refine AU_done (by kernel_rfl) ?_
         exact ⟨rfl, Weak_keep 1 hm [0, 2, 4] [1, 3] _ _ rfl rfl rfl⟩
   obtain ⟨s21, hss21, hks21⟩ := bindO h
   clear h
   refine ACode_seqJ (fun E' H' => Weak 68 G E' H' [(2, .ptr 1 0), (4, .ptr 2 0)] [.box (srcD s21.1), .box (colD Col.zero), .box (colD s21.2)]) ?_ ?_
   ·have h := hss21
    clear hss21
    refine ACode_seq (ACode_region ?_)
    refine AOps_q 30 _ rfl rfl rfl (QOp_move _ _ rfl rfl) ?_
    obtain ⟨r9, hr9, h⟩ := bindO h
    refine AOps_call [0] 31 _ _ _ _ _ _ _ _ _ _ rfl rfl rfl rfl rfl rfl rfl Try.call77 rfl (nodupB_sound _ rfl) rfl rfl rfl (spec_l01Next_ac r7.2 2 _ hr9) ?_
    rintro _ _ ⟨rfl, rfl⟩
    refine ⟨(allc (fun _ _ => trivial) (fun _ h => nomatch h)), (allc (trivial) (fun _ h => nomatch h)), AOps_as 31 (v' := iV r9.1) (H' := [.box (srcD r9.2), .box (colD Col.zero), .box (colD r8)]) rfl rfl ?_⟩
    refine AOps_q 32 _ rfl rfl rfl (QOp_eql _ _ _ _ _ _ _ rfl rfl rfl) ?_
    refine AOps_nil ?_
    refine ACode_cond _ rfl (fun hb10 => ?_) (fun hb10 => ?_)
    ·have h := iteT hb10 h
     refine ACode_seq (ACode_region ?_)
     refine AOps_q 33 _ rfl rfl rfl (QOp_move _ _ rfl rfl) ?_
     obtain ⟨r11, hr11, h⟩ := bindO h
     refine AOps_call [0] 34 _ _ _ _ _ _ _ _ _ _ rfl rfl rfl rfl rfl rfl rfl Try.call77 rfl (nodupB_sound _ rfl) rfl rfl rfl (spec_l01Next_ac r9.2 3 _ hr11) ?_
     rintro _ _ ⟨rfl, rfl⟩
     refine ⟨(allc (fun _ _ => trivial) (fun _ h => nomatch h)), (allc (trivial) (fun _ h => nomatch h)), AOps_as 34 (v' := iV r11.1) (H' := [.box (srcD r11.2), .box (colD Col.zero), .box (colD r8)]) rfl rfl ?_⟩
     refine AOps_q 6 _ rfl rfl rfl (QOp_assign _ _ rfl rfl) ?_
     refine AOps_nil ?_
     refine ACode_block ?_
     refine ACode_loopW (fun k0 E H => ∃ (x12 : Int) (x13 : Src) (x14 : Col), E = [(0, .ptr 0 0), (2, .ptr 1 0), (4, .ptr 2 0), (6, iV x12)] ∧ H = [.box (srcD x13), .box (colD Col.zero), .box (colD x14)] ∧ spec_l01Draw_l0 k k0 x12 x13 x14 = some s21) k _ _ (Weak_keep 1 hm [0, 2, 4, 6] [1, 2] _ _ rfl rfl rfl) ⟨_, _, _, rfl, rfl, h⟩ ?_
     clear h
     rintro k0 E H ⟨x12, x13, x14, rfl, rfl, h⟩
     cases k0 with
     | zero => cases (show (none : Option (Src × Col)) = some _ from h)
     | succ k0 =>
      rw [spec_l01Draw_l0] at h
      refine ACode_seq ?_
      refine ACode_seq (ACode_region ?_)
      refine AOps_q 35 _ rfl rfl rfl (QOp_move _ _ rfl rfl) ?_
      refine AOps_q 36 _ rfl rfl rfl (QOp_gtr _ _ _ _ _ _ _ rfl rfl rfl) ?_
      refine AOps_nil ?_
      refine ACode_cond _ rfl (fun hb15 => ?_) (fun hb15 => ?_)
      ·have h := iteT hb15 h
       refine ACode_skip ?_
       refine ACode_seq ?_
       refine ACode_block ?_
       refine ACode_seq (ACode_region ?_)
       refine AOps_q 39 _ rfl rfl rfl (QOp_move _ _ rfl rfl) ?_
       refine AOps_q 40 _ rfl rfl rfl (QOp_fieldAddr_ptr _ _ _ _ _ _ 0 _ _ rfl Try.underlying29 rfl _ Try.sizeOf2 rfl rfl rfl rfl) ?_
       refine AOps_q 41 _ rfl rfl rfl (QOp_load_ptr _ _ _ _ _ _ rfl Try.isAgg2 rfl rfl rfl) ?_
       obtain ⟨r16, hr16, h⟩ := bindO h
       refine AOps_call [0] 42 _ _ _ _ _ _ _ _ _ _ rfl rfl rfl rfl rfl rfl rfl Try.call222 rfl (nodupB_sound _ rfl) rfl rfl rfl (spec_l01DrawOrder_ac k x13 x14.p _ hr16) ?_
       rintro _ _ ⟨rfl, rfl⟩
       refine ⟨(allc (fun _ _ => trivial) (allc (fun _ _ => trivial) (fun _ h => nomatch h))), (allc (trivial) (fun _ h => nomatch h)), AOps_as 42 (v' := .vec 3 0) (H' := [.box (srcD r16.2), .box (colD Col.zero), .box (colD x14), .vec 0 (intsD r16.1)]) rfl rfl ?_⟩
       refine AOps_q 7 _ rfl rfl rfl (QOp_assign _ _ rfl rfl) ?_
       refine AOps_nil ?_
       obtain ⟨hc17, h⟩ := guardO h
       obtain ⟨hc18, h⟩ := guardO h
       obtain ⟨r19, hr19, h⟩ := bindO h
       obtain ⟨r20, hr20, h⟩ := bindO h
       refine ACode_reg [(0, .ptr 0 0), (2, .ptr 1 0), (4, .ptr 2 0), (6, iV x12)] [.box (srcD r19.2), .box (colD Col.zero), .box (colD r20)] ?_ ?_
       ·refine ACode_anyU mixed ?_
        refine AU_u 1 44 _ rfl (by kernel_rfl) rfl rfl rfl (UOp_move _ _ rfl rfl) ?_
        refine AU_u 2 45 _ rfl (by kernel_rfl) rfl rfl rfl (UOp_indexAddr_vec _ _ _ _ _ _ _ _ _ rfl Try.underlying24 Try.sizeOf2 hc17.1 (by rw [intsD_length]; exact hc17.2) rfl rfl rfl) ?_
        refine AU_u 4 47 _ rfl (by kernel_rfl) rfl rfl rfl (UOp_move _ _ rfl rfl) ?_
        refine AU_u 5 48 _ rfl (by kernel_rfl) rfl rfl rfl (UOp_indexAddr_vec _ _ _ _ _ _ _ _ _ rfl Try.underlying24 Try.sizeOf2 hc18.1 (by rw [intsD_length]; exact hc18.2) rfl rfl rfl) ?_
        refine AU_u 7 50 _ rfl (by kernel_rfl) rfl rfl rfl (UOp_move _ _ rfl rfl) ?_
        refine AU_u 8 51 _ rfl (by kernel_rfl) rfl rfl rfl (UOp_fieldAddr_ptr _ _ _ _ _ _ 1 _ _ rfl Try.underlying29 rfl _ Try.sizeOf2 rfl rfl rfl rfl) ?_
        refine AU_all [0, 3, 6, 9] (by kernel_rfl) rfl (allc ?_ (allc ?_ (allc ?_ (allc ?_ (fun _ h => nomatch h)))))
        ·refine US_of 0 rfl rfl ?_
         refine AOps_q 43 _ rfl rfl rfl (QOp_loadN_ptr _ _ _ _ _ _ _ rfl Try.isAgg29 Try.sizeOf29 rfl rfl (colD_all _) (colD_length _)) ?_
         refine AOps_nil ?_
         refine AU_all [3, 6, 9] (by kernel_rfl) rfl (allc ?_ (allc ?_ (allc ?_ (fun _ h => nomatch h))))
         ·refine US_of 3 rfl rfl ?_
          refine AOps_q 46 _ rfl rfl rfl (QOp_load_eptr _ _ _ _ _ _ _ rfl Try.isAgg2 rfl rfl (intsD_get _ _ 0 (by omega))) ?_
          refine AOps_nil ?_
          refine AU_all [6, 9] (by kernel_rfl) rfl (allc ?_ (allc ?_ (fun _ h => nomatch h)))
          ·refine US_of 6 rfl rfl ?_
           refine AOps_q 49 _ rfl rfl rfl (QOp_load_eptr _ _ _ _ _ _ _ rfl Try.isAgg2 rfl rfl (intsD_get _ _ 0 (by omega))) ?_
           refine AOps_nil ?_
           refine AU_all [9] (by kernel_rfl) rfl (allc ?_ (fun _ h => nomatch h))
           ·refine US_of 9 rfl rfl ?_
            refine AOps_q 52 _ rfl rfl rfl (QOp_load_ptr _ _ _ _ _ _ rfl Try.isAgg2 rfl rfl rfl) ?_
            refine AOps_nil ?_
            refine AU_all [10] (by kernel_rfl) rfl (allc ?_ (fun _ h => nomatch h))
            ·refine US_of 10 rfl rfl ?_
             refine AOps_call [0] 53 _ _ _ _ _ _ _ _ _ _ rfl rfl rfl rfl rfl rfl rfl Try.call77 rfl (nodupB_sound _ rfl) rfl rfl rfl (spec_l01Next_ac r16.2 x14.k _ hr19) ?_
             rintro _ _ ⟨rfl, rfl⟩
             refine ⟨(allc (fun _ _ => trivial) (fun _ h => nomatch h)), (allc (trivial) (fun _ h => nomatch h)), AOps_as 53 (v' := iV r19.1) (H' := [.box (srcD r19.2), .box (colD Col.zero), .box (colD x14), .vec 0 (intsD r16.1)]) rfl rfl ?_⟩
             refine AOps_nil ?_
             refine AU_all [11] (by kernel_rfl) rfl (allc ?_ (fun _ h => nomatch h))
             ·refine US_of 11 rfl rfl ?_
              refine AOps_call [] 54 _ _ _ _ _ _ _ _ _ _ rfl rfl rfl rfl rfl rfl rfl Try.call223 rfl (nodupB_sound _ rfl) rfl rfl rfl (spec_l01With_ac x14 (r16.1.getD (0 : Int).toNat 0) (r16.1.getD (1 : Int).toNat 0) r19.1 _ hr20) ?_
              rintro _ _ ⟨rfl, rfl⟩
              refine ⟨(fun _ h => nomatch h), (allc (trivial) (fun _ h => nomatch h)), AOps_as 54 (v' := .d (.agg (colD r20))) (H' := [.box (srcD r19.2), .box (colD Col.zero), .box (colD x14), .vec 0 (intsD r16.1)]) rfl rfl ?_⟩
              refine AOps_nil ?_
              refine AU_all [12] (by kernel_rfl) rfl (allc ?_ (fun _ h => nomatch h))
              ·refine US_of 12 rfl rfl ?_
               refine AOps_store _ _ _ _ _ _ (colD _) _ _ rfl rfl rfl rfl rfl rfl rfl (colD_one _) (by rw [colD_length]; exact Try.sizeOf29) (by rw [colD_length, colD_length]; decide) (colD_whole _ _) ?_
               refine AOps_nil ?_
               refine AU_done (by kernel_rfl) ?_
               exact ⟨rfl, Weak_keep 1 hm [0, 2, 4, 6] [1, 2] _ _ rfl rfl rfl⟩
          ·refine US_of 9 rfl rfl ?_
           refine AOps_q 52 _ rfl rfl rfl (QOp_load_ptr _ _ _ _ _ _ rfl Try.isAgg2 rfl rfl rfl) ?_
           refine AOps_nil ?_
           refine AU_all [6, 10] (by kernel_rfl) rfl (allc ?_ (allc ?_ (fun _ h => nomatch h)))
           ·refine US_of 6 rfl rfl ?_
            refine AOps_q 49 _ rfl rfl rfl (QOp_load_eptr _ _ _ _ _ _ _ rfl Try.isAgg2 rfl rfl (intsD_get _ _ 0 (by omega))) ?_
            refine AOps_nil ?_
            refine AU_all [10] (by kernel_rfl) rfl (allc ?_ (fun _ h => nomatch h))
            ·refine US_of 10 rfl rfl ?_
             refine AOps_call [0] 53 _ _ _ _ _ _ _ _ _ _ rfl rfl rfl rfl rfl rfl rfl Try.call77 rfl (nodupB_sound _ rfl) rfl rfl rfl (spec_l01Next_ac r16.2 x14.k _ hr19) ?_
             rintro _ _ ⟨rfl, rfl⟩
             refine ⟨(allc (fun _ _ => trivial) (fun _ h => nomatch h)), (allc (trivial) (fun _ h => nomatch h)), AOps_as 53 (v' := iV r19.1) (H' := [.box (srcD r19.2), .box (colD Col.zero), .box (colD x14), .vec 0 (intsD r16.1)]) rfl rfl ?_⟩
             refine AOps_nil ?_
             refine AU_all [11] (by kernel_rfl) rfl (allc ?_ (fun _ h => nomatch h))
             ·refine US_of 11 rfl rfl ?_
              refine AOps_call [] 54 _ _ _ _ _ _ _ _ _ _ rfl rfl rfl rfl rfl rfl rfl Try.call223 rfl (nodupB_sound _ rfl) rfl rfl rfl (spec_l01With_ac x14 (r16.1.getD (0 : Int).toNat 0) (r16.1.getD (1 : Int).toNat 0) r19.1 _ hr20) ?_
              rintro _ _ ⟨rfl, rfl⟩
              refine ⟨(fun _ h => nomatch h), (allc (trivial) (fun _ h => nomatch h)), AOps_as 54 (v' := .d (.agg (colD r20))) (H' := [.box (srcD r19.2), .box (colD Col.zero), .box (colD x14), .vec 0 (intsD r16.1)]) rfl rfl ?_⟩
              refine AOps_nil ?_
              refine AU_all [12] (by kernel_rfl) rfl (allc ?_ (fun _ h => nomatch h))
              ·refine US_of 12 rfl rfl ?_
               refine AOps_store _ _ _ _ _ _ (colD _) _ _ rfl rfl rfl rfl rfl rfl rfl (colD_one _) (by rw [colD_length]; exact Try.sizeOf29) (by rw [colD_length, colD_length]; decide) (colD_whole _ _) ?_
               refine AOps_nil ?_
               refine AU_done (by kernel_rfl) ?_
               exact ⟨rfl, Weak_keep 1 hm [0, 2, 4, 6] [1, 2] _ _ rfl rfl rfl⟩
           ·refine US_of 10 rfl rfl ?_
            refine AOps_call [0] 53 _ _ _ _ _ _ _ _ _ _ rfl rfl rfl rfl rfl rfl rfl Try.call77 rfl (nodupB_sound _ rfl) rfl rfl rfl (spec_l01Next_ac r16.2 x14.k _ hr19) ?_
            rintro _ _ ⟨rfl, rfl⟩
            refine ⟨(allc (fun _ _ => trivial) (fun _ h => nomatch h)), (allc (trivial) (fun _ h => nomatch h)), AOps_as 53 (v' := iV r19.1) (H' := [.box (srcD r19.2), .box (colD Col.zero), .box (colD x14), .vec 0 (intsD r16.1)]) rfl rfl ?_⟩
            refine AOps_nil ?_
            refine AU_all [6] (by kernel_rfl) rfl (allc ?_ (fun _ h => nomatch h))
            ·refine US_of 6 rfl rfl ?_
             refine AOps_q 49 _ rfl rfl rfl (QOp_load_eptr _ _ _ _ _ _ _ rfl Try.isAgg2 rfl rfl (intsD_get _ _ 0 (by omega))) ?_
             refine AOps_nil ?_
             refine AU_all [11] (by kernel_rfl) rfl (allc ?_ (fun _ h => nomatch h))
             ·refine US_of 11 rfl rfl ?_
              refine AOps_call [] 54 _ _ _ _ _ _ _ _ _ _ rfl rfl rfl rfl rfl rfl rfl Try.call223 rfl (nodupB_sound _ rfl) rfl rfl rfl (spec_l01With_ac x14 (r16.1.getD (0 : Int).toNat 0) (r16.1.getD (1 : Int).toNat 0) r19.1 _ hr20) ?_
              rintro _ _ ⟨rfl, rfl⟩
              refine ⟨(fun _ h => nomatch h), (allc (trivial) (fun _ h => nomatch h)), AOps_as 54 (v' := .d (.agg (colD r20))) (H' := [.box (srcD r19.2), .box (colD Col.zero), .box (colD x14), .vec 0 (intsD r16.1)]) rfl rfl ?_⟩
              refine AOps_nil ?_
              refine AU_all [12] (by kernel_rfl) rfl (allc ?_ (fun _ h => nomatch h))
              ·refine US_of 12 rfl rfl ?_
               refine AOps_store _ _ _ _ _ _ (colD _) _ _ rfl rfl rfl rfl rfl rfl rfl (colD_one _) (by rw [colD_length]; exact Try.sizeOf29) (by rw [colD_length, colD_length]; decide) (colD_whole _ _) ?_
               refine AOps_nil ?_
               refine AU_done (by kernel_rfl) ?_
               exact ⟨rfl, Weak_keep 1 hm [0, 2, 4, 6] [1, 2] _ _ rfl rfl rfl⟩
         ·refine US_of 6 rfl rfl ?_
          refine AOps_q 49 _ rfl rfl rfl (QOp_load_eptr _ _ _ _ _ _ _ rfl Try.isAgg2 rfl rfl (intsD_get _ _ 0 (by omega))) ?_
          refine AOps_nil ?_
          refine AU_all [3, 9] (by kernel_rfl) rfl (allc ?_ (allc ?_ (fun _ h => nomatch h)))
          ·refine US_of 3 rfl rfl ?_
           refine AOps_q 46 _ rfl rfl rfl (QOp_load_eptr _ _ _ _ _ _ _ rfl Try.isAgg2 rfl rfl (intsD_get _ _ 0 (by omega))) ?_
           refine AOps_nil ?_
           refine AU_all [9] (by kernel_rfl) rfl (allc ?_ (fun _ h => nomatch h))
           ·refine US_of 9 rfl rfl ?_
            refine AOps_q 52 _ rfl rfl rfl (QOp_load_ptr _ _ _ _ _ _ rfl Try.isAgg2 rfl rfl rfl) ?_
            refine AOps_nil ?_
            refine AU_all [10] (by kernel_rfl) rfl (allc ?_ (fun _ h => nomatch h))
            ·refine US_of 10 rfl rfl ?_
             refine AOps_call [0] 53 _ _ _ _ _ _ _ _ _ _ rfl rfl rfl rfl rfl rfl rfl Try.call77 rfl (nodupB_sound _ rfl) rfl rfl rfl (spec_l01Next_ac r16.2 x14.k _ hr19) ?_
             rintro _ _ ⟨rfl, rfl⟩
             refine ⟨(allc (fun _ _ => trivial) (fun _ h => nomatch h)), (allc (trivial) (fun _ h => nomatch h)), AOps_as 53 (v' := iV r19.1) (H' := [.box (srcD r19.2), .box (colD Col.zero), .box (colD x14), .vec 0 (intsD r16.1)]) rfl rfl ?_⟩
             refine AOps_nil ?_
             refine AU_all [11] (by kernel_rfl) rfl (allc ?_ (fun _ h => nomatch h))
             ·refine US_of 11 rfl rfl ?_
              refine AOps_call [] 54 _ _ _ _ _ _ _ _ _ _ rfl rfl rfl rfl rfl rfl rfl Try.call223 rfl (nodupB_sound _ rfl) rfl rfl rfl (spec_l01With_ac x14 (r16.1.getD (0 : Int).toNat 0) (r16.1.getD (1 : Int).toNat 0) r19.1 _ hr20) ?_
              rintro _ _ ⟨rfl, rfl⟩
              refine ⟨(fun _ h => nomatch h), (allc (trivial) (fun _ h => nomatch h)), AOps_as 54 (v' := .d (.agg (colD r20))) (H' := [.box (srcD r19.2), .box (colD Col.zero), .box (colD x14), .vec 0 (intsD r16.1)]) rfl rfl ?_⟩
              refine AOps_nil ?_
              refine AU_all [12] (by kernel_rfl) rfl (allc ?_ (fun _ h => nomatch h))
              ·refine US_of 12 rfl rfl ?_
               refine AOps_store _ _ _ _ _ _ (colD _) _ _ rfl rfl rfl rfl rfl rfl rfl (colD_one _) (by rw [colD_length]; exact Try.sizeOf29) (by rw [colD_length, colD_length]; decide) (colD_whole _ _) ?_
               refine AOps_nil ?_
               refine AU_done (by kernel_rfl) ?_
               exact ⟨rfl, Weak_keep 1 hm [0, 2, 4, 6] [1, 2] _ _ rfl rfl rfl⟩
          ·refine US_of 9 rfl rfl ?_
           refine AOps_q 52 _ rfl rfl rfl (QOp_load_ptr _ _ _ _ _ _ rfl Try.isAgg2 rfl rfl rfl) ?_
           refine AOps_nil ?_
           refine AU_all [3, 10] (by kernel_rfl) rfl (allc ?_ (allc ?_ (fun _ h => nomatch h)))
           ·refine US_of 3 rfl rfl ?_
            refine AOps_q 46 _ rfl rfl rfl (QOp_load_eptr _ _ _ _ _ _ _ rfl Try.isAgg2 rfl rfl (intsD_get _ _ 0 (by omega))) ?_
            refine AOps_nil ?_
            refine AU_all [10] (by kernel_rfl) rfl (allc ?_ (fun _ h => nomatch h))
            ·refine US_of 10 rfl rfl ?_
             refine AOps_call [0] 53 _ _ _ _ _ _ _ _ _ _ rfl rfl rfl rfl rfl rfl rfl Try.call77 rfl (nodupB_sound _ rfl) rfl rfl rfl (spec_l01Next_ac r16.2 x14.k _ hr19) ?_
             rintro _ _ ⟨rfl, rfl⟩
             refine ⟨(allc (fun _ _ => trivial) (fun _ h => nomatch h)), (allc (trivial) (fun _ h => nomatch h)), AOps_as 53 (v' := iV r19.1) (H' := [.box (srcD r19.2), .box (colD Col.zero), .box (colD x14), .vec 0 (intsD r16.1)]) rfl rfl ?_⟩
             refine AOps_nil ?_
             refine AU_all [11] (by kernel_rfl) rfl (allc ?_ (fun _ h => nomatch h))
             ·refine US_of 11 rfl rfl ?_
              refine AOps_call [] 54 _ _ _ _ _ _ _ _ _ _ rfl rfl rfl rfl rfl rfl rfl Try.call223 rfl (nodupB_sound _ rfl) rfl rfl rfl (spec_l01With_ac x14 (r16.1.getD (0 : Int).toNat 0) (r16.1.getD (1 : Int).toNat 0) r19.1 _ hr20) ?_
              rintro _ _ ⟨rfl, rfl⟩
              refine ⟨(fun _ h => nomatch h), (allc (trivial) (fun _ h => nomatch h)), AOps_as 54 (v' := .d (.agg (colD r20))) (H' := [.box (srcD r19.2), .box (colD Col.zero), .box (colD x14), .vec 0 (intsD r16.1)]) rfl rfl ?_⟩
              refine AOps_nil ?_
              refine AU_all [12] (by kernel_rfl) rfl (allc ?_ (fun _ h => nomatch h))
              ·refine US_of 12 rfl rfl ?_
               refine AOps_store _ _ _ _ _ _ (colD _) _ _ rfl rfl rfl rfl rfl rfl rfl (colD_one _) (by rw [colD_length]; exact Try.sizeOf29) (by rw [colD_length, colD_length]; decide) (colD_whole _ _) ?_
               refine AOps_nil ?_
               refine AU_done (by kernel_rfl) ?_
               exact ⟨rfl, Weak_keep 1 hm [0, 2, 4, 6] [1, 2] _ _ rfl rfl rfl⟩
           ·refine US_of 10 rfl rfl ?_
            refine AOps_call [0] 53 _ _ _ _ _ _ _ _ _ _ rfl rfl rfl rfl rfl rfl rfl Try.call77 rfl (nodupB_sound _ rfl) rfl rfl rfl (spec_l01Next_ac r16.2 x14.k _ hr19) ?_
            rintro _ _ ⟨rfl, rfl⟩
            refine ⟨(allc (fun _ _ => trivial) (fun _ h => nomatch h)), (allc (trivial) (fun _ h => nomatch h)), AOps_as 53 (v' := iV r19.1) (H' := [.box (srcD r19.2), .box (colD Col.zero), .box (colD x14), .vec 0 (intsD r16.1)]) rfl rfl ?_⟩
            refine AOps_nil ?_
            refine AU_all [3] (by kernel_rfl) rfl (allc ?_ (fun _ h => nomatch h))
            ·refine US_of 3 rfl rfl ?_
             refine AOps_q 46 _ rfl rfl rfl (QOp_load_eptr _ _ _ _ _ _ _ rfl Try.isAgg2 rfl rfl (intsD_get _ _ 0 (by omega))) ?_
             refine AOps_nil ?_
             refine AU_all [11] (by kernel_rfl) rfl (allc ?_ (fun _ h => nomatch h))
             ·refine US_of 11 rfl rfl ?_
              refine AOps_call [] 54 _ _ _ _ _ _ _ _ _ _ rfl rfl rfl rfl rfl rfl rfl Try.call223 rfl (nodupB_sound _ rfl) rfl rfl rfl (spec_l01With_ac x14 (r16.1.getD (0 : Int).toNat 0) (r16.1.getD (1 : Int).toNat 0) r19.1 _ hr20) ?_
              rintro _ _ ⟨rfl, rfl⟩
              refine ⟨(fun _ h => nomatch h), (allc (trivial) (fun _ h => nomatch h)), AOps_as 54 (v' := .d (.agg (colD r20))) (H' := [.box (srcD r19.2), .box (colD Col.zero), .box (colD x14), .vec 0 (intsD r16.1)]) rfl rfl ?_⟩
              refine AOps_nil ?_
              refine AU_all [12] (by kernel_rfl) rfl (allc ?_ (fun _ h => nomatch h))
              ·refine US_of 12 rfl rfl ?_
               refine AOps_store _ _ _ _ _ _ (colD _) _ _ rfl rfl rfl rfl rfl rfl rfl (colD_one _) (by rw [colD_length]; exact Try.sizeOf29) (by rw [colD_length, colD_length]; decide) (colD_whole _ _) ?_
               refine AOps_nil ?_
               refine AU_done (by kernel_rfl) ?_
               exact ⟨rfl, Weak_keep 1 hm [0, 2, 4, 6] [1, 2] _ _ rfl rfl rfl⟩
         ·refine US_of 9 rfl rfl ?_
          refine AOps_q 52 _ rfl rfl rfl (QOp_load_ptr _ _ _ _ _ _ rfl Try.isAgg2 rfl rfl rfl) ?_
          refine AOps_nil ?_
          refine AU_all [3, 6, 10] (by kernel_rfl) rfl (allc ?_ (allc ?_ (allc ?_ (fun _ h => nomatch h))))
          ·refine US_of 3 rfl rfl ?_
           refine AOps_q 46 _ rfl rfl rfl (QOp_load_eptr _ _ _ _ _ _ _ rfl Try.isAgg2 rfl rfl (intsD_get _ _ 0 (by omega))) ?_
           refine AOps_nil ?_
           refine AU_all [6, 10] (by kernel_rfl) rfl (allc ?_ (allc ?_ (fun _ h => nomatch h)))
           ·refine US_of 6 rfl rfl ?_
            refine AOps_q 49 _ rfl rfl rfl (QOp_load_eptr _ _ _ _ _ _ _ rfl Try.isAgg2 rfl rfl (intsD_get _ _ 0 (by omega))) ?_
            refine AOps_nil ?_
            refine AU_all [10] (by kernel_rfl) rfl (allc ?_ (fun _ h => nomatch h))
            ·refine US_of 10 rfl rfl ?_
             refine AOps_call [0] 53 _ _ _ _ _ _ _ _ _ _ rfl rfl rfl rfl rfl rfl rfl Try.call77 rfl (nodupB_sound _ rfl) rfl rfl rfl (spec_l01Next_ac r16.2 x14.k _ hr19) ?_
             rintro _ _ ⟨rfl, rfl⟩
             refine ⟨(allc (fun _ _ => trivial) (fun _ h => nomatch h)), (allc (trivial) (fun _ h => nomatch h)), AOps_as 53 (v' := iV r19.1) (H' := [.box (srcD r19.2), .box (colD Col.zero), .box (colD x14), .vec 0 (intsD r16.1)]) rfl rfl ?_⟩
             refine AOps_nil ?_
             refine AU_all [11] (by kernel_rfl) rfl (allc ?_ (fun _ h => nomatch h))
             ·refine US_of 11 rfl rfl ?_
              refine AOps_call [] 54 _ _ _ _ _ _ _ _ _ _ rfl rfl rfl rfl rfl rfl rfl Try.call223 rfl (nodupB_sound _ rfl) rfl rfl rfl (spec_l01With_ac x14 (r16.1.getD (0 : Int).toNat 0) (r16.1.getD (1 : Int).toNat 0) r19.1 _ hr20) ?_
              rintro _ _ ⟨rfl, rfl⟩
              refine ⟨(fun _ h => nomatch h), (allc (trivial) (fun _ h => nomatch h)), AOps_as 54 (v' := .d (.agg (colD r20))) (H' := [.box (srcD r19.2), .box (colD Col.zero), .box (colD x14), .vec 0 (intsD r16.1)]) rfl rfl ?_⟩
              refine AOps_nil ?_
              refine AU_all [12] (by kernel_rfl) rfl (allc ?_ (fun _ h => nomatch h))
              ·refine US_of 12 rfl rfl ?_
               refine AOps_store _ _ _ _ _ _ (colD _) _ _ rfl rfl rfl rfl rfl rfl rfl (colD_one _) (by rw [colD_length]; exact Try.sizeOf29) (by rw [colD_length, colD_length]; decide) (colD_whole _ _) ?_
               refine AOps_nil ?_
               refine AU_done (by kernel_rfl) ?_
               exact ⟨rfl, Weak_keep 1 hm [0, 2, 4, 6] [1, 2] _ _ rfl rfl rfl⟩
           ·refine US_of 10 rfl rfl ?_
            refine AOps_call [0] 53 _ _ _ _ _ _ _ _ _ _ rfl rfl rfl rfl rfl rfl rfl Try.call77 rfl (nodupB_sound _ rfl) rfl rfl rfl (spec_l01Next_ac r16.2 x14.k _ hr19) ?_
            rintro _ _ ⟨rfl, rfl⟩
            refine ⟨(allc (fun _ _ => trivial) (fun _ h => nomatch h)), (allc (trivial) (fun _ h => nomatch h)), AOps_as 53 (v' := iV r19.1) (H' := [.box (srcD r19.2), .box (colD Col.zero), .box (colD x14), .vec 0 (intsD r16.1)]) rfl rfl ?_⟩
            refine AOps_nil ?_
            refine AU_all [6] (by kernel_rfl) rfl (allc ?_ (fun _ h => nomatch h))
            ·refine US_of 6 rfl rfl ?_
             refine AOps_q 49 _ rfl rfl rfl (QOp_load_eptr _ _ _ _ _ _ _ rfl Try.isAgg2 rfl rfl (intsD_get _ _ 0 (by omega))) ?_
             refine AOps_nil ?_
             refine AU_all [11] (by kernel_rfl) rfl (allc ?_ (fun _ h => nomatch h))
             ·refine US_of 11 rfl rfl ?_
              refine AOps_call [] 54 _ _ _ _ _ _ _ _ _ _ rfl rfl rfl rfl rfl rfl rfl Try.call223 rfl (nodupB_sound _ rfl) rfl rfl rfl (spec_l01With_ac x14 (r16.1.getD (0 : Int).toNat 0) (r16.1.getD (1 : Int).toNat 0) r19.1 _ hr20) ?_
              rintro _ _ ⟨rfl, rfl⟩
              refine ⟨(fun _ h => nomatch h), (allc (trivial) (fun _ h => nomatch h)), AOps_as 54 (v' := .d (.agg (colD r20))) (H' := [.box (srcD r19.2), .box (colD Col.zero), .box (colD x14), .vec 0 (intsD r16.1)]) rfl rfl ?_⟩
              refine AOps_nil ?_
              refine AU_all [12] (by kernel_rfl) rfl (allc ?_ (fun _ h => nomatch h))
              ·refine US_of 12 rfl rfl ?_
               refine AOps_store _ _ _ _ _ _ (colD _) _ _ rfl rfl rfl rfl rfl rfl rfl (colD_one _) (by rw [colD_length]; exact Try.sizeOf29) (by rw [colD_length, colD_length]; decide) (colD_whole _ _) ?_
               refine AOps_nil ?_
               refine AU_done (by kernel_rfl) ?_
               exact ⟨rfl, Weak_keep 1 hm [0, 2, 4, 6] [1, 2] _ _ rfl rfl rfl⟩
          ·refine US_of 6 rfl rfl ?_
           refine AOps_q 49 _ rfl rfl rfl (QOp_load_eptr _ _ _ _ _ _ _ rfl Try.isAgg2 rfl rfl (intsD_get _ _ 0 (by omega))) ?_
           refine AOps_nil ?_
           refine AU_all [3, 10] (by kernel_rfl) rfl (allc ?_ (allc ?_ (fun _ h => nomatch h)))
           ·refine US_of 3 rfl rfl ?_
            refine AOps_q 46 _ rfl rfl rfl (QOp_load_eptr _ _ _ _ _ _ _ rfl Try.isAgg2 rfl rfl (intsD_get _ _ 0 (by omega))) ?_
            refine AOps_nil ?_
            refine AU_all [10] (by kernel_rfl) rfl (allc ?_ (fun _ h => nomatch h))
            ·refine US_of 10 rfl rfl ?_
             refine AOps_call [0] 53 _ _ _ _ _ _ _ _ _ _ rfl rfl rfl rfl rfl rfl rfl Try.call77 rfl (nodupB_sound _ rfl) rfl rfl rfl (spec_l01Next_ac r16.2 x14.k _ hr19) ?_
             rintro _ _ ⟨rfl, rfl⟩
             refine ⟨(allc (fun _ _ => trivial) (fun _ h => nomatch h)), (allc (trivial) (fun _ h => nomatch h)), AOps_as 53 (v' := iV r19.1) (H' := [.box (srcD r19.2), .box (colD Col.zero), .box (colD x14), .vec 0 (intsD r16.1)]) rfl rfl ?_⟩
             refine AOps_nil ?_
             refine AU_all [11] (by kernel_rfl) rfl (allc ?_ (fun _ h => nomatch h))
             ·refine US_of 11 rfl rfl ?_
              refine AOps_call [] 54 _ _ _ _ _ _ _ _ _ _ rfl rfl rfl rfl rfl rfl rfl Try.call223 rfl (nodupB_sound _ rfl) rfl rfl rfl (spec_l01With_ac x14 (r16.1.getD (0 : Int).toNat 0) (r16.1.getD (1 : Int).toNat 0) r19.1 _ hr20) ?_
              rintro _ _ ⟨rfl, rfl⟩
              refine ⟨(fun _ h => nomatch h), (allc (trivial) (fun _ h => nomatch h)), AOps_as 54 (v' := .d (.agg (colD r20))) (H' := [.box (srcD r19.2), .box (colD Col.zero), .box (colD x14), .vec 0 (intsD r16.1)]) rfl rfl ?_⟩
              refine AOps_nil ?_
              refine AU_all [12] (by kernel_rfl) rfl (allc ?_ (fun _ h => nomatch h))
              ·refine US_of 12 rfl rfl ?_
               refine AOps_store _ _ _ _ _ _ (colD _) _ _ rfl rfl rfl rfl rfl rfl rfl (colD_one _) (by rw [colD_length]; exact Try.sizeOf29) (by rw [colD_length, colD_length]; decide) (colD_whole _ _) ?_
               refine AOps_nil ?_
               refine AU_done (by kernel_rfl) ?_
               exact ⟨rfl, Weak_keep 1 hm [0, 2, 4, 6] [1, 2] _ _ rfl rfl rfl⟩
           ·refine US_of 10 rfl rfl ?_
            refine AOps_call [0] 53 _ _ _ _ _ _ _ _ _ _ rfl rfl rfl rfl rfl rfl rfl Try.call77 rfl (nodupB_sound _ rfl) rfl rfl rfl (spec_l01Next_ac r16.2 x14.k _ hr19) ?_
            rintro _ _ ⟨rfl, rfl⟩
            refine ⟨(allc (fun _ _ => trivial) (fun _ h => nomatch h)), (allc (trivial) (fun _ h => nomatch h)), AOps_as 53 (v' := iV r19.1) (H' := [.box (srcD r19.2), .box (colD Col.zero), .box (colD x14), .vec 0 (intsD r16.1)]) rfl rfl ?_⟩
            refine AOps_nil ?_
            refine AU_all [3] (by kernel_rfl) rfl (allc ?_ (fun _ h => nomatch h))
            ·refine US_of 3 rfl rfl ?_
             refine AOps_q 46 _ rfl rfl rfl (QOp_load_eptr _ _ _ _ _ _ _ rfl Try.isAgg2 rfl rfl (intsD_get _ _ 0 (by omega))) ?_
             refine AOps_nil ?_
             refine AU_all [11] (by kernel_rfl) rfl (allc ?_ (fun _ h => nomatch h))
             ·refine US_of 11 rfl rfl ?_
              refine AOps_call [] 54 _ _ _ _ _ _ _ _ _ _ rfl rfl rfl rfl rfl rfl rfl Try.call223 rfl (nodupB_sound _ rfl) rfl rfl rfl (spec_l01With_ac x14 (r16.1.getD (0 : Int).toNat 0) (r16.1.getD (1 : Int).toNat 0) r19.1 _ hr20) ?_
              rintro _ _ ⟨rfl, rfl⟩
              refine ⟨(fun _ h => nomatch h), (allc (trivial) (fun _ h => nomatch h)), AOps_as 54 (v' := .d (.agg (colD r20))) (H' := [.box (srcD r19.2), .box (colD Col.zero), .box (colD x14), .vec 0 (intsD r16.1)]) rfl rfl ?_⟩
              refine AOps_nil ?_
              refine AU_all [12] (by kernel_rfl) rfl (allc ?_ (fun _ h => nomatch h))
              ·refine US_of 12 rfl rfl ?_
               refine AOps_store _ _ _ _ _ _ (colD _) _ _ rfl rfl rfl rfl rfl rfl rfl (colD_one _) (by rw [colD_length]; exact Try.sizeOf29) (by rw [colD_length, colD_length]; decide) (colD_whole _ _) ?_
               refine AOps_nil ?_
               refine AU_done (by kernel_rfl) ?_
               exact ⟨rfl, Weak_keep 1 hm [0, 2, 4, 6] [1, 2] _ _ rfl rfl rfl⟩
          ·refine US_of 10 rfl rfl ?_
           refine AOps_call [0] 53 _ _ _ _ _ _ _ _ _ _ rfl rfl rfl rfl rfl rfl rfl Try.call77 rfl (nodupB_sound _ rfl) rfl rfl rfl (spec_l01Next_ac r16.2 x14.k _ hr19) ?_
           rintro _ _ ⟨rfl, rfl⟩
           refine ⟨(allc (fun _ _ => trivial) (fun _ h => nomatch h)), (allc (trivial) (fun _ h => nomatch h)), AOps_as 53 (v' := iV r19.1) (H' := [.box (srcD r19.2), .box (colD Col.zero), .box (colD x14), .vec 0 (intsD r16.1)]) rfl rfl ?_⟩
           refine AOps_nil ?_
           refine AU_all [3, 6] (by kernel_rfl) rfl (allc ?_ (allc ?_ (fun _ h => nomatch h)))
           ·refine US_of 3 rfl rfl ?_
            refine AOps_q 46 _ rfl rfl rfl (QOp_load_eptr _ _ _ _ _ _ _ rfl Try.isAgg2 rfl rfl (intsD_get _ _ 0 (by omega))) ?_
            refine AOps_nil ?_
            refine AU_all [6] (by kernel_rfl) rfl (allc ?_ (fun _ h => nomatch h))
            ·refine US_of 6 rfl rfl ?_
             refine AOps_q 49 _ rfl rfl rfl (QOp_load_eptr _ _ _ _ _ _ _ rfl Try.isAgg2 rfl rfl (intsD_get _ _ 0 (by omega))) ?_
             refine AOps_nil ?_
             refine AU_all [11] (by kernel_rfl) rfl (allc ?_ (fun _ h => nomatch h))
             ·refine US_of 11 rfl rfl ?_
              refine AOps_call [] 54 _ _ _ _ _ _ _ _ _ _ rfl rfl rfl rfl rfl rfl rfl Try.call223 rfl (nodupB_sound _ rfl) rfl rfl rfl (spec_l01With_ac x14 (r16.1.getD (0 : Int).toNat 0) (r16.1.getD (1 : Int).toNat 0) r19.1 _ hr20) ?_
              rintro _ _ ⟨rfl, rfl⟩
              refine ⟨(fun _ h => nomatch h), (allc (trivial) (fun _ h => nomatch h)), AOps_as 54 (v' := .d (.agg (colD r20))) (H' := [.box (srcD r19.2), .box (colD Col.zero), .box (colD x14), .vec 0 (intsD r16.1)]) rfl rfl ?_⟩
              refine AOps_nil ?_
              refine AU_all [12] (by kernel_rfl) rfl (allc ?_ (fun _ h => nomatch h))
              ·refine US_of 12 rfl rfl ?_
               refine AOps_store _ _ _ _ _ _ (colD _) _ _ rfl rfl rfl rfl rfl rfl rfl (colD_one _) (by rw [colD_length]; exact Try.sizeOf29) (by rw [colD_length, colD_length]; decide) (colD_whole _ _) ?_
               refine AOps_nil ?_
               refine AU_done (by kernel_rfl) ?_
               exact ⟨rfl, Weak_keep 1 hm [0, 2, 4, 6] [1, 2] _ _ rfl rfl rfl⟩
           ·refine US_of 6 rfl rfl ?_
            refine AOps_q 49 _ rfl rfl rfl (QOp_load_eptr _ _ _ _ _ _ _ rfl Try.isAgg2 rfl rfl (intsD_get _ _ 0 (by omega))) ?_
            refine AOps_nil ?_
            refine AU_all [3] (by kernel_rfl) rfl (allc ?_ (fun _ h => nomatch h))
            ·refine US_of 3 rfl rfl ?_
             refine AOps_q 46 _ rfl rfl rfl (QOp_load_eptr _ _ _ _ _ _ _ rfl Try.isAgg2 rfl rfl (intsD_get _ _ 0 (by omega))) ?_
             refine AOps_nil ?_
             refine AU_all [11] (by kernel_rfl) rfl (allc ?_ (fun _ h => nomatch h))
             ·refine US_of 11 rfl rfl ?_
              refine AOps_call [] 54 _ _ _ _ _ _ _ _ _ _ rfl rfl rfl rfl rfl rfl rfl Try.call223 rfl (nodupB_sound _ rfl) rfl rfl rfl (spec_l01With_ac x14 (r16.1.getD (0 : Int).toNat 0) (r16.1.getD (1 : Int).toNat 0) r19.1 _ hr20) ?_
              rintro _ _ ⟨rfl, rfl⟩
              refine ⟨(fun _ h => nomatch h), (allc (trivial) (fun _ h => nomatch h)), AOps_as 54 (v' := .d (.agg (colD r20))) (H' := [.box (srcD r19.2), .box (colD Col.zero), .box (colD x14), .vec 0 (intsD r16.1)]) rfl rfl ?_⟩
              refine AOps_nil ?_
              refine AU_all [12] (by kernel_rfl) rfl (allc ?_ (fun _ h => nomatch h))
              ·refine US_of 12 rfl rfl ?_
               refine AOps_store _ _ _ _ _ _ (colD _) _ _ rfl rfl rfl rfl rfl rfl rfl (colD_one _) (by rw [colD_length]; exact Try.sizeOf29) (by rw [colD_length, colD_length]; decide) (colD_whole _ _) ?_
               refine AOps_nil ?_
               refine AU_done (by kernel_rfl) ?_
               exact ⟨rfl, Weak_keep 1 hm [0, 2, 4, 6] [1, 2] _ _ rfl rfl rfl⟩
        ·refine US_of 3 rfl rfl ?_
         refine AOps_q 46 _ rfl rfl rfl (QOp_load_eptr _ _ _ _ _ _ _ rfl Try.isAgg2 rfl rfl (intsD_get _ _ 0 (by omega))) ?_
         refine AOps_nil ?_
         refine AU_all [0, 6, 9] (by kernel_rfl) rfl (allc ?_ (allc ?_ (allc ?_ (fun _ h => nomatch h))))
         ·refine US_of 0 rfl rfl ?_
          refine AOps_q 43 _ rfl rfl rfl (QOp_loadN_ptr _ _ _ _ _ _ _ rfl Try.isAgg29 Try.sizeOf29 rfl rfl (colD_all _) (colD_length _)) ?_
          refine AOps_nil ?_
          refine AU_all [6, 9] (by kernel_rfl) rfl (allc ?_ (allc ?_ (fun _ h => nomatch h)))
          ·refine US_of 6 rfl rfl ?_
           refine AOps_q 49 _ rfl rfl rfl (QOp_load_eptr _ _ _ _ _ _ _ rfl Try.isAgg2 rfl rfl (intsD_get _ _ 0 (by omega))) ?_
           refine AOps_nil ?_
           refine AU_all [9] (by kernel_rfl) rfl (allc ?_ (fun _ h => nomatch h))
           ·refine US_of 9 rfl rfl ?_
            refine AOps_q 52 _ rfl rfl rfl (QOp_load_ptr _ _ _ _ _ _ rfl Try.isAgg2 rfl rfl rfl) ?_
            refine AOps_nil ?_
            refine AU_all [10] (by kernel_rfl) rfl (allc ?_ (fun _ h => nomatch h))
            ·refine US_of 10 rfl rfl ?_
             refine AOps_call [0] 53 _ _ _ _ _ _ _ _ _ _ rfl rfl rfl rfl rfl rfl rfl Try.call77 rfl (nodupB_sound _ rfl) rfl rfl rfl (spec_l01Next_ac r16.2 x14.k _ hr19) ?_
             rintro _ _ ⟨rfl, rfl⟩
             refine ⟨(allc (fun _ _ => trivial) (fun _ h => nomatch h)), (allc (trivial) (fun _ h => nomatch h)), AOps_as 53 (v' := iV r19.1) (H' := [.box (srcD r19.2), .box (colD Col.zero), .box (colD x14), .vec 0 (intsD r16.1)]) rfl rfl ?_⟩
             refine AOps_nil ?_
             refine AU_all [11] (by kernel_rfl) rfl (allc ?_ (fun _ h => nomatch h))
             ·refine US_of 11 rfl rfl ?_
              refine AOps_call [] 54 _ _ _ _ _ _ _ _ _ _ rfl rfl rfl rfl rfl rfl rfl Try.call223 rfl (nodupB_sound _ rfl) rfl rfl rfl (spec_l01With_ac x14 (r16.1.getD (0 : Int).toNat 0) (r16.1.getD (1 : Int).toNat 0) r19.1 _ hr20) ?_
              rintro _ _ ⟨rfl, rfl⟩
              refine ⟨(fun _ h => nomatch h), (allc (trivial) (fun _ h => nomatch h)), AOps_as 54 (v' := .d (.agg (colD r20))) (H' := [.box (srcD r19.2), .box (colD Col.zero), .box (colD x14), .vec 0 (intsD r16.1)]) rfl rfl ?_⟩
              refine AOps_nil ?_
              refine AU_all [12] (by kernel_rfl) rfl (allc ?_ (fun _ h => nomatch h))
              ·refine US_of 12 rfl rfl ?_
               refine AOps_store _ _ _ _ _ _ (colD _) _ _ rfl rfl rfl rfl rfl rfl rfl (colD_one _) (by rw [colD_length]; exact Try.sizeOf29) (by rw [colD_length, colD_length]; decide) (colD_whole _ _) ?_
               refine AOps_nil ?_
               refine AU_done (by kernel_rfl) ?_
               exact ⟨rfl, Weak_keep 1 hm [0, 2, 4, 6] [1, 2] _ _ rfl rfl rfl⟩
          ·refine US_of 9 rfl rfl ?_
           refine AOps_q 52 _ rfl rfl rfl (QOp_load_ptr _ _ _ _ _ _ rfl Try.isAgg2 rfl rfl rfl) ?_
           refine AOps_nil ?_
           refine AU_all [6, 10] (by kernel_rfl) rfl (allc ?_ (allc ?_ (fun _ h => nomatch h)))
           ·refine US_of 6 rfl rfl ?_
            refine AOps_q 49 _ rfl rfl rfl (QOp_load_eptr _ _ _ _ _ _ _ rfl Try.isAgg2 rfl rfl (intsD_get _ _ 0 (by omega))) ?_
            refine AOps_nil ?_
            refine AU_all [10] (by kernel_rfl) rfl (allc ?_ (fun _ h => nomatch h))
            ·refine US_of 10 rfl rfl ?_
             refine AOps_call [0] 53 _ _ _ _ _ _ _ _ _ _ rfl rfl rfl rfl rfl rfl rfl Try.call77 rfl (nodupB_sound _ rfl) rfl rfl rfl (spec_l01Next_ac r16.2 x14.k _ hr19) ?_
             rintro _ _ ⟨rfl, rfl⟩
             refine ⟨(allc (fun _ _ => trivial) (fun _ h => nomatch h)), (allc (trivial) (fun _ h => nomatch h)), AOps_as 53 (v' := iV r19.1) (H' := [.box (srcD r19.2), .box (colD Col.zero), .box (colD x14), .vec 0 (intsD r16.1)]) rfl rfl ?_⟩
             refine AOps_nil ?_
             refine AU_all [11] (by kernel_rfl) rfl (allc ?_ (fun _ h => nomatch h))
             ·refine US_of 11 rfl rfl ?_
              refine AOps_call [] 54 _ _ _ _ _ _ _ _ _ _ rfl rfl rfl rfl rfl rfl rfl Try.call223 rfl (nodupB_sound _ rfl) rfl rfl rfl (spec_l01With_ac x14 (r16.1.getD (0 : Int).toNat 0) (r16.1.getD (1 : Int).toNat 0) r19.1 _ hr20) ?_
              rintro _ _ ⟨rfl, rfl⟩
              refine ⟨(fun _ h => nomatch h), (allc (trivial) (fun _ h => nomatch h)), AOps_as 54 (v' := .d (.agg (colD r20))) (H' := [.box (srcD r19.2), .box (colD Col.zero), .box (colD x14), .vec 0 (intsD r16.1)]) rfl rfl ?_⟩
              refine AOps_nil ?_
              refine AU_all [12] (by kernel_rfl) rfl (allc ?_ (fun _ h => nomatch h))
              ·refine US_of 12 rfl rfl ?_
               refine AOps_store _ _ _ _ _ _ (colD _) _ _ rfl rfl rfl rfl rfl rfl rfl (colD_one _) (by rw [colD_length]; exact Try.sizeOf29) (by rw [colD_length, colD_length]; decide) (colD_whole _ _) ?_
               refine AOps_nil ?_
               refine AU_done (by kernel_rfl) ?_
               exact ⟨rfl, Weak_keep 1 hm [0, 2, 4, 6] [1, 2] _ _ rfl rfl rfl⟩
           ·refine US_of 10 rfl rfl ?_
            refine AOps_call [0] 53 _ _ _ _ _ _ _ _ _ _ rfl rfl rfl rfl rfl rfl rfl Try.call77 rfl (nodupB_sound _ rfl) rfl rfl rfl (spec_l01Next_ac r16.2 x14.k _ hr19) ?_
            rintro _ _ ⟨rfl, rfl⟩
            refine ⟨(allc (fun _ _ => trivial) (fun _ h => nomatch h)), (allc (trivial) (fun _ h => nomatch h)), AOps_as 53 (v' := iV r19.1) (H' := [.box (srcD r19.2), .box (colD Col.zero), .box (colD x14), .vec 0 (intsD r16.1)]) rfl rfl ?_⟩
            refine AOps_nil ?_
            refine AU_all [6] (by kernel_rfl) rfl (allc ?_ (fun _ h => nomatch h))
            ·refine US_of 6 rfl rfl ?_
             refine AOps_q 49 _ rfl rfl rfl (QOp_load_eptr _ _ _ _ _ _ _ rfl Try.isAgg2 rfl rfl (intsD_get _ _ 0 (by omega))) ?_
             refine AOps_nil ?_
             refine AU_all [11] (by kernel_rfl) rfl (allc ?_ (fun _ h => nomatch h))
             ·refine US_of 11 rfl rfl ?_
              refine AOps_call [] 54 _ _ _ _ _ _ _ _ _ _ rfl rfl rfl rfl rfl rfl rfl Try.call223 rfl (nodupB_sound _ rfl) rfl rfl rfl (spec_l01With_ac x14 (r16.1.getD (0 : Int).toNat 0) (r16.1.getD (1 : Int).toNat 0) r19.1 _ hr20) ?_
              rintro _ _ ⟨rfl, rfl⟩
              refine ⟨(fun _ h => nomatch h), (allc (trivial) (fun _ h => nomatch h)), AOps_as 54 (v' := .d (.agg (colD r20))) (H' := [.box (srcD r19.2), .box (colD Col.zero), .box (colD x14), .vec 0 (intsD r16.1)]) rfl rfl ?_⟩
              refine AOps_nil ?_
              refine AU_all [12] (by kernel_rfl) rfl (allc ?_ (fun _ h => nomatch h))
              ·refine US_of 12 rfl rfl ?_
               refine AOps_store _ _ _ _ _ _ (colD _) _ _ rfl rfl rfl rfl rfl rfl rfl (colD_one _) (by rw [colD_length]; exact Try.sizeOf29) (by rw [colD_length, colD_length]; decide) (colD_whole _ _) ?_
               refine AOps_nil ?_
               refine AU_done (by kernel_rfl) ?_
               exact ⟨rfl, Weak_keep 1 hm [0, 2, 4, 6] [1, 2] _ _ rfl rfl rfl⟩
         ·refine US_of 6 rfl rfl ?_
          refine AOps_q 49 _ rfl rfl rfl (QOp_load_eptr _ _ _ _ _ _ _ rfl Try.isAgg2 rfl rfl (intsD_get _ _ 0 (by omega))) ?_
          refine AOps_nil ?_
          refine AU_all [0, 9] (by kernel_rfl) rfl (allc ?_ (allc ?_ (fun _ h => nomatch h)))
          ·refine US_of 0 rfl rfl ?_
           refine AOps_q 43 _ rfl rfl rfl (QOp_loadN_ptr _ _ _ _ _ _ _ rfl Try.isAgg29 Try.sizeOf29 rfl rfl (colD_all _) (colD_length _)) ?_
           refine AOps_nil ?_
           refine AU_all [9] (by kernel_rfl) rfl (allc ?_ (fun _ h => nomatch h))
           ·refine US_of 9 rfl rfl ?_
            refine AOps_q 52 _ rfl rfl rfl (QOp_load_ptr _ _ _ _ _ _ rfl Try.isAgg2 rfl rfl rfl) ?_
            refine AOps_nil ?_
            refine AU_all [10] (by kernel_rfl) rfl (allc ?_ (fun _ h => nomatch h))
            ·refine US_of 10 rfl rfl ?_
             refine AOps_call [0] 53 _ _ _ _ _ _ _ _ _ _ rfl rfl rfl rfl rfl rfl rfl Try.call77 rfl (nodupB_sound _ rfl) rfl rfl rfl (spec_l01Next_ac r16.2 x14.k _ hr19) ?_
             rintro _ _ ⟨rfl, rfl⟩
             refine ⟨(allc (fun _ _ => trivial) (fun _ h => nomatch h)), (allc (trivial) (fun _ h => nomatch h)), AOps_as 53 (v' := iV r19.1) (H' := [.box (srcD r19.2), .box (colD Col.zero), .box (colD x14), .vec 0 (intsD r16.1)]) rfl rfl ?_⟩
             refine AOps_nil ?_
             refine AU_all [11] (by kernel_rfl) rfl (allc ?_ (fun _ h => nomatch h))
             ·refine US_of 11 rfl rfl ?_
              refine AOps_call [] 54 _ _ _ _ _ _ _ _ _ _ rfl rfl rfl rfl rfl rfl rfl Try.call223 rfl (nodupB_sound _ rfl) rfl rfl rfl (spec_l01With_ac x14 (r16.1.getD (0 : Int).toNat 0) (r16.1.getD (1 : Int).toNat 0) r19.1 _ hr20) ?_
              rintro _ _ ⟨rfl, rfl⟩
              refine ⟨(fun _ h => nomatch h), (allc (trivial) (fun _ h => nomatch h)), AOps_as 54 (v' := .d (.agg (colD r20))) (H' := [.box (srcD r19.2), .box (colD Col.zero), .box (colD x14), .vec 0 (intsD r16.1)]) rfl rfl ?_⟩
              refine AOps_nil ?_
              refine AU_all [12] (by kernel_rfl) rfl (allc ?_ (fun _ h => nomatch h))
              ·refine US_of 12 rfl rfl ?_
               refine AOps_store _ _ _ _ _ _ (colD _) _ _ rfl rfl rfl rfl rfl rfl rfl (colD_one _) (by rw [colD_length]; exact Try.sizeOf29) (by rw [colD_length, colD_length]; decide) (colD_whole _ _) ?_
               refine AOps_nil ?_
               refine AU_done (by kernel_rfl) ?_
               exact ⟨rfl, Weak_keep 1 hm [0, 2, 4, 6] [1, 2] _ _ rfl rfl rfl⟩
          ·refine US_of 9 rfl rfl ?_
           refine AOps_q 52 _ rfl rfl rfl (QOp_load_ptr _ _ _ _ _ _ rfl Try.isAgg2 rfl rfl rfl) ?_
           refine AOps_nil ?_
           refine AU_all [0, 10] (by kernel_rfl) rfl (allc ?_ (allc ?_ (fun _ h => nomatch h)))
           ·refine US_of 0 rfl rfl ?_
            refine AOps_q 43 _ rfl rfl rfl (QOp_loadN_ptr _ _ _ _ _ _ _ rfl Try.isAgg29 Try.sizeOf29 rfl rfl (colD_all _) (colD_length _)) ?_
            refine AOps_nil ?_
            refine AU_all [10] (by kernel_rfl) rfl (allc ?_ (fun _ h => nomatch h))
            ·refine US_of 10 rfl rfl ?_
             refine AOps_call [0] 53 _ _ _ _ _ _ _ _ _ _ rfl rfl rfl rfl rfl rfl rfl Try.call77 rfl (nodupB_sound _ rfl) rfl rfl rfl (spec_l01Next_ac r16.2 x14.k _ hr19) ?_
             rintro _ _ ⟨rfl, rfl⟩
             refine ⟨(allc (fun _ _ => trivial) (fun _ h => nomatch h)), (allc (trivial) (fun _ h => nomatch h)), AOps_as 53 (v' := iV r19.1) (H' := [.box (srcD r19.2), .box (colD Col.zero), .box (colD x14), .vec 0 (intsD r16.1)]) rfl rfl ?_⟩
             refine AOps_nil ?_
             refine AU_all [11] (by kernel_rfl) rfl (allc ?_ (fun _ h => nomatch h))
             ·refine US_of 11 rfl rfl ?_
              refine AOps_call [] 54 _ _ _ _ _ _ _ _ _ _ rfl rfl rfl rfl rfl rfl rfl Try.call223 rfl (nodupB_sound _ rfl) rfl rfl rfl (spec_l01With_ac x14 (r16.1.getD (0 : Int).toNat 0) (r16.1.getD (1 : Int).toNat 0) r19.1 _ hr20) ?_
              rintro _ _ ⟨rfl, rfl⟩
              refine ⟨(fun _ h => nomatch h), (allc (trivial) (fun _ h => nomatch h)), AOps_as 54 (v' := .d (.agg (colD r20))) (H' := [.box (srcD r19.2), .box (colD Col.zero), .box (colD x14), .vec 0 (intsD r16.1)]) rfl rfl ?_⟩
              refine AOps_nil ?_
              refine AU_all [12] (by kernel_rfl) rfl (allc ?_ (fun _ h => nomatch h))
              ·refine US_of 12 rfl rfl ?_
               refine AOps_store _ _ _ _ _ _ (colD _) _ _ rfl rfl rfl rfl rfl rfl rfl (colD_one _) (by rw [colD_length]; exact Try.sizeOf29) (by rw [colD_length, colD_length]; decide) (colD_whole _ _) ?_
               refine AOps_nil ?_
               refine AU_done (by kernel_rfl) ?_
               exact ⟨rfl, Weak_keep 1 hm [0, 2, 4, 6] [1, 2] _ _ rfl rfl rfl⟩
           ·refine US_of 10 rfl rfl ?_
            refine AOps_call [0] 53 _ _ _ _ _ _ _ _ _ _ rfl rfl rfl rfl rfl rfl rfl Try.call77 rfl (nodupB_sound _ rfl) rfl rfl rfl (spec_l01Next_ac r16.2 x14.k _ hr19) ?_
            rintro _ _ ⟨rfl, rfl⟩
            refine ⟨(allc (fun _ _ => trivial) (fun _ h => nomatch h)), (allc (trivial) (fun _ h => nomatch h)), AOps_as 53 (v' := iV r19.1) (H' := [.box (srcD r19.2), .box (colD Col.zero), .box (colD x14), .vec 0 (intsD r16.1)]) rfl rfl ?_⟩
            refine AOps_nil ?_
            refine AU_all [0] (by kernel_rfl) rfl (allc ?_ (fun _ h => nomatch h))
            ·refine US_of 0 rfl rfl ?_
             refine AOps_q 43 _ rfl rfl rfl (QOp_loadN_ptr _ _ _ _ _ _ _ rfl Try.isAgg29 Try.sizeOf29 rfl rfl (colD_all _) (colD_length _)) ?_
             refine AOps_nil ?_
             refine AU_all [11] (by kernel_rfl) rfl (allc ?_ (fun _ h => nomatch h))
             ·refine US_of 11 rfl rfl ?_
              refine AOps_call [] 54 _ _ _ _ _ _ _ _ _ _ rfl rfl rfl rfl rfl rfl rfl Try.call223 rfl (nodupB_sound _ rfl) rfl rfl rfl (spec_l01With_ac x14 (r16.1.getD (0 : Int).toNat 0) (r16.1.getD (1 : Int).toNat 0) r19.1 _ hr20) ?_
              rintro _ _ ⟨rfl, rfl⟩
              refine ⟨(fun _ h => nomatch h), (allc (trivial) (fun _ h => nomatch h)), AOps_as 54 (v' := .d (.agg (colD r20))) (H' := [.box (srcD r19.2), .box (colD Col.zero), .box (colD x14), .vec 0 (intsD r16.1)]) rfl rfl ?_⟩
              refine AOps_nil ?_
              refine AU_all [12] (by kernel_rfl) rfl (allc ?_ (fun _ h => nomatch h))
              ·refine US_of 12 rfl rfl ?_
               refine AOps_store _ _ _ _ _ _ (colD _) _ _ rfl rfl rfl rfl rfl rfl rfl (colD_one _) (by rw [colD_length]; exact Try.sizeOf29) (by rw [colD_length, colD_length]; decide) (colD_whole _ _) ?_
               refine AOps_nil ?_
               refine AU_done (by kernel_rfl) ?_
               exact ⟨rfl, Weak_keep 1 hm [0, 2, 4, 6] [1, 2] _ _ rfl rfl rfl⟩
         ·refine US_of 9 rfl rfl ?_
          refine AOps_q 52 _ rfl rfl rfl (QOp_load_ptr _ _ _ _ _ _ rfl Try.isAgg2 rfl rfl rfl) ?_
          refine AOps_nil ?_
          refine AU_all [0, 6, 10] (by kernel_rfl) rfl (allc ?_ (allc ?_ (allc ?_ (fun _ h => nomatch h))))
          ·refine US_of 0 rfl rfl ?_
           refine AOps_q 43 _ rfl rfl rfl (QOp_loadN_ptr _ _ _ _ _ _ _ rfl Try.isAgg29 Try.sizeOf29 rfl rfl (colD_all _) (colD_length _)) ?_
           refine AOps_nil ?_
           refine AU_all [6, 10] (by kernel_rfl) rfl (allc ?_ (allc ?_ (fun _ h => nomatch h)))
           ·refine US_of 6 rfl rfl ?_
            refine AOps_q 49 _ rfl rfl rfl (QOp_load_eptr _ _ _ _ _ _ _ rfl Try.isAgg2 rfl rfl (intsD_get _ _ 0 (by omega))) ?_
            refine AOps_nil ?_
            refine AU_all [10] (by kernel_rfl) rfl (allc ?_ (fun _ h => nomatch h))
            ·refine US_of 10 rfl rfl ?_
             refine AOps_call [0] 53 _ _ _ _ _ _ _ _ _ _ rfl rfl rfl rfl rfl rfl rfl Try.call77 rfl (nodupB_sound _ rfl) rfl rfl rfl (spec_l01Next_ac r16.2 x14.k _ hr19) ?_
             rintro _ _ ⟨rfl, rfl⟩
             refine ⟨(allc (fun _ _ => trivial) (fun _ h => nomatch h)), (allc (trivial) (fun _ h => nomatch h)), AOps_as 53 (v' := iV r19.1) (H' := [.box (srcD r19.2), .box (colD Col.zero), .box (colD x14), .vec 0 (intsD r16.1)]) rfl rfl ?_⟩
             refine AOps_nil ?_
             refine AU_all [11] (by kernel_rfl) rfl (allc ?_ (fun _ h => nomatch h))
             ·refine US_of 11 rfl rfl ?_
              refine AOps_call [] 54 _ _ _ _ _ _ _ _ _ _ rfl rfl rfl rfl rfl rfl rfl Try.call223 rfl (nodupB_sound _ rfl) rfl rfl rfl (spec_l01With_ac x14 (r16.1.getD (0 : Int).toNat 0) (r16.1.getD (1 : Int).toNat 0) r19.1 _ hr20) ?_
              rintro _ _ ⟨rfl, rfl⟩
              refine ⟨(fun _ h => nomatch h), (allc (trivial) (fun _ h => nomatch h)), AOps_as 54 (v' := .d (.agg (colD r20))) (H' := [.box (srcD r19.2), .box (colD Col.zero), .box (colD x14), .vec 0 (intsD r16.1)]) rfl rfl ?_⟩
              refine AOps_nil ?_
              refine AU_all [12] (by kernel_rfl) rfl (allc ?_ (fun _ h => nomatch h))
              ·refine US_of 12 rfl rfl ?_
               refine AOps_store _ _ _ _ _ _ (colD _) _ _ rfl rfl rfl rfl rfl rfl rfl (colD_one _) (by rw [colD_length]; exact Try.sizeOf29) (by rw [colD_length, colD_length]; decide) (colD_whole _ _) ?_
               refine AOps_nil ?_
               refine AU_done (by kernel_rfl) ?_
               exact ⟨rfl, Weak_keep 1 hm [0, 2, 4, 6] [1, 2] _ _ rfl rfl rfl⟩
           ·refine US_of 10 rfl rfl ?_
            refine AOps_call [0] 53 _ _ _ _ _ _ _ _ _ _ rfl rfl rfl rfl rfl rfl rfl Try.call77 rfl (nodupB_sound _ rfl) rfl rfl rfl (spec_l01Next_ac r16.2 x14.k _ hr19) ?_
            rintro _ _ ⟨rfl, rfl⟩
            refine ⟨(allc (fun _ _ => trivial) (fun _ h => nomatch h)), (allc (trivial) (fun _ h => nomatch h)), AOps_as 53 (v' := iV r19.1) (H' := [.box (srcD r19.2), .box (colD Col.zero), .box (colD x14), .vec 0 (intsD r16.1)]) rfl rfl ?_⟩
            refine AOps_nil ?_
            refine AU_all [6] (by kernel_rfl) rfl (allc ?_ (fun _ h => nomatch h))
            ·refine US_of 6 rfl rfl ?_
             refine AOps_q 49 _ rfl rfl rfl (QOp_load_eptr _ _ _ _ _ _ _ rfl Try.isAgg2 rfl rfl (intsD_get _ _ 0 (by omega))) ?_
             refine AOps_nil ?_
             refine AU_all [11] (by kernel_rfl) rfl (allc ?_ (fun _ h => nomatch h))
             ·refine US_of 11 rfl rfl ?_
              refine AOps_call [] 54 _ _ _ _ _ _ _ _ _ _ rfl rfl rfl rfl rfl rfl rfl Try.call223 rfl (nodupB_sound _ rfl) rfl rfl rfl (spec_l01With_ac x14 (r16.1.getD (0 : Int).toNat 0) (r16.1.getD (1 : Int).toNat 0) r19.1 _ hr20) ?_
              rintro _ _ ⟨rfl, rfl⟩
              refine ⟨(fun _ h => nomatch h), (allc (trivial) (fun _ h => nomatch h)), AOps_as 54 (v' := .d (.agg (colD r20))) (H' := [.box (srcD r19.2), .box (colD Col.zero), .box (colD x14), .vec 0 (intsD r16.1)]) rfl rfl ?_⟩
              refine AOps_nil ?_
              refine AU_all [12] (by kernel_rfl) rfl (allc ?_ (fun _ h => nomatch h))
              ·refine US_of 12 rfl rfl ?_
               refine AOps_store _ _ _ _ _ _ (colD _) _ _ rfl rfl rfl rfl rfl rfl rfl (colD_one _) (by rw [colD_length]; exact Try.sizeOf29) (by rw [colD_length, colD_length]; decide) (colD_whole _ _) ?_
               refine AOps_nil ?_
               refine AU_done (by kernel_rfl) ?_
               exact ⟨rfl, Weak_keep 1 hm [0, 2, 4, 6] [1, 2] _ _ rfl rfl rfl⟩
          ·refine US_of 6 rfl rfl ?_
           refine AOps_q 49 _ rfl rfl rfl (QOp_load_eptr _ _ _ _ _ _ _ rfl Try.isAgg2 rfl rfl (intsD_get _ _ 0 (by omega))) ?_
           refine AOps_nil ?_
           refine AU_all [0, 10] (by kernel_rfl) rfl (allc ?_ (allc ?_ (fun _ h => nomatch h)))
           ·refine US_of 0 rfl rfl ?_
            refine AOps_q 43 _ rfl rfl rfl (QOp_loadN_ptr _ _ _ _ _ _ _ rfl Try.isAgg29 Try.sizeOf29 rfl rfl (colD_all _) (colD_length _)) ?_
            refine AOps_nil ?_
            refine AU_all [10] (by kernel_rfl) rfl (allc ?_ (fun _ h => nomatch h))
            ·refine US_of 10 rfl rfl ?_
             refine AOps_call [0] 53 _ _ _ _ _ _ _ _ _ _ rfl rfl rfl rfl rfl rfl rfl Try.call77 rfl (nodupB_sound _ rfl) rfl rfl rfl (spec_l01Next_ac r16.2 x14.k _ hr19) ?_
             rintro _ _ ⟨rfl, rfl⟩
             refine ⟨(allc (fun _ _ => trivial) (fun _ h => nomatch h)), (allc (trivial) (fun _ h => nomatch h)), AOps_as 53 (v' := iV r19.1) (H' := [.box (srcD r19.2), .box (colD Col.zero), .box (colD x14), .vec 0 (intsD r16.1)]) rfl rfl ?_⟩
             refine AOps_nil ?_
             refine AU_all [11] (by kernel_rfl) rfl (allc ?_ (fun _ h => nomatch h))
             ·refine US_of 11 rfl rfl ?_
              refine AOps_call [] 54 _ _ _ _ _ _ _ _ _ _ rfl rfl rfl rfl rfl rfl rfl Try.call223 rfl (nodupB_sound _ rfl) rfl rfl rfl (spec_l01With_ac x14 (r16.1.getD (0 : Int).toNat 0) (r16.1.getD (1 : Int).toNat 0) r19.1 _ hr20) ?_
              rintro _ _ ⟨rfl, rfl⟩
              refine ⟨(fun _ h => nomatch h), (allc (trivial) (fun _ h => nomatch h)), AOps_as 54 (v' := .d (.agg (colD r20))) (H' := [.box (srcD r19.2), .box (colD Col.zero), .box (colD x14), .vec 0 (intsD r16.1)]) rfl rfl ?_⟩
              refine AOps_nil ?_
              refine AU_all [12] (by kernel_rfl) rfl (allc ?_ (fun _ h => nomatch h))
              ·refine US_of 12 rfl rfl ?_
               refine AOps_store _ _ _ _ _ _ (colD _) _ _ rfl rfl rfl rfl rfl rfl rfl (colD_one _) (by rw [colD_length]; exact Try.sizeOf29) (by rw [colD_length, colD_length]; decide) (colD_whole _ _) ?_
               refine AOps_nil ?_
               refine AU_done (by kernel_rfl) ?_
               exact ⟨rfl, Weak_keep 1 hm [0, 2, 4, 6] [1, 2] _ _ rfl rfl rfl⟩
           ·refine US_of 10 rfl rfl ?_
            refine AOps_call [0] 53 _ _ _ _ _ _ _ _ _ _ rfl rfl rfl rfl rfl rfl rfl Try.call77 rfl (nodupB_sound _ rfl) rfl rfl rfl (spec_l01Next_ac r16.2 x14.k _ hr19) ?_
            rintro _ _ ⟨rfl, rfl⟩
            refine ⟨(allc (fun _ _ => trivial) (fun _ h => nomatch h)), (allc (trivial) (fun _ h => nomatch h)), AOps_as 53 (v' := iV r19.1) (H' := [.box (srcD r19.2), .box (colD Col.zero), .box (colD x14), .vec 0 (intsD r16.1)]) rfl rfl ?_⟩
            refine AOps_nil ?_
            refine AU_all [0] (by kernel_rfl) rfl (allc ?_ (fun _ h => nomatch h))
            ·refine US_of 0 rfl rfl ?_
             refine AOps_q 43 _ rfl rfl rfl (QOp_loadN_ptr _ _ _ _ _ _ _ rfl Try.isAgg29 Try.sizeOf29 rfl rfl (colD_all _) (colD_length _)) ?_
             refine AOps_nil ?_
             refine AU_all [11] (by kernel_rfl) rfl (allc ?_ (fun _ h => nomatch h))
             ·refine US_of 11 rfl rfl ?_
              refine AOps_call [] 54 _ _ _ _ _ _ _ _ _ _ rfl rfl rfl rfl rfl rfl rfl Try.call223 rfl (nodupB_sound _ rfl) rfl rfl rfl (spec_l01With_ac x14 (r16.1.getD (0 : Int).toNat 0) (r16.1.getD (1 : Int).toNat 0) r19.1 _ hr20) ?_
              rintro _ _ ⟨rfl, rfl⟩
              refine ⟨(fun _ h => nomatch h), (allc (trivial) (fun _ h => nomatch h)), AOps_as 54 (v' := .d (.agg (colD r20))) (H' := [.box (srcD r19.2), .box (colD Col.zero), .box (colD x14), .vec 0 (intsD r16.1)]) rfl rfl ?_⟩
              refine AOps_nil ?_
              refine AU_all [12] (by kernel_rfl) rfl (allc ?_ (fun _ h => nomatch h))
              ·refine US_of 12 rfl rfl ?_
               refine AOps_store _ _ _ _ _ _ (colD _) _ _ rfl rfl rfl rfl rfl rfl rfl (colD_one _) (by rw [colD_length]; exact Try.sizeOf29) (by rw [colD_length, colD_length]; decide) (colD_whole _ _) ?_
               refine AOps_nil ?_
               refine AU_done (by kernel_rfl) ?_
               exact ⟨rfl, Weak_keep 1 hm [0, 2, 4, 6] [1, 2] _ _ rfl rfl rfl⟩
          ·refine US_of 10 rfl rfl ?_
           refine AOps_call [0] 53 _ _ _ _ _ _ _ _ _ _ rfl rfl rfl rfl rfl rfl rfl Try.call77 rfl (nodupB_sound _ rfl) rfl rfl rfl (spec_l01Next_ac r16.2 x14.k _ hr19) ?_
           rintro _ _ ⟨rfl, rfl⟩
           refine ⟨(allc (fun _ _ => trivial) (fun _ h => nomatch h)), (allc (trivial) (fun _ h => nomatch h)), AOps_as 53 (v' := iV r19.1) (H' := [.box (srcD r19.2), .box (colD Col.zero), .box (colD x14), .vec 0 (intsD r16.1)]) rfl rfl ?_⟩
           refine AOps_nil ?_
           refine AU_all [0, 6] (by kernel_rfl) rfl (allc ?_ (allc ?_ (fun _ h => nomatch h)))
           ·refine US_of 0 rfl rfl ?_
            refine AOps_q 43 _ rfl rfl rfl (QOp_loadN_ptr _ _ _ _ _ _ _ rfl Try.isAgg29 Try.sizeOf29 rfl rfl (colD_all _) (colD_length _)) ?_
            refine AOps_nil ?_
            refine AU_all [6] (by kernel_rfl) rfl (allc ?_ (fun _ h => nomatch h))
            ·refine US_of 6 rfl rfl ?_
             refine AOps_q 49 _ rfl rfl rfl (QOp_load_eptr _ _ _ _ _ _ _ rfl Try.isAgg2 rfl rfl (intsD_get _ _ 0 (by omega))) ?_
             refine AOps_nil ?_
             refine AU_all [11] (by kernel_rfl) rfl (allc ?_ (fun _ h => nomatch h))
             ·refine US_of 11 rfl rfl ?_
              refine AOps_call [] 54 _ _ _ _ _ _ _ _ _ _ rfl rfl rfl rfl rfl rfl rfl Try.call223 rfl (nodupB_sound _ rfl) rfl rfl rfl (spec_l01With_ac x14 (r16.1.getD (0 : Int).toNat 0) (r16.1.getD (1 : Int).toNat 0) r19.1 _ hr20) ?_
              rintro _ _ ⟨rfl, rfl⟩
              refine ⟨(fun _ h => nomatch h), (allc (trivial) (fun _ h => nomatch h)), AOps_as 54 (v' := .d (.agg (colD r20))) (H' := [.box (srcD r19.2), .box (colD Col.zero), .box (colD x14), .vec 0 (intsD r16.1)]) rfl rfl ?_⟩
              refine AOps_nil ?_
              refine AU_all [12] (by kernel_rfl) rfl (allc ?_ (fun _ h => nomatch h))
              ·refine US_of 12 rfl rfl ?_
               refine AOps_store _ _ _ _ _ _ (colD _) _ _ rfl rfl rfl rfl rfl rfl rfl (colD_one _) (by rw [colD_length]; exact Try.sizeOf29) (by rw [colD_length, colD_length]; decide) (colD_whole _ _) ?_
               refine AOps_nil ?_
               refine AU_done (by kernel_rfl) ?_
               exact ⟨rfl, Weak_keep 1 hm [0, 2, 4, 6] [1, 2] _ _ rfl rfl rfl⟩
           ·refine US_of 6 rfl rfl ?_
            refine AOps_q 49 _ rfl rfl rfl (QOp_load_eptr _ _ _ _ _ _ _ rfl Try.isAgg2 rfl rfl (intsD_get _ _ 0 (by omega))) ?_
            refine AOps_nil ?_
            refine AU_all [0] (by kernel_rfl) rfl (allc ?_ (fun _ h => nomatch h))
            ·refine US_of 0 rfl rfl ?_
             refine AOps_q 43 _ rfl rfl rfl (QOp_loadN_ptr _ _ _ _ _ _ _ rfl Try.isAgg29 Try.sizeOf29 rfl rfl (colD_all _) (colD_length _)) ?_
             refine AOps_nil ?_
             refine AU_all [11] (by kernel_rfl) rfl (allc ?_ (fun _ h => nomatch h))
             ·refine US_of 11 rfl rfl ?_
              refine AOps_call [] 54 _ _ _ _ _ _ _ _ _ _ rfl rfl rfl rfl rfl rfl rfl Try.call223 rfl (nodupB_sound _ rfl) rfl rfl rfl (spec_l01With_ac x14 (r16.1.getD (0 : Int).toNat 0) (r16.1.getD (1 : Int).toNat 0) r19.1 _ hr20) ?_
              rintro _ _ ⟨rfl, rfl⟩
              refine ⟨(fun _ h => nomatch h), (allc (trivial) (fun _ h => nomatch h)), AOps_as 54 (v' := .d (.agg (colD r20))) (H' := [.box (srcD r19.2), .box (colD Col.zero), .box (colD x14), .vec 0 (intsD r16.1)]) rfl rfl ?_⟩
              refine AOps_nil ?_
              refine AU_all [12] (by kernel_rfl) rfl (allc ?_ (fun _ h => nomatch h))
              ·refine US_of 12 rfl rfl ?_
               refine AOps_store _ _ _ _ _ _ (colD _) _ _ rfl rfl rfl rfl rfl rfl rfl (colD_one _) (by rw [colD_length]; exact Try.sizeOf29) (by rw [colD_length, colD_length]; decide) (colD_whole _ _) ?_
               refine AOps_nil ?_
               refine AU_done (by kernel_rfl) ?_
               exact ⟨rfl, Weak_keep 1 hm [0, 2, 4, 6] [1, 2] _ _ rfl rfl rfl⟩
        ·refine US_of 6 rfl rfl ?_
         refine AOps_q 49 _ rfl rfl rfl (QOp_load_eptr _ _ _ _ _ _ _ rfl Try.isAgg2 rfl rfl (intsD_get _ _ 0 (by omega))) ?_
         refine AOps_nil ?_
         refine AU_all [0, 3, 9] (by kernel_rfl) rfl (allc ?_ (allc ?_ (allc ?_ (fun _ h => nomatch h))))
         ·refine US_of 0 rfl rfl ?_
          refine AOps_q 43 _ rfl rfl rfl (QOp_loadN_ptr _ _ _ _ _ _ _ rfl Try.isAgg29 Try.sizeOf29 rfl rfl (colD_all _) (colD_length _)) ?_
          refine AOps_nil ?_
          refine AU_all [3, 9] (by kernel_rfl) rfl (allc ?_ (allc ?_ (fun _ h => nomatch h)))
          ·refine US_of 3 rfl rfl ?_
           refine AOps_q 46 _ rfl rfl rfl (QOp_load_eptr _ _ _ _ _ _ _ rfl Try.isAgg2 rfl rfl (intsD_get _ _ 0 (by omega))) ?_
           refine AOps_nil ?_
           refine AU_all [9] (by kernel_rfl) rfl (allc ?_ (fun _ h => nomatch h))
           ·refine US_of 9 rfl rfl ?_
            refine AOps_q 52 _ rfl rfl rfl (QOp_load_ptr _ _ _ _ _ _ rfl Try.isAgg2 rfl rfl rfl) ?_
            refine AOps_nil ?_
            refine AU_all [10] (by kernel_rfl) rfl (allc ?_ (fun _ h => nomatch h))
            ·refine US_of 10 rfl rfl ?_
             refine AOps_call [0] 53 _ _ _ _ _ _ _ _ _ _ rfl rfl rfl rfl rfl rfl rfl Try.call77 rfl (nodupB_sound _ rfl) rfl rfl rfl (spec_l01Next_ac r16.2 x14.k _ hr19) ?_
             rintro _ _ ⟨rfl, rfl⟩
             refine ⟨(allc (fun _ _ => trivial) (fun _ h => nomatch h)), (allc (trivial) (fun _ h => nomatch h)), AOps_as 53 (v' := iV r19.1) (H' := [.box (srcD r19.2), .box (colD Col.zero), .box (colD x14), .vec 0 (intsD r16.1)]) rfl rfl ?_⟩
             refine AOps_nil ?_
             refine AU_all [11] (by kernel_rfl) rfl (allc ?_ (fun _ h => nomatch h))
             ·refine US_of 11 rfl rfl ?_
              refine AOps_call [] 54 _ _ _ _ _ _ _ _ _ _ rfl rfl rfl rfl rfl rfl rfl Try.call223 rfl (nodupB_sound _ rfl) rfl rfl rfl (spec_l01With_ac x14 (r16.1.getD (0 : Int).toNat 0) (r16.1.getD (1 : Int).toNat 0) r19.1 _ hr20) ?_
              rintro _ _ ⟨rfl, rfl⟩
              refine ⟨(fun _ h => nomatch h), (allc (trivial) (fun _ h => nomatch h)), AOps_as 54 (v' := .d (.agg (colD r20))) (H' := [.box (srcD r19.2), .box (colD Col.zero), .box (colD x14), .vec 0 (intsD r16.1)]) rfl rfl ?_⟩
              refine AOps_nil ?_
              refine AU_all [12] (by kernel_rfl) rfl (allc ?_ (fun _ h => nomatch h))
              ·refine US_of 12 rfl rfl ?_
               refine AOps_store _ _ _ _ _ _ (colD _) _ _ rfl rfl rfl rfl rfl rfl rfl (colD_one _) (by rw [colD_length]; exact Try.sizeOf29) (by rw [colD_length, colD_length]; decide) (colD_whole _ _) ?_
               refine AOps_nil ?_
               refine AU_done (by kernel_rfl) ?_
               exact ⟨rfl, Weak_keep 1 hm [0, 2, 4, 6] [1, 2] _ _ rfl rfl rfl⟩
          ·refine US_of 9 rfl rfl ?_
           refine AOps_q 52 _ rfl rfl rfl (QOp_load_ptr _ _ _ _ _ _ rfl Try.isAgg2 rfl rfl rfl) ?_
           refine AOps_nil ?_
           refine AU_all [3, 10] (by kernel_rfl) rfl (allc ?_ (allc ?_ (fun _ h => nomatch h)))
           ·refine US_of 3 rfl rfl ?_
            refine AOps_q 46 _ rfl rfl rfl (QOp_load_eptr _ _ _ _ _ _ _ rfl Try.isAgg2 rfl rfl (intsD_get _ _ 0 (by omega))) ?_
            refine AOps_nil ?_
            refine AU_all [10] (by kernel_rfl) rfl (allc ?_ (fun _ h => nomatch h))
            ·refine US_of 10 rfl rfl ?_
             refine AOps_call [0] 53 _ _ _ _ _ _ _ _ _ _ rfl rfl rfl rfl rfl rfl rfl Try.call77 rfl (nodupB_sound _ rfl) rfl rfl rfl (spec_l01Next_ac r16.2 x14.k _ hr19) ?_
             rintro _ _ ⟨rfl, rfl⟩
             refine ⟨(allc (fun _ _ => trivial) (fun _ h => nomatch h)), (allc (trivial) (fun _ h => nomatch h)), AOps_as 53 (v' := iV r19.1) (H' := [.box (srcD r19.2), .box (colD Col.zero), .box (colD x14), .vec 0 (intsD r16.1)]) rfl rfl ?_⟩
             refine AOps_nil ?_
             refine AU_all [11] (by kernel_rfl) rfl (allc ?_ (fun _ h => nomatch h))
             ·refine US_of 11 rfl rfl ?_
              refine AOps_call [] 54 _ _ _ _ _ _ _ _ _ _ rfl rfl rfl rfl rfl rfl rfl Try.call223 rfl (nodupB_sound _ rfl) rfl rfl rfl (spec_l01With_ac x14 (r16.1.getD (0 : Int).toNat 0) (r16.1.getD (1 : Int).toNat 0) r19.1 _ hr20) ?_
              rintro _ _ ⟨rfl, rfl⟩
              refine ⟨(fun _ h => nomatch h), (allc (trivial) (fun _ h => nomatch h)), AOps_as 54 (v' := .d (.agg (colD r20))) (H' := [.box (srcD r19.2), .box (colD Col.zero), .box (colD x14), .vec 0 (intsD r16.1)]) rfl rfl ?_⟩
              refine AOps_nil ?_
              refine AU_all [12] (by kernel_rfl) rfl (allc ?_ (fun _ h => nomatch h))
              ·refine US_of 12 rfl rfl ?_
               refine AOps_store _ _ _ _ _ _ (colD _) _ _ rfl rfl rfl rfl rfl rfl rfl (colD_one _) (by rw [colD_length]; exact Try.sizeOf29) (by rw [colD_length, colD_length]; decide) (colD_whole _ _) ?_
               refine AOps_nil ?_
               refine AU_done (by kernel_rfl) ?_
               exact ⟨rfl, Weak_keep 1 hm [0, 2, 4, 6] [1, 2] _ _ rfl rfl rfl⟩
           ·refine US_of 10 rfl rfl ?_
            refine AOps_call [0] 53 _ _ _ _ _ _ _ _ _ _ rfl rfl rfl rfl rfl rfl rfl Try.call77 rfl (nodupB_sound _ rfl) rfl rfl rfl (spec_l01Next_ac r16.2 x14.k _ hr19) ?_
            rintro _ _ ⟨rfl, rfl⟩
            refine ⟨(allc (fun _ _ => trivial) (fun _ h => nomatch h)), (allc (trivial) (fun _ h => nomatch h)), AOps_as 53 (v' := iV r19.1) (H' := [.box (srcD r19.2), .box (colD Col.zero), .box (colD x14), .vec 0 (intsD r16.1)]) rfl rfl ?_⟩
            refine AOps_nil ?_
            refine AU_all [3] (by kernel_rfl) rfl (allc ?_ (fun _ h => nomatch h))
            ·refine US_of 3 rfl rfl ?_
             refine AOps_q 46 _ rfl rfl rfl (QOp_load_eptr _ _ _ _ _ _ _ rfl Try.isAgg2 rfl rfl (intsD_get _ _ 0 (by omega))) ?_
             refine AOps_nil ?_
             refine AU_all [11] (by kernel_rfl) rfl (allc ?_ (fun _ h => nomatch h))
             ·refine US_of 11 rfl rfl ?_
              refine AOps_call [] 54 _ _ _ _ _ _ _ _ _ _ rfl rfl rfl rfl rfl rfl rfl Try.call223 rfl (nodupB_sound _ rfl) rfl rfl rfl (spec_l01With_ac x14 (r16.1.getD (0 : Int).toNat 0) (r16.1.getD (1 : Int).toNat 0) r19.1 _ hr20) ?_
              rintro _ _ ⟨rfl, rfl⟩
              refine ⟨(fun _ h => nomatch h), (allc (trivial) (fun _ h => nomatch h)), AOps_as 54 (v' := .d (.agg (colD r20))) (H' := [.box (srcD r19.2), .box (colD Col.zero), .box (colD x14), .vec 0 (intsD r16.1)]) rfl rfl ?_⟩
              refine AOps_nil ?_
              refine AU_all [12] (by kernel_rfl) rfl (allc ?_ (fun _ h => nomatch h))
              ·refine US_of 12 rfl rfl ?_
               refine AOps_store _ _ _ _ _ _ (colD _) _ _ rfl rfl rfl rfl rfl rfl rfl (colD_one _) (by rw [colD_length]; exact Try.sizeOf29) (by rw [colD_length, colD_length]; decide) (colD_whole _ _) ?_
               refine AOps_nil ?_
               refine AU_done (by kernel_rfl) ?_
               exact ⟨rfl, Weak_keep 1 hm [0, 2, 4, 6] [1, 2] _ _ rfl rfl rfl⟩
         ·refine US_of 3 rfl rfl ?_
          refine AOps_q 46 _ rfl rfl rfl (QOp_load_eptr _ _ _ _ _ _ _ rfl Try.isAgg2 rfl rfl (intsD_get _ _ 0 (by omega))) ?_
          refine AOps_nil ?_
          refine AU_all [0, 9] (by kernel_rfl) rfl (allc ?_ (allc ?_ (fun _ h => nomatch h)))
          ·refine US_of 0 rfl rfl ?_
           refine AOps_q 43 _ rfl rfl rfl (QOp_loadN_ptr _ _ _ _ _ _ _ rfl Try.isAgg29 Try.sizeOf29 rfl rfl (colD_all _) (colD_length _)) ?_
           refine AOps_nil ?_
           refine AU_all [9] (by kernel_rfl) rfl (allc ?_ (fun _ h => nomatch h))
           ·refine US_of 9 rfl rfl ?_
            refine AOps_q 52 _ rfl rfl rfl (QOp_load_ptr _ _ _ _ _ _ rfl Try.isAgg2 rfl rfl rfl) ?_
            refine AOps_nil ?_
            refine AU_all [10] (by kernel_rfl) rfl (allc ?_ (fun _ h => nomatch h))
            ·refine US_of 10 rfl rfl ?_
             refine AOps_call [0] 53 _ _ _ _ _ _ _ _ _ _ rfl rfl rfl rfl rfl rfl rfl Try.call77 rfl (nodupB_sound _ rfl) rfl rfl rfl (spec_l01Next_ac r16.2 x14.k _ hr19) ?_
             rintro _ _ ⟨rfl, rfl⟩
             refine ⟨(allc (fun _ _ => trivial) (fun _ h => nomatch h)), (allc (trivial) (fun _ h => nomatch h)), AOps_as 53 (v' := iV r19.1) (H' := [.box (srcD r19.2), .box (colD Col.zero), .box (colD x14), .vec 0 (intsD r16.1)]) rfl rfl ?_⟩
             refine AOps_nil ?_
             refine AU_all [11] (by kernel_rfl) rfl (allc ?_ (fun _ h => nomatch h))
             ·refine US_of 11 rfl rfl ?_
              refine AOps_call [] 54 _ _ _ _ _ _ _ _ _ _ rfl rfl rfl rfl rfl rfl rfl Try.call223 rfl (nodupB_sound _ rfl) rfl rfl rfl (spec_l01With_ac x14 (r16.1.getD (0 : Int).toNat 0) (r16.1.getD (1 : Int).toNat 0) r19.1 _ hr20) ?_
              rintro _ _ ⟨rfl, rfl⟩
              refine ⟨(fun _ h => nomatch h), (allc (trivial) (fun _ h => nomatch h)), AOps_as 54 (v' := .d (.agg (colD r20))) (H' := [.box (srcD r19.2), .box (colD Col.zero), .box (colD x14), .vec 0 (intsD r16.1)]) rfl rfl ?_⟩
              refine AOps_nil ?_
              refine AU_all [12] (by kernel_rfl) rfl (allc ?_ (fun _ h => nomatch h))
              ·refine US_of 12 rfl rfl ?_
               refine AOps_store _ _ _ _ _ _ (colD _) _ _ rfl rfl rfl rfl rfl rfl rfl (colD_one _) (by rw [colD_length]; exact Try.sizeOf29) (by rw [colD_length, colD_length]; decide) (colD_whole _ _) ?_
               refine AOps_nil ?_
               refine AU_done (by kernel_rfl) ?_
               exact ⟨rfl, Weak_keep 1 hm [0, 2, 4, 6] [1, 2] _ _ rfl rfl rfl⟩
          ·refine US_of 9 rfl rfl ?_
           refine AOps_q 52 _ rfl rfl rfl (QOp_load_ptr _ _ _ _ _ _ rfl Try.isAgg2 rfl rfl rfl) ?_
           refine AOps_nil ?_
           refine AU_all [0, 10] (by kernel_rfl) rfl (allc ?_ (allc ?_ (fun _ h => nomatch h)))
           ·refine US_of 0 rfl rfl ?_
            refine AOps_q 43 _ rfl rfl rfl (QOp_loadN_ptr _ _ _ _ _ _ _ rfl Try.isAgg29 Try.sizeOf29 rfl rfl (colD_all _) (colD_length _)) ?_
            refine AOps_nil ?_
            refine AU_all [10] (by kernel_rfl) rfl (allc ?_ (fun _ h => nomatch h))
            ·refine US_of 10 rfl rfl ?_
             refine AOps_call [0] 53 _ _ _ _ _ _ _ _ _ _ rfl rfl rfl rfl rfl rfl rfl Try.call77 rfl (nodupB_sound _ rfl) rfl rfl rfl (spec_l01Next_ac r16.2 x14.k _ hr19) ?_
             rintro _ _ ⟨rfl, rfl⟩
             refine ⟨(allc (fun _ _ => trivial) (fun _ h => nomatch h)), (allc (trivial) (fun _ h => nomatch h)), AOps_as 53 (v' := iV r19.1) (H' := [.box (srcD r19.2), .box (colD Col.zero), .box (colD x14), .vec 0 (intsD r16.1)]) rfl rfl ?_⟩
             refine AOps_nil ?_
             refine AU_all [11] (by kernel_rfl) rfl (allc ?_ (fun _ h => nomatch h))
             ·refine US_of 11 rfl rfl ?_
              refine AOps_call [] 54 _ _ _ _ _ _ _ _ _ _ rfl rfl rfl rfl rfl rfl rfl Try.call223 rfl (nodupB_sound _ rfl) rfl rfl rfl (spec_l01With_ac x14 (r16.1.getD (0 : Int).toNat 0) (r16.1.getD (1 : Int).toNat 0) r19.1 _ hr20) ?_
              rintro _ _ ⟨rfl, rfl⟩
              refine ⟨(fun _ h => nomatch h), (allc (trivial) (fun _ h => nomatch h)), AOps_as 54 (v' := .d (.agg (colD r20))) (H' := [.box (srcD r19.2), .box (colD Col.zero), .box (colD x14), .vec 0 (intsD r16.1)]) rfl rfl ?_⟩
              refine AOps_nil ?_
              refine AU_all [12] (by kernel_rfl) rfl (allc ?_ (fun _ h => nomatch h))
              ·refine US_of 12 rfl rfl ?_
               refine AOps_store _ _ _ _ _ _ (colD _) _ _ rfl rfl rfl rfl rfl rfl rfl (colD_one _) (by rw [colD_length]; exact Try.sizeOf29) (by rw [colD_length, colD_length]; decide) (colD_whole _ _) ?_
               refine AOps_nil ?_
               refine AU_done (by kernel_rfl) ?_
               exact ⟨rfl, Weak_keep 1 hm [0, 2, 4, 6] [1, 2] _ _ rfl rfl rfl⟩
           ·refine US_of 10 rfl rfl ?_
            refine AOps_call [0] 53 _ _ _ _ _ _ _ _ _ _ rfl rfl rfl rfl rfl rfl rfl Try.call77 rfl (nodupB_sound _ rfl) rfl rfl rfl (spec_l01Next_ac r16.2 x14.k _ hr19) ?_
            rintro _ _ ⟨rfl, rfl⟩
            refine ⟨(allc (fun _ _ => trivial) (fun _ h => nomatch h)), (allc (trivial) (fun _ h => nomatch h)), AOps_as 53 (v' := iV r19.1) (H' := [.box (srcD r19.2), .box (colD Col.zero), .box (colD x14), .vec 0 (intsD r16.1)]) rfl rfl ?_⟩
            refine AOps_nil ?_
            refine AU_all [0] (by kernel_rfl) rfl (allc ?_ (fun _ h => nomatch h))
            ·refine US_of 0 rfl rfl ?_
             refine AOps_q 43 _ rfl rfl rfl (QOp_loadN_ptr _ _ _ _ _ _ _ rfl Try.isAgg29 Try.sizeOf29 rfl rfl (colD_all _) (colD_length _)) ?_
             refine AOps_nil ?_
             refine AU_all [11] (by kernel_rfl) rfl (allc ?_ (fun _ h => nomatch h))
             ·refine US_of 11 rfl rfl ?_
              refine AOps_call [] 54 _ _ _ _ _ _ _ _ _ _ rfl rfl rfl rfl rfl rfl rfl Try.call223 rfl (nodupB_sound _ rfl) rfl rfl rfl (spec_l01With_ac x14 (r16.1.getD (0 : Int).toNat 0) (r16.1.getD (1 : Int).toNat 0) r19.1 _ hr20) ?_
              rintro _ _ ⟨rfl, rfl⟩
              refine ⟨(fun _ h => nomatch h), (allc (trivial) (fun _ h => nomatch h)), AOps_as 54 (v' := .d (.agg (colD r20))) (H' := [.box (srcD r19.2), .box (colD Col.zero), .box (colD x14), .vec 0 (intsD r16.1)]) rfl rfl ?_⟩
              refine AOps_nil ?_
              refine AU_all [12] (by kernel_rfl) rfl (allc ?_ (fun _ h => nomatch h))
              ·refine US_of 12 rfl rfl ?_
               refine AOps_store _ _ _ _ _ _ (colD _) _ _ rfl rfl rfl rfl rfl rfl rfl (colD_one _) (by rw [colD_length]; exact Try.sizeOf29) (by rw [colD_length, colD_length]; decide) (colD_whole _ _) ?_
               refine AOps_nil ?_
               refine AU_done (by kernel_rfl) ?_
               exact ⟨rfl, Weak_keep 1 hm [0, 2, 4, 6] [1, 2] _ _ rfl rfl rfl⟩
         ·refine US_of 9 rfl rfl ?_
          refine AOps_q 52 _ rfl rfl rfl (QOp_load_ptr _ _ _ _ _ _ rfl Try.isAgg2 rfl rfl rfl) ?_
          refine AOps_nil ?_
          refine AU_all [0, 3, 10] (by kernel_rfl) rfl (allc ?_ (allc ?_ (allc ?_ (fun _ h => nomatch h))))
          ·refine US_of 0 rfl rfl ?_
           refine AOps_q 43 _ rfl rfl rfl (QOp_loadN_ptr _ _ _ _ _ _ _ rfl Try.isAgg29 Try.sizeOf29 rfl rfl (colD_all _) (colD_length _)) ?_
           refine AOps_nil ?_
           refine AU_all [3, 10] (by kernel_rfl) rfl (allc ?_ (allc ?_ (fun _ h => nomatch h)))
           ·refine US_of 3 rfl rfl ?_
            refine AOps_q 46 _ rfl rfl rfl (QOp_load_eptr _ _ _ _ _ _ _ rfl Try.isAgg2 rfl rfl (intsD_get _ _ 0 (by omega))) ?_
            refine AOps_nil ?_
            refine AU_all [10] (by kernel_rfl) rfl (allc ?_ (fun _ h => nomatch h))
            ·refine US_of 10 rfl rfl ?_
             refine AOps_call [0] 53 _ _ _ _ _ _ _ _ _ _ rfl rfl rfl rfl rfl rfl rfl Try.call77 rfl (nodupB_sound _ rfl) rfl rfl rfl (spec_l01Next_ac r16.2 x14.k _ hr19) ?_
             rintro _ _ ⟨rfl, rfl⟩
             refine ⟨(allc (fun _ _ => trivial) (fun _ h => nomatch h)), (allc (trivial) (fun _ h => nomatch h)), AOps_as 53 (v' := iV r19.1) (H' := [.box (srcD r19.2), .box (colD Col.zero), .box (colD x14), .vec 0 (intsD r16.1)]) rfl rfl ?_⟩
             refine AOps_nil ?_
             refine AU_all [11] (by kernel_rfl) rfl (allc ?_ (fun _ h => nomatch h))
             ·refine US_of 11 rfl rfl ?_
              refine AOps_call [] 54 _ _ _ _ _ _ _ _ _ _ rfl rfl rfl rfl rfl rfl rfl Try.call223 rfl (nodupB_sound _ rfl) rfl rfl rfl (spec_l01With_ac x14 (r16.1.getD (0 : Int).toNat 0) (r16.1.getD (1 : Int).toNat 0) r19.1 _ hr20) ?_
              rintro _ _ ⟨rfl, rfl⟩
              refine ⟨(fun _ h => nomatch h), (allc (trivial) (fun _ h => nomatch h)), AOps_as 54 (v' := .d (.agg (colD r20))) (H' := [.box (srcD r19.2), .box (colD Col.zero), .box (colD x14), .vec 0 (intsD r16.1)]) rfl rfl ?_⟩
              refine AOps_nil ?_
              refine AU_all [12] (by kernel_rfl) rfl (allc ?_ (fun _ h => nomatch h))
              ·refine US_of 12 rfl rfl ?_
               refine AOps_store _ _ _ _ _ _ (colD _) _ _ rfl rfl rfl rfl rfl rfl rfl (colD_one _) (by rw [colD_length]; exact Try.sizeOf29) (by rw [colD_length, colD_length]; decide) (colD_whole _ _) ?_
               refine AOps_nil ?_
               refine AU_done (by kernel_rfl) ?_
               exact ⟨rfl, Weak_keep 1 hm [0, 2, 4, 6] [1, 2] _ _ rfl rfl rfl⟩
           ·refine US_of 10 rfl rfl ?_
            refine AOps_call [0] 53 _ _ _ _ _ _ _ _ _ _ rfl rfl rfl rfl rfl rfl rfl Try.call77 rfl (nodupB_sound _ rfl) rfl rfl rfl (spec_l01Next_ac r16.2 x14.k _ hr19) ?_
            rintro _ _ ⟨rfl, rfl⟩
            refine ⟨(allc (fun _ _ => trivial) (fun _ h => nomatch h)), (allc (trivial) (fun _ h => nomatch h)), AOps_as 53 (v' := iV r19.1) (H' := [.box (srcD r19.2), .box (colD Col.zero), .box (colD x14), .vec 0 (intsD r16.1)]) rfl rfl ?_⟩
            refine AOps_nil ?_
            refine AU_all [3] (by kernel_rfl) rfl (allc ?_ (fun _ h => nomatch h))
            ·refine US_of 3 rfl rfl ?_
             refine AOps_q 46 _ rfl rfl rfl (QOp_load_eptr _ _ _ _ _ _ _ rfl Try.isAgg2 rfl rfl (intsD_get _ _ 0 (by omega))) ?_
             refine AOps_nil ?_
             refine AU_all [11] (by kernel_rfl) rfl (allc ?_ (fun _ h => nomatch h))
             ·refine US_of 11 rfl rfl ?_
              refine AOps_call [] 54 _ _ _ _ _ _ _ _ _ _ rfl rfl rfl rfl rfl rfl rfl Try.call223 rfl (nodupB_sound _ rfl) rfl rfl rfl (spec_l01With_ac x14 (r16.1.getD (0 : Int).toNat 0) (r16.1.getD (1 : Int).toNat 0) r19.1 _ hr20) ?_
              rintro _ _ ⟨rfl, rfl⟩
              refine ⟨(fun _ h => nomatch h), (allc (trivial) (fun _ h => nomatch h)), AOps_as 54 (v' := .d (.agg (colD r20))) (H' := [.box (srcD r19.2), .box (colD Col.zero), .box (colD x14), .vec 0 (intsD r16.1)]) rfl rfl ?_⟩
              refine AOps_nil ?_
              refine AU_all [12] (by kernel_rfl) rfl (allc ?_ (fun _ h => nomatch h))
              ·refine US_of 12 rfl rfl ?_
               refine AOps_store _ _ _ _ _ _ (colD _) _ _ rfl rfl rfl rfl rfl rfl rfl (colD_one _) (by rw [colD_length]; exact Try.sizeOf29) (by rw [colD_length, colD_length]; decide) (colD_whole _ _) ?_
               refine AOps_nil ?_
               refine AU_done (by kernel_rfl) ?_
               exact ⟨rfl, Weak_keep 1 hm [0, 2, 4, 6] [1, 2] _ _ rfl rfl rfl⟩
          ·refine US_of 3 rfl rfl ?_
           refine AOps_q 46 _ rfl rfl rfl (QOp_load_eptr _ _ _ _ _ _ _ rfl Try.isAgg2 rfl rfl (intsD_get _ _ 0 (by omega))) ?_
           refine AOps_nil ?_
           refine AU_all [0, 10] (by kernel_rfl) rfl (allc ?_ (allc ?_ (fun _ h => nomatch h)))
           ·refine US_of 0 rfl rfl ?_
            refine AOps_q 43 _ rfl rfl rfl (QOp_loadN_ptr _ _ _ _ _ _ _ rfl Try.isAgg29 Try.sizeOf29 rfl rfl (colD_all _) (colD_length _)) ?_
            refine AOps_nil ?_
            refine AU_all [10] (by kernel_rfl) rfl (allc ?_ (fun _ h => nomatch h))
            ·refine US_of 10 rfl rfl ?_
             refine AOps_call [0] 53 _ _ _ _ _ _ _ _ _ _ rfl rfl rfl rfl rfl rfl rfl Try.call77 rfl (nodupB_sound _ rfl) rfl rfl rfl (spec_l01Next_ac r16.2 x14.k _ hr19) ?_
             rintro _ _ ⟨rfl, rfl⟩
             refine ⟨(allc (fun _ _ => trivial) (fun _ h => nomatch h)), (allc (trivial) (fun _ h => nomatch h)), AOps_as 53 (v' := iV r19.1) (H' := [.box (srcD r19.2), .box (colD Col.zero), .box (colD x14), .vec 0 (intsD r16.1)]) rfl rfl ?_⟩
             refine AOps_nil ?_
             refine AU_all [11] (by kernel_rfl) rfl (allc ?_ (fun _ h => nomatch h))
             ·refine US_of 11 rfl rfl ?_
              refine AOps_call [] 54 _ _ _ _ _ _ _ _ _ _ rfl rfl rfl rfl rfl rfl rfl Try.call223 rfl (nodupB_sound _ rfl) rfl rfl rfl (spec_l01With_ac x14 (r16.1.getD (0 : Int).toNat 0) (r16.1.getD (1 : Int).toNat 0) r19.1 _ hr20) ?_
              rintro _ _ ⟨rfl, rfl⟩
              refine ⟨(fun _ h => nomatch h), (allc (trivial) (fun _ h => nomatch h)), AOps_as 54 (v' := .d (.agg (colD r20))) (H' := [.box (srcD r19.2), .box (colD Col.zero), .box (colD x14), .vec 0 (intsD r16.1)]) rfl rfl ?_⟩
              refine AOps_nil ?_
              refine AU_all [12] (by kernel_rfl) rfl (allc ?_ (fun _ h => nomatch h))
              ·refine US_of 12 rfl rfl ?_
               refine AOps_store _ _ _ _ _ _ (colD _) _ _ rfl rfl rfl rfl rfl rfl rfl (colD_one _) (by rw [colD_length]; exact Try.sizeOf29) (by rw [colD_length, colD_length]; decide) (colD_whole _ _) ?_
               refine AOps_nil ?_
               refine AU_done (by kernel_rfl) ?_
               exact ⟨rfl, Weak_keep 1 hm [0, 2, 4, 6] [1, 2] _ _ rfl rfl rfl⟩
           ·refine US_of 10 rfl rfl ?_
            refine AOps_call [0] 53 _ _ _ _ _ _ _ _ _ _ rfl rfl rfl rfl rfl rfl rfl Try.call77 rfl (nodupB_sound _ rfl) rfl rfl rfl (spec_l01Next_ac r16.2 x14.k _ hr19) ?_
            rintro _ _ ⟨rfl, rfl⟩
            refine ⟨(allc (fun _ _ => trivial) (fun _ h => nomatch h)), (allc (trivial) (fun _ h => nomatch h)), AOps_as 53 (v' := iV r19.1) (H' := [.box (srcD r19.2), .box (colD Col.zero), .box (colD x14), .vec 0 (intsD r16.1)]) rfl rfl ?_⟩
            refine AOps_nil ?_
            refine AU_all [0] (by kernel_rfl) rfl (allc ?_ (fun _ h => nomatch h))
            ·refine US_of 0 rfl rfl ?_
             refine AOps_q 43 _ rfl rfl rfl (QOp_loadN_ptr _ _ _ _ _ _ _ rfl Try.isAgg29 Try.sizeOf29 rfl rfl (colD_all _) (colD_length _)) ?_
             refine AOps_nil ?_
             refine AU_all [11] (by kernel_rfl) rfl (allc ?_ (fun _ h => nomatch h))
             ·refine US_of 11 rfl rfl ?_
              refine AOps_call [] 54 _ _ _ _ _ _ _ _ _ _ rfl rfl rfl rfl rfl rfl rfl Try.call223 rfl (nodupB_sound _ rfl) rfl rfl rfl (spec_l01With_ac x14 (r16.1.getD (0 : Int).toNat 0) (r16.1.getD (1 : Int).toNat 0) r19.1 _ hr20) ?_
              rintro _ _ ⟨rfl, rfl⟩
              refine ⟨(fun _ h => nomatch h), (allc (trivial) (fun _ h => nomatch h)), AOps_as 54 (v' := .d (.agg (colD r20))) (H' := [.box (srcD r19.2), .box (colD Col.zero), .box (colD x14), .vec 0 (intsD r16.1)]) rfl rfl ?_⟩
              refine AOps_nil ?_
              refine AU_all [12] (by kernel_rfl) rfl (allc ?_ (fun _ h => nomatch h))
              ·refine US_of 12 rfl rfl ?_
               refine AOps_store _ _ _ _ _ _ (colD _) _ _ rfl rfl rfl rfl rfl rfl rfl (colD_one _) (by rw [colD_length]; exact Try.sizeOf29) (by rw [colD_length, colD_length]; decide) (colD_whole _ _) ?_
               refine AOps_nil ?_
               refine AU_done (by kernel_rfl) ?_
               exact ⟨rfl, Weak_keep 1 hm [0, 2, 4, 6] [1, 2] _ _ rfl rfl rfl⟩
          ·refine US_of 10 rfl rfl ?_
           refine AOps_call [0] 53 _ _ _ _ _ _ _ _ _ _ rfl rfl rfl rfl rfl rfl rfl Try.call77 rfl (nodupB_sound _ rfl) rfl rfl rfl (spec_l01Next_ac r16.2 x14.k _ hr19) ?_
           rintro _ _ ⟨rfl, rfl⟩
           refine ⟨(allc (fun _ _ => trivial) (fun _ h => nomatch h)), (allc (trivial) (fun _ h => nomatch h)), AOps_as 53 (v' := iV r19.1) (H' := [.box (srcD r19.2), .box (colD Col.zero), .box (colD x14), .vec 0 (intsD r16.1)]) rfl rfl ?_⟩
           refine AOps_nil ?_
           refine AU_all [0, 3] (by kernel_rfl) rfl (allc ?_ (allc ?_ (fun _ h => nomatch h)))
           ·refine US_of 0 rfl rfl ?_
            refine AOps_q 43 _ rfl rfl rfl (QOp_loadN_ptr _ _ _ _ _ _ _ rfl Try.isAgg29 Try.sizeOf29 rfl rfl (colD_all _) (colD_length _)) ?_
            refine AOps_nil ?_
            refine AU_all [3] (by kernel_rfl) rfl (allc ?_ (fun _ h => nomatch h))
            ·refine US_of 3 rfl rfl ?_
             refine AOps_q 46 _ rfl rfl rfl (QOp_load_eptr _ _ _ _ _ _ _ rfl Try.isAgg2 rfl rfl (intsD_get _ _ 0 (by omega))) ?_
             refine AOps_nil ?_
             refine AU_all [11] (by kernel_rfl) rfl (allc ?_ (fun _ h => nomatch h))
             ·refine US_of 11 rfl rfl ?_
              refine AOps_call [] 54 _ _ _ _ _ _ _ _ _ _ rfl rfl rfl rfl rfl rfl rfl Try.call223 rfl (nodupB_sound _ rfl) rfl rfl rfl (spec_l01With_ac x14 (r16.1.getD (0 : Int).toNat 0) (r16.1.getD (1 : Int).toNat 0) r19.1 _ hr20) ?_
              rintro _ _ ⟨rfl, rfl⟩
              refine ⟨(fun _ h => nomatch h), (allc (trivial) (fun _ h => nomatch h)), AOps_as 54 (v' := .d (.agg (colD r20))) (H' := [.box (srcD r19.2), .box (colD Col.zero), .box (colD x14), .vec 0 (intsD r16.1)]) rfl rfl ?_⟩
              refine AOps_nil ?_
              refine AU_all [12] (by kernel_rfl) rfl (allc ?_ (fun _ h => nomatch h))
              ·refine US_of 12 rfl rfl ?_
               refine AOps_store _ _ _ _ _ _ (colD _) _ _ rfl rfl rfl rfl rfl rfl rfl (colD_one _) (by rw [colD_length]; exact Try.sizeOf29) (by rw [colD_length, colD_length]; decide) (colD_whole _ _) ?_
               refine AOps_nil ?_
               refine AU_done (by kernel_rfl) ?_
               exact ⟨rfl, Weak_keep 1 hm [0, 2, 4, 6] [1, 2] _ _ rfl rfl rfl⟩
           ·refine US_of 3 rfl rfl ?_
            refine AOps_q 46 _ rfl rfl rfl (QOp_load_eptr _ _ _ _ _ _ _ rfl Try.isAgg2 rfl rfl (intsD_get _ _ 0 (by omega))) ?_
            refine AOps_nil ?_
            refine AU_all [0] (by kernel_rfl) rfl (allc ?_ (fun _ h => nomatch h))
            ·refine US_of 0 rfl rfl ?_
             refine AOps_q 43 _ rfl rfl rfl (QOp_loadN_ptr _ _ _ _ _ _ _ rfl Try.isAgg29 Try.sizeOf29 rfl rfl (colD_all _) (colD_length _)) ?_
             refine AOps_nil ?_
             refine AU_all [11] (by kernel_rfl) rfl (allc ?_ (fun _ h => nomatch h))
             ·refine US_of 11 rfl rfl ?_
              refine AOps_call [] 54 _ _ _ _ _ _ _ _ _ _ rfl rfl rfl rfl rfl rfl rfl Try.call223 rfl (nodupB_sound _ rfl) rfl rfl rfl (spec_l01With_ac x14 (r16.1.getD (0 : Int).toNat 0) (r16.1.getD (1 : Int).toNat 0) r19.1 _ hr20) ?_
              rintro _ _ ⟨rfl, rfl⟩
              refine ⟨(fun _ h => nomatch h), (allc (trivial) (fun _ h => nomatch h)), AOps_as 54 (v' := .d (.agg (colD r20))) (H' := [.box (srcD r19.2), .box (colD Col.zero), .box (colD x14), .vec 0 (intsD r16.1)]) rfl rfl ?_⟩
              refine AOps_nil ?_
              refine AU_all [12] (by kernel_rfl) rfl (allc ?_ (fun _ h => nomatch h))
              ·refine US_of 12 rfl rfl ?_
               refine AOps_store _ _ _ _ _ _ (colD _) _ _ rfl rfl rfl rfl rfl rfl rfl (colD_one _) (by rw [colD_length]; exact Try.sizeOf29) (by rw [colD_length, colD_length]; decide) (colD_whole _ _) ?_
               refine AOps_nil ?_
               refine AU_done (by kernel_rfl) ?_
               exact ⟨rfl, Weak_keep 1 hm [0, 2, 4, 6] [1, 2] _ _ rfl rfl rfl⟩
        ·refine US_of 9 rfl rfl ?_
         refine AOps_q 52 _ rfl rfl rfl (QOp_load_ptr _ _ _ _ _ _ rfl Try.isAgg2 rfl rfl rfl) ?_
         refine AOps_nil ?_
         refine AU_all [0, 3, 6, 10] (by kernel_rfl) rfl (allc ?_ (allc ?_ (allc ?_ (allc ?_ (fun _ h => nomatch h)))))
         ·refine US_of 0 rfl rfl ?_
          refine AOps_q 43 _ rfl rfl rfl (QOp_loadN_ptr _ _ _ _ _ _ _ rfl Try.isAgg29 Try.sizeOf29 rfl rfl (colD_all _) (colD_length _)) ?_
          refine AOps_nil ?_
          refine AU_all [3, 6, 10] (by kernel_rfl) rfl (allc ?_ (allc ?_ (allc ?_ (fun _ h => nomatch h))))
          ·refine US_of 3 rfl rfl ?_
           refine AOps_q 46 _ rfl rfl rfl (QOp_load_eptr _ _ _ _ _ _ _ rfl Try.isAgg2 rfl rfl (intsD_get _ _ 0 (by omega))) ?_
           refine AOps_nil ?_
           refine AU_all [6, 10] (by kernel_rfl) rfl (allc ?_ (allc ?_ (fun _ h => nomatch h)))
           ·refine US_of 6 rfl rfl ?_
            refine AOps_q 49 _ rfl rfl rfl (QOp_load_eptr _ _ _ _ _ _ _ rfl Try.isAgg2 rfl rfl (intsD_get _ _ 0 (by omega))) ?_
            refine AOps_nil ?_
            refine AU_all [10] (by kernel_rfl) rfl (allc ?_ (fun _ h => nomatch h))
            ·refine US_of 10 rfl rfl ?_
             refine AOps_call [0] 53 _ _ _ _ _ _ _ _ _ _ rfl rfl rfl rfl rfl rfl rfl Try.call77 rfl (nodupB_sound _ rfl) rfl rfl rfl (spec_l01Next_ac r16.2 x14.k _ hr19) ?_
             rintro _ _ ⟨rfl, rfl⟩
             refine ⟨(allc (fun _ _ => trivial) (fun _ h => nomatch h)), (allc (trivial) (fun _ h => nomatch h)), AOps_as 53 (v' := iV r19.1) (H' := [.box (srcD r19.2), .box (colD Col.zero), .box (colD x14), .vec 0 (intsD r16.1)]) rfl rfl ?_⟩
             refine AOps_nil ?_
             refine AU_all [11] (by kernel_rfl) rfl (allc ?_ (fun _ h => nomatch h))
             ·refine US_of 11 rfl rfl ?_
              refine AOps_call [] 54 _ _ _ _ _ _ _ _ _ _ rfl rfl rfl rfl rfl rfl rfl Try.call223 rfl (nodupB_sound _ rfl) rfl rfl rfl (spec_l01With_ac x14 (r16.1.getD (0 : Int).toNat 0) (r16.1.getD (1 : Int).toNat 0) r19.1 _ hr20) ?_
              rintro _ _ ⟨rfl, rfl⟩
              refine ⟨(fun _ h => nomatch h), (allc (trivial) (fun _ h => nomatch h)), AOps_as 54 (v' := .d (.agg (colD r20))) (H' := [.box (srcD r19.2), .box (colD Col.zero), .box (colD x14), .vec 0 (intsD r16.1)]) rfl rfl ?_⟩
              refine AOps_nil ?_
              refine AU_all [12] (by kernel_rfl) rfl (allc ?_ (fun _ h => nomatch h))
              ·refine US_of 12 rfl rfl ?_
               refine AOps_store _ _ _ _ _ _ (colD _) _ _ rfl rfl rfl rfl rfl rfl rfl (colD_one _) (by rw [colD_length]; exact Try.sizeOf29) (by rw [colD_length, colD_length]; decide) (colD_whole _ _) ?_
               refine AOps_nil ?_
               refine AU_done (by kernel_rfl) ?_
               exact ⟨rfl, Weak_keep 1 hm [0, 2, 4, 6] [1, 2] _ _ rfl rfl rfl⟩
           ·refine US_of 10 rfl rfl ?_
            refine AOps_call [0] 53 _ _ _ _ _ _ _ _ _ _ rfl rfl rfl rfl rfl rfl rfl Try.call77 rfl (nodupB_sound _ rfl) rfl rfl rfl (spec_l01Next_ac r16.2 x14.k _ hr19) ?_
            rintro _ _ ⟨rfl, rfl⟩
            refine ⟨(allc (fun _ _ => trivial) (fun _ h => nomatch h)), (allc (trivial) (fun _ h => nomatch h)), AOps_as 53 (v' := iV r19.1) (H' := [.box (srcD r19.2), .box (colD Col.zero), .box (colD x14), .vec 0 (intsD r16.1)]) rfl rfl ?_⟩
            refine AOps_nil ?_
            refine AU_all [6] (by kernel_rfl) rfl (allc ?_ (fun _ h => nomatch h))
            ·refine US_of 6 rfl rfl ?_
             refine AOps_q 49 _ rfl rfl rfl (QOp_load_eptr _ _ _ _ _ _ _ rfl Try.isAgg2 rfl rfl (intsD_get _ _ 0 (by omega))) ?_
             refine AOps_nil ?_
             refine AU_all [11] (by kernel_rfl) rfl (allc ?_ (fun _ h => nomatch h))
             ·refine US_of 11 rfl rfl ?_
              refine AOps_call [] 54 _ _ _ _ _ _ _ _ _ _ rfl rfl rfl rfl rfl rfl rfl Try.call223 rfl (nodupB_sound _ rfl) rfl rfl rfl (spec_l01With_ac x14 (r16.1.getD (0 : Int).toNat 0) (r16.1.getD (1 : Int).toNat 0) r19.1 _ hr20) ?_
              rintro _ _ ⟨rfl, rfl⟩
              refine ⟨(fun _ h => nomatch h), (allc (trivial) (fun _ h => nomatch h)), AOps_as 54 (v' := .d (.agg (colD r20))) (H' := [.box (srcD r19.2), .box (colD Col.zero), .box (colD x14), .vec 0 (intsD r16.1)]) rfl rfl ?_⟩
              refine AOps_nil ?_
              refine AU_all [12] (by kernel_rfl) rfl (allc ?_ (fun _ h => nomatch h))
              ·refine US_of 12 rfl rfl ?_
               refine AOps_store _ _ _ _ _ _ (colD _) _ _ rfl rfl rfl rfl rfl rfl rfl (colD_one _) (by rw [colD_length]; exact Try.sizeOf29) (by rw [colD_length, colD_length]; decide) (colD_whole _ _) ?_
               refine AOps_nil ?_
               refine AU_done (by kernel_rfl) ?_
               exact ⟨rfl, Weak_keep 1 hm [0, 2, 4, 6] [1, 2] _ _ rfl rfl rfl⟩
          ·refine US_of 6 rfl rfl ?_
           refine AOps_q 49 _ rfl rfl rfl (QOp_load_eptr _ _ _ _ _ _ _ rfl Try.isAgg2 rfl rfl (intsD_get _ _ 0 (by omega))) ?_
           refine AOps_nil ?_
           refine AU_all [3, 10] (by kernel_rfl) rfl (allc ?_ (allc ?_ (fun _ h => nomatch h)))
           ·refine US_of 3 rfl rfl ?_
            refine AOps_q 46 _ rfl rfl rfl (QOp_load_eptr _ _ _ _ _ _ _ rfl Try.isAgg2 rfl rfl (intsD_get _ _ 0 (by omega))) ?_
            refine AOps_nil ?_
            refine AU_all [10] (by kernel_rfl) rfl (allc ?_ (fun _ h => nomatch h))
            ·refine US_of 10 rfl rfl ?_
             refine AOps_call [0] 53 _ _ _ _ _ _ _ _ _ _ rfl rfl rfl rfl rfl rfl rfl Try.call77 rfl (nodupB_sound _ rfl) rfl rfl rfl (spec_l01Next_ac r16.2 x14.k _ hr19) ?_
             rintro _ _ ⟨rfl, rfl⟩
             refine ⟨(allc (fun _ _ => trivial) (fun _ h => nomatch h)), (allc (trivial) (fun _ h => nomatch h)), AOps_as 53 (v' := iV r19.1) (H' := [.box (srcD r19.2), .box (colD Col.zero), .box (colD x14), .vec 0 (intsD r16.1)]) rfl rfl ?_⟩
             refine AOps_nil ?_
             refine AU_all [11] (by kernel_rfl) rfl (allc ?_ (fun _ h => nomatch h))
             ·refine US_of 11 rfl rfl ?_
              refine AOps_call [] 54 _ _ _ _ _ _ _ _ _ _ rfl rfl rfl rfl rfl rfl rfl Try.call223 rfl (nodupB_sound _ rfl) rfl rfl rfl (spec_l01With_ac x14 (r16.1.getD (0 : Int).toNat 0) (r16.1.getD (1 : Int).toNat 0) r19.1 _ hr20) ?_
              rintro _ _ ⟨rfl, rfl⟩
              refine ⟨(fun _ h => nomatch h), (allc (trivial) (fun _ h => nomatch h)), AOps_as 54 (v' := .d (.agg (colD r20))) (H' := [.box (srcD r19.2), .box (colD Col.zero), .box (colD x14), .vec 0 (intsD r16.1)]) rfl rfl ?_⟩
              refine AOps_nil ?_
              refine AU_all [12] (by kernel_rfl) rfl (allc ?_ (fun _ h => nomatch h))
              ·refine US_of 12 rfl rfl ?_
               refine AOps_store _ _ _ _ _ _ (colD _) _ _ rfl rfl rfl rfl rfl rfl rfl (colD_one _) (by rw [colD_length]; exact Try.sizeOf29) (by rw [colD_length, colD_length]; decide) (colD_whole _ _) ?_
               refine AOps_nil ?_
               refine AU_done (by kernel_rfl) ?_
               exact ⟨rfl, Weak_keep 1 hm [0, 2, 4, 6] [1, 2] _ _ rfl rfl rfl⟩
           ·refine US_of 10 rfl rfl ?_
            refine AOps_call [0] 53 _ _ _ _ _ _ _ _ _ _ rfl rfl rfl rfl rfl rfl rfl Try.call77 rfl (nodupB_sound _ rfl) rfl rfl rfl (spec_l01Next_ac r16.2 x14.k _ hr19) ?_
            rintro _ _ ⟨rfl, rfl⟩
            refine ⟨(allc (fun _ _ => trivial) (fun _ h => nomatch h)), (allc (trivial) (fun _ h => nomatch h)), AOps_as 53 (v' := iV r19.1) (H' := [.box (srcD r19.2), .box (colD Col.zero), .box (colD x14), .vec 0 (intsD r16.1)]) rfl rfl ?_⟩
            refine AOps_nil ?_
            refine AU_all [3] (by kernel_rfl) rfl (allc ?_ (fun _ h => nomatch h))
            ·refine US_of 3 rfl rfl ?_
             refine AOps_q 46 _ rfl rfl rfl (QOp_load_eptr _ _ _ _ _ _ _ rfl Try.isAgg2 rfl rfl (intsD_get _ _ 0 (by omega))) ?_
             refine AOps_nil ?_
             refine AU_all [11] (by kernel_rfl) rfl (allc ?_ (fun _ h => nomatch h))
             ·refine US_of 11 rfl rfl ?_
              refine AOps_call [] 54 _ _ _ _ _ _ _ _ _ _ rfl rfl rfl rfl rfl rfl rfl Try.call223 rfl (nodupB_sound _ rfl) rfl rfl rfl (spec_l01With_ac x14 (r16.1.getD (0 : Int).toNat 0) (r16.1.getD (1 : Int).toNat 0) r19.1 _ hr20) ?_
              rintro _ _ ⟨rfl, rfl⟩
              refine ⟨(fun _ h => nomatch h), (allc (trivial) (fun _ h => nomatch h)), AOps_as 54 (v' := .d (.agg (colD r20))) (H' := [.box (srcD r19.2), .box (colD Col.zero), .box (colD x14), .vec 0 (intsD r16.1)]) rfl rfl ?_⟩
              refine AOps_nil ?_
              refine AU_all [12] (by kernel_rfl) rfl (allc ?_ (fun _ h => nomatch h))
              ·refine US_of 12 rfl rfl ?_
               refine AOps_store _ _ _ _ _ _ (colD _) _ _ rfl rfl rfl rfl rfl rfl rfl (colD_one _) (by rw [colD_length]; exact Try.sizeOf29) (by rw [colD_length, colD_length]; decide) (colD_whole _ _) ?_
               refine AOps_nil ?_
               refine AU_done (by kernel_rfl) ?_
               exact ⟨rfl, Weak_keep 1 hm [0, 2, 4, 6] [1, 2] _ _ rfl rfl rfl⟩
          ·refine US_of 10 rfl rfl ?_
           refine AOps_call [0] 53 _ _ _ _ _ _ _ _ _ _ rfl rfl rfl rfl rfl rfl rfl Try.call77 rfl (nodupB_sound _ rfl) rfl rfl rfl (spec_l01Next_ac r16.2 x14.k _ hr19) ?_
           rintro _ _ ⟨rfl, rfl⟩
           refine ⟨(allc (fun _ _ => trivial) (fun _ h => nomatch h)), (allc (trivial) (fun _ h => nomatch h)), AOps_as 53 (v' := iV r19.1) (H' := [.box (srcD r19.2), .box (colD Col.zero), .box (colD x14), .vec 0 (intsD r16.1)]) rfl rfl ?_⟩
           refine AOps_nil ?_
           refine AU_all [3, 6] (by kernel_rfl) rfl (allc ?_ (allc ?_ (fun _ h => nomatch h)))
           ·refine US_of 3 rfl rfl ?_
            refine AOps_q 46 _ rfl rfl rfl (QOp_load_eptr _ _ _ _ _ _ _ rfl Try.isAgg2 rfl rfl (intsD_get _ _ 0 (by omega))) ?_
            refine AOps_nil ?_
            refine AU_all [6] (by kernel_rfl) rfl (allc ?_ (fun _ h => nomatch h))
            ·refine US_of 6 rfl rfl ?_
             refine AOps_q 49 _ rfl rfl rfl (QOp_load_eptr _ _ _ _ _ _ _ rfl Try.isAgg2 rfl rfl (intsD_get _ _ 0 (by omega))) ?_
             refine AOps_nil ?_
             refine AU_all [11] (by kernel_rfl) rfl (allc ?_ (fun _ h => nomatch h))
             ·refine US_of 11 rfl rfl ?_
              refine AOps_call [] 54 _ _ _ _ _ _ _ _ _ _ rfl rfl rfl rfl rfl rfl rfl Try.call223 rfl (nodupB_sound _ rfl) rfl rfl rfl (spec_l01With_ac x14 (r16.1.getD (0 : Int).toNat 0) (r16.1.getD (1 : Int).toNat 0) r19.1 _ hr20) ?_
              rintro _ _ ⟨rfl, rfl⟩
              refine ⟨(fun _ h => nomatch h), (allc (trivial) (fun _ h => nomatch h)), AOps_as 54 (v' := .d (.agg (colD r20))) (H' := [.box (srcD r19.2), .box (colD Col.zero), .box (colD x14), .vec 0 (intsD r16.1)]) rfl rfl ?_⟩
              refine AOps_nil ?_
              refine AU_all [12] (by kernel_rfl) rfl (allc ?_ (fun _ h => nomatch h))
              ·refine US_of 12 rfl rfl ?_
               refine AOps_store _ _ _ _ _ _ (colD _) _ _ rfl rfl rfl rfl rfl rfl rfl (colD_one _) (by rw [colD_length]; exact Try.sizeOf29) (by rw [colD_length, colD_length]; decide) (colD_whole _ _) ?_
               refine AOps_nil ?_
               refine AU_done (by kernel_rfl) ?_
               exact ⟨rfl, Weak_keep 1 hm [0, 2, 4, 6] [1, 2] _ _ rfl rfl rfl⟩
           ·refine US_of 6 rfl rfl ?_
            refine AOps_q 49 _ rfl rfl rfl (QOp_load_eptr _ _ _ _ _ _ _ rfl Try.isAgg2 rfl rfl (intsD_get _ _ 0 (by omega))) ?_
            refine AOps_nil ?_
            refine AU_all [3] (by kernel_rfl) rfl (allc ?_ (fun _ h => nomatch h))
            ·refine US_of 3 rfl rfl ?_
             refine AOps_q 46 _ rfl rfl rfl (QOp_load_eptr _ _ _ _ _ _ _ rfl Try.isAgg2 rfl rfl (intsD_get _ _ 0 (by omega))) ?_
             refine AOps_nil ?_
             refine AU_all [11] (by kernel_rfl) rfl (allc ?_ (fun _ h => nomatch h))
             ·refine US_of 11 rfl rfl ?_
              refine AOps_call [] 54 _ _ _ _ _ _ _ _ _ _ rfl rfl rfl rfl rfl rfl rfl Try.call223 rfl (nodupB_sound _ rfl) rfl rfl rfl (spec_l01With_ac x14 (r16.1.getD (0 : Int).toNat 0) (r16.1.getD (1 : Int).toNat 0) r19.1 _ hr20) ?_
              rintro _ _ ⟨rfl, rfl⟩
              refine ⟨(fun _ h => nomatch h), (allc (trivial) (fun _ h => nomatch h)), AOps_as 54 (v' := .d (.agg (colD r20))) (H' := [.box (srcD r19.2), .box (colD Col.zero), .box (colD x14), .vec 0 (intsD r16.1)]) rfl rfl ?_⟩
              refine AOps_nil ?_
              refine AU_all [12] (by kernel_rfl) rfl (allc ?_ (fun _ h => nomatch h))
              ·refine US_of 12 rfl rfl ?_
               refine AOps_store _ _ _ _ _ _ (colD _) _ _ rfl rfl rfl rfl rfl rfl rfl (colD_one _) (by rw [colD_length]; exact Try.sizeOf29) (by rw [colD_length, colD_length]; decide) (colD_whole _ _) ?_
               refine AOps_nil ?_
               refine AU_done (by kernel_rfl) ?_
               exact ⟨rfl, Weak_keep 1 hm [0, 2, 4, 6] [1, 2] _ _ rfl rfl rfl⟩
         ·refine US_of 3 rfl rfl ?_
          refine AOps_q 46 _ rfl rfl rfl (QOp_load_eptr _ _ _ _ _ _ _ rfl Try.isAgg2 rfl rfl (intsD_get _ _ 0 (by omega))) ?_
          refine AOps_nil ?_
          refine AU_all [0, 6, 10] (by kernel_rfl) rfl (allc ?_ (allc ?_ (allc ?_ (fun _ h => nomatch h))))
          ·refine US_of 0 rfl rfl ?_
           refine AOps_q 43 _ rfl rfl rfl (QOp_loadN_ptr _ _ _ _ _ _ _ rfl Try.isAgg29 Try.sizeOf29 rfl rfl (colD_all _) (colD_length _)) ?_
           refine AOps_nil ?_
           refine AU_all [6, 10] (by kernel_rfl) rfl (allc ?_ (allc ?_ (fun _ h => nomatch h)))
           ·refine US_of 6 rfl rfl ?_
            refine AOps_q 49 _ rfl rfl rfl (QOp_load_eptr _ _ _ _ _ _ _ rfl Try.isAgg2 rfl rfl (intsD_get _ _ 0 (by omega))) ?_
            refine AOps_nil ?_
            refine AU_all [10] (by kernel_rfl) rfl (allc ?_ (fun _ h => nomatch h))
            ·refine US_of 10 rfl rfl ?_
             refine AOps_call [0] 53 _ _ _ _ _ _ _ _ _ _ rfl rfl rfl rfl rfl rfl rfl Try.call77 rfl (nodupB_sound _ rfl) rfl rfl rfl (spec_l01Next_ac r16.2 x14.k _ hr19) ?_
             rintro _ _ ⟨rfl, rfl⟩
             refine ⟨(allc (fun _ _ => trivial) (fun _ h => nomatch h)), (allc (trivial) (fun _ h => nomatch h)), AOps_as 53 (v' := iV r19.1) (H' := [.box (srcD r19.2), .box (colD Col.zero), .box (colD x14), .vec 0 (intsD r16.1)]) rfl rfl ?_⟩
             refine AOps_nil ?_
             refine AU_all [11] (by kernel_rfl) rfl (allc ?_ (fun _ h => nomatch h))
             ·refine US_of 11 rfl rfl ?_
              refine AOps_call [] 54 _ _ _ _ _ _ _ _ _ _ rfl rfl rfl rfl rfl rfl rfl Try.call223 rfl (nodupB_sound _ rfl) rfl rfl rfl (spec_l01With_ac x14 (r16.1.getD (0 : Int).toNat 0) (r16.1.getD (1 : Int).toNat 0) r19.1 _ hr20) ?_
              rintro _ _ ⟨rfl, rfl⟩
              refine ⟨(fun _ h => nomatch h), (allc (trivial) (fun _ h => nomatch h)), AOps_as 54 (v' := .d (.agg (colD r20))) (H' := [.box (srcD r19.2), .box (colD Col.zero), .box (colD x14), .vec 0 (intsD r16.1)]) rfl rfl ?_⟩
              refine AOps_nil ?_
              refine AU_all [12] (by kernel_rfl) rfl (allc ?_ (fun _ h => nomatch h))
              ·refine US_of 12 rfl rfl ?_
               refine AOps_store _ _ _ _ _ _ (colD _) _ _ rfl rfl rfl rfl rfl rfl rfl (colD_one _) (by rw [colD_length]; exact Try.sizeOf29) (by rw [colD_length, colD_length]; decide) (colD_whole _ _) ?_
               refine AOps_nil ?_
               refine AU_done (by kernel_rfl) ?_
               exact ⟨rfl, Weak_keep 1 hm [0, 2, 4, 6] [1, 2] _ _ rfl rfl rfl⟩
           ·refine US_of 10 rfl rfl ?_
            refine AOps_call [0] 53 _ _ _ _ _ _ _ _ _ _ rfl rfl rfl rfl rfl rfl rfl Try.call77 rfl (nodupB_sound _ rfl) rfl rfl rfl (spec_l01Next_ac r16.2 x14.k _ hr19) ?_
            rintro _ _ ⟨rfl, rfl⟩
            refine ⟨(allc (fun _ _ => trivial) (fun _ h => nomatch h)), (allc (trivial) (fun _ h => nomatch h)), AOps_as 53 (v' := iV r19.1) (H' := [.box (srcD r19.2), .box (colD Col.zero), .box (colD x14), .vec 0 (intsD r16.1)]) rfl rfl ?_⟩
            refine AOps_nil ?_
            refine AU_all [6] (by kernel_rfl) rfl (allc ?_ (fun _ h => nomatch h))
            ·refine US_of 6 rfl rfl ?_
             refine AOps_q 49 _ rfl rfl rfl (QOp_load_eptr _ _ _ _ _ _ _ rfl Try.isAgg2 rfl rfl (intsD_get _ _ 0 (by omega))) ?_
             refine AOps_nil ?_
             refine AU_all [11] (by kernel_rfl) rfl (allc ?_ (fun _ h => nomatch h))
             ·refine US_of 11 rfl rfl ?_
              refine AOps_call [] 54 _ _ _ _ _ _ _ _ _ _ rfl rfl rfl rfl rfl rfl rfl Try.call223 rfl (nodupB_sound _ rfl) rfl rfl rfl (spec_l01With_ac x14 (r16.1.getD (0 : Int).toNat 0) (r16.1.getD (1 : Int).toNat 0) r19.1 _ hr20) ?_
              rintro _ _ ⟨rfl, rfl⟩
              refine ⟨(fun _ h => nomatch h), (allc (trivial) (fun _ h => nomatch h)), AOps_as 54 (v' := .d (.agg (colD r20))) (H' := [.box (srcD r19.2), .box (colD Col.zero), .box (colD x14), .vec 0 (intsD r16.1)]) rfl rfl ?_⟩
              refine AOps_nil ?_
              refine AU_all [12] (by kernel_rfl) rfl (allc ?_ (fun _ h => nomatch h))
              ·refine US_of 12 rfl rfl ?_
               refine AOps_store _ _ _ _ _ _ (colD _) _ _ rfl rfl rfl rfl rfl rfl rfl (colD_one _) (by rw [colD_length]; exact Try.sizeOf29) (by rw [colD_length, colD_length]; decide) (colD_whole _ _) ?_
               refine AOps_nil ?_
               refine AU_done (by kernel_rfl) ?_
               exact ⟨rfl, Weak_keep 1 hm [0, 2, 4, 6] [1, 2] _ _ rfl rfl rfl⟩
          ·refine US_of 6 rfl rfl ?_
           refine AOps_q 49 _ rfl rfl rfl (QOp_load_eptr _ _ _ _ _ _ _ rfl Try.isAgg2 rfl rfl (intsD_get _ _ 0 (by omega))) ?_
           refine AOps_nil ?_
           refine AU_all [0, 10] (by kernel_rfl) rfl (allc ?_ (allc ?_ (fun _ h => nomatch h)))
           ·refine US_of 0 rfl rfl ?_
            refine AOps_q 43 _ rfl rfl rfl (QOp_loadN_ptr _ _ _ _ _ _ _ rfl Try.isAgg29 Try.sizeOf29 rfl rfl (colD_all _) (colD_length _)) ?_
            refine AOps_nil ?_
            refine AU_all [10] (by kernel_rfl) rfl (allc ?_ (fun _ h => nomatch h))
            ·refine US_of 10 rfl rfl ?_
             refine AOps_call [0] 53 _ _ _ _ _ _ _ _ _ _ rfl rfl rfl rfl rfl rfl rfl Try.call77 rfl (nodupB_sound _ rfl) rfl rfl rfl (spec_l01Next_ac r16.2 x14.k _ hr19) ?_
             rintro _ _ ⟨rfl, rfl⟩
             refine ⟨(allc (fun _ _ => trivial) (fun _ h => nomatch h)), (allc (trivial) (fun _ h => nomatch h)), AOps_as 53 (v' := iV r19.1) (H' := [.box (srcD r19.2), .box (colD Col.zero), .box (colD x14), .vec 0 (intsD r16.1)]) rfl rfl ?_⟩
             refine AOps_nil ?_
             refine AU_all [11] (by kernel_rfl) rfl (allc ?_ (fun _ h => nomatch h))
             ·refine US_of 11 rfl rfl ?_
              refine AOps_call [] 54 _ _ _ _ _ _ _ _ _ _ rfl rfl rfl rfl rfl rfl rfl Try.call223 rfl (nodupB_sound _ rfl) rfl rfl rfl (spec_l01With_ac x14 (r16.1.getD (0 : Int).toNat 0) (r16.1.getD (1 : Int).toNat 0) r19.1 _ hr20) ?_
              rintro _ _ ⟨rfl, rfl⟩
              refine ⟨(fun _ h => nomatch h), (allc (trivial) (fun _ h => nomatch h)), AOps_as 54 (v' := .d (.agg (colD r20))) (H' := [.box (srcD r19.2), .box (colD Col.zero), .box (colD x14), .vec 0 (intsD r16.1)]) rfl rfl ?_⟩
              refine AOps_nil ?_
              refine AU_all [12] (by kernel_rfl) rfl (allc ?_ (fun _ h => nomatch h))
              ·refine US_of 12 rfl rfl ?_
               refine AOps_store _ _ _ _ _ _ (colD _) _ _ rfl rfl rfl rfl rfl rfl rfl (colD_one _) (by rw [colD_length]; exact Try.sizeOf29) (by rw [colD_length, colD_length]; decide) (colD_whole _ _) ?_
               refine AOps_nil ?_
               refine AU_done (by kernel_rfl) ?_
               exact ⟨rfl, Weak_keep 1 hm [0, 2, 4, 6] [1, 2] _ _ rfl rfl rfl⟩
           ·refine US_of 10 rfl rfl ?_
            refine AOps_call [0] 53 _ _ _ _ _ _ _ _ _ _ rfl rfl rfl rfl rfl rfl rfl Try.call77 rfl (nodupB_sound _ rfl) rfl rfl rfl (spec_l01Next_ac r16.2 x14.k _ hr19) ?_
            rintro _ _ ⟨rfl, rfl⟩
            refine ⟨(allc (fun _ _ => trivial) (fun _ h => nomatch h)), (allc (trivial) (fun _ h => nomatch h)), AOps_as 53 (v' := iV r19.1) (H' := [.box (srcD r19.2), .box (colD Col.zero), .box (colD x14), .vec 0 (intsD r16.1)]) rfl rfl ?_⟩
            refine AOps_nil ?_
            refine AU_all [0] (by kernel_rfl) rfl (allc ?_ (fun _ h => nomatch h))
            ·refine US_of 0 rfl rfl ?_
             refine AOps_q 43 _ rfl rfl rfl (QOp_loadN_ptr _ _ _ _ _ _ _ rfl Try.isAgg29 Try.sizeOf29 rfl rfl (colD_all _) (colD_length _)) ?_
             refine AOps_nil ?_
             refine AU_all [11] (by kernel_rfl) rfl (allc ?_ (fun _ h => nomatch h))
             ·refine US_of 11 rfl rfl ?_
              refine AOps_call [] 54 _ _ _ _ _ _ _ _ _ _ rfl rfl rfl rfl rfl rfl rfl Try.call223 rfl (nodupB_sound _ rfl) rfl rfl rfl (spec_l01With_ac x14 (r16.1.getD (0 : Int).toNat 0) (r16.1.getD (1 : Int).toNat 0) r19.1 _ hr20) ?_
              rintro _ _ ⟨rfl, rfl⟩
              refine ⟨(fun _ h => nomatch h), (allc (trivial) (fun _ h => nomatch h)), AOps_as 54 (v' := .d (.agg (colD r20))) (H' := [.box (srcD r19.2), .box (colD Col.zero), .box (colD x14), .vec 0 (intsD r16.1)]) rfl rfl ?_⟩
              refine AOps_nil ?_
              refine AU_all [12] (by kernel_rfl) rfl (allc ?_ (fun _ h => nomatch h))
              ·refine US_of 12 rfl rfl ?_
               refine AOps_store _ _ _ _ _ _ (colD _) _ _ rfl rfl rfl rfl rfl rfl rfl (colD_one _) (by rw [colD_length]; exact Try.sizeOf29) (by rw [colD_length, colD_length]; decide) (colD_whole _ _) ?_
               refine AOps_nil ?_
               refine AU_done (by kernel_rfl) ?_
               exact ⟨rfl, Weak_keep 1 hm [0, 2, 4, 6] [1, 2] _ _ rfl rfl rfl⟩
          ·refine US_of 10 rfl rfl ?_
           refine AOps_call [0] 53 _ _ _ _ _ _ _ _ _ _ rfl rfl rfl rfl rfl rfl rfl Try.call77 rfl (nodupB_sound _ rfl) rfl rfl rfl (spec_l01Next_ac r16.2 x14.k _ hr19) ?_
           rintro _ _ ⟨rfl, rfl⟩
           refine ⟨(allc (fun _ _ => trivial) (fun _ h => nomatch h)), (allc (trivial) (fun _ h => nomatch h)), AOps_as 53 (v' := iV r19.1) (H' := [.box (srcD r19.2), .box (colD Col.zero), .box (colD x14), .vec 0 (intsD r16.1)]) rfl rfl ?_⟩
           refine AOps_nil ?_
           refine AU_all [0, 6] (by kernel_rfl) rfl (allc ?_ (allc ?_ (fun _ h => nomatch h)))
           ·refine US_of 0 rfl rfl ?_
            refine AOps_q 43 _ rfl rfl rfl (QOp_loadN_ptr _ _ _ _ _ _ _ rfl Try.isAgg29 Try.sizeOf29 rfl rfl (colD_all _) (colD_length _)) ?_
            refine AOps_nil ?_
            refine AU_all [6] (by kernel_rfl) rfl (allc ?_ (fun _ h => nomatch h))
            ·refine US_of 6 rfl rfl ?_
             refine AOps_q 49 _ rfl rfl rfl (QOp_load_eptr _ _ _ _ _ _ _ rfl Try.isAgg2 rfl rfl (intsD_get _ _ 0 (by omega))) ?_
             refine AOps_nil ?_
             refine AU_all [11] (by kernel_rfl) rfl (allc ?_ (fun _ h => nomatch h))
             ·refine US_of 11 rfl rfl ?_
              refine AOps_call [] 54 _ _ _ _ _ _ _ _ _ _ rfl rfl rfl rfl rfl rfl rfl Try.call223 rfl (nodupB_sound _ rfl) rfl rfl rfl (spec_l01With_ac x14 (r16.1.getD (0 : Int).toNat 0) (r16.1.getD (1 : Int).toNat 0) r19.1 _ hr20) ?_
              rintro _ _ ⟨rfl, rfl⟩
              refine ⟨(fun _ h => nomatch h), (allc (trivial) (fun _ h => nomatch h)), AOps_as 54 (v' := .d (.agg (colD r20))) (H' := [.box (srcD r19.2), .box (colD Col.zero), .box (colD x14), .vec 0 (intsD r16.1)]) rfl rfl ?_⟩
              refine AOps_nil ?_
              refine AU_all [12] (by kernel_rfl) rfl (allc ?_ (fun _ h => nomatch h))
              ·refine US_of 12 rfl rfl ?_
               refine AOps_store _ _ _ _ _ _ (colD _) _ _ rfl rfl rfl rfl rfl rfl rfl (colD_one _) (by rw [colD_length]; exact Try.sizeOf29) (by rw [colD_length, colD_length]; decide) (colD_whole _ _) ?_
               refine AOps_nil ?_
               refine AU_done (by kernel_rfl) ?_
               exact ⟨rfl, Weak_keep 1 hm [0, 2, 4, 6] [1, 2] _ _ rfl rfl rfl⟩
           ·refine US_of 6 rfl rfl ?_
            refine AOps_q 49 _ rfl rfl rfl (QOp_load_eptr _ _ _ _ _ _ _ rfl Try.isAgg2 rfl rfl (intsD_get _ _ 0 (by omega))) ?_
            refine AOps_nil ?_
            refine AU_all [0] (by kernel_rfl) rfl (allc ?_ (fun _ h => nomatch h))
            ·refine US_of 0 rfl rfl ?_
             refine AOps_q 43 _ rfl rfl rfl (QOp_loadN_ptr _ _ _ _ _ _ _ rfl Try.isAgg29 Try.sizeOf29 rfl rfl (colD_all _) (colD_length _)) ?_
             refine AOps_nil ?_
             refine AU_all [11] (by kernel_rfl) rfl (allc ?_ (fun _ h => nomatch h))
             ·refine US_of 11 rfl rfl ?_
              refine AOps_call [] 54 _ _ _ _ _ _ _ _ _ _ rfl rfl rfl rfl rfl rfl rfl Try.call223 rfl (nodupB_sound _ rfl) rfl rfl rfl (spec_l01With_ac x14 (r16.1.getD (0 : Int).toNat 0) (r16.1.getD (1 : Int).toNat 0) r19.1 _ hr20) ?_
              rintro _ _ ⟨rfl, rfl⟩
              refine ⟨(fun _ h => nomatch h), (allc (trivial) (fun _ h => nomatch h)), AOps_as 54 (v' := .d (.agg (colD r20))) (H' := [.box (srcD r19.2), .box (colD Col.zero), .box (colD x14), .vec 0 (intsD r16.1)]) rfl rfl ?_⟩
              refine AOps_nil ?_
              refine AU_all [12] (by kernel_rfl) rfl (allc ?_ (fun _ h => nomatch h))
              ·refine US_of 12 rfl rfl ?_
               refine AOps_store _ _ _ _ _ _ (colD _) _ _ rfl rfl rfl rfl rfl rfl rfl (colD_one _) (by rw [colD_length]; exact Try.sizeOf29) (by rw [colD_length, colD_length]; decide) (colD_whole _ _) ?_
               refine AOps_nil ?_
               refine AU_done (by kernel_rfl) ?_
               exact ⟨rfl, Weak_keep 1 hm [0, 2, 4, 6] [1, 2] _ _ rfl rfl rfl⟩
         ·refine US_of 6 rfl rfl ?_
          refine AOps_q 49 _ rfl rfl rfl (QOp_load_eptr _ _ _ _ _ _ _ rfl Try.isAgg2 rfl rfl (intsD_get _ _ 0 (by omega))) ?_
          refine AOps_nil ?_
          refine AU_all [0, 3, 10] (by kernel_rfl) rfl (allc ?_ (allc ?_ (allc ?_ (fun _ h => nomatch h))))
          ·refine US_of 0 rfl rfl ?_
           refine AOps_q 43 _ rfl rfl rfl (QOp_loadN_ptr _ _ _ _ _ _ _ rfl Try.isAgg29 Try.sizeOf29 rfl rfl (colD_all _) (colD_length _)) ?_
           refine AOps_nil ?_
           refine AU_all [3, 10] (by kernel_rfl) rfl (allc ?_ (allc ?_ (fun _ h => nomatch h)))
           ·refine US_of 3 rfl rfl ?_
            refine AOps_q 46 _ rfl rfl rfl (QOp_load_eptr _ _ _ _ _ _ _ rfl Try.isAgg2 rfl rfl (intsD_get _ _ 0 (by omega))) ?_
            refine AOps_nil ?_
            refine AU_all [10] (by kernel_rfl) rfl (allc ?_ (fun _ h => nomatch h))
            ·refine US_of 10 rfl rfl ?_
             refine AOps_call [0] 53 _ _ _ _ _ _ _ _ _ _ rfl rfl rfl rfl rfl rfl rfl Try.call77 rfl (nodupB_sound _ rfl) rfl rfl rfl (spec_l01Next_ac r16.2 x14.k _ hr19) ?_
             rintro _ _ ⟨rfl, rfl⟩
             refine ⟨(allc (fun _ _ => trivial) (fun _ h => nomatch h)), (allc (trivial) (fun _ h => nomatch h)), AOps_as 53 (v' := iV r19.1) (H' := [.box (srcD r19.2), .box (colD Col.zero), .box (colD x14), .vec 0 (intsD r16.1)]) rfl rfl ?_⟩
             refine AOps_nil ?_
             refine AU_all [11] (by kernel_rfl) rfl (allc ?_ (fun _ h => nomatch h))
             ·refine US_of 11 rfl rfl ?_
              refine AOps_call [] 54 _ _ _ _ _ _ _ _ _ _ rfl rfl rfl rfl rfl rfl rfl Try.call223 rfl (nodupB_sound _ rfl) rfl rfl rfl (spec_l01With_ac x14 (r16.1.getD (0 : Int).toNat 0) (r16.1.getD (1 : Int).toNat 0) r19.1 _ hr20) ?_
              rintro _ _ ⟨rfl, rfl⟩
              refine ⟨(fun _ h => nomatch h), (allc (trivial) (fun _ h => nomatch h)), AOps_as 54 (v' := .d (.agg (colD r20))) (H' := [.box (srcD r19.2), .box (colD Col.zero), .box (colD x14), .vec 0 (intsD r16.1)]) rfl rfl ?_⟩
              refine AOps_nil ?_
              refine AU_all [12] (by kernel_rfl) rfl (allc ?_ (fun _ h => nomatch h))
              ·refine US_of 12 rfl rfl ?_
               refine AOps_store _ _ _ _ _ _ (colD _) _ _ rfl rfl rfl rfl rfl rfl rfl (colD_one _) (by rw [colD_length]; exact Try.sizeOf29) (by rw [colD_length, colD_length]; decide) (colD_whole _ _) ?_
               refine AOps_nil ?_
               refine AU_done (by kernel_rfl) ?_
               exact ⟨rfl, Weak_keep 1 hm [0, 2, 4, 6] [1, 2] _ _ rfl rfl rfl⟩
           ·refine US_of 10 rfl rfl ?_
            refine AOps_call [0] 53 _ _ _ _ _ _ _ _ _ _ rfl rfl rfl rfl rfl rfl rfl Try.call77 rfl (nodupB_sound _ rfl) rfl rfl rfl (spec_l01Next_ac r16.2 x14.k _ hr19) ?_
            rintro _ _ ⟨rfl, rfl⟩
            refine ⟨(allc (fun _ _ => trivial) (fun _ h => nomatch h)), (allc (trivial) (fun _ h => nomatch h)), AOps_as 53 (v' := iV r19.1) (H' := [.box (srcD r19.2), .box (colD Col.zero), .box (colD x14), .vec 0 (intsD r16.1)]) rfl rfl ?_⟩
            refine AOps_nil ?_
            refine AU_all [3] (by kernel_rfl) rfl (allc ?_ (fun _ h => nomatch h))
            ·refine US_of 3 rfl rfl ?_
             refine AOps_q 46 _ rfl rfl rfl (QOp_load_eptr _ _ _ _ _ _ _ rfl Try.isAgg2 rfl rfl (intsD_get _ _ 0 (by omega))) ?_
             refine AOps_nil ?_
             refine AU_all [11] (by kernel_rfl) rfl (allc ?_ (fun _ h => nomatch h))
             ·refine US_of 11 rfl rfl ?_
              refine AOps_call [] 54 _ _ _ _ _ _ _ _ _ _ rfl rfl rfl rfl rfl rfl rfl Try.call223 rfl (nodupB_sound _ rfl) rfl rfl rfl (spec_l01With_ac x14 (r16.1.getD (0 : Int).toNat 0) (r16.1.getD (1 : Int).toNat 0) r19.1 _ hr20) ?_
              rintro _ _ ⟨rfl, rfl⟩
              refine ⟨(fun _ h => nomatch h), (allc (trivial) (fun _ h => nomatch h)), AOps_as 54 (v' := .d (.agg (colD r20))) (H' := [.box (srcD r19.2), .box (colD Col.zero), .box (colD x14), .vec 0 (intsD r16.1)]) rfl rfl ?_⟩
              refine AOps_nil ?_
              refine AU_all [12] (by kernel_rfl) rfl (allc ?_ (fun _ h => nomatch h))
              ·refine US_of 12 rfl rfl ?_
               refine AOps_store _ _ _ _ _ _ (colD _) _ _ rfl rfl rfl rfl rfl rfl rfl (colD_one _) (by rw [colD_length]; exact Try.sizeOf29) (by rw [colD_length, colD_length]; decide) (colD_whole _ _) ?_
               refine AOps_nil ?_
               refine AU_done (by kernel_rfl) ?_
               exact ⟨rfl, Weak_keep 1 hm [0, 2, 4, 6] [1, 2] _ _ rfl rfl rfl⟩
          ·refine US_of 3 rfl rfl ?_
           refine AOps_q 46 _ rfl rfl rfl (QOp_load_eptr _ _ _ _ _ _ _ rfl Try.isAgg2 rfl rfl (intsD_get _ _ 0 (by omega))) ?_
           refine AOps_nil ?_
           refine AU_all [0, 10] (by kernel_rfl) rfl (allc ?_ (allc ?_ (fun _ h => nomatch h)))
           ·refine US_of 0 rfl rfl ?_
            refine AOps_q 43 _ rfl rfl rfl (QOp_loadN_ptr _ _ _ _ _ _ _ rfl Try.isAgg29 Try.sizeOf29 rfl rfl (colD_all _) (colD_length _)) ?_
            refine AOps_nil ?_
            refine AU_all [10] (by kernel_rfl) rfl (allc ?_ (fun _ h => nomatch h))
            ·refine US_of 10 rfl rfl ?_
             refine AOps_call [0] 53 _ _ _ _ _ _ _ _ _ _ rfl rfl rfl rfl rfl rfl rfl Try.call77 rfl (nodupB_sound _ rfl) rfl rfl rfl (spec_l01Next_ac r16.2 x14.k _ hr19) ?_
             rintro _ _ ⟨rfl, rfl⟩
             refine ⟨(allc (fun _ _ => trivial) (fun _ h => nomatch h)), (allc (trivial) (fun _ h => nomatch h)), AOps_as 53 (v' := iV r19.1) (H' := [.box (srcD r19.2), .box (colD Col.zero), .box (colD x14), .vec 0 (intsD r16.1)]) rfl rfl ?_⟩
             refine AOps_nil ?_
             refine AU_all [11] (by kernel_rfl) rfl (allc ?_ (fun _ h => nomatch h))
             ·refine US_of 11 rfl rfl ?_
              refine AOps_call [] 54 _ _ _ _ _ _ _ _ _ _ rfl rfl rfl rfl rfl rfl rfl Try.call223 rfl (nodupB_sound _ rfl) rfl rfl rfl (spec_l01With_ac x14 (r16.1.getD (0 : Int).toNat 0) (r16.1.getD (1 : Int).toNat 0) r19.1 _ hr20) ?_
              rintro _ _ ⟨rfl, rfl⟩
              refine ⟨(fun _ h => nomatch h), (allc (trivial) (fun _ h => nomatch h)), AOps_as 54 (v' := .d (.agg (colD r20))) (H' := [.box (srcD r19.2), .box (colD Col.zero), .box (colD x14), .vec 0 (intsD r16.1)]) rfl rfl ?_⟩
              refine AOps_nil ?_
              refine AU_all [12] (by kernel_rfl) rfl (allc ?_ (fun _ h => nomatch h))
              ·refine US_of 12 rfl rfl ?_
               refine AOps_store _ _ _ _ _ _ (colD _) _ _ rfl rfl rfl rfl rfl rfl rfl (colD_one _) (by rw [colD_length]; exact Try.sizeOf29) (by rw [colD_length, colD_length]; decide) (colD_whole _ _) ?_
               refine AOps_nil ?_
               refine AU_done (by kernel_rfl) ?_
               exact ⟨rfl, Weak_keep 1 hm [0, 2, 4, 6] [1, 2] _ _ rfl rfl rfl⟩
           ·refine US_of 10 rfl rfl ?_
            refine AOps_call [0] 53 _ _ _ _ _ _ _ _ _ _ rfl rfl rfl rfl rfl rfl rfl Try.call77 rfl (nodupB_sound _ rfl) rfl rfl rfl (spec_l01Next_ac r16.2 x14.k _ hr19) ?_
            rintro _ _ ⟨rfl, rfl⟩
            refine ⟨(allc (fun _ _ => trivial) (fun _ h => nomatch h)), (allc (trivial) (fun _ h => nomatch h)), AOps_as 53 (v' := iV r19.1) (H' := [.box (srcD r19.2), .box (colD Col.zero), .box (colD x14), .vec 0 (intsD r16.1)]) rfl rfl ?_⟩
            refine AOps_nil ?_
            refine AU_all [0] (by kernel_rfl) rfl (allc ?_ (fun _ h => nomatch h))
            ·refine US_of 0 rfl rfl ?_
             refine AOps_q 43 _ rfl rfl rfl (QOp_loadN_ptr _ _ _ _ _ _ _ rfl Try.isAgg29 Try.sizeOf29 rfl rfl (colD_all _) (colD_length _)) ?_
             refine AOps_nil ?_
             refine AU_all [11] (by kernel_rfl) rfl (allc ?_ (fun _ h => nomatch h))
             ·refine US_of 11 rfl rfl ?_
              refine AOps_call [] 54 _ _ _ _ _ _ _ _ _ _ rfl rfl rfl rfl rfl rfl rfl Try.call223 rfl (nodupB_sound _ rfl) rfl rfl rfl (spec_l01With_ac x14 (r16.1.getD (0 : Int).toNat 0) (r16.1.getD (1 : Int).toNat 0) r19.1 _ hr20) ?_
              rintro _ _ ⟨rfl, rfl⟩
              refine ⟨(fun _ h => nomatch h), (allc (trivial) (fun _ h => nomatch h)), AOps_as 54 (v' := .d (.agg (colD r20))) (H' := [.box (srcD r19.2), .box (colD Col.zero), .box (colD x14), .vec 0 (intsD r16.1)]) rfl rfl ?_⟩
              refine AOps_nil ?_
              refine AU_all [12] (by kernel_rfl) rfl (allc ?_ (fun _ h => nomatch h))
              ·refine US_of 12 rfl rfl ?_
               refine AOps_store _ _ _ _ _ _ (colD _) _ _ rfl rfl rfl rfl rfl rfl rfl (colD_one _) (by rw [colD_length]; exact Try.sizeOf29) (by rw [colD_length, colD_length]; decide) (colD_whole _ _) ?_
               refine AOps_nil ?_
               refine AU_done (by kernel_rfl) ?_
               exact ⟨rfl, Weak_keep 1 hm [0, 2, 4, 6] [1, 2] _ _ rfl rfl rfl⟩
          ·refine US_of 10 rfl rfl ?_
           refine AOps_call [0] 53 _ _ _ _ _ _ _ _ _ _ rfl rfl rfl rfl rfl rfl rfl Try.call77 rfl (nodupB_sound _ rfl) rfl rfl rfl (spec_l01Next_ac r16.2 x14.k _ hr19) ?_
           rintro _ _ ⟨rfl, rfl⟩
           refine ⟨(allc (fun _ _ => trivial) (fun _ h => nomatch h)), (allc (trivial) (fun _ h => nomatch h)), AOps_as 53 (v' := iV r19.1) (H' := [.box (srcD r19.2), .box (colD Col.zero), .box (colD x14), .vec 0 (intsD r16.1)]) rfl rfl ?_⟩
           refine AOps_nil ?_
           refine AU_all [0, 3] (by kernel_rfl) rfl (allc ?_ (allc ?_ (fun _ h => nomatch h)))
           ·refine US_of 0 rfl rfl ?_
            refine AOps_q 43 _ rfl rfl rfl (QOp_loadN_ptr _ _ _ _ _ _ _ rfl Try.isAgg29 Try.sizeOf29 rfl rfl (colD_all _) (colD_length _)) ?_
            refine AOps_nil ?_
            refine AU_all [3] (by kernel_rfl) rfl (allc ?_ (fun _ h => nomatch h))
            ·refine US_of 3 rfl rfl ?_
             refine AOps_q 46 _ rfl rfl rfl (QOp_load_eptr _ _ _ _ _ _ _ rfl Try.isAgg2 rfl rfl (intsD_get _ _ 0 (by omega))) ?_
             refine AOps_nil ?_
             refine AU_all [11] (by kernel_rfl) rfl (allc ?_ (fun _ h => nomatch h))
             ·refine US_of 11 rfl rfl ?_
              refine AOps_call [] 54 _ _ _ _ _ _ _ _ _ _ rfl rfl rfl rfl rfl rfl rfl Try.call223 rfl (nodupB_sound _ rfl) rfl rfl rfl (spec_l01With_ac x14 (r16.1.getD (0 : Int).toNat 0) (r16.1.getD (1 : Int).toNat 0) r19.1 _ hr20) ?_
              rintro _ _ ⟨rfl, rfl⟩
              refine ⟨(fun _ h => nomatch h), (allc (trivial) (fun _ h => nomatch h)), AOps_as 54 (v' := .d (.agg (colD r20))) (H' := [.box (srcD r19.2), .box (colD Col.zero), .box (colD x14), .vec 0 (intsD r16.1)]) rfl rfl ?_⟩
              refine AOps_nil ?_
              refine AU_all [12] (by kernel_rfl) rfl (allc ?_ (fun _ h => nomatch h))
              ·refine US_of 12 rfl rfl ?_
               refine AOps_store _ _ _ _ _ _ (colD _) _ _ rfl rfl rfl rfl rfl rfl rfl (colD_one _) (by rw [colD_length]; exact Try.sizeOf29) (by rw [colD_length, colD_length]; decide) (colD_whole _ _) ?_
               refine AOps_nil ?_
               refine AU_done (by kernel_rfl) ?_
               exact ⟨rfl, Weak_keep 1 hm [0, 2, 4, 6] [1, 2] _ _ rfl rfl rfl⟩
           ·refine US_of 3 rfl rfl ?_
            refine AOps_q 46 _ rfl rfl rfl (QOp_load_eptr _ _ _ _ _ _ _ rfl Try.isAgg2 rfl rfl (intsD_get _ _ 0 (by omega))) ?_
            refine AOps_nil ?_
            refine AU_all [0] (by kernel_rfl) rfl (allc ?_ (fun _ h => nomatch h))
            ·refine US_of 0 rfl rfl ?_
             refine AOps_q 43 _ rfl rfl rfl (QOp_loadN_ptr _ _ _ _ _ _ _ rfl Try.isAgg29 Try.sizeOf29 rfl rfl (colD_all _) (colD_length _)) ?_
             refine AOps_nil ?_
             refine AU_all [11] (by kernel_rfl) rfl (allc ?_ (fun _ h => nomatch h))
             ·refine US_of 11 rfl rfl ?_
              refine AOps_call [] 54 _ _ _ _ _ _ _ _ _ _ rfl rfl rfl rfl rfl rfl rfl Try.call223 rfl (nodupB_sound _ rfl) rfl rfl rfl (spec_l01With_ac x14 (r16.1.getD (0 : Int).toNat 0) (r16.1.getD (1 : Int).toNat 0) r19.1 _ hr20) ?_
              rintro _ _ ⟨rfl, rfl⟩
              refine ⟨(fun _ h => nomatch h), (allc (trivial) (fun _ h => nomatch h)), AOps_as 54 (v' := .d (.agg (colD r20))) (H' := [.box (srcD r19.2), .box (colD Col.zero), .box (colD x14), .vec 0 (intsD r16.1)]) rfl rfl ?_⟩
              refine AOps_nil ?_
              refine AU_all [12] (by kernel_rfl) rfl (allc ?_ (fun _ h => nomatch h))
              ·refine US_of 12 rfl rfl ?_
               refine AOps_store _ _ _ _ _ _ (colD _) _ _ rfl rfl rfl rfl rfl rfl rfl (colD_one _) (by rw [colD_length]; exact Try.sizeOf29) (by rw [colD_length, colD_length]; decide) (colD_whole _ _) ?_
               refine AOps_nil ?_
               refine AU_done (by kernel_rfl) ?_
               exact ⟨rfl, Weak_keep 1 hm [0, 2, 4, 6] [1, 2] _ _ rfl rfl rfl⟩
         ·refine US_of 10 rfl rfl ?_
          refine AOps_call [0] 53 _ _ _ _ _ _ _ _ _ _ rfl rfl rfl rfl rfl rfl rfl Try.call77 rfl (nodupB_sound _ rfl) rfl rfl rfl (spec_l01Next_ac r16.2 x14.k _ hr19) ?_
          rintro _ _ ⟨rfl, rfl⟩
          refine ⟨(allc (fun _ _ => trivial) (fun _ h => nomatch h)), (allc (trivial) (fun _ h => nomatch h)), AOps_as 53 (v' := iV r19.1) (H' := [.box (srcD r19.2), .box (colD Col.zero), .box (colD x14), .vec 0 (intsD r16.1)]) rfl rfl ?_⟩
          refine AOps_nil ?_
          refine AU_all [0, 3, 6] (by kernel_rfl) rfl (allc ?_ (allc ?_ (allc ?_ (fun _ h => nomatch h))))
          ·refine US_of 0 rfl rfl ?_
           refine AOps_q 43 _ rfl rfl rfl (QOp_loadN_ptr _ _ _ _ _ _ _ rfl Try.isAgg29 Try.sizeOf29 rfl rfl (colD_all _) (colD_length _)) ?_
           refine AOps_nil ?_
           refine AU_all [3, 6] (by kernel_rfl) rfl (allc ?_ (allc ?_ (fun _ h => nomatch h)))
           ·refine US_of 3 rfl rfl ?_
            refine AOps_q 46 _ rfl rfl rfl (QOp_load_eptr _ _ _ _ _ _ _ rfl Try.isAgg2 rfl rfl (intsD_get _ _ 0 (by omega))) ?_
            refine AOps_nil ?_
            refine AU_all [6] (by kernel_rfl) rfl (allc ?_ (fun _ h => nomatch h))
            ·refine US_of 6 rfl rfl ?_
             refine AOps_q 49 _ rfl rfl rfl (QOp_load_eptr _ _ _ _ _ _ _ rfl Try.isAgg2 rfl rfl (intsD_get _ _ 0 (by omega))) ?_
             refine AOps_nil ?_
             refine AU_all [11] (by kernel_rfl) rfl (allc ?_ (fun _ h => nomatch h))
             ·refine US_of 11 rfl rfl ?_
              refine AOps_call [] 54 _ _ _ _ _ _ _ _ _ _ rfl rfl rfl rfl rfl rfl rfl Try.call223 rfl (nodupB_sound _ rfl) rfl rfl rfl (spec_l01With_ac x14 (r16.1.getD (0 : Int).toNat 0) (r16.1.getD (1 : Int).toNat 0) r19.1 _ hr20) ?_
              rintro _ _ ⟨rfl, rfl⟩
              refine ⟨(fun _ h => nomatch h), (allc (trivial) (fun _ h => nomatch h)), AOps_as 54 (v' := .d (.agg (colD r20))) (H' := [.box (srcD r19.2), .box (colD Col.zero), .box (colD x14), .vec 0 (intsD r16.1)]) rfl rfl ?_⟩
              refine AOps_nil ?_
              refine AU_all [12] (by kernel_rfl) rfl (allc ?_ (fun _ h => nomatch h))
              ·refine US_of 12 rfl rfl ?_
               refine AOps_store _ _ _ _ _ _ (colD _) _ _ rfl rfl rfl rfl rfl rfl rfl (colD_one _) (by rw [colD_length]; exact Try.sizeOf29) (by rw [colD_length, colD_length]; decide) (colD_whole _ _) ?_
               refine AOps_nil ?_
               refine AU_done (by kernel_rfl) ?_
               exact ⟨rfl, Weak_keep 1 hm [0, 2, 4, 6] [1, 2] _ _ rfl rfl rfl⟩
           ·refine US_of 6 rfl rfl ?_
            refine AOps_q 49 _ rfl rfl rfl (QOp_load_eptr _ _ _ _ _ _ _ rfl Try.isAgg2 rfl rfl (intsD_get _ _ 0 (by omega))) ?_
            refine AOps_nil ?_
            refine AU_all [3] (by kernel_rfl) rfl (allc ?_ (fun _ h => nomatch h))
            ·refine US_of 3 rfl rfl ?_
             refine AOps_q 46 _ rfl rfl rfl (QOp_load_eptr _ _ _ _ _ _ _ rfl Try.isAgg2 rfl rfl (intsD_get _ _ 0 (by omega))) ?_
             refine AOps_nil ?_
             refine AU_all [11] (by kernel_rfl) rfl (allc ?_ (fun _ h => nomatch h))
             ·refine US_of 11 rfl rfl ?_
              refine AOps_call [] 54 _ _ _ _ _ _ _ _ _ _ rfl rfl rfl rfl rfl rfl rfl Try.call223 rfl (nodupB_sound _ rfl) rfl rfl rfl (spec_l01With_ac x14 (r16.1.getD (0 : Int).toNat 0) (r16.1.getD (1 : Int).toNat 0) r19.1 _ hr20) ?_
              rintro _ _ ⟨rfl, rfl⟩
              refine ⟨(fun _ h => nomatch h), (allc (trivial) (fun _ h => nomatch h)), AOps_as 54 (v' := .d (.agg (colD r20))) (H' := [.box (srcD r19.2), .box (colD Col.zero), .box (colD x14), .vec 0 (intsD r16.1)]) rfl rfl ?_⟩
              refine AOps_nil ?_
              refine AU_all [12] (by kernel_rfl) rfl (allc ?_ (fun _ h => nomatch h))
              ·refine US_of 12 rfl rfl ?_
               refine AOps_store _ _ _ _ _ _ (colD _) _ _ rfl rfl rfl rfl rfl rfl rfl (colD_one _) (by rw [colD_length]; exact Try.sizeOf29) (by rw [colD_length, colD_length]; decide) (colD_whole _ _) ?_
               refine AOps_nil ?_
               refine AU_done (by kernel_rfl) ?_
               exact ⟨rfl, Weak_keep 1 hm [0, 2, 4, 6] [1, 2] _ _ rfl rfl rfl⟩
          ·refine US_of 3 rfl rfl ?_
           refine AOps_q 46 _ rfl rfl rfl (QOp_load_eptr _ _ _ _ _ _ _ rfl Try.isAgg2 rfl rfl (intsD_get _ _ 0 (by omega))) ?_
           refine AOps_nil ?_
           refine AU_all [0, 6] (by kernel_rfl) rfl (allc ?_ (allc ?_ (fun _ h => nomatch h)))
           ·refine US_of 0 rfl rfl ?_
            refine AOps_q 43 _ rfl rfl rfl (QOp_loadN_ptr _ _ _ _ _ _ _ rfl Try.isAgg29 Try.sizeOf29 rfl rfl (colD_all _) (colD_length _)) ?_
            refine AOps_nil ?_
            refine AU_all [6] (by kernel_rfl) rfl (allc ?_ (fun _ h => nomatch h))
            ·refine US_of 6 rfl rfl ?_
             refine AOps_q 49 _ rfl rfl rfl (QOp_load_eptr _ _ _ _ _ _ _ rfl Try.isAgg2 rfl rfl (intsD_get _ _ 0 (by omega))) ?_
             refine AOps_nil ?_
             refine AU_all [11] (by kernel_rfl) rfl (allc ?_ (fun _ h => nomatch h))
             ·refine US_of 11 rfl rfl ?_
              refine AOps_call [] 54 _ _ _ _ _ _ _ _ _ _ rfl rfl rfl rfl rfl rfl rfl Try.call223 rfl (nodupB_sound _ rfl) rfl rfl rfl (spec_l01With_ac x14 (r16.1.getD (0 : Int).toNat 0) (r16.1.getD (1 : Int).toNat 0) r19.1 _ hr20) ?_
              rintro _ _ ⟨rfl, rfl⟩
              refine ⟨(fun _ h => nomatch h), (allc (trivial) (fun _ h => nomatch h)), AOps_as 54 (v' := .d (.agg (colD r20))) (H' := [.box (srcD r19.2), .box (colD Col.zero), .box (colD x14), .vec 0 (intsD r16.1)]) rfl rfl ?_⟩
              refine AOps_nil ?_
              refine AU_all [12] (by kernel_rfl) rfl (allc ?_ (fun _ h => nomatch h))
              ·refine US_of 12 rfl rfl ?_
               refine AOps_store _ _ _ _ _ _ (colD _) _ _ rfl rfl rfl rfl rfl rfl rfl (colD_one _) (by rw [colD_length]; exact Try.sizeOf29) (by rw [colD_length, colD_length]; decide) (colD_whole _ _) ?_
               refine AOps_nil ?_
               refine AU_done (by kernel_rfl) ?_
               exact ⟨rfl, Weak_keep 1 hm [0, 2, 4, 6] [1, 2] _ _ rfl rfl rfl⟩
           ·refine US_of 6 rfl rfl ?_
            refine AOps_q 49 _ rfl rfl rfl (QOp_load_eptr _ _ _ _ _ _ _ rfl Try.isAgg2 rfl rfl (intsD_get _ _ 0 (by omega))) ?_
            refine AOps_nil ?_
            refine AU_all [0] (by kernel_rfl) rfl (allc ?_ (fun _ h => nomatch h))
            ·refine US_of 0 rfl rfl ?_
             refine AOps_q 43 _ rfl rfl rfl (QOp_loadN_ptr _ _ _ _ _ _ _ rfl Try.isAgg29 Try.sizeOf29 rfl rfl (colD_all _) (colD_length _)) ?_
             refine AOps_nil ?_
             refine AU_all [11] (by kernel_rfl) rfl (allc ?_ (fun _ h => nomatch h))
             ·refine US_of 11 rfl rfl ?_
              refine AOps_call [] 54 _ _ _ _ _ _ _ _ _ _ rfl rfl rfl rfl rfl rfl rfl Try.call223 rfl (nodupB_sound _ rfl) rfl rfl rfl (spec_l01With_ac x14 (r16.1.getD (0 : Int).toNat 0) (r16.1.getD (1 : Int).toNat 0) r19.1 _ hr20) ?_
              rintro _ _ ⟨rfl, rfl⟩
              refine ⟨(fun _ h => nomatch h), (allc (trivial) (fun _ h => nomatch h)), AOps_as 54 (v' := .d (.agg (colD r20))) (H' := [.box (srcD r19.2), .box (colD Col.zero), .box (colD x14), .vec 0 (intsD r16.1)]) rfl rfl ?_⟩
              refine AOps_nil ?_
              refine AU_all [12] (by kernel_rfl) rfl (allc ?_ (fun _ h => nomatch h))
              ·refine US_of 12 rfl rfl ?_
               refine AOps_store _ _ _ _ _ _ (colD _) _ _ rfl rfl rfl rfl rfl rfl rfl (colD_one _) (by rw [colD_length]; exact Try.sizeOf29) (by rw [colD_length, colD_length]; decide) (colD_whole _ _) ?_
               refine AOps_nil ?_
               refine AU_done (by kernel_rfl) ?_
               exact ⟨rfl, Weak_keep 1 hm [0, 2, 4, 6] [1, 2] _ _ rfl rfl rfl⟩
          ·refine US_of 6 rfl rfl ?_
           refine AOps_q 49 _ rfl rfl rfl (QOp_load_eptr _ _ _ _ _ _ _ rfl Try.isAgg2 rfl rfl (intsD_get _ _ 0 (by omega))) ?_
           refine AOps_nil ?_
           refine AU_all [0, 3] (by kernel_rfl) rfl (allc ?_ (allc ?_ (fun _ h => nomatch h)))
           ·refine US_of 0 rfl rfl ?_
            refine AOps_q 43 _ rfl rfl rfl (QOp_loadN_ptr _ _ _ _ _ _ _ rfl Try.isAgg29 Try.sizeOf29 rfl rfl (colD_all _) (colD_length _)) ?_
            refine AOps_nil ?_
            refine AU_all [3] (by kernel_rfl) rfl (allc ?_ (fun _ h => nomatch h))
            ·refine US_of 3 rfl rfl ?_
             refine AOps_q 46 _ rfl rfl rfl (QOp_load_eptr _ _ _ _ _ _ _ rfl Try.isAgg2 rfl rfl (intsD_get _ _ 0 (by omega))) ?_
             refine AOps_nil ?_
             refine AU_all [11] (by kernel_rfl) rfl (allc ?_ (fun _ h => nomatch h))
             ·refine US_of 11 rfl rfl ?_
              refine AOps_call [] 54 _ _ _ _ _ _ _ _ _ _ rfl rfl rfl rfl rfl rfl rfl Try.call223 rfl (nodupB_sound _ rfl) rfl rfl rfl (spec_l01With_ac x14 (r16.1.getD (0 : Int).toNat 0) (r16.1.getD (1 : Int).toNat 0) r19.1 _ hr20) ?_
              rintro _ _ ⟨rfl, rfl⟩
              refine ⟨(fun _ h => nomatch h), (allc (trivial) (fun _ h => nomatch h)), AOps_as 54 (v' := .d (.agg (colD r20))) (H' := [.box (srcD r19.2), .box (colD Col.zero), .box (colD x14), .vec 0 (intsD r16.1)]) rfl rfl ?_⟩
              refine AOps_nil ?_
              refine AU_all [12] (by kernel_rfl) rfl (allc ?_ (fun _ h => nomatch h))
              ·refine US_of 12 rfl rfl ?_
               refine AOps_store _ _ _ _ _ _ (colD _) _ _ rfl rfl rfl rfl rfl rfl rfl (colD_one _) (by rw [colD_length]; exact Try.sizeOf29) (by rw [colD_length, colD_length]; decide) (colD_whole _ _) ?_
               refine AOps_nil ?_
               refine AU_done (by kernel_rfl) ?_
               exact ⟨rfl, Weak_keep 1 hm [0, 2, 4, 6] [1, 2] _ _ rfl rfl rfl⟩
           ·refine US_of 3 rfl rfl ?_
            refine AOps_q 46 _ rfl rfl rfl (QOp_load_eptr _ _ _ _ _ _ _ rfl Try.isAgg2 rfl rfl (intsD_get _ _ 0 (by omega))) ?_
            refine AOps_nil ?_
            refine AU_all [0] (by kernel_rfl) rfl (allc ?_ (fun _ h => nomatch h))
            ·refine US_of 0 rfl rfl ?_
             refine AOps_q 43 _ rfl rfl rfl (QOp_loadN_ptr _ _ _ _ _ _ _ rfl Try.isAgg29 Try.sizeOf29 rfl rfl (colD_all _) (colD_length _)) ?_
             refine AOps_nil ?_
             refine AU_all [11] (by kernel_rfl) rfl (allc ?_ (fun _ h => nomatch h))
             ·refine US_of 11 rfl rfl ?_
              refine AOps_call [] 54 _ _ _ _ _ _ _ _ _ _ rfl rfl rfl rfl rfl rfl rfl Try.call223 rfl (nodupB_sound _ rfl) rfl rfl rfl (spec_l01With_ac x14 (r16.1.getD (0 : Int).toNat 0) (r16.1.getD (1 : Int).toNat 0) r19.1 _ hr20) ?_
              rintro _ _ ⟨rfl, rfl⟩
              refine ⟨(fun _ h => nomatch h), (allc (trivial) (fun _ h => nomatch h)), AOps_as 54 (v' := .d (.agg (colD r20))) (H' := [.box (srcD r19.2), .box (colD Col.zero), .box (colD x14), .vec 0 (intsD r16.1)]) rfl rfl ?_⟩
              refine AOps_nil ?_
              refine AU_all [12] (by kernel_rfl) rfl (allc ?_ (fun _ h => nomatch h))
              ·refine US_of 12 rfl rfl ?_
               refine AOps_store _ _ _ _ _ _ (colD _) _ _ rfl rfl rfl rfl rfl rfl rfl (colD_one _) (by rw [colD_length]; exact Try.sizeOf29) (by rw [colD_length, colD_length]; decide) (colD_whole _ _) ?_
               refine AOps_nil ?_
               refine AU_done (by kernel_rfl) ?_
               exact ⟨rfl, Weak_keep 1 hm [0, 2, 4, 6] [1, 2] _ _ rfl rfl rfl⟩
       refine (ACode_region ?_)
       refine AOps_q 37 _ rfl rfl rfl (QOp_move _ _ rfl rfl) ?_
       refine AOps_q 38 _ rfl rfl rfl (QOp_sub _ _ _ _ _ _ _ rfl rfl rfl) ?_
       refine AOps_q 6 _ rfl rfl rfl (QOp_assign _ _ rfl rfl) ?_
       refine AOps_nil ?_
       exact ⟨k0, _, _, Nat.lt_succ_self _, Weak_keep 1 hm [0, 2, 4, 6] [1, 2] _ _ rfl rfl rfl, _, _, _, rfl, rfl, h⟩
      ·have h := iteF hb15 h
       refine ACode_exit ?_
       cases h
       exact Weak_keep 1 hm [2, 4] [1, 2] _ _ rfl rfl rfl
    ·have h := iteF hb10 h
     refine ACode_skip ?_
     cases h
     exact Weak_keep 1 hm [2, 4] [1, 2] _ _ rfl rfl rfl
   intro E' H' hw
   refine ACode_weak hw ?_
   have h := hks21
   refine ACode_seq (ACode_region ?_)
   refine AOps_q 55 _ rfl rfl rfl (QOp_loadN_ptr _ _ _ _ _ _ _ rfl Try.isAgg29 Try.sizeOf29 rfl rfl (colD_all _) (colD_length _)) ?_
   refine AOps_store _ _ _ _ _ _ (colD _) _ _ rfl rfl rfl rfl rfl rfl rfl (colD_one _) (by rw [colD_length]; exact Try.sizeOf29) (by rw [colD_length, colD_length]; decide) (colD_whole _ _) ?_
   refine AOps_nil ?_
   refine ACode_ret ?_
   cases h
   have h := hks26
   cases h
   exact ⟨_, _, fun r a w h => ⟨r, h⟩, _, _, [], _, (.cons (ResV_agg _ _ _ _ _ _ Try.isAgg29 Try.sizeOf29 rfl rfl (colD_take _) (colD_length _)) .nil), rfl, rfl, rfl, rfl, rfl⟩
  ·have h := iteF hb2 h
   refine ACode_seq (ACode_region ?_)
   refine AOps_q 57 _ rfl rfl rfl (QOp_eql _ _ _ _ _ _ _ rfl rfl rfl) ?_
   refine AOps_q 56 _ rfl rfl rfl (QOp_assign _ _ rfl rfl) ?_
   refine AOps_nil ?_
   refine ACode_cond _ rfl (fun hb22 => ?_) (fun hb22 => ?_)
   ·have h := iteT hb22 h
    refine ACode_seq (ACode_region ?_)
    refine AOps_q 58 _ rfl rfl rfl (QOp_move _ _ rfl rfl) ?_
    refine AOps_q 59 _ rfl rfl rfl (QOp_move _ _ rfl rfl) ?_
    obtain ⟨r23, hr23, h⟩ := bindO h
    refine AOps_call [0] 60 _ _ _ _ _ _ _ _ _ _ rfl rfl rfl rfl rfl rfl rfl Try.call77 rfl (nodupB_sound _ rfl) rfl rfl rfl (spec_l01Next_ac r1.2 17 _ hr23) ?_
    rintro _ _ ⟨rfl, rfl⟩
    refine ⟨(allc (fun _ _ => trivial) (fun _ h => nomatch h)), (allc (trivial) (fun _ h => nomatch h)), AOps_as 60 (v' := iV r23.1) (H' := [.box (srcD r23.2), .box (colD Col.zero)]) rfl rfl ?_⟩
    refine AOps_q 61 _ rfl rfl rfl (QOp_add _ _ _ _ _ _ _ rfl rfl rfl) ?_
    refine AOps_q 62 _ rfl rfl rfl (QOp_move _ _ rfl rfl) ?_
    refine AOps_buildSlice 63 _ _ _ [_, _, _, _] (intsD ([2, 2, 3, 4])) _ rfl rfl rfl rfl rfl (by decide) Try.underlying24 Try.sizeOf2 (zero_of Try.typeInfo2 rfl) rfl rfl (intsD_one _) ?_
    refine AOps_freezeL [63] 2 0 _ (allc (rfl) (fun _ h => nomatch h)) rfl ?_
    obtain ⟨r24, hr24, h⟩ := bindO h
    refine AOps_call [0] 64 _ _ _ _ _ _ _ _ _ _ rfl rfl rfl rfl rfl rfl rfl Try.call125 rfl (nodupB_sound _ rfl) rfl rfl rfl (spec_l01Pick_ac r23.2 ([2, 2, 3, 4]) _ hr24) ?_
    rintro _ _ ⟨rfl, rfl⟩
    refine ⟨(allc (fun _ _ => trivial) (fun _ h => nomatch h)), (allc (trivial) (fun _ h => nomatch h)), AOps_as 64 (v' := iV r24.1) (H' := [.box (srcD r24.2), .box (colD Col.zero), .gone]) rfl rfl ?_⟩
    obtain ⟨r25, hr25, h⟩ := bindO h
    refine AOps_call [0] 65 _ _ _ _ _ _ _ _ _ _ rfl rfl rfl rfl rfl rfl rfl Try.call224 rfl (nodupB_sound _ rfl) rfl rfl rfl (spec_l01DrawOf_ac k r24.2 (w64 (1 + r23.1)) r24.1 _ hr25) ?_
    rintro _ _ ⟨rfl, rfl⟩
    refine ⟨(allc (fun _ _ => trivial) (fun _ h => nomatch h)), (allc (trivial) (fun _ h => nomatch h)), AOps_as 65 (v' := .d (.agg (colD r25.1))) (H' := [.box (srcD r25.2), .box (colD Col.zero), .gone]) rfl rfl ?_⟩
    refine AOps_store _ _ _ _ _ _ (colD _) _ _ rfl rfl rfl rfl rfl rfl rfl (colD_one _) (by rw [colD_length]; exact Try.sizeOf29) (by rw [colD_length, colD_length]; decide) (colD_whole _ _) ?_
    refine AOps_nil ?_
    refine ACode_ret ?_
    cases h
    have h := hks26
    cases h
    exact ⟨_, _, fun r a w h => ⟨r, h⟩, _, _, [], _, (.cons (ResV_agg _ _ _ _ _ _ Try.isAgg29 Try.sizeOf29 rfl rfl (colD_take _) (colD_length _)) .nil), rfl, rfl, rfl, rfl, rfl⟩
   ·have h := iteF hb22 h
    refine ACode_skip ?_
    cases h
    exact ⟨_, rfl, Weak_keep 1 hm [0, 2] [1] _ _ rfl rfl rfl⟩
 rintro E' H' ⟨s26, rfl, hw⟩
 refine ACode_weak hw ?_
 have h := hks26
 refine ACode_seq (ACode_region ?_)
 refine AOps_q 66 _ rfl rfl rfl (QOp_move _ _ rfl rfl) ?_
 obtain ⟨r27, hr27, h⟩ := bindO h
 refine AOps_call [0] 67 _ _ _ _ _ _ _ _ _ _ rfl rfl rfl rfl rfl rfl rfl Try.call225 rfl (nodupB_sound _ rfl) rfl rfl rfl (spec_l01Small_ac k s26 _ hr27) ?_
 rintro _ _ ⟨rfl, rfl⟩
 refine ⟨(allc (fun _ _ => trivial) (fun _ h => nomatch h)), (allc (trivial) (fun _ h => nomatch h)), AOps_as 67 (v' := .d (.agg (colD r27.1))) (H' := [.box (srcD r27.2), .box (colD Col.zero)]) rfl rfl ?_⟩
 refine AOps_store _ _ _ _ _ _ (colD _) _ _ rfl rfl rfl rfl rfl rfl rfl (colD_one _) (by rw [colD_length]; exact Try.sizeOf29) (by rw [colD_length, colD_length]; decide) (colD_whole _ _) ?_
 refine AOps_nil ?_
 refine ACode_ret ?_
 cases h
 exact ⟨_, _, fun r a w h => ⟨r, h⟩, _, _, [], _, (.cons (ResV_agg _ _ _ _ _ _ Try.isAgg29 Try.sizeOf29 rfl rfl (colD_take _) (colD_length _)) .nil), rfl, rfl, rfl, rfl, rfl⟩

-- loop.example/g01362/spec.l01Bad
def spec_l01Bad (p0 : Src) (p1 : Col) : Option (Col × Src) :=
 ((spec_l01Next p0 50).bind fun r1 => (if decide (r1.1 = 0) then (spec_l01Pick r1.2 ([0, 18, (-1), w64 (p1.p - 1)])).bind fun r3 => some (r3.2, (⟨r3.1, p1.k, p1.e⟩ : Col)) else (if decide (r1.1 = 1) then (spec_l01Pick r1.2 ([0, 5, (-1)])).bind fun r5 => some (r5.2, (⟨p1.p, r5.1, p1.e⟩ : Col)) else (if decide (r1.1 = 2) then (spec_l01Next r1.2 136).bind fun r7 => (spec_l01Pick r7.2 ([1, 4, 200])).bind fun r8 => (if 0 ≤ r7.1 ∧ r7.1 < 136 then some (r8.2, p1.set r7.1.toNat (toByte r8.1)) else none) else some (r1.2, p1)))) : Option (Src × Col)).bind fun s10 => some (s10.2, s10.1)
set_option maxRecDepth 100000 in
theorem spec_l01Bad_ac (p0 : Src) (p1 : Col) (r : Col × Src) (h : spec_l01Bad p0 p1 = some r) : AC Try.prog 93 [.ptr 0 0, .d (.agg (colD p1))] [.box (srcD p0)] (fun res H' => res = [.d (.agg (colD r.1))] ∧ H' = [.box (srcD r.2)]) := by
 refine AC_of_body true Try.func93 rfl Try.ntmps93 (rvs := [.cell 4 29]) rfl rfl (fun G hG => ?_)
 have hm : G.H.length = 1 := by rw [hG]; rfl
 have hz : zeroG G.H = true := by rw [hG]; rfl
 unfold spec_l01Bad at h
 refine ACode_seq (ACode_region ?_)
 refine AOps_boxM 3 _ _ (.agg (colD p1)) (colD p1) rfl (colD_one _) rfl rfl rfl rfl rfl ?_
 refine AOps_alloc 4 _ _ (colD Col.zero) (zero_of Try.typeInfo29 rfl) (by rfl) rfl rfl rfl rfl ?_
 refine AOps_nil ?_
 obtain ⟨s10, hss10, hks10⟩ := bindO h
 clear h
 refine ACode_seqJ (fun E' H' => Weak 33 G E' H' [(3, .ptr 1 0), (4, .ptr 2 0)] [.box (srcD s10.1), .box (colD s10.2), .box (colD Col.zero)]) ?_ ?_
 ·have h := hss10
  clear hss10
  refine ACode_seq (ACode_region ?_)
  refine AOps_q 5 _ rfl rfl rfl (QOp_move _ _ rfl rfl) ?_
  obtain ⟨r1, hr1, h⟩ := bindO h
  refine AOps_call [0] 6 _ _ _ _ _ _ _ _ _ _ rfl rfl rfl rfl rfl rfl rfl Try.call77 rfl (nodupB_sound _ rfl) rfl rfl rfl (spec_l01Next_ac p0 50 _ hr1) ?_
  rintro _ _ ⟨rfl, rfl⟩
  refine ⟨(allc (fun _ _ => trivial) (fun _ h => nomatch h)), (allc (trivial) (fun _ h => nomatch h)), AOps_as 6 (v' := iV r1.1) (H' := [.box (srcD r1.2), .box (colD p1), .box (colD Col.zero)]) rfl rfl ?_⟩
  refine AOps_nil ?_
  refine ACode_block ?_
  refine ACode_seq (ACode_region ?_)
  refine AOps_q 8 _ rfl rfl rfl (QOp_eql _ _ _ _ _ _ _ rfl rfl rfl) ?_
  refine AOps_q 7 _ rfl rfl rfl (QOp_assign _ _ rfl rfl) ?_
  refine AOps_nil ?_
  refine ACode_cond _ rfl (fun hb2 => ?_) (fun hb2 => ?_)
  ·have h := iteT hb2 h
   refine (ACode_region ?_)
   refine AOps_q 9 _ rfl rfl rfl (QOp_move _ _ rfl rfl) ?_
   refine AOps_q 10 _ rfl rfl rfl (QOp_fieldAddr_ptr _ _ _ _ _ _ 0 _ _ rfl Try.underlying29 rfl _ Try.sizeOf2 rfl rfl rfl rfl) ?_
   refine AOps_q 11 _ rfl rfl rfl (QOp_load_ptr _ _ _ _ _ _ rfl Try.isAgg2 rfl rfl rfl) ?_
   refine AOps_q 12 _ rfl rfl rfl (QOp_sub _ _ _ _ _ _ _ rfl rfl rfl) ?_
   refine AOps_buildSlice 13 _ _ _ [_, _, _, _] (intsD ([0, 18, (-1), w64 (p1.p - 1)])) _ rfl rfl rfl rfl rfl (by decide) Try.underlying24 Try.sizeOf2 (zero_of Try.typeInfo2 rfl) rfl rfl (intsD_one _) ?_
   refine AOps_freezeL [13] 3 0 _ (allc (rfl) (fun _ h => nomatch h)) rfl ?_
   obtain ⟨r3, hr3, h⟩ := bindO h
   refine AOps_call [0] 14 _ _ _ _ _ _ _ _ _ _ rfl rfl rfl rfl rfl rfl rfl Try.call125 rfl (nodupB_sound _ rfl) rfl rfl rfl (spec_l01Pick_ac r1.2 ([0, 18, (-1), w64 (p1.p - 1)]) _ hr3) ?_
   rintro _ _ ⟨rfl, rfl⟩
   refine ⟨(allc (fun _ _ => trivial) (fun _ h => nomatch h)), (allc (trivial) (fun _ h => nomatch h)), AOps_as 14 (v' := iV r3.1) (H' := [.box (srcD r3.2), .box (colD p1), .box (colD Col.zero), .gone]) rfl rfl ?_⟩
   refine AOps_q 15 _ rfl rfl rfl (QOp_fieldAddr_ptr _ _ _ _ _ _ 0 _ _ rfl Try.underlying29 rfl _ Try.sizeOf2 rfl rfl rfl rfl) ?_
   refine AOps_store1 _ _ _ _ _ _ (colD (⟨r3.1, p1.k, p1.e⟩ : Col)) _ rfl rfl rfl rfl rfl rfl rfl Try.sizeOf2 (by rw [colD_length]; omega) (colD_set0 _ _) ?_
   refine AOps_nil ?_
   cases h
   exact Weak_keep 1 hm [3, 4] [1, 2] _ _ rfl rfl rfl
  ·have h := iteF hb2 h
   refine ACode_seq (ACode_region ?_)
   refine AOps_q 17 _ rfl rfl rfl (QOp_eql _ _ _ _ _ _ _ rfl rfl rfl) ?_
   refine AOps_q 16 _ rfl rfl rfl (QOp_assign _ _ rfl rfl) ?_
   refine AOps_nil ?_
   refine ACode_cond _ rfl (fun hb4 => ?_) (fun hb4 => ?_)
   ·have h := iteT hb4 h
    refine (ACode_region ?_)
    refine AOps_q 18 _ rfl rfl rfl (QOp_move _ _ rfl rfl) ?_
    refine AOps_buildSlice 19 _ _ _ [_, _, _] (intsD ([0, 5, (-1)])) _ rfl rfl rfl rfl rfl (by decide) Try.underlying24 Try.sizeOf2 (zero_of Try.typeInfo2 rfl) rfl rfl (intsD_one _) ?_
    refine AOps_freezeL [19] 3 0 _ (allc (rfl) (fun _ h => nomatch h)) rfl ?_
    obtain ⟨r5, hr5, h⟩ := bindO h
    refine AOps_call [0] 20 _ _ _ _ _ _ _ _ _ _ rfl rfl rfl rfl rfl rfl rfl Try.call125 rfl (nodupB_sound _ rfl) rfl rfl rfl (spec_l01Pick_ac r1.2 ([0, 5, (-1)]) _ hr5) ?_
    rintro _ _ ⟨rfl, rfl⟩
    refine ⟨(allc (fun _ _ => trivial) (fun _ h => nomatch h)), (allc (trivial) (fun _ h => nomatch h)), AOps_as 20 (v' := iV r5.1) (H' := [.box (srcD r5.2), .box (colD p1), .box (colD Col.zero), .gone]) rfl rfl ?_⟩
    refine AOps_q 21 _ rfl rfl rfl (QOp_fieldAddr_ptr _ _ _ _ _ _ 1 _ _ rfl Try.underlying29 rfl _ Try.sizeOf2 rfl rfl rfl rfl) ?_
    refine AOps_store1 _ _ _ _ _ _ (colD (⟨p1.p, r5.1, p1.e⟩ : Col)) _ rfl rfl rfl rfl rfl rfl rfl Try.sizeOf2 (by rw [colD_length]; omega) (colD_set1 _ _) ?_
    refine AOps_nil ?_
    cases h
    exact Weak_keep 1 hm [3, 4] [1, 2] _ _ rfl rfl rfl
   ·have h := iteF hb4 h
    refine ACode_seq (ACode_region ?_)
    refine AOps_q 23 _ rfl rfl rfl (QOp_eql _ _ _ _ _ _ _ rfl rfl rfl) ?_
    refine AOps_q 22 _ rfl rfl rfl (QOp_assign _ _ rfl rfl) ?_
    refine AOps_nil ?_
    refine ACode_cond _ rfl (fun hb6 => ?_) (fun hb6 => ?_)
    ·have h := iteT hb6 h
     refine (ACode_region ?_)
     refine AOps_q 24 _ rfl rfl rfl (QOp_move _ _ rfl rfl) ?_
     obtain ⟨r7, hr7, h⟩ := bindO h
     refine AOps_call [0] 25 _ _ _ _ _ _ _ _ _ _ rfl rfl rfl rfl rfl rfl rfl Try.call77 rfl (nodupB_sound _ rfl) rfl rfl rfl (spec_l01Next_ac r1.2 136 _ hr7) ?_
     rintro _ _ ⟨rfl, rfl⟩
     refine ⟨(allc (fun _ _ => trivial) (fun _ h => nomatch h)), (allc (trivial) (fun _ h => nomatch h)), AOps_as 25 (v' := iV r7.1) (H' := [.box (srcD r7.2), .box (colD p1), .box (colD Col.zero)]) rfl rfl ?_⟩
     refine AOps_q 26 _ rfl rfl rfl (QOp_move _ _ rfl rfl) ?_
     refine AOps_buildSlice 27 _ _ _ [_, _, _] (intsD ([1, 4, 200])) _ rfl rfl rfl rfl rfl (by decide) Try.underlying24 Try.sizeOf2 (zero_of Try.typeInfo2 rfl) rfl rfl (intsD_one _) ?_
     refine AOps_freezeL [27] 3 0 _ (allc (rfl) (fun _ h => nomatch h)) rfl ?_
     obtain ⟨r8, hr8, h⟩ := bindO h
     refine AOps_call [0] 28 _ _ _ _ _ _ _ _ _ _ rfl rfl rfl rfl rfl rfl rfl Try.call125 rfl (nodupB_sound _ rfl) rfl rfl rfl (spec_l01Pick_ac r7.2 ([1, 4, 200]) _ hr8) ?_
     rintro _ _ ⟨rfl, rfl⟩
     refine ⟨(allc (fun _ _ => trivial) (fun _ h => nomatch h)), (allc (trivial) (fun _ h => nomatch h)), AOps_as 28 (v' := iV r8.1) (H' := [.box (srcD r8.2), .box (colD p1), .box (colD Col.zero), .gone]) rfl rfl ?_⟩
     refine AOps_q 29 _ rfl rfl rfl (QOp_toByte _ _ _ _ _ rfl rfl Try.underlying5 rfl) ?_
     refine AOps_q 30 _ rfl rfl rfl (QOp_fieldAddr_ptr _ _ _ _ _ _ 2 _ _ rfl Try.underlying29 rfl _ Try.sizeOf27 rfl rfl rfl rfl) ?_
     obtain ⟨hc9, h⟩ := guardO h
     refine AOps_q 31 _ rfl rfl rfl (QOp_indexAddrA_ptr _ _ _ _ _ _ _ _ _ _ rfl Try.underlying27 Try.sizeOf5 hc9.1 hc9.2 rfl rfl rfl rfl) ?_
     refine AOps_store1 _ _ _ _ _ _ (colD (p1.set r7.1.toNat (toByte r8.1))) _ rfl rfl rfl rfl rfl rfl rfl Try.sizeOf5 (by rw [colD_length]; omega) (colD_setE p1 r7.1.toNat (toByte r8.1)) ?_
     refine AOps_nil ?_
     cases h
     exact Weak_keep 1 hm [3, 4] [1, 2] _ _ rfl rfl rfl
    ·have h := iteF hb6 h
     refine ACode_skip ?_
     cases h
     exact Weak_keep 1 hm [3, 4] [1, 2] _ _ rfl rfl rfl
 intro E' H' hw
 refine ACode_weak hw ?_
 have h := hks10
 refine ACode_seq (ACode_region ?_)
 refine AOps_q 32 _ rfl rfl rfl (QOp_loadN_ptr _ _ _ _ _ _ _ rfl Try.isAgg29 Try.sizeOf29 rfl rfl (colD_all _) (colD_length _)) ?_
 refine AOps_store _ _ _ _ _ _ (colD _) _ _ rfl rfl rfl rfl rfl rfl rfl (colD_one _) (by rw [colD_length]; exact Try.sizeOf29) (by rw [colD_length, colD_length]; decide) (colD_whole _ _) ?_
 refine AOps_nil ?_
 refine ACode_ret ?_
 cases h
 exact ⟨_, _, fun r a w h => ⟨r, h⟩, _, _, [], _, (.cons (ResV_agg _ _ _ _ _ _ Try.isAgg29 Try.sizeOf29 rfl rfl (colD_take _) (colD_length _)) .nil), rfl, rfl, rfl, rfl, rfl⟩

-- loop.example/g01362/spec.l01Spoil
def spec_l01Spoil (k : Nat) (p0 : Src) : Option (Col × Src) :=
 (spec_l01Draw k p0).bind fun r1 => (spec_l01Bad r1.2 r1.1).bind fun r2 => some (r2.1, r2.2)
set_option maxRecDepth 100000 in
theorem spec_l01Spoil_ac (k : Nat) (p0 : Src) (r : Col × Src) (h : spec_l01Spoil k p0 = some r) : AC Try.prog 91 [.ptr 0 0] [.box (srcD p0)] (fun res H' => res = [.d (.agg (colD r.1))] ∧ H' = [.box (srcD r.2)]) := by
 refine AC_of_body true Try.func91 rfl Try.ntmps91 (rvs := [.cell 2 29]) rfl rfl (fun G hG => ?_)
 have hm : G.H.length = 1 := by rw [hG]; rfl
 have hz : zeroG G.H = true := by rw [hG]; rfl
 unfold spec_l01Spoil at h
 refine ACode_seq (ACode_region ?_)
 refine AOps_alloc 2 _ _ (colD Col.zero) (zero_of Try.typeInfo29 rfl) (by rfl) rfl rfl rfl rfl ?_
 refine AOps_nil ?_
 refine ACode_seq (ACode_region ?_)
 refine AOps_q 3 _ rfl rfl rfl (QOp_move _ _ rfl rfl) ?_
 refine AOps_q 4 _ rfl rfl rfl (QOp_move _ _ rfl rfl) ?_
 obtain ⟨r1, hr1, h⟩ := bindO h
 refine AOps_call [0] 5 _ _ _ _ _ _ _ _ _ _ rfl rfl rfl rfl rfl rfl rfl Try.call189 rfl (nodupB_sound _ rfl) rfl rfl rfl (spec_l01Draw_ac k p0 _ hr1) ?_
 rintro _ _ ⟨rfl, rfl⟩
 refine ⟨(allc (fun _ _ => trivial) (fun _ h => nomatch h)), (allc (trivial) (fun _ h => nomatch h)), AOps_as 5 (v' := .d (.agg (colD r1.1))) (H' := [.box (srcD r1.2), .box (colD Col.zero)]) rfl rfl ?_⟩
 obtain ⟨r2, hr2, h⟩ := bindO h
 refine AOps_call [0] 6 _ _ _ _ _ _ _ _ _ _ rfl rfl rfl rfl rfl rfl rfl Try.call93 rfl (nodupB_sound _ rfl) rfl rfl rfl (spec_l01Bad_ac r1.2 r1.1 _ hr2) ?_
 rintro _ _ ⟨rfl, rfl⟩
 refine ⟨(allc (fun _ _ => trivial) (fun _ h => nomatch h)), (allc (trivial) (fun _ h => nomatch h)), AOps_as 6 (v' := .d (.agg (colD r2.1))) (H' := [.box (srcD r2.2), .box (colD Col.zero)]) rfl rfl ?_⟩
 refine AOps_store _ _ _ _ _ _ (colD _) _ _ rfl rfl rfl rfl rfl rfl rfl (colD_one _) (by rw [colD_length]; exact Try.sizeOf29) (by rw [colD_length, colD_length]; decide) (colD_whole _ _) ?_
 refine AOps_nil ?_
 refine ACode_ret ?_
 cases h
 exact ⟨_, _, fun r a w h => ⟨r, h⟩, _, _, [], _, (.cons (ResV_agg _ _ _ _ _ _ Try.isAgg29 Try.sizeOf29 rfl rfl (colD_take _) (colD_length _)) .nil), rfl, rfl, rfl, rfl, rfl⟩

-- loop.example/g01362/spec.l01Near
def spec_l01Near (p0 : Src) (p1 : Int) : Option (Int × Src) :=
 (spec_l01Next p0 14).bind fun r1 => (if decide (r1.1 = 0) then (spec_l01Pick r1.2 ([(-1), w64 (p1 + 1), 1099511627776, (-4611686018427387904)])).bind fun r3 => some (r3.1, r3.2) else (spec_l01Next r1.2 (w64 (p1 + 1))).bind fun r4 => some (r4.1, r4.2))
set_option maxRecDepth 100000 in
theorem spec_l01Near_ac (p0 : Src) (p1 : Int) (r : Int × Src) (h : spec_l01Near p0 p1 = some r) : AC Try.prog 98 [.ptr 0 0, iV p1] [.box (srcD p0)] (fun res H' => res = [iV r.1] ∧ H' = [.box (srcD r.2)]) := by
 refine AC_of_body true Try.func98 rfl Try.ntmps98 (rvs := [.tmp 4]) rfl rfl (fun G hG => ?_)
 have hm : G.H.length = 1 := by rw [hG]; rfl
 have hz : zeroG G.H = true := by rw [hG]; rfl
 unfold spec_l01Near at h
 refine ACode_seq (ACode_region ?_)
 refine AOps_q 4 _ rfl rfl rfl (QOp_assign _ _ rfl rfl) ?_
 refine AOps_nil ?_
 refine ACode_seq ?_
 refine ACode_seq (ACode_region ?_)
 refine AOps_q 5 _ rfl rfl rfl (QOp_move _ _ rfl rfl) ?_
 obtain ⟨r1, hr1, h⟩ := bindO h
 refine AOps_call [0] 6 _ _ _ _ _ _ _ _ _ _ rfl rfl rfl rfl rfl rfl rfl Try.call77 rfl (nodupB_sound _ rfl) rfl rfl rfl (spec_l01Next_ac p0 14 _ hr1) ?_
 rintro _ _ ⟨rfl, rfl⟩
 refine ⟨(allc (fun _ _ => trivial) (fun _ h => nomatch h)), (allc (trivial) (fun _ h => nomatch h)), AOps_as 6 (v' := iV r1.1) (H' := [.box (srcD r1.2)]) rfl rfl ?_⟩
 refine AOps_q 7 _ rfl rfl rfl (QOp_eql _ _ _ _ _ _ _ rfl rfl rfl) ?_
 refine AOps_nil ?_
 refine ACode_cond _ rfl (fun hb2 => ?_) (fun hb2 => ?_)
 ·have h := iteT hb2 h
  refine ACode_seq (ACode_region ?_)
  refine AOps_q 8 _ rfl rfl rfl (QOp_move _ _ rfl rfl) ?_
  refine AOps_q 9 _ rfl rfl rfl (QOp_move _ _ rfl rfl) ?_
  refine AOps_q 10 _ rfl rfl rfl (QOp_add _ _ _ _ _ _ _ rfl rfl rfl) ?_
  refine AOps_buildSlice 11 _ _ _ [_, _, _, _] (intsD ([(-1), w64 (p1 + 1), 1099511627776, (-4611686018427387904)])) _ rfl rfl rfl rfl rfl (by decide) Try.underlying24 Try.sizeOf2 (zero_of Try.typeInfo2 rfl) rfl rfl (intsD_one _) ?_
  refine AOps_freezeL [11] 1 0 _ (allc (rfl) (fun _ h => nomatch h)) rfl ?_
  obtain ⟨r3, hr3, h⟩ := bindO h
  refine AOps_call [0] 12 _ _ _ _ _ _ _ _ _ _ rfl rfl rfl rfl rfl rfl rfl Try.call125 rfl (nodupB_sound _ rfl) rfl rfl rfl (spec_l01Pick_ac r1.2 ([(-1), w64 (p1 + 1), 1099511627776, (-4611686018427387904)]) _ hr3) ?_
  rintro _ _ ⟨rfl, rfl⟩
  refine ⟨(allc (fun _ _ => trivial) (fun _ h => nomatch h)), (allc (trivial) (fun _ h => nomatch h)), AOps_as 12 (v' := iV r3.1) (H' := [.box (srcD r3.2), .gone]) rfl rfl ?_⟩
  refine AOps_q 4 _ rfl rfl rfl (QOp_assign _ _ rfl rfl) ?_
  refine AOps_nil ?_
  refine ACode_ret ?_
  cases h
  exact ⟨_, _, fun r a w h => ⟨r, h⟩, _, _, [], _, (.cons (ResV_tmp _ _ rfl) .nil), rfl, rfl, rfl, rfl, rfl⟩
 ·have h := iteF hb2 h
  refine ACode_skip ?_
  refine ACode_seq (ACode_region ?_)
  refine AOps_q 13 _ rfl rfl rfl (QOp_move _ _ rfl rfl) ?_
  refine AOps_q 14 _ rfl rfl rfl (QOp_move _ _ rfl rfl) ?_
  refine AOps_q 15 _ rfl rfl rfl (QOp_add _ _ _ _ _ _ _ rfl rfl rfl) ?_
  obtain ⟨r4, hr4, h⟩ := bindO h
  refine AOps_call [0] 16 _ _ _ _ _ _ _ _ _ _ rfl rfl rfl rfl rfl rfl rfl Try.call77 rfl (nodupB_sound _ rfl) rfl rfl rfl (spec_l01Next_ac r1.2 (w64 (p1 + 1)) _ hr4) ?_
  rintro _ _ ⟨rfl, rfl⟩
  refine ⟨(allc (fun _ _ => trivial) (fun _ h => nomatch h)), (allc (trivial) (fun _ h => nomatch h)), AOps_as 16 (v' := iV r4.1) (H' := [.box (srcD r4.2)]) rfl rfl ?_⟩
  refine AOps_q 4 _ rfl rfl rfl (QOp_assign _ _ rfl rfl) ?_
  refine AOps_nil ?_
  refine ACode_ret ?_
  cases h
  exact ⟨_, _, fun r a w h => ⟨r, h⟩, _, _, [], _, (.cons (ResV_tmp _ _ rfl) .nil), rfl, rfl, rfl, rfl, rfl⟩

end Go.Proofs.Ytfoijbdnkkaceaa
