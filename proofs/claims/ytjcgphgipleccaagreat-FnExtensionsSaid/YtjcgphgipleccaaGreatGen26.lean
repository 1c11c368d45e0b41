/- Plain functions of the program and that the program computes them: printed by the own tool gen.py. No conditions. -/
import Derived.Test.YtjcgphgipleccaaGreatGen26c
set_option linter.unusedVariables false
set_option linter.unusedSimpArgs false
namespace Go.Proofs.YtjcgphgipleccaaGreat
open Go Go.RowKit Ab

-- loop.example/g01362/spec.l01Draw
def spec_l01Draw_l0 (k : Nat) : Nat → Int → Src → Col → Option (Src × Col)
 | 0, _, _, _ => none
 | k0 + 1, x12, x13, x14 => (if decide (0 < x12) then (spec_l01DrawOrder k x13 x14.p).bind fun r16 => (if 0 ≤ (0 : Int) ∧ (0 : Int) < (r16.1.length : Int) then (if 0 ≤ (1 : Int) ∧ (1 : Int) < (r16.1.length : Int) then (spec_l01Next r16.2 x14.k).bind fun r19 => (spec_l01With x14 (r16.1.getD (0 : Int).toNat 0) (r16.1.getD (1 : Int).toNat 0) r19.1).bind fun r20 => spec_l01Draw_l0 k k0 (w64 (x12 - 1)) r19.2 r20 else none) else none) else some (x13, x14))
def spec_l01Draw (k : Nat) (p0 : Src) : Option (Col × Src) :=
 ((spec_l01Next p0 4).bind fun r1 => (if decide (r1.1 = 0) then (spec_l01Next r1.2 ((spec_l01Names).length : Int)).bind fun r4 => (if 0 ≤ r4.1 ∧ r4.1 < ((spec_l01Names).length : Int) then (spec_l01Named k ((spec_l01Names).getD r4.1.toNat ByteArray.empty)).bind fun r6 => (spec_l01DrawOrder k r4.2 r6.1.p).bind fun r7 => (spec_l01Renamed k r6.1 r7.1).bind fun r8 => ((spec_l01Next r7.2 2).bind fun r9 => (if decide (r9.1 = 0) then (spec_l01Next r9.2 3).bind fun r11 => spec_l01Draw_l0 k k r11.1 r11.2 r8 else some (r9.2, r8)) : Option (Src × Col)).bind fun s21 => some (.inr (s21.2, s21.1)) else none) else (if decide (r1.1 = 1) then (spec_l01Next r1.2 17).bind fun r23 => (spec_l01Pick r23.2 ([2, 2, 3, 4])).bind fun r24 => (spec_l01DrawOf k r24.2 (w64 (1 + r23.1)) r24.1).bind fun r25 => some (.inr (r25.1, r25.2)) else some (.inl r1.2))) : Option (Sum (Src) (Col × Src))).bind fun os26 => (match os26 with | .inl s26 => (spec_l01Small k s26).bind fun r27 => some (r27.1, r27.2) | .inr rr => some rr)
set_option maxRecDepth 100000 in
theorem spec_l01Draw_ac (k : Nat) (p0 : Src) (r : Col × Src) (h : spec_l01Draw k p0 = some r) : AC Tryz.prog 57 [.ptr 0 0] [.box (srcD p0)] (fun res H' => res = [.d (.agg (colD r.1))] ∧ H' = [.box (srcD r.2)]) := by
 refine AC_of_body true Tryz.func57 rfl Tryz.ntmps57 (rvs := [.cell 2 26]) rfl rfl (fun G hG => ?_)
 have hm : G.H.length = 1 := by rw [hG]; rfl
 have hz : zeroG G.H = true := by rw [hG]; rfl
 unfold spec_l01Draw at h
 refine kR ?_
 refine AOps_alloc 2 _ _ (colD Col.zero) (zero_of Tryz.typeInfo26 rfl) (by rfl) rfl rfl rfl rfl ?_
 refine AOps_nil ?_
 refine kO (fun s26 => [(0, .ptr 0 0), (2, .ptr 1 0)]) (fun s26 => [.box (srcD s26), .box (colD Col.zero)]) h (fun os26 h hks26 => ?_) (fun s26 h => ?_)
 ·refine kR ?_
  refine kM 1 rfl ?_
  obtain ⟨r1, hr1, h⟩ := bindO h
  refine kC [0] 9 (iV r1.1) [.box (srcD r1.2), .box (colD Col.zero)] rfl Tryz.call51 rfl rfl (spec_l01Next_ac p0 4 _ hr1) rfl ?_
  refine AOps_nil ?_
  refine ACode_block ?_
  refine kR ?_
  refine AOps_q 11 _ rfl rfl rfl (QOp_eql _ _ _ _ _ _ _ rfl rfl rfl) ?_
  refine kN 1 rfl ?_
  refine kI h rfl (fun h _ => ?_) (fun h _ => ?_)
  ·refine kR ?_
   refine kC [] 12 (.vec 2 0) [.box (srcD r1.2), .box (colD Col.zero), .vec 0 (stsD (spec_l01Names))] rfl Tryz.call81 rfl rfl (spec_l01Names_ac) rfl ?_
   refine kN 1 rfl ?_
   refine kR ?_
   refine kM 3 rfl ?_
   refine AOps_q 17 _ rfl rfl rfl (QOp_len_vec _ _ _ _ _ _ _ _ (stsD_length _) rfl rfl rfl rfl Tryz.underlying89 rfl rfl) ?_
   obtain ⟨r4, hr4, h⟩ := bindO h
   refine kC [0] 18 (iV r4.1) [.box (srcD r4.2), .box (colD Col.zero), .vec 0 (stsD (spec_l01Names))] rfl Tryz.call51 rfl rfl (spec_l01Next_ac r1.2 ((spec_l01Names).length : Int) _ hr4) rfl ?_
   obtain ⟨hc5, h⟩ := guardO h
   refine AOps_q 19 _ rfl rfl rfl (QOp_indexAddr_vec _ _ _ _ _ _ _ _ _ rfl Tryz.underlying89 Tryz.sizeOf9 hc5.1 (by rw [stsD_length]; exact hc5.2) rfl rfl rfl) ?_
   refine AOps_q 20 _ rfl rfl rfl (QOp_load_eptr _ _ _ _ _ _ _ rfl Tryz.isAgg9 rfl rfl (stsD_get _ _ ByteArray.empty (by omega))) ?_
   obtain ⟨r6, hr6, h⟩ := bindO h
   refine kC [] 21 (.tup [.d (.agg (colD r6.1)), bV r6.2]) [.box (srcD r4.2), .box (colD Col.zero), .vec 0 (stsD (spec_l01Names))] rfl Tryz.call82 rfl rfl (spec_l01Named_ac k ((spec_l01Names).getD r4.1.toNat ByteArray.empty) _ hr6) rfl ?_
   refine kM 3 rfl ?_
   refine AOps_alloc 4 _ _ (colD Col.zero) (zero_of Tryz.typeInfo26 rfl) (by rfl) rfl rfl rfl rfl ?_
   refine AOps_store _ _ _ _ _ _ (colD _) _ _ rfl rfl rfl rfl rfl rfl rfl (colD_one _) (by rw [colD_length]; exact Tryz.sizeOf26) (by rw [colD_length, colD_length]; decide) (colD_whole _ _) ?_
   refine kN 1 rfl ?_
   obtain ⟨r7, hr7, h⟩ := bindO h
   obtain ⟨r8, hr8, h⟩ := bindO h
   refine ACode_seq (ACode_reg [(0, .ptr 0 0), (2, .ptr 1 0), (4, .ptr 2 0)] [.box (srcD r7.2), .box (colD Col.zero), .box (colD r8)] ?_ ?_)
   ·refine ACode_anyU mixed ?_
    refine AU_cut 2 #[true, true, true, true, true, false, false] [(0, .ptr 0 0), (2, .ptr 1 0), (4, .ptr 2 0), (24, .d (.agg (colD r6.1))), (28, .vec 3 0)] [.box (srcD r7.2), .box (colD Col.zero), .box (colD r6.1), .vec 0 (intsD r7.1)] ?_ (fun hS0 => ?_)
    ·refine AU_one 5 (by kernel_rfl) rfl rfl ?_
     refine AOps_callL [] 29 _ _ _ _ _ _ _ _ _ _ rfl rfl rfl rfl rfl rfl rfl Tryz.call86 rfl (nodupB_sound _ rfl) rfl rfl rfl (spec_l01Renamed_ac k r6.1 r7.1 _ hr8) ?_
     rintro _ _ ⟨rfl, rfl⟩
     refine ⟨(fun _ h => nomatch h), (allc (flat_agg (colD_flat _)) (fun _ h => nomatch h)), AOps_as 29 (v' := .d (.agg (colD r8))) (H' := [.box (srcD r7.2), .box (colD Col.zero), .box (colD r6.1), .vec 0 (intsD r7.1)]) rfl rfl ?_⟩
     refine AOps_nil ?_
     refine AU_one 6 (by kernel_rfl) rfl rfl ?_
     refine AOps_store _ _ _ _ _ _ (colD _) _ _ rfl rfl rfl rfl rfl rfl rfl (colD_one _) (by rw [colD_length]; exact Tryz.sizeOf26) (by rw [colD_length, colD_length]; decide) (colD_whole _ _) ?_
     refine AOps_nil ?_
     refine AU_done (by kernel_rfl) ?_
     exact ⟨rfl, Weak_keep 1 hm [0, 2, 4] [1, 2] _ _ rfl rfl rfl⟩
    refine AU_cut 3 #[true, true, true, true, false, false, false] [(0, .ptr 0 0), (2, .ptr 1 0), (4, .ptr 2 0), (24, .d (.agg (colD r6.1))), (25, .ptr 0 0), (27, iV r6.1.p)] [.box (srcD r4.2), .box (colD Col.zero), .box (colD r6.1)] ?_ (fun hS1 => ?_)
    ·refine AU_one 4 (by kernel_rfl) rfl rfl ?_
     refine kC [0] 28 (.vec 3 0) [.box (srcD r7.2), .box (colD Col.zero), .box (colD r6.1), .vec 0 (intsD r7.1)] rfl Tryz.call87 rfl rfl (spec_l01DrawOrder_ac k r4.2 r6.1.p _ hr7) rfl ?_
     refine AOps_nil ?_
     exact AU_to (by kernel_rfl) hS0 (Weak_keep 1 hm [0, 2, 4, 24, 28] [1, 2, 3] _ _ rfl rfl rfl)
    refine AU_u 1 25 _ rfl (by kernel_rfl) rfl rfl rfl (UOp_move _ _ rfl rfl) ?_
    refine AU_u 2 26 _ rfl (by kernel_rfl) rfl rfl rfl (UOp_fieldAddr_ptr _ _ _ _ _ _ 0 _ _ rfl Tryz.underlying26 rfl _ Tryz.sizeOf2 rfl rfl rfl rfl) ?_
    refine AU_all [0, 3] (by kernel_rfl) rfl (allc ?_ (allc ?_ (fun _ h => nomatch h)))
    ·refine US_of 0 rfl rfl ?_
     refine AOps_q 24 _ rfl rfl rfl (QOp_loadN_ptr _ _ _ _ _ _ _ rfl Tryz.isAgg26 Tryz.sizeOf26 rfl rfl (colD_all _) (colD_length _)) ?_
     refine AOps_nil ?_
     refine AU_one 3 (by kernel_rfl) rfl rfl ?_
     refine AOps_q 27 _ rfl rfl rfl (QOp_load_ptr _ _ _ _ _ _ rfl Tryz.isAgg2 rfl rfl rfl) ?_
     refine AOps_nil ?_
     exact AU_to (by kernel_rfl) hS1 (Weak_keep 1 hm [0, 2, 4, 24, 25, 27] [1, 3] _ _ rfl rfl rfl)
    refine US_of 3 rfl rfl ?_
    refine AOps_q 27 _ rfl rfl rfl (QOp_load_ptr _ _ _ _ _ _ rfl Tryz.isAgg2 rfl rfl rfl) ?_
    refine AOps_nil ?_
    refine AU_all [0, 4] (by kernel_rfl) rfl (allc ?_ (allc ?_ (fun _ h => nomatch h)))
    ·refine US_of 0 rfl rfl ?_
     refine AOps_q 24 _ rfl rfl rfl (QOp_loadN_ptr _ _ _ _ _ _ _ rfl Tryz.isAgg26 Tryz.sizeOf26 rfl rfl (colD_all _) (colD_length _)) ?_
     refine AOps_nil ?_
     exact AU_to (by kernel_rfl) hS1 (Weak_keep 1 hm [0, 2, 4, 24, 25, 27] [1, 3] _ _ rfl rfl rfl)
    refine US_of 4 rfl rfl ?_
    refine kC [0] 28 (.vec 4 0) [.box (srcD r7.2), .box (colD Col.zero), .vec 0 (stsD (spec_l01Names)), .box (colD r6.1), .vec 0 (intsD r7.1)] rfl Tryz.call87 rfl rfl (spec_l01DrawOrder_ac k r4.2 r6.1.p _ hr7) rfl ?_
    refine AOps_nil ?_
    refine AU_one 0 (by kernel_rfl) rfl rfl ?_
    refine AOps_q 24 _ rfl rfl rfl (QOp_loadN_ptr _ _ _ _ _ _ _ rfl Tryz.isAgg26 Tryz.sizeOf26 rfl rfl (colD_all _) (colD_length _)) ?_
    refine AOps_nil ?_
    exact AU_to (by kernel_rfl) hS0 (Weak_keep 1 hm [0, 2, 4, 24, 28] [1, 3, 4] _ _ rfl rfl rfl)
   refine kB (fun s21 => [(2, .ptr 1 0), (4, .ptr 2 0)]) (fun s21 => [.box (srcD s21.1), .box (colD Col.zero), .box (colD s21.2)]) h (fun s21 h => ?_) (fun s21 h => ?_)
   ·refine kR ?_
    refine kM 1 rfl ?_
    obtain ⟨r9, hr9, h⟩ := bindO h
    refine kC [0] 31 (iV r9.1) [.box (srcD r9.2), .box (colD Col.zero), .box (colD r8)] rfl Tryz.call51 rfl rfl (spec_l01Next_ac r7.2 2 _ hr9) rfl ?_
    refine AOps_q 32 _ rfl rfl rfl (QOp_eql _ _ _ _ _ _ _ rfl rfl rfl) ?_
    refine AOps_nil ?_
    refine kI h rfl (fun h _ => ?_) (fun h _ => ?_)
    ·refine kR ?_
     refine kM 1 rfl ?_
     obtain ⟨r11, hr11, h⟩ := bindO h
     refine kC [0] 34 (iV r11.1) [.box (srcD r11.2), .box (colD Col.zero), .box (colD r8)] rfl Tryz.call51 rfl rfl (spec_l01Next_ac r9.2 3 _ hr11) rfl ?_
     refine kN 1 rfl ?_
     refine ACode_block ?_
     refine ACode_loopW (fun k0 E H => ∃ (x12 : Int) (x13 : Src) (x14 : Col), E = [(0, .ptr 0 0), (2, .ptr 1 0), (4, .ptr 2 0), (6, iV x12)] ∧ H = [.box (srcD x13), .box (colD Col.zero), .box (colD x14)] ∧ spec_l01Draw_l0 k k0 x12 x13 x14 = some s21) k _ _ (Weak_keep 1 hm [0, 2, 4, 6] [1, 2] _ _ rfl rfl rfl) ⟨_, _, _, rfl, rfl, h⟩ ?_
     clear h
     rintro k0 E H ⟨x12, x13, x14, rfl, rfl, h⟩
     cases k0 with
     | zero => cases (show (none : Option (Src × Col)) = some _ from h)
     | succ k0 =>
      rw [spec_l01Draw_l0] at h
      refine ACode_seq ?_
      refine kR ?_
      refine kM 1 rfl ?_
      refine AOps_q 36 _ rfl rfl rfl (QOp_gtr _ _ _ _ _ _ _ rfl rfl rfl) ?_
      refine AOps_nil ?_
      refine kI h rfl (fun h _ => ?_) (fun h _ => ?_)
      ·refine ACode_skip ?_
       refine ACode_seq ?_
       refine ACode_block ?_
       refine kR ?_
       refine kM 1 rfl ?_
       refine AOps_q 40 _ rfl rfl rfl (QOp_fieldAddr_ptr _ _ _ _ _ _ 0 _ _ rfl Tryz.underlying26 rfl _ Tryz.sizeOf2 rfl rfl rfl rfl) ?_
       refine AOps_q 41 _ rfl rfl rfl (QOp_load_ptr _ _ _ _ _ _ rfl Tryz.isAgg2 rfl rfl rfl) ?_
       obtain ⟨r16, hr16, h⟩ := bindO h
       refine kC [0] 42 (.vec 3 0) [.box (srcD r16.2), .box (colD Col.zero), .box (colD x14), .vec 0 (intsD r16.1)] rfl Tryz.call87 rfl rfl (spec_l01DrawOrder_ac k x13 x14.p _ hr16) rfl ?_
       refine kN 1 rfl ?_
       obtain ⟨hc17, h⟩ := guardO h
       obtain ⟨hc18, h⟩ := guardO h
       obtain ⟨r19, hr19, h⟩ := bindO h
       obtain ⟨r20, hr20, h⟩ := bindO h
       refine ACode_reg [(0, .ptr 0 0), (2, .ptr 1 0), (4, .ptr 2 0), (6, iV x12)] [.box (srcD r19.2), .box (colD Col.zero), .box (colD r20)] ?_ ?_
       ·refine ACode_anyU mixed ?_
        refine AU_cut 2 #[true, true, true, true, true, true, true, true, true, true, true, false, false] [(0, .ptr 0 0), (2, .ptr 1 0), (4, .ptr 2 0), (6, iV x12), (43, .d (.agg (colD x14))), (46, iV (r16.1.getD (0 : Int).toNat 0)), (49, iV (r16.1.getD (1 : Int).toNat 0)), (53, iV r19.1)] [.box (srcD r19.2), .box (colD Col.zero), .box (colD x14)] ?_ (fun hS0 => ?_)
        ·refine AU_one 11 (by kernel_rfl) rfl rfl ?_
         refine kC [] 54 (.d (.agg (colD r20))) [.box (srcD r19.2), .box (colD Col.zero), .box (colD x14)] rfl Tryz.call88 rfl rfl (spec_l01With_ac x14 (r16.1.getD (0 : Int).toNat 0) (r16.1.getD (1 : Int).toNat 0) r19.1 _ hr20) rfl ?_
         refine AOps_nil ?_
         refine AU_one 12 (by kernel_rfl) rfl rfl ?_
         refine AOps_store _ _ _ _ _ _ (colD _) _ _ rfl rfl rfl rfl rfl rfl rfl (colD_one _) (by rw [colD_length]; exact Tryz.sizeOf26) (by rw [colD_length, colD_length]; decide) (colD_whole _ _) ?_
         refine AOps_nil ?_
         refine AU_done (by kernel_rfl) ?_
         exact ⟨rfl, Weak_keep 1 hm [0, 2, 4, 6] [1, 2] _ _ rfl rfl rfl⟩
        refine AU_cut 3 #[true, true, true, true, true, true, true, true, true, true, false, false, false] [(0, .ptr 0 0), (2, .ptr 1 0), (4, .ptr 2 0), (6, iV x12), (43, .d (.agg (colD x14))), (46, iV (r16.1.getD (0 : Int).toNat 0)), (49, iV (r16.1.getD (1 : Int).toNat 0)), (50, .ptr 0 0), (52, iV x14.k)] [.box (srcD r16.2), .box (colD Col.zero), .box (colD x14)] ?_ (fun hS1 => ?_)
        ·refine AU_one 10 (by kernel_rfl) rfl rfl ?_
         refine kC [0] 53 (iV r19.1) [.box (srcD r19.2), .box (colD Col.zero), .box (colD x14)] rfl Tryz.call51 rfl rfl (spec_l01Next_ac r16.2 x14.k _ hr19) rfl ?_
         refine AOps_nil ?_
         exact AU_to (by kernel_rfl) hS0 (Weak_keep 1 hm [0, 2, 4, 6, 43, 46, 49, 53] [1, 2] _ _ rfl rfl rfl)
        refine AU_cut 3 #[false, true, true, true, true, true, true, true, true, true, true, false, false] [(0, .ptr 0 0), (2, .ptr 1 0), (4, .ptr 2 0), (6, iV x12), (46, iV (r16.1.getD (0 : Int).toNat 0)), (49, iV (r16.1.getD (1 : Int).toNat 0)), (53, iV r19.1)] [.box (srcD r19.2), .box (colD Col.zero), .box (colD x14)] ?_ (fun hS2 => ?_)
        ·refine AU_one 0 (by kernel_rfl) rfl rfl ?_
         refine AOps_q 43 _ rfl rfl rfl (QOp_loadN_ptr _ _ _ _ _ _ _ rfl Tryz.isAgg26 Tryz.sizeOf26 rfl rfl (colD_all _) (colD_length _)) ?_
         refine AOps_nil ?_
         exact AU_to (by kernel_rfl) hS0 (Weak_keep 1 hm [0, 2, 4, 6, 43, 46, 49, 53] [1, 2] _ _ rfl rfl rfl)
        refine AU_cut 4 #[true, true, true, true, true, true, true, true, true, false, false, false, false] [(0, .ptr 0 0), (2, .ptr 1 0), (4, .ptr 2 0), (6, iV x12), (43, .d (.agg (colD x14))), (46, iV (r16.1.getD (0 : Int).toNat 0)), (49, iV (r16.1.getD (1 : Int).toNat 0)), (50, .ptr 0 0), (51, .ptr 2 1)] [.box (srcD r16.2), .box (colD Col.zero), .box (colD x14)] ?_ (fun hS3 => ?_)
        ·refine AU_one 9 (by kernel_rfl) rfl rfl ?_
         refine AOps_q 52 _ rfl rfl rfl (QOp_load_ptr _ _ _ _ _ _ rfl Tryz.isAgg2 rfl rfl rfl) ?_
         refine AOps_nil ?_
         exact AU_to (by kernel_rfl) hS1 (Weak_keep 1 hm [0, 2, 4, 6, 43, 46, 49, 50, 52] [1, 2] _ _ rfl rfl rfl)
        refine AU_cut 4 #[false, true, true, true, true, true, true, true, true, true, false, false, false] [(0, .ptr 0 0), (2, .ptr 1 0), (4, .ptr 2 0), (6, iV x12), (46, iV (r16.1.getD (0 : Int).toNat 0)), (49, iV (r16.1.getD (1 : Int).toNat 0)), (50, .ptr 0 0), (52, iV x14.k)] [.box (srcD r16.2), .box (colD Col.zero), .box (colD x14)] ?_ (fun hS4 => ?_)
        ·refine AU_all [0, 10] (by kernel_rfl) rfl (allc ?_ (allc ?_ (fun _ h => nomatch h)))
         ·refine US_of 0 rfl rfl ?_
          refine AOps_q 43 _ rfl rfl rfl (QOp_loadN_ptr _ _ _ _ _ _ _ rfl Tryz.isAgg26 Tryz.sizeOf26 rfl rfl (colD_all _) (colD_length _)) ?_
          refine AOps_nil ?_
          exact AU_to (by kernel_rfl) hS1 (Weak_keep 1 hm [0, 2, 4, 6, 43, 46, 49, 50, 52] [1, 2] _ _ rfl rfl rfl)
         refine US_of 10 rfl rfl ?_
         refine kC [0] 53 (iV r19.1) [.box (srcD r19.2), .box (colD Col.zero), .box (colD x14)] rfl Tryz.call51 rfl rfl (spec_l01Next_ac r16.2 x14.k _ hr19) rfl ?_
         refine AOps_nil ?_
         exact AU_to (by kernel_rfl) hS2 (Weak_keep 1 hm [0, 2, 4, 6, 46, 49, 53] [1, 2] _ _ rfl rfl rfl)
        refine AU_cut 5 #[false, true, true, true, true, true, true, true, true, false, false, false, false] [(0, .ptr 0 0), (2, .ptr 1 0), (4, .ptr 2 0), (6, iV x12), (46, iV (r16.1.getD (0 : Int).toNat 0)), (49, iV (r16.1.getD (1 : Int).toNat 0)), (50, .ptr 0 0), (51, .ptr 2 1)] [.box (srcD r16.2), .box (colD Col.zero), .box (colD x14)] ?_ (fun hS5 => ?_)
        ·refine AU_all [0, 9] (by kernel_rfl) rfl (allc ?_ (allc ?_ (fun _ h => nomatch h)))
         ·refine US_of 0 rfl rfl ?_
          refine AOps_q 43 _ rfl rfl rfl (QOp_loadN_ptr _ _ _ _ _ _ _ rfl Tryz.isAgg26 Tryz.sizeOf26 rfl rfl (colD_all _) (colD_length _)) ?_
          refine AOps_nil ?_
          exact AU_to (by kernel_rfl) hS3 (Weak_keep 1 hm [0, 2, 4, 6, 43, 46, 49, 50, 51] [1, 2] _ _ rfl rfl rfl)
         refine US_of 9 rfl rfl ?_
         refine AOps_q 52 _ rfl rfl rfl (QOp_load_ptr _ _ _ _ _ _ rfl Tryz.isAgg2 rfl rfl rfl) ?_
         refine AOps_nil ?_
         exact AU_to (by kernel_rfl) hS4 (Weak_keep 1 hm [0, 2, 4, 6, 46, 49, 50, 52] [1, 2] _ _ rfl rfl rfl)
        refine AU_u 1 44 _ rfl (by kernel_rfl) rfl rfl rfl (UOp_move _ _ rfl rfl) ?_
        refine AU_u 2 45 _ rfl (by kernel_rfl) rfl rfl rfl (UOp_indexAddr_vec _ _ _ _ _ _ _ _ _ rfl Tryz.underlying27 Tryz.sizeOf2 hc17.1 (by rw [intsD_length]; exact hc17.2) rfl rfl rfl) ?_
        refine AU_u 4 47 _ rfl (by kernel_rfl) rfl rfl rfl (UOp_move _ _ rfl rfl) ?_
        refine AU_u 5 48 _ rfl (by kernel_rfl) rfl rfl rfl (UOp_indexAddr_vec _ _ _ _ _ _ _ _ _ rfl Tryz.underlying27 Tryz.sizeOf2 hc18.1 (by rw [intsD_length]; exact hc18.2) rfl rfl rfl) ?_
        refine AU_u 7 50 _ rfl (by kernel_rfl) rfl rfl rfl (UOp_move _ _ rfl rfl) ?_
        refine AU_u 8 51 _ rfl (by kernel_rfl) rfl rfl rfl (UOp_fieldAddr_ptr _ _ _ _ _ _ 1 _ _ rfl Tryz.underlying26 rfl _ Tryz.sizeOf2 rfl rfl rfl rfl) ?_
        refine AU_all [0, 3, 6, 9] (by kernel_rfl) rfl (allc ?_ (allc ?_ (allc ?_ (allc ?_ (fun _ h => nomatch h)))))
        ·refine US_of 0 rfl rfl ?_
         refine AOps_q 43 _ rfl rfl rfl (QOp_loadN_ptr _ _ _ _ _ _ _ rfl Tryz.isAgg26 Tryz.sizeOf26 rfl rfl (colD_all _) (colD_length _)) ?_
         refine AOps_nil ?_
         refine AU_all [3, 6, 9] (by kernel_rfl) rfl (allc ?_ (allc ?_ (allc ?_ (fun _ h => nomatch h))))
         ·refine US_of 3 rfl rfl ?_
          refine AOps_q 46 _ rfl rfl rfl (QOp_load_eptr _ _ _ _ _ _ _ rfl Tryz.isAgg2 rfl rfl (intsD_get _ _ 0 (by omega))) ?_
          refine AOps_nil ?_
          refine AU_all [6, 9] (by kernel_rfl) rfl (allc ?_ (allc ?_ (fun _ h => nomatch h)))
          ·refine US_of 6 rfl rfl ?_
           refine AOps_q 49 _ rfl rfl rfl (QOp_load_eptr _ _ _ _ _ _ _ rfl Tryz.isAgg2 rfl rfl (intsD_get _ _ 0 (by omega))) ?_
           refine AOps_nil ?_
           exact AU_to (by kernel_rfl) hS3 (Weak_keep 1 hm [0, 2, 4, 6, 43, 46, 49, 50, 51] [1, 2] _ _ rfl rfl rfl)
          refine US_of 9 rfl rfl ?_
          refine AOps_q 52 _ rfl rfl rfl (QOp_load_ptr _ _ _ _ _ _ rfl Tryz.isAgg2 rfl rfl rfl) ?_
          refine AOps_nil ?_
          refine AU_all [6, 10] (by kernel_rfl) rfl (allc ?_ (allc ?_ (fun _ h => nomatch h)))
          ·refine US_of 6 rfl rfl ?_
           refine AOps_q 49 _ rfl rfl rfl (QOp_load_eptr _ _ _ _ _ _ _ rfl Tryz.isAgg2 rfl rfl (intsD_get _ _ 0 (by omega))) ?_
           refine AOps_nil ?_
           exact AU_to (by kernel_rfl) hS1 (Weak_keep 1 hm [0, 2, 4, 6, 43, 46, 49, 50, 52] [1, 2] _ _ rfl rfl rfl)
          refine US_of 10 rfl rfl ?_
          refine kC [0] 53 (iV r19.1) [.box (srcD r19.2), .box (colD Col.zero), .box (colD x14), .vec 0 (intsD r16.1)] rfl Tryz.call51 rfl rfl (spec_l01Next_ac r16.2 x14.k _ hr19) rfl ?_
          refine AOps_nil ?_
          refine AU_one 6 (by kernel_rfl) rfl rfl ?_
          refine AOps_q 49 _ rfl rfl rfl (QOp_load_eptr _ _ _ _ _ _ _ rfl Tryz.isAgg2 rfl rfl (intsD_get _ _ 0 (by omega))) ?_
          refine AOps_nil ?_
          exact AU_to (by kernel_rfl) hS0 (Weak_keep 1 hm [0, 2, 4, 6, 43, 46, 49, 53] [1, 2] _ _ rfl rfl rfl)
         ·refine US_of 6 rfl rfl ?_
          refine AOps_q 49 _ rfl rfl rfl (QOp_load_eptr _ _ _ _ _ _ _ rfl Tryz.isAgg2 rfl rfl (intsD_get _ _ 0 (by omega))) ?_
          refine AOps_nil ?_
          refine AU_all [3, 9] (by kernel_rfl) rfl (allc ?_ (allc ?_ (fun _ h => nomatch h)))
          ·refine US_of 3 rfl rfl ?_
           refine AOps_q 46 _ rfl rfl rfl (QOp_load_eptr _ _ _ _ _ _ _ rfl Tryz.isAgg2 rfl rfl (intsD_get _ _ 0 (by omega))) ?_
           refine AOps_nil ?_
           exact AU_to (by kernel_rfl) hS3 (Weak_keep 1 hm [0, 2, 4, 6, 43, 46, 49, 50, 51] [1, 2] _ _ rfl rfl rfl)
          refine US_of 9 rfl rfl ?_
          refine AOps_q 52 _ rfl rfl rfl (QOp_load_ptr _ _ _ _ _ _ rfl Tryz.isAgg2 rfl rfl rfl) ?_
          refine AOps_nil ?_
          refine AU_all [3, 10] (by kernel_rfl) rfl (allc ?_ (allc ?_ (fun _ h => nomatch h)))
          ·refine US_of 3 rfl rfl ?_
           refine AOps_q 46 _ rfl rfl rfl (QOp_load_eptr _ _ _ _ _ _ _ rfl Tryz.isAgg2 rfl rfl (intsD_get _ _ 0 (by omega))) ?_
           refine AOps_nil ?_
           exact AU_to (by kernel_rfl) hS1 (Weak_keep 1 hm [0, 2, 4, 6, 43, 46, 49, 50, 52] [1, 2] _ _ rfl rfl rfl)
          refine US_of 10 rfl rfl ?_
          refine kC [0] 53 (iV r19.1) [.box (srcD r19.2), .box (colD Col.zero), .box (colD x14), .vec 0 (intsD r16.1)] rfl Tryz.call51 rfl rfl (spec_l01Next_ac r16.2 x14.k _ hr19) rfl ?_
          refine AOps_nil ?_
          refine AU_one 3 (by kernel_rfl) rfl rfl ?_
          refine AOps_q 46 _ rfl rfl rfl (QOp_load_eptr _ _ _ _ _ _ _ rfl Tryz.isAgg2 rfl rfl (intsD_get _ _ 0 (by omega))) ?_
          refine AOps_nil ?_
          exact AU_to (by kernel_rfl) hS0 (Weak_keep 1 hm [0, 2, 4, 6, 43, 46, 49, 53] [1, 2] _ _ rfl rfl rfl)
         refine US_of 9 rfl rfl ?_
         refine AOps_q 52 _ rfl rfl rfl (QOp_load_ptr _ _ _ _ _ _ rfl Tryz.isAgg2 rfl rfl rfl) ?_
         refine AOps_nil ?_
         refine AU_all [3, 6, 10] (by kernel_rfl) rfl (allc ?_ (allc ?_ (allc ?_ (fun _ h => nomatch h))))
         ·refine US_of 3 rfl rfl ?_
          refine AOps_q 46 _ rfl rfl rfl (QOp_load_eptr _ _ _ _ _ _ _ rfl Tryz.isAgg2 rfl rfl (intsD_get _ _ 0 (by omega))) ?_
          refine AOps_nil ?_
          refine AU_all [6, 10] (by kernel_rfl) rfl (allc ?_ (allc ?_ (fun _ h => nomatch h)))
          ·refine US_of 6 rfl rfl ?_
           refine AOps_q 49 _ rfl rfl rfl (QOp_load_eptr _ _ _ _ _ _ _ rfl Tryz.isAgg2 rfl rfl (intsD_get _ _ 0 (by omega))) ?_
           refine AOps_nil ?_
           exact AU_to (by kernel_rfl) hS1 (Weak_keep 1 hm [0, 2, 4, 6, 43, 46, 49, 50, 52] [1, 2] _ _ rfl rfl rfl)
          refine US_of 10 rfl rfl ?_
          refine kC [0] 53 (iV r19.1) [.box (srcD r19.2), .box (colD Col.zero), .box (colD x14), .vec 0 (intsD r16.1)] rfl Tryz.call51 rfl rfl (spec_l01Next_ac r16.2 x14.k _ hr19) rfl ?_
          refine AOps_nil ?_
          refine AU_one 6 (by kernel_rfl) rfl rfl ?_
          refine AOps_q 49 _ rfl rfl rfl (QOp_load_eptr _ _ _ _ _ _ _ rfl Tryz.isAgg2 rfl rfl (intsD_get _ _ 0 (by omega))) ?_
          refine AOps_nil ?_
          exact AU_to (by kernel_rfl) hS0 (Weak_keep 1 hm [0, 2, 4, 6, 43, 46, 49, 53] [1, 2] _ _ rfl rfl rfl)
         ·refine US_of 6 rfl rfl ?_
          refine AOps_q 49 _ rfl rfl rfl (QOp_load_eptr _ _ _ _ _ _ _ rfl Tryz.isAgg2 rfl rfl (intsD_get _ _ 0 (by omega))) ?_
          refine AOps_nil ?_
          refine AU_all [3, 10] (by kernel_rfl) rfl (allc ?_ (allc ?_ (fun _ h => nomatch h)))
          ·refine US_of 3 rfl rfl ?_
           refine AOps_q 46 _ rfl rfl rfl (QOp_load_eptr _ _ _ _ _ _ _ rfl Tryz.isAgg2 rfl rfl (intsD_get _ _ 0 (by omega))) ?_
           refine AOps_nil ?_
           exact AU_to (by kernel_rfl) hS1 (Weak_keep 1 hm [0, 2, 4, 6, 43, 46, 49, 50, 52] [1, 2] _ _ rfl rfl rfl)
          refine US_of 10 rfl rfl ?_
          refine kC [0] 53 (iV r19.1) [.box (srcD r19.2), .box (colD Col.zero), .box (colD x14), .vec 0 (intsD r16.1)] rfl Tryz.call51 rfl rfl (spec_l01Next_ac r16.2 x14.k _ hr19) rfl ?_
          refine AOps_nil ?_
          refine AU_one 3 (by kernel_rfl) rfl rfl ?_
          refine AOps_q 46 _ rfl rfl rfl (QOp_load_eptr _ _ _ _ _ _ _ rfl Tryz.isAgg2 rfl rfl (intsD_get _ _ 0 (by omega))) ?_
          refine AOps_nil ?_
          exact AU_to (by kernel_rfl) hS0 (Weak_keep 1 hm [0, 2, 4, 6, 43, 46, 49, 53] [1, 2] _ _ rfl rfl rfl)
         refine US_of 10 rfl rfl ?_
         refine kC [0] 53 (iV r19.1) [.box (srcD r19.2), .box (colD Col.zero), .box (colD x14), .vec 0 (intsD r16.1)] rfl Tryz.call51 rfl rfl (spec_l01Next_ac r16.2 x14.k _ hr19) rfl ?_
         refine AOps_nil ?_
         refine AU_all [3, 6] (by kernel_rfl) rfl (allc ?_ (allc ?_ (fun _ h => nomatch h)))
         ·refine US_of 3 rfl rfl ?_
          refine AOps_q 46 _ rfl rfl rfl (QOp_load_eptr _ _ _ _ _ _ _ rfl Tryz.isAgg2 rfl rfl (intsD_get _ _ 0 (by omega))) ?_
          refine AOps_nil ?_
          refine AU_one 6 (by kernel_rfl) rfl rfl ?_
          refine AOps_q 49 _ rfl rfl rfl (QOp_load_eptr _ _ _ _ _ _ _ rfl Tryz.isAgg2 rfl rfl (intsD_get _ _ 0 (by omega))) ?_
          refine AOps_nil ?_
          exact AU_to (by kernel_rfl) hS0 (Weak_keep 1 hm [0, 2, 4, 6, 43, 46, 49, 53] [1, 2] _ _ rfl rfl rfl)
         refine US_of 6 rfl rfl ?_
         refine AOps_q 49 _ rfl rfl rfl (QOp_load_eptr _ _ _ _ _ _ _ rfl Tryz.isAgg2 rfl rfl (intsD_get _ _ 0 (by omega))) ?_
         refine AOps_nil ?_
         refine AU_one 3 (by kernel_rfl) rfl rfl ?_
         refine AOps_q 46 _ rfl rfl rfl (QOp_load_eptr _ _ _ _ _ _ _ rfl Tryz.isAgg2 rfl rfl (intsD_get _ _ 0 (by omega))) ?_
         refine AOps_nil ?_
         exact AU_to (by kernel_rfl) hS0 (Weak_keep 1 hm [0, 2, 4, 6, 43, 46, 49, 53] [1, 2] _ _ rfl rfl rfl)
        ·refine US_of 3 rfl rfl ?_
         refine AOps_q 46 _ rfl rfl rfl (QOp_load_eptr _ _ _ _ _ _ _ rfl Tryz.isAgg2 rfl rfl (intsD_get _ _ 0 (by omega))) ?_
         refine AOps_nil ?_
         refine AU_all [0, 6, 9] (by kernel_rfl) rfl (allc ?_ (allc ?_ (allc ?_ (fun _ h => nomatch h))))
         ·refine US_of 0 rfl rfl ?_
          refine AOps_q 43 _ rfl rfl rfl (QOp_loadN_ptr _ _ _ _ _ _ _ rfl Tryz.isAgg26 Tryz.sizeOf26 rfl rfl (colD_all _) (colD_length _)) ?_
          refine AOps_nil ?_
          refine AU_all [6, 9] (by kernel_rfl) rfl (allc ?_ (allc ?_ (fun _ h => nomatch h)))
          ·refine US_of 6 rfl rfl ?_
           refine AOps_q 49 _ rfl rfl rfl (QOp_load_eptr _ _ _ _ _ _ _ rfl Tryz.isAgg2 rfl rfl (intsD_get _ _ 0 (by omega))) ?_
           refine AOps_nil ?_
           exact AU_to (by kernel_rfl) hS3 (Weak_keep 1 hm [0, 2, 4, 6, 43, 46, 49, 50, 51] [1, 2] _ _ rfl rfl rfl)
          refine US_of 9 rfl rfl ?_
          refine AOps_q 52 _ rfl rfl rfl (QOp_load_ptr _ _ _ _ _ _ rfl Tryz.isAgg2 rfl rfl rfl) ?_
          refine AOps_nil ?_
          refine AU_all [6, 10] (by kernel_rfl) rfl (allc ?_ (allc ?_ (fun _ h => nomatch h)))
          ·refine US_of 6 rfl rfl ?_
           refine AOps_q 49 _ rfl rfl rfl (QOp_load_eptr _ _ _ _ _ _ _ rfl Tryz.isAgg2 rfl rfl (intsD_get _ _ 0 (by omega))) ?_
           refine AOps_nil ?_
           exact AU_to (by kernel_rfl) hS1 (Weak_keep 1 hm [0, 2, 4, 6, 43, 46, 49, 50, 52] [1, 2] _ _ rfl rfl rfl)
          refine US_of 10 rfl rfl ?_
          refine kC [0] 53 (iV r19.1) [.box (srcD r19.2), .box (colD Col.zero), .box (colD x14), .vec 0 (intsD r16.1)] rfl Tryz.call51 rfl rfl (spec_l01Next_ac r16.2 x14.k _ hr19) rfl ?_
          refine AOps_nil ?_
          refine AU_one 6 (by kernel_rfl) rfl rfl ?_
          refine AOps_q 49 _ rfl rfl rfl (QOp_load_eptr _ _ _ _ _ _ _ rfl Tryz.isAgg2 rfl rfl (intsD_get _ _ 0 (by omega))) ?_
          refine AOps_nil ?_
          exact AU_to (by kernel_rfl) hS0 (Weak_keep 1 hm [0, 2, 4, 6, 43, 46, 49, 53] [1, 2] _ _ rfl rfl rfl)
         ·refine US_of 6 rfl rfl ?_
          refine AOps_q 49 _ rfl rfl rfl (QOp_load_eptr _ _ _ _ _ _ _ rfl Tryz.isAgg2 rfl rfl (intsD_get _ _ 0 (by omega))) ?_
          refine AOps_nil ?_
          exact AU_to (by kernel_rfl) hS5 (Weak_keep 1 hm [0, 2, 4, 6, 46, 49, 50, 51] [1, 2] _ _ rfl rfl rfl)
         refine US_of 9 rfl rfl ?_
         refine AOps_q 52 _ rfl rfl rfl (QOp_load_ptr _ _ _ _ _ _ rfl Tryz.isAgg2 rfl rfl rfl) ?_
         refine AOps_nil ?_
         refine AU_all [0, 6, 10] (by kernel_rfl) rfl (allc ?_ (allc ?_ (allc ?_ (fun _ h => nomatch h))))
         ·refine US_of 0 rfl rfl ?_
          refine AOps_q 43 _ rfl rfl rfl (QOp_loadN_ptr _ _ _ _ _ _ _ rfl Tryz.isAgg26 Tryz.sizeOf26 rfl rfl (colD_all _) (colD_length _)) ?_
          refine AOps_nil ?_
          refine AU_all [6, 10] (by kernel_rfl) rfl (allc ?_ (allc ?_ (fun _ h => nomatch h)))
          ·refine US_of 6 rfl rfl ?_
           refine AOps_q 49 _ rfl rfl rfl (QOp_load_eptr _ _ _ _ _ _ _ rfl Tryz.isAgg2 rfl rfl (intsD_get _ _ 0 (by omega))) ?_
           refine AOps_nil ?_
           exact AU_to (by kernel_rfl) hS1 (Weak_keep 1 hm [0, 2, 4, 6, 43, 46, 49, 50, 52] [1, 2] _ _ rfl rfl rfl)
          refine US_of 10 rfl rfl ?_
          refine kC [0] 53 (iV r19.1) [.box (srcD r19.2), .box (colD Col.zero), .box (colD x14), .vec 0 (intsD r16.1)] rfl Tryz.call51 rfl rfl (spec_l01Next_ac r16.2 x14.k _ hr19) rfl ?_
          refine AOps_nil ?_
          refine AU_one 6 (by kernel_rfl) rfl rfl ?_
          refine AOps_q 49 _ rfl rfl rfl (QOp_load_eptr _ _ _ _ _ _ _ rfl Tryz.isAgg2 rfl rfl (intsD_get _ _ 0 (by omega))) ?_
          refine AOps_nil ?_
          exact AU_to (by kernel_rfl) hS0 (Weak_keep 1 hm [0, 2, 4, 6, 43, 46, 49, 53] [1, 2] _ _ rfl rfl rfl)
         ·refine US_of 6 rfl rfl ?_
          refine AOps_q 49 _ rfl rfl rfl (QOp_load_eptr _ _ _ _ _ _ _ rfl Tryz.isAgg2 rfl rfl (intsD_get _ _ 0 (by omega))) ?_
          refine AOps_nil ?_
          exact AU_to (by kernel_rfl) hS4 (Weak_keep 1 hm [0, 2, 4, 6, 46, 49, 50, 52] [1, 2] _ _ rfl rfl rfl)
         refine US_of 10 rfl rfl ?_
         refine kC [0] 53 (iV r19.1) [.box (srcD r19.2), .box (colD Col.zero), .box (colD x14), .vec 0 (intsD r16.1)] rfl Tryz.call51 rfl rfl (spec_l01Next_ac r16.2 x14.k _ hr19) rfl ?_
         refine AOps_nil ?_
         refine AU_all [0, 6] (by kernel_rfl) rfl (allc ?_ (allc ?_ (fun _ h => nomatch h)))
         ·refine US_of 0 rfl rfl ?_
          refine AOps_q 43 _ rfl rfl rfl (QOp_loadN_ptr _ _ _ _ _ _ _ rfl Tryz.isAgg26 Tryz.sizeOf26 rfl rfl (colD_all _) (colD_length _)) ?_
          refine AOps_nil ?_
          refine AU_one 6 (by kernel_rfl) rfl rfl ?_
          refine AOps_q 49 _ rfl rfl rfl (QOp_load_eptr _ _ _ _ _ _ _ rfl Tryz.isAgg2 rfl rfl (intsD_get _ _ 0 (by omega))) ?_
          refine AOps_nil ?_
          exact AU_to (by kernel_rfl) hS0 (Weak_keep 1 hm [0, 2, 4, 6, 43, 46, 49, 53] [1, 2] _ _ rfl rfl rfl)
         refine US_of 6 rfl rfl ?_
         refine AOps_q 49 _ rfl rfl rfl (QOp_load_eptr _ _ _ _ _ _ _ rfl Tryz.isAgg2 rfl rfl (intsD_get _ _ 0 (by omega))) ?_
         refine AOps_nil ?_
         exact AU_to (by kernel_rfl) hS2 (Weak_keep 1 hm [0, 2, 4, 6, 46, 49, 53] [1, 2] _ _ rfl rfl rfl)
        ·refine US_of 6 rfl rfl ?_
         refine AOps_q 49 _ rfl rfl rfl (QOp_load_eptr _ _ _ _ _ _ _ rfl Tryz.isAgg2 rfl rfl (intsD_get _ _ 0 (by omega))) ?_
         refine AOps_nil ?_
         refine AU_all [0, 3, 9] (by kernel_rfl) rfl (allc ?_ (allc ?_ (allc ?_ (fun _ h => nomatch h))))
         ·refine US_of 0 rfl rfl ?_
          refine AOps_q 43 _ rfl rfl rfl (QOp_loadN_ptr _ _ _ _ _ _ _ rfl Tryz.isAgg26 Tryz.sizeOf26 rfl rfl (colD_all _) (colD_length _)) ?_
          refine AOps_nil ?_
          refine AU_all [3, 9] (by kernel_rfl) rfl (allc ?_ (allc ?_ (fun _ h => nomatch h)))
          ·refine US_of 3 rfl rfl ?_
           refine AOps_q 46 _ rfl rfl rfl (QOp_load_eptr _ _ _ _ _ _ _ rfl Tryz.isAgg2 rfl rfl (intsD_get _ _ 0 (by omega))) ?_
           refine AOps_nil ?_
           exact AU_to (by kernel_rfl) hS3 (Weak_keep 1 hm [0, 2, 4, 6, 43, 46, 49, 50, 51] [1, 2] _ _ rfl rfl rfl)
          refine US_of 9 rfl rfl ?_
          refine AOps_q 52 _ rfl rfl rfl (QOp_load_ptr _ _ _ _ _ _ rfl Tryz.isAgg2 rfl rfl rfl) ?_
          refine AOps_nil ?_
          refine AU_all [3, 10] (by kernel_rfl) rfl (allc ?_ (allc ?_ (fun _ h => nomatch h)))
          ·refine US_of 3 rfl rfl ?_
           refine AOps_q 46 _ rfl rfl rfl (QOp_load_eptr _ _ _ _ _ _ _ rfl Tryz.isAgg2 rfl rfl (intsD_get _ _ 0 (by omega))) ?_
           refine AOps_nil ?_
           exact AU_to (by kernel_rfl) hS1 (Weak_keep 1 hm [0, 2, 4, 6, 43, 46, 49, 50, 52] [1, 2] _ _ rfl rfl rfl)
          refine US_of 10 rfl rfl ?_
          refine kC [0] 53 (iV r19.1) [.box (srcD r19.2), .box (colD Col.zero), .box (colD x14), .vec 0 (intsD r16.1)] rfl Tryz.call51 rfl rfl (spec_l01Next_ac r16.2 x14.k _ hr19) rfl ?_
          refine AOps_nil ?_
          refine AU_one 3 (by kernel_rfl) rfl rfl ?_
          refine AOps_q 46 _ rfl rfl rfl (QOp_load_eptr _ _ _ _ _ _ _ rfl Tryz.isAgg2 rfl rfl (intsD_get _ _ 0 (by omega))) ?_
          refine AOps_nil ?_
          exact AU_to (by kernel_rfl) hS0 (Weak_keep 1 hm [0, 2, 4, 6, 43, 46, 49, 53] [1, 2] _ _ rfl rfl rfl)
         ·refine US_of 3 rfl rfl ?_
          refine AOps_q 46 _ rfl rfl rfl (QOp_load_eptr _ _ _ _ _ _ _ rfl Tryz.isAgg2 rfl rfl (intsD_get _ _ 0 (by omega))) ?_
          refine AOps_nil ?_
          exact AU_to (by kernel_rfl) hS5 (Weak_keep 1 hm [0, 2, 4, 6, 46, 49, 50, 51] [1, 2] _ _ rfl rfl rfl)
         refine US_of 9 rfl rfl ?_
         refine AOps_q 52 _ rfl rfl rfl (QOp_load_ptr _ _ _ _ _ _ rfl Tryz.isAgg2 rfl rfl rfl) ?_
         refine AOps_nil ?_
         refine AU_all [0, 3, 10] (by kernel_rfl) rfl (allc ?_ (allc ?_ (allc ?_ (fun _ h => nomatch h))))
         ·refine US_of 0 rfl rfl ?_
          refine AOps_q 43 _ rfl rfl rfl (QOp_loadN_ptr _ _ _ _ _ _ _ rfl Tryz.isAgg26 Tryz.sizeOf26 rfl rfl (colD_all _) (colD_length _)) ?_
          refine AOps_nil ?_
          refine AU_all [3, 10] (by kernel_rfl) rfl (allc ?_ (allc ?_ (fun _ h => nomatch h)))
          ·refine US_of 3 rfl rfl ?_
           refine AOps_q 46 _ rfl rfl rfl (QOp_load_eptr _ _ _ _ _ _ _ rfl Tryz.isAgg2 rfl rfl (intsD_get _ _ 0 (by omega))) ?_
           refine AOps_nil ?_
           exact AU_to (by kernel_rfl) hS1 (Weak_keep 1 hm [0, 2, 4, 6, 43, 46, 49, 50, 52] [1, 2] _ _ rfl rfl rfl)
          refine US_of 10 rfl rfl ?_
          refine kC [0] 53 (iV r19.1) [.box (srcD r19.2), .box (colD Col.zero), .box (colD x14), .vec 0 (intsD r16.1)] rfl Tryz.call51 rfl rfl (spec_l01Next_ac r16.2 x14.k _ hr19) rfl ?_
          refine AOps_nil ?_
          refine AU_one 3 (by kernel_rfl) rfl rfl ?_
          refine AOps_q 46 _ rfl rfl rfl (QOp_load_eptr _ _ _ _ _ _ _ rfl Tryz.isAgg2 rfl rfl (intsD_get _ _ 0 (by omega))) ?_
          refine AOps_nil ?_
          exact AU_to (by kernel_rfl) hS0 (Weak_keep 1 hm [0, 2, 4, 6, 43, 46, 49, 53] [1, 2] _ _ rfl rfl rfl)
         ·refine US_of 3 rfl rfl ?_
          refine AOps_q 46 _ rfl rfl rfl (QOp_load_eptr _ _ _ _ _ _ _ rfl Tryz.isAgg2 rfl rfl (intsD_get _ _ 0 (by omega))) ?_
          refine AOps_nil ?_
          exact AU_to (by kernel_rfl) hS4 (Weak_keep 1 hm [0, 2, 4, 6, 46, 49, 50, 52] [1, 2] _ _ rfl rfl rfl)
         refine US_of 10 rfl rfl ?_
         refine kC [0] 53 (iV r19.1) [.box (srcD r19.2), .box (colD Col.zero), .box (colD x14), .vec 0 (intsD r16.1)] rfl Tryz.call51 rfl rfl (spec_l01Next_ac r16.2 x14.k _ hr19) rfl ?_
         refine AOps_nil ?_
         refine AU_all [0, 3] (by kernel_rfl) rfl (allc ?_ (allc ?_ (fun _ h => nomatch h)))
         ·refine US_of 0 rfl rfl ?_
          refine AOps_q 43 _ rfl rfl rfl (QOp_loadN_ptr _ _ _ _ _ _ _ rfl Tryz.isAgg26 Tryz.sizeOf26 rfl rfl (colD_all _) (colD_length _)) ?_
          refine AOps_nil ?_
          refine AU_one 3 (by kernel_rfl) rfl rfl ?_
          refine AOps_q 46 _ rfl rfl rfl (QOp_load_eptr _ _ _ _ _ _ _ rfl Tryz.isAgg2 rfl rfl (intsD_get _ _ 0 (by omega))) ?_
          refine AOps_nil ?_
          exact AU_to (by kernel_rfl) hS0 (Weak_keep 1 hm [0, 2, 4, 6, 43, 46, 49, 53] [1, 2] _ _ rfl rfl rfl)
         refine US_of 3 rfl rfl ?_
         refine AOps_q 46 _ rfl rfl rfl (QOp_load_eptr _ _ _ _ _ _ _ rfl Tryz.isAgg2 rfl rfl (intsD_get _ _ 0 (by omega))) ?_
         refine AOps_nil ?_
         exact AU_to (by kernel_rfl) hS2 (Weak_keep 1 hm [0, 2, 4, 6, 46, 49, 53] [1, 2] _ _ rfl rfl rfl)
        refine US_of 9 rfl rfl ?_
        refine AOps_q 52 _ rfl rfl rfl (QOp_load_ptr _ _ _ _ _ _ rfl Tryz.isAgg2 rfl rfl rfl) ?_
        refine AOps_nil ?_
        refine AU_all [0, 3, 6, 10] (by kernel_rfl) rfl (allc ?_ (allc ?_ (allc ?_ (allc ?_ (fun _ h => nomatch h)))))
        ·refine US_of 0 rfl rfl ?_
         refine AOps_q 43 _ rfl rfl rfl (QOp_loadN_ptr _ _ _ _ _ _ _ rfl Tryz.isAgg26 Tryz.sizeOf26 rfl rfl (colD_all _) (colD_length _)) ?_
         refine AOps_nil ?_
         refine AU_all [3, 6, 10] (by kernel_rfl) rfl (allc ?_ (allc ?_ (allc ?_ (fun _ h => nomatch h))))
         ·refine US_of 3 rfl rfl ?_
          refine AOps_q 46 _ rfl rfl rfl (QOp_load_eptr _ _ _ _ _ _ _ rfl Tryz.isAgg2 rfl rfl (intsD_get _ _ 0 (by omega))) ?_
          refine AOps_nil ?_
          refine AU_all [6, 10] (by kernel_rfl) rfl (allc ?_ (allc ?_ (fun _ h => nomatch h)))
          ·refine US_of 6 rfl rfl ?_
           refine AOps_q 49 _ rfl rfl rfl (QOp_load_eptr _ _ _ _ _ _ _ rfl Tryz.isAgg2 rfl rfl (intsD_get _ _ 0 (by omega))) ?_
           refine AOps_nil ?_
           exact AU_to (by kernel_rfl) hS1 (Weak_keep 1 hm [0, 2, 4, 6, 43, 46, 49, 50, 52] [1, 2] _ _ rfl rfl rfl)
          refine US_of 10 rfl rfl ?_
          refine kC [0] 53 (iV r19.1) [.box (srcD r19.2), .box (colD Col.zero), .box (colD x14), .vec 0 (intsD r16.1)] rfl Tryz.call51 rfl rfl (spec_l01Next_ac r16.2 x14.k _ hr19) rfl ?_
          refine AOps_nil ?_
          refine AU_one 6 (by kernel_rfl) rfl rfl ?_
          refine AOps_q 49 _ rfl rfl rfl (QOp_load_eptr _ _ _ _ _ _ _ rfl Tryz.isAgg2 rfl rfl (intsD_get _ _ 0 (by omega))) ?_
          refine AOps_nil ?_
          exact AU_to (by kernel_rfl) hS0 (Weak_keep 1 hm [0, 2, 4, 6, 43, 46, 49, 53] [1, 2] _ _ rfl rfl rfl)
         ·refine US_of 6 rfl rfl ?_
          refine AOps_q 49 _ rfl rfl rfl (QOp_load_eptr _ _ _ _ _ _ _ rfl Tryz.isAgg2 rfl rfl (intsD_get _ _ 0 (by omega))) ?_
          refine AOps_nil ?_
          refine AU_all [3, 10] (by kernel_rfl) rfl (allc ?_ (allc ?_ (fun _ h => nomatch h)))
          ·refine US_of 3 rfl rfl ?_
           refine AOps_q 46 _ rfl rfl rfl (QOp_load_eptr _ _ _ _ _ _ _ rfl Tryz.isAgg2 rfl rfl (intsD_get _ _ 0 (by omega))) ?_
           refine AOps_nil ?_
           exact AU_to (by kernel_rfl) hS1 (Weak_keep 1 hm [0, 2, 4, 6, 43, 46, 49, 50, 52] [1, 2] _ _ rfl rfl rfl)
          refine US_of 10 rfl rfl ?_
          refine kC [0] 53 (iV r19.1) [.box (srcD r19.2), .box (colD Col.zero), .box (colD x14), .vec 0 (intsD r16.1)] rfl Tryz.call51 rfl rfl (spec_l01Next_ac r16.2 x14.k _ hr19) rfl ?_
          refine AOps_nil ?_
          refine AU_one 3 (by kernel_rfl) rfl rfl ?_
          refine AOps_q 46 _ rfl rfl rfl (QOp_load_eptr _ _ _ _ _ _ _ rfl Tryz.isAgg2 rfl rfl (intsD_get _ _ 0 (by omega))) ?_
          refine AOps_nil ?_
          exact AU_to (by kernel_rfl) hS0 (Weak_keep 1 hm [0, 2, 4, 6, 43, 46, 49, 53] [1, 2] _ _ rfl rfl rfl)
         refine US_of 10 rfl rfl ?_
         refine kC [0] 53 (iV r19.1) [.box (srcD r19.2), .box (colD Col.zero), .box (colD x14), .vec 0 (intsD r16.1)] rfl Tryz.call51 rfl rfl (spec_l01Next_ac r16.2 x14.k _ hr19) rfl ?_
         refine AOps_nil ?_
         refine AU_all [3, 6] (by kernel_rfl) rfl (allc ?_ (allc ?_ (fun _ h => nomatch h)))
         ·refine US_of 3 rfl rfl ?_
          refine AOps_q 46 _ rfl rfl rfl (QOp_load_eptr _ _ _ _ _ _ _ rfl Tryz.isAgg2 rfl rfl (intsD_get _ _ 0 (by omega))) ?_
          refine AOps_nil ?_
          refine AU_one 6 (by kernel_rfl) rfl rfl ?_
          refine AOps_q 49 _ rfl rfl rfl (QOp_load_eptr _ _ _ _ _ _ _ rfl Tryz.isAgg2 rfl rfl (intsD_get _ _ 0 (by omega))) ?_
          refine AOps_nil ?_
          exact AU_to (by kernel_rfl) hS0 (Weak_keep 1 hm [0, 2, 4, 6, 43, 46, 49, 53] [1, 2] _ _ rfl rfl rfl)
         refine US_of 6 rfl rfl ?_
         refine AOps_q 49 _ rfl rfl rfl (QOp_load_eptr _ _ _ _ _ _ _ rfl Tryz.isAgg2 rfl rfl (intsD_get _ _ 0 (by omega))) ?_
         refine AOps_nil ?_
         refine AU_one 3 (by kernel_rfl) rfl rfl ?_
         refine AOps_q 46 _ rfl rfl rfl (QOp_load_eptr _ _ _ _ _ _ _ rfl Tryz.isAgg2 rfl rfl (intsD_get _ _ 0 (by omega))) ?_
         refine AOps_nil ?_
         exact AU_to (by kernel_rfl) hS0 (Weak_keep 1 hm [0, 2, 4, 6, 43, 46, 49, 53] [1, 2] _ _ rfl rfl rfl)
        ·refine US_of 3 rfl rfl ?_
         refine AOps_q 46 _ rfl rfl rfl (QOp_load_eptr _ _ _ _ _ _ _ rfl Tryz.isAgg2 rfl rfl (intsD_get _ _ 0 (by omega))) ?_
         refine AOps_nil ?_
         refine AU_all [0, 6, 10] (by kernel_rfl) rfl (allc ?_ (allc ?_ (allc ?_ (fun _ h => nomatch h))))
         ·refine US_of 0 rfl rfl ?_
          refine AOps_q 43 _ rfl rfl rfl (QOp_loadN_ptr _ _ _ _ _ _ _ rfl Tryz.isAgg26 Tryz.sizeOf26 rfl rfl (colD_all _) (colD_length _)) ?_
          refine AOps_nil ?_
          refine AU_all [6, 10] (by kernel_rfl) rfl (allc ?_ (allc ?_ (fun _ h => nomatch h)))
          ·refine US_of 6 rfl rfl ?_
           refine AOps_q 49 _ rfl rfl rfl (QOp_load_eptr _ _ _ _ _ _ _ rfl Tryz.isAgg2 rfl rfl (intsD_get _ _ 0 (by omega))) ?_
           refine AOps_nil ?_
           exact AU_to (by kernel_rfl) hS1 (Weak_keep 1 hm [0, 2, 4, 6, 43, 46, 49, 50, 52] [1, 2] _ _ rfl rfl rfl)
          refine US_of 10 rfl rfl ?_
          refine kC [0] 53 (iV r19.1) [.box (srcD r19.2), .box (colD Col.zero), .box (colD x14), .vec 0 (intsD r16.1)] rfl Tryz.call51 rfl rfl (spec_l01Next_ac r16.2 x14.k _ hr19) rfl ?_
          refine AOps_nil ?_
          refine AU_one 6 (by kernel_rfl) rfl rfl ?_
          refine AOps_q 49 _ rfl rfl rfl (QOp_load_eptr _ _ _ _ _ _ _ rfl Tryz.isAgg2 rfl rfl (intsD_get _ _ 0 (by omega))) ?_
          refine AOps_nil ?_
          exact AU_to (by kernel_rfl) hS0 (Weak_keep 1 hm [0, 2, 4, 6, 43, 46, 49, 53] [1, 2] _ _ rfl rfl rfl)
         ·refine US_of 6 rfl rfl ?_
          refine AOps_q 49 _ rfl rfl rfl (QOp_load_eptr _ _ _ _ _ _ _ rfl Tryz.isAgg2 rfl rfl (intsD_get _ _ 0 (by omega))) ?_
          refine AOps_nil ?_
          exact AU_to (by kernel_rfl) hS4 (Weak_keep 1 hm [0, 2, 4, 6, 46, 49, 50, 52] [1, 2] _ _ rfl rfl rfl)
         refine US_of 10 rfl rfl ?_
         refine kC [0] 53 (iV r19.1) [.box (srcD r19.2), .box (colD Col.zero), .box (colD x14), .vec 0 (intsD r16.1)] rfl Tryz.call51 rfl rfl (spec_l01Next_ac r16.2 x14.k _ hr19) rfl ?_
         refine AOps_nil ?_
         refine AU_all [0, 6] (by kernel_rfl) rfl (allc ?_ (allc ?_ (fun _ h => nomatch h)))
         ·refine US_of 0 rfl rfl ?_
          refine AOps_q 43 _ rfl rfl rfl (QOp_loadN_ptr _ _ _ _ _ _ _ rfl Tryz.isAgg26 Tryz.sizeOf26 rfl rfl (colD_all _) (colD_length _)) ?_
          refine AOps_nil ?_
          refine AU_one 6 (by kernel_rfl) rfl rfl ?_
          refine AOps_q 49 _ rfl rfl rfl (QOp_load_eptr _ _ _ _ _ _ _ rfl Tryz.isAgg2 rfl rfl (intsD_get _ _ 0 (by omega))) ?_
          refine AOps_nil ?_
          exact AU_to (by kernel_rfl) hS0 (Weak_keep 1 hm [0, 2, 4, 6, 43, 46, 49, 53] [1, 2] _ _ rfl rfl rfl)
         refine US_of 6 rfl rfl ?_
         refine AOps_q 49 _ rfl rfl rfl (QOp_load_eptr _ _ _ _ _ _ _ rfl Tryz.isAgg2 rfl rfl (intsD_get _ _ 0 (by omega))) ?_
         refine AOps_nil ?_
         exact AU_to (by kernel_rfl) hS2 (Weak_keep 1 hm [0, 2, 4, 6, 46, 49, 53] [1, 2] _ _ rfl rfl rfl)
        ·refine US_of 6 rfl rfl ?_
         refine AOps_q 49 _ rfl rfl rfl (QOp_load_eptr _ _ _ _ _ _ _ rfl Tryz.isAgg2 rfl rfl (intsD_get _ _ 0 (by omega))) ?_
         refine AOps_nil ?_
         refine AU_all [0, 3, 10] (by kernel_rfl) rfl (allc ?_ (allc ?_ (allc ?_ (fun _ h => nomatch h))))
         ·refine US_of 0 rfl rfl ?_
          refine AOps_q 43 _ rfl rfl rfl (QOp_loadN_ptr _ _ _ _ _ _ _ rfl Tryz.isAgg26 Tryz.sizeOf26 rfl rfl (colD_all _) (colD_length _)) ?_
          refine AOps_nil ?_
          refine AU_all [3, 10] (by kernel_rfl) rfl (allc ?_ (allc ?_ (fun _ h => nomatch h)))
          ·refine US_of 3 rfl rfl ?_
           refine AOps_q 46 _ rfl rfl rfl (QOp_load_eptr _ _ _ _ _ _ _ rfl Tryz.isAgg2 rfl rfl (intsD_get _ _ 0 (by omega))) ?_
           refine AOps_nil ?_
           exact AU_to (by kernel_rfl) hS1 (Weak_keep 1 hm [0, 2, 4, 6, 43, 46, 49, 50, 52] [1, 2] _ _ rfl rfl rfl)
          refine US_of 10 rfl rfl ?_
          refine kC [0] 53 (iV r19.1) [.box (srcD r19.2), .box (colD Col.zero), .box (colD x14), .vec 0 (intsD r16.1)] rfl Tryz.call51 rfl rfl (spec_l01Next_ac r16.2 x14.k _ hr19) rfl ?_
          refine AOps_nil ?_
          refine AU_one 3 (by kernel_rfl) rfl rfl ?_
          refine AOps_q 46 _ rfl rfl rfl (QOp_load_eptr _ _ _ _ _ _ _ rfl Tryz.isAgg2 rfl rfl (intsD_get _ _ 0 (by omega))) ?_
          refine AOps_nil ?_
          exact AU_to (by kernel_rfl) hS0 (Weak_keep 1 hm [0, 2, 4, 6, 43, 46, 49, 53] [1, 2] _ _ rfl rfl rfl)
         ·refine US_of 3 rfl rfl ?_
          refine AOps_q 46 _ rfl rfl rfl (QOp_load_eptr _ _ _ _ _ _ _ rfl Tryz.isAgg2 rfl rfl (intsD_get _ _ 0 (by omega))) ?_
          refine AOps_nil ?_
          exact AU_to (by kernel_rfl) hS4 (Weak_keep 1 hm [0, 2, 4, 6, 46, 49, 50, 52] [1, 2] _ _ rfl rfl rfl)
         refine US_of 10 rfl rfl ?_
         refine kC [0] 53 (iV r19.1) [.box (srcD r19.2), .box (colD Col.zero), .box (colD x14), .vec 0 (intsD r16.1)] rfl Tryz.call51 rfl rfl (spec_l01Next_ac r16.2 x14.k _ hr19) rfl ?_
         refine AOps_nil ?_
         refine AU_all [0, 3] (by kernel_rfl) rfl (allc ?_ (allc ?_ (fun _ h => nomatch h)))
         ·refine US_of 0 rfl rfl ?_
          refine AOps_q 43 _ rfl rfl rfl (QOp_loadN_ptr _ _ _ _ _ _ _ rfl Tryz.isAgg26 Tryz.sizeOf26 rfl rfl (colD_all _) (colD_length _)) ?_
          refine AOps_nil ?_
          refine AU_one 3 (by kernel_rfl) rfl rfl ?_
          refine AOps_q 46 _ rfl rfl rfl (QOp_load_eptr _ _ _ _ _ _ _ rfl Tryz.isAgg2 rfl rfl (intsD_get _ _ 0 (by omega))) ?_
          refine AOps_nil ?_
          exact AU_to (by kernel_rfl) hS0 (Weak_keep 1 hm [0, 2, 4, 6, 43, 46, 49, 53] [1, 2] _ _ rfl rfl rfl)
         refine US_of 3 rfl rfl ?_
         refine AOps_q 46 _ rfl rfl rfl (QOp_load_eptr _ _ _ _ _ _ _ rfl Tryz.isAgg2 rfl rfl (intsD_get _ _ 0 (by omega))) ?_
         refine AOps_nil ?_
         exact AU_to (by kernel_rfl) hS2 (Weak_keep 1 hm [0, 2, 4, 6, 46, 49, 53] [1, 2] _ _ rfl rfl rfl)
        refine US_of 10 rfl rfl ?_
        refine kC [0] 53 (iV r19.1) [.box (srcD r19.2), .box (colD Col.zero), .box (colD x14), .vec 0 (intsD r16.1)] rfl Tryz.call51 rfl rfl (spec_l01Next_ac r16.2 x14.k _ hr19) rfl ?_
        refine AOps_nil ?_
        refine AU_all [0, 3, 6] (by kernel_rfl) rfl (allc ?_ (allc ?_ (allc ?_ (fun _ h => nomatch h))))
        ·refine US_of 0 rfl rfl ?_
         refine AOps_q 43 _ rfl rfl rfl (QOp_loadN_ptr _ _ _ _ _ _ _ rfl Tryz.isAgg26 Tryz.sizeOf26 rfl rfl (colD_all _) (colD_length _)) ?_
         refine AOps_nil ?_
         refine AU_all [3, 6] (by kernel_rfl) rfl (allc ?_ (allc ?_ (fun _ h => nomatch h)))
         ·refine US_of 3 rfl rfl ?_
          refine AOps_q 46 _ rfl rfl rfl (QOp_load_eptr _ _ _ _ _ _ _ rfl Tryz.isAgg2 rfl rfl (intsD_get _ _ 0 (by omega))) ?_
          refine AOps_nil ?_
          refine AU_one 6 (by kernel_rfl) rfl rfl ?_
          refine AOps_q 49 _ rfl rfl rfl (QOp_load_eptr _ _ _ _ _ _ _ rfl Tryz.isAgg2 rfl rfl (intsD_get _ _ 0 (by omega))) ?_
          refine AOps_nil ?_
          exact AU_to (by kernel_rfl) hS0 (Weak_keep 1 hm [0, 2, 4, 6, 43, 46, 49, 53] [1, 2] _ _ rfl rfl rfl)
         refine US_of 6 rfl rfl ?_
         refine AOps_q 49 _ rfl rfl rfl (QOp_load_eptr _ _ _ _ _ _ _ rfl Tryz.isAgg2 rfl rfl (intsD_get _ _ 0 (by omega))) ?_
         refine AOps_nil ?_
         refine AU_one 3 (by kernel_rfl) rfl rfl ?_
         refine AOps_q 46 _ rfl rfl rfl (QOp_load_eptr _ _ _ _ _ _ _ rfl Tryz.isAgg2 rfl rfl (intsD_get _ _ 0 (by omega))) ?_
         refine AOps_nil ?_
         exact AU_to (by kernel_rfl) hS0 (Weak_keep 1 hm [0, 2, 4, 6, 43, 46, 49, 53] [1, 2] _ _ rfl rfl rfl)
        ·refine US_of 3 rfl rfl ?_
         refine AOps_q 46 _ rfl rfl rfl (QOp_load_eptr _ _ _ _ _ _ _ rfl Tryz.isAgg2 rfl rfl (intsD_get _ _ 0 (by omega))) ?_
         refine AOps_nil ?_
         refine AU_all [0, 6] (by kernel_rfl) rfl (allc ?_ (allc ?_ (fun _ h => nomatch h)))
         ·refine US_of 0 rfl rfl ?_
          refine AOps_q 43 _ rfl rfl rfl (QOp_loadN_ptr _ _ _ _ _ _ _ rfl Tryz.isAgg26 Tryz.sizeOf26 rfl rfl (colD_all _) (colD_length _)) ?_
          refine AOps_nil ?_
          refine AU_one 6 (by kernel_rfl) rfl rfl ?_
          refine AOps_q 49 _ rfl rfl rfl (QOp_load_eptr _ _ _ _ _ _ _ rfl Tryz.isAgg2 rfl rfl (intsD_get _ _ 0 (by omega))) ?_
          refine AOps_nil ?_
          exact AU_to (by kernel_rfl) hS0 (Weak_keep 1 hm [0, 2, 4, 6, 43, 46, 49, 53] [1, 2] _ _ rfl rfl rfl)
         refine US_of 6 rfl rfl ?_
         refine AOps_q 49 _ rfl rfl rfl (QOp_load_eptr _ _ _ _ _ _ _ rfl Tryz.isAgg2 rfl rfl (intsD_get _ _ 0 (by omega))) ?_
         refine AOps_nil ?_
         exact AU_to (by kernel_rfl) hS2 (Weak_keep 1 hm [0, 2, 4, 6, 46, 49, 53] [1, 2] _ _ rfl rfl rfl)
        refine US_of 6 rfl rfl ?_
        refine AOps_q 49 _ rfl rfl rfl (QOp_load_eptr _ _ _ _ _ _ _ rfl Tryz.isAgg2 rfl rfl (intsD_get _ _ 0 (by omega))) ?_
        refine AOps_nil ?_
        refine AU_all [0, 3] (by kernel_rfl) rfl (allc ?_ (allc ?_ (fun _ h => nomatch h)))
        ·refine US_of 0 rfl rfl ?_
         refine AOps_q 43 _ rfl rfl rfl (QOp_loadN_ptr _ _ _ _ _ _ _ rfl Tryz.isAgg26 Tryz.sizeOf26 rfl rfl (colD_all _) (colD_length _)) ?_
         refine AOps_nil ?_
         refine AU_one 3 (by kernel_rfl) rfl rfl ?_
         refine AOps_q 46 _ rfl rfl rfl (QOp_load_eptr _ _ _ _ _ _ _ rfl Tryz.isAgg2 rfl rfl (intsD_get _ _ 0 (by omega))) ?_
         refine AOps_nil ?_
         exact AU_to (by kernel_rfl) hS0 (Weak_keep 1 hm [0, 2, 4, 6, 43, 46, 49, 53] [1, 2] _ _ rfl rfl rfl)
        refine US_of 3 rfl rfl ?_
        refine AOps_q 46 _ rfl rfl rfl (QOp_load_eptr _ _ _ _ _ _ _ rfl Tryz.isAgg2 rfl rfl (intsD_get _ _ 0 (by omega))) ?_
        refine AOps_nil ?_
        exact AU_to (by kernel_rfl) hS2 (Weak_keep 1 hm [0, 2, 4, 6, 46, 49, 53] [1, 2] _ _ rfl rfl rfl)
       refine (ACode_region ?_)
       refine kM 1 rfl ?_
       refine AOps_q 38 _ rfl rfl rfl (QOp_sub _ _ _ _ _ _ _ rfl rfl rfl) ?_
       refine kN 1 rfl ?_
       exact ⟨k0, _, _, Nat.lt_succ_self _, Weak_keep 1 hm [0, 2, 4, 6] [1, 2] _ _ rfl rfl rfl, _, _, _, rfl, rfl, h⟩
      refine ACode_exit ?_
      cases h
      exact Weak_keep 1 hm [2, 4] [1, 2] _ _ rfl rfl rfl
    refine ACode_skip ?_
    cases h
    exact Weak_keep 1 hm [2, 4] [1, 2] _ _ rfl rfl rfl
   refine kR ?_
   refine AOps_q 55 _ rfl rfl rfl (QOp_loadN_ptr _ _ _ _ _ _ _ rfl Tryz.isAgg26 Tryz.sizeOf26 rfl rfl (colD_all _) (colD_length _)) ?_
   refine AOps_store _ _ _ _ _ _ (colD _) _ _ rfl rfl rfl rfl rfl rfl rfl (colD_one _) (by rw [colD_length]; exact Tryz.sizeOf26) (by rw [colD_length, colD_length]; decide) (colD_whole _ _) ?_
   refine AOps_nil ?_
   refine ACode_ret ?_
   cases h
   have h := hks26
   cases h
   exact ⟨_, _, fun r a w h => ⟨r, h⟩, _, _, [], _, (.cons (ResV_agg _ _ _ _ _ _ Tryz.isAgg26 Tryz.sizeOf26 rfl rfl (colD_take _) (colD_length _)) .nil), rfl, rfl, rfl, rfl, rfl⟩
  refine kR ?_
  refine AOps_q 57 _ rfl rfl rfl (QOp_eql _ _ _ _ _ _ _ rfl rfl rfl) ?_
  refine kN 1 rfl ?_
  refine kI h rfl (fun h _ => ?_) (fun h _ => ?_)
  ·refine kR ?_
   refine kM 2 rfl ?_
   obtain ⟨r23, hr23, h⟩ := bindO h
   refine kC [0] 60 (iV r23.1) [.box (srcD r23.2), .box (colD Col.zero)] rfl Tryz.call51 rfl rfl (spec_l01Next_ac r1.2 17 _ hr23) rfl ?_
   refine AOps_q 61 _ rfl rfl rfl (QOp_add _ _ _ _ _ _ _ rfl rfl rfl) ?_
   refine kM 1 rfl ?_
   refine AOps_buildSlice 63 _ _ _ [_, _, _, _] (intsD ([2, 2, 3, 4])) _ rfl rfl rfl rfl rfl (by decide) Tryz.underlying27 Tryz.sizeOf2 (zero_of Tryz.typeInfo2 rfl) rfl rfl (intsD_one _) ?_
   refine AOps_freezeL [63] 2 0 _ (allc (rfl) (fun _ h => nomatch h)) rfl ?_
   obtain ⟨r24, hr24, h⟩ := bindO h
   refine kC [0] 64 (iV r24.1) [.box (srcD r24.2), .box (colD Col.zero), .gone] rfl Tryz.call53 rfl rfl (spec_l01Pick_ac r23.2 ([2, 2, 3, 4]) _ hr24) rfl ?_
   obtain ⟨r25, hr25, h⟩ := bindO h
   refine kC [0] 65 (.d (.agg (colD r25.1))) [.box (srcD r25.2), .box (colD Col.zero), .gone] rfl Tryz.call89 rfl rfl (spec_l01DrawOf_ac k r24.2 (w64 (1 + r23.1)) r24.1 _ hr25) rfl ?_
   refine AOps_store _ _ _ _ _ _ (colD _) _ _ rfl rfl rfl rfl rfl rfl rfl (colD_one _) (by rw [colD_length]; exact Tryz.sizeOf26) (by rw [colD_length, colD_length]; decide) (colD_whole _ _) ?_
   refine AOps_nil ?_
   refine ACode_ret ?_
   cases h
   have h := hks26
   cases h
   exact ⟨_, _, fun r a w h => ⟨r, h⟩, _, _, [], _, (.cons (ResV_agg _ _ _ _ _ _ Tryz.isAgg26 Tryz.sizeOf26 rfl rfl (colD_take _) (colD_length _)) .nil), rfl, rfl, rfl, rfl, rfl⟩
  refine ACode_skip ?_
  cases h
  exact ⟨_, rfl, Weak_keep 1 hm [0, 2] [1] _ _ rfl rfl rfl⟩
 refine kR ?_
 refine kM 1 rfl ?_
 obtain ⟨r27, hr27, h⟩ := bindO h
 refine kC [0] 67 (.d (.agg (colD r27.1))) [.box (srcD r27.2), .box (colD Col.zero)] rfl Tryz.call83 rfl rfl (spec_l01Small_ac k s26 _ hr27) rfl ?_
 refine AOps_store _ _ _ _ _ _ (colD _) _ _ rfl rfl rfl rfl rfl rfl rfl (colD_one _) (by rw [colD_length]; exact Tryz.sizeOf26) (by rw [colD_length, colD_length]; decide) (colD_whole _ _) ?_
 refine AOps_nil ?_
 refine ACode_ret ?_
 cases h
 exact ⟨_, _, fun r a w h => ⟨r, h⟩, _, _, [], _, (.cons (ResV_agg _ _ _ _ _ _ Tryz.isAgg26 Tryz.sizeOf26 rfl rfl (colD_take _) (colD_length _)) .nil), rfl, rfl, rfl, rfl, rfl⟩

-- loop.example/g01362/spec.DrawLongestBeginning
def spec_DrawLongestBeginning (k : Nat) (p0 : List UInt8) : Option (Col × List Int) :=
 (spec_l01From k p0).bind fun r1 => (spec_l01Draw k r1).bind fun r2 => (spec_l05DrawSizes k r2.2 r2.1.k).bind fun r3 => ((spec_l01Next r3.2 20).bind fun r4 => (if decide (r4.1 = 0) then (spec_l01Pick r4.2 ([1, 0, 18])).bind fun r6 => (if 0 ≤ (0 : Int) ∧ (0 : Int) < (r3.1.length : Int) then some (r6.2, r3.1.set (0 : Int).toNat r6.1) else none) else some (r4.2, r3.1)) : Option (Src × List Int)).bind fun s8 => (spec_l01Bad s8.1 r2.1).bind fun r9 => some (r9.1, s8.2)
set_option maxRecDepth 100000 in
theorem spec_DrawLongestBeginning_ac (k : Nat) (p0 : List UInt8) (r : Col × List Int) (h : spec_DrawLongestBeginning k p0 = some r) : AC Tryz.prog 24 [.d (.sl none (bysD p0))] [] (fun res H' => res = [.d (.agg (colD r.1)), .vec 0 0] ∧ H' = [.vec 0 (intsD r.2)]) := by
 refine AC_of_body true Tryz.func24 rfl Tryz.ntmps24 (rvs := [.cell 2 26, .tmp 3]) rfl rfl (fun G hG => ?_)
 have hm : G.H.length = 0 := by rw [hG]; rfl
 have hz : zeroG G.H = true := by rw [hG]; rfl
 unfold spec_DrawLongestBeginning at h
 refine kR ?_
 refine AOps_alloc 2 _ _ (colD Col.zero) (zero_of Tryz.typeInfo26 rfl) (by rfl) rfl rfl rfl rfl ?_
 refine kN 1 rfl ?_
 refine kR ?_
 refine kM 1 rfl ?_
 obtain ⟨r1, hr1, h⟩ := bindO h
 refine kC [] 8 (.ptr 1 0) [.box (colD Col.zero), .box (srcD r1)] rfl Tryz.call48 rfl rfl (spec_l01From_ac k p0 _ hr1) rfl ?_
 refine kN 1 rfl ?_
 refine kR ?_
 refine kM 1 rfl ?_
 obtain ⟨r2, hr2, h⟩ := bindO h
 refine kC [1] 10 (.d (.agg (colD r2.1))) [.box (colD Col.zero), .box (srcD r2.2)] rfl Tryz.call57 rfl rfl (spec_l01Draw_ac k r1 _ hr2) rfl ?_
 refine AOps_alloc 5 _ _ (colD Col.zero) (zero_of Tryz.typeInfo26 rfl) (by rfl) rfl rfl rfl rfl ?_
 refine AOps_store _ _ _ _ _ _ (colD _) _ _ rfl rfl rfl rfl rfl rfl rfl (colD_one _) (by rw [colD_length]; exact Tryz.sizeOf26) (by rw [colD_length, colD_length]; decide) (colD_whole _ _) ?_
 refine AOps_nil ?_
 refine kR ?_
 refine kM 1 rfl ?_
 refine AOps_q 12 _ rfl rfl rfl (QOp_fieldAddr_ptr _ _ _ _ _ _ 1 _ _ rfl Tryz.underlying26 rfl _ Tryz.sizeOf2 rfl rfl rfl rfl) ?_
 refine AOps_q 13 _ rfl rfl rfl (QOp_load_ptr _ _ _ _ _ _ rfl Tryz.isAgg2 rfl rfl rfl) ?_
 obtain ⟨r3, hr3, h⟩ := bindO h
 refine kC [1] 14 (.vec 3 0) [.box (colD Col.zero), .box (srcD r3.2), .box (colD r2.1), .vec 0 (intsD r3.1)] rfl Tryz.call58 rfl rfl (spec_l05DrawSizes_ac k r2.2 r2.1.k _ hr3) rfl ?_
 refine kN 1 rfl ?_
 refine kB (fun s8 => [(2, .ptr 0 0), (4, .ptr 1 0), (5, .ptr 2 0), (6, .vec 3 0)]) (fun s8 => [.box (colD Col.zero), .box (srcD s8.1), .box (colD r2.1), .vec 0 (intsD s8.2)]) h (fun s8 h => ?_) (fun s8 h => ?_)
 ·refine kR ?_
  refine kM 1 rfl ?_
  obtain ⟨r4, hr4, h⟩ := bindO h
  refine kC [1] 16 (iV r4.1) [.box (colD Col.zero), .box (srcD r4.2), .box (colD r2.1), .vec 0 (intsD r3.1)] rfl Tryz.call51 rfl rfl (spec_l01Next_ac r3.2 20 _ hr4) rfl ?_
  refine AOps_q 17 _ rfl rfl rfl (QOp_eql _ _ _ _ _ _ _ rfl rfl rfl) ?_
  refine AOps_nil ?_
  refine kI h rfl (fun h _ => ?_) (fun h _ => ?_)
  ·refine (ACode_region ?_)
   refine kM 2 rfl ?_
   refine AOps_buildSlice 20 _ _ _ [_, _, _] (intsD ([1, 0, 18])) _ rfl rfl rfl rfl rfl (by decide) Tryz.underlying27 Tryz.sizeOf2 (zero_of Tryz.typeInfo2 rfl) rfl rfl (intsD_one _) ?_
   refine AOps_freezeL [20] 4 0 _ (allc (rfl) (fun _ h => nomatch h)) rfl ?_
   obtain ⟨r6, hr6, h⟩ := bindO h
   refine kC [1] 21 (iV r6.1) [.box (colD Col.zero), .box (srcD r6.2), .box (colD r2.1), .vec 0 (intsD r3.1), .gone] rfl Tryz.call53 rfl rfl (spec_l01Pick_ac r4.2 ([1, 0, 18]) _ hr6) rfl ?_
   obtain ⟨hc7, h⟩ := guardO h
   refine AOps_q 22 _ rfl rfl rfl (QOp_indexAddr_vec _ _ _ _ _ _ _ _ _ rfl Tryz.underlying27 Tryz.sizeOf2 hc7.1 (by rw [intsD_length]; exact hc7.2) rfl rfl rfl) ?_
   refine AOps_store_eptr _ _ _ _ _ _ (intsD r3.1) _ rfl rfl rfl rfl rfl rfl rfl Tryz.sizeOf2 (by rw [intsD_length]; omega) ?_
   rw [intsD_set]
   refine AOps_nil ?_
   cases h
   exact Weak_keep 0 hm [2, 4, 5, 6] [0, 1, 2, 3] _ _ rfl rfl rfl
  refine ACode_skip ?_
  cases h
  exact Weak_keep 0 hm [2, 4, 5, 6] [0, 1, 2, 3] _ _ rfl rfl rfl
 refine kR ?_
 refine kM 1 rfl ?_
 refine AOps_q 24 _ rfl rfl rfl (QOp_loadN_ptr _ _ _ _ _ _ _ rfl Tryz.isAgg26 Tryz.sizeOf26 rfl rfl (colD_all _) (colD_length _)) ?_
 obtain ⟨r9, hr9, h⟩ := bindO h
 refine kC [1] 25 (.d (.agg (colD r9.1))) [.box (colD Col.zero), .box (srcD r9.2), .box (colD r2.1), .vec 0 (intsD s8.2)] rfl Tryz.call54 rfl rfl (spec_l01Bad_ac s8.1 r2.1 _ hr9) rfl ?_
 refine kM 1 rfl ?_
 refine AOps_store _ _ _ _ _ _ (colD _) _ _ rfl rfl rfl rfl rfl rfl rfl (colD_one _) (by rw [colD_length]; exact Tryz.sizeOf26) (by rw [colD_length, colD_length]; decide) (colD_whole _ _) ?_
 refine kN 1 rfl ?_
 refine ACode_ret ?_
 cases h
 exact ⟨_, _, Weak_reset 0 hm hz [2, 3] _ _ rfl rfl, _, _, [3], _, (.cons (ResV_agg _ _ _ _ _ _ Tryz.isAgg26 Tryz.sizeOf26 rfl rfl (colD_take _) (colD_length _)) (.cons (ResV_tmp _ _ rfl) .nil)), rfl, rfl, rfl, rfl, rfl⟩

-- (*loop.example/g01362/impl.Colouring).that
def impl_Colouring_that_l0 (p0 : Col) (p1 : Int → Option (Bool)) : Nat → Int → (List Int) → Option (List Int)
 | 0, _, _ => none
 | k0 + 1, x1, x2 => (if decide (x1 < p0.p) then ((p1 x1).bind fun r4 => (if r4 then (if x2.length + ([x1]).length ≤ 1099511627776 then some (x2 ++ ([x1])) else none) else some x2) : Option (List Int)).bind fun s7 => impl_Colouring_that_l0 p0 p1 k0 (w64 (x1 + 1)) s7 else some x2)
def impl_Colouring_that (k : Nat) (p0 : Col) (p1 : Int → Option (Bool)) : Option (List Int) :=
 (impl_Colouring_that_l0 p0 p1 k 0 ([] : List Int) : Option (List Int)).bind fun s8 => some s8
set_option maxRecDepth 100000 in
theorem impl_Colouring_that_ac (k : Nat) (p0 : Col) (p1 : Int → Option (Bool)) (g_p1 : FuncId) (c_p1 : List D) (hg_p1 : ∀ args w, (callFunc g_p1 args).run Tryz.prog w = .ok (.enter g_p1 args) w) (hf_p1 : ∀ (a0 : Int) (r : Bool), p1 a0 = some r → AC Tryz.prog g_p1 ([iV a0] ++ c_p1.map AV.d) [] (fun res H' => res = [bV r] ∧ H' = [])) (r : List Int) (h : impl_Colouring_that k p0 p1 = some r) : AC Tryz.prog 60 [.d (.pv (colD p0) 0), .d (.clo g_p1 c_p1)] [] (fun res H' => res = [.vec 0 0] ∧ H' = [.vec 0 (intsD r)]) := by
 refine AC_of_body true Tryz.func60 rfl Tryz.ntmps60 (rvs := [.tmp 4]) rfl rfl (fun G hG => ?_)
 have hm : G.H.length = 0 := by rw [hG]; rfl
 have hz : zeroG G.H = true := by rw [hG]; rfl
 unfold impl_Colouring_that at h
 refine kR ?_
 refine kN 1 rfl ?_
 refine kR ?_
 refine AOps_buildSlice 7 _ _ _ [] (intsD ([] : List Int)) _ rfl rfl rfl rfl rfl (by decide) Tryz.underlying27 Tryz.sizeOf2 (zero_of Tryz.typeInfo2 rfl) rfl rfl (intsD_one _) ?_
 refine kN 1 rfl ?_
 refine kB (fun s8 => [(5, .vec 0 0)]) (fun s8 => [.vec 0 (intsD s8)]) h (fun s8 h => ?_) (fun s8 h => ?_)
 ·refine kR ?_
  refine kM 1 rfl ?_
  refine AOps_q 9 _ rfl rfl rfl (QOp_nilCheck_pv _ _ _ rfl rfl) ?_
  refine AOps_q 10 _ rfl rfl rfl (QOp_fieldAddr_pv _ _ _ _ _ 0 _ _ rfl Tryz.underlying26 rfl _ Tryz.sizeOf2 rfl rfl) ?_
  refine AOps_q 11 _ rfl rfl rfl (QOp_load_pv _ _ _ _ _ rfl Tryz.isAgg2 rfl rfl) ?_
  refine kN 1 rfl ?_
  refine ACode_block ?_
  refine ACode_loopW (fun k0 E H => ∃ (x1 : Int) (x2 : List Int), E = [(1, .d (.clo g_p1 c_p1)), (5, .vec 0 0), (11, iV p0.p), (12, iV x1)] ∧ H = [.vec 0 (intsD x2)] ∧ impl_Colouring_that_l0 p0 p1 k0 x1 x2 = some s8) k _ _ (Weak_keep 0 hm [1, 5, 11, 12] [0] _ _ rfl rfl rfl) ⟨_, _, rfl, rfl, h⟩ ?_
  clear h
  rintro k0 E H ⟨x1, x2, rfl, rfl, h⟩
  cases k0 with
  | zero => cases (show (none : Option (List Int)) = some _ from h)
  | succ k0 =>
   rw [impl_Colouring_that_l0] at h
   refine kR ?_
   refine AOps_q 13 _ rfl rfl rfl (QOp_lss _ _ _ _ _ _ _ rfl rfl rfl) ?_
   refine AOps_nil ?_
   refine ACode_seq ?_
   refine kI h rfl (fun h _ => ?_) (fun h _ => ?_)
   ·refine ACode_skip ?_
    refine kB (fun s7 => [(1, .d (.clo g_p1 c_p1)), (5, .vec 0 0), (11, iV p0.p), (12, iV x1)]) (fun s7 => [.vec 0 (intsD s7)]) h (fun s7 h => ?_) (fun s7 h => ?_)
    ·refine ACode_block ?_
     refine kR ?_
     refine kN 2 rfl ?_
     refine kR ?_
     refine kM 2 rfl ?_
     obtain ⟨r4, hr4, h⟩ := bindO h
     refine kC [] 17 (bV r4) [.vec 0 (intsD x2)] rfl hg_p1 rfl (viewA_mapD _) (hf_p1 x1 _ hr4) rfl ?_
     refine AOps_nil ?_
     refine kI h rfl (fun h _ => ?_) (fun h _ => ?_)
     ·refine (ACode_region ?_)
      refine kM 2 rfl ?_
      refine AOps_buildSlice 20 _ _ _ [_] (intsD ([x1])) _ rfl rfl rfl rfl rfl (by decide) Tryz.underlying27 Tryz.sizeOf2 (zero_of Tryz.typeInfo2 rfl) rfl rfl (intsD_one _) ?_
      obtain ⟨hc6, h⟩ := guardO h
      refine AOps_append 21 _ _ _ _ _ _ _ _ _ _ _ _ rfl rfl rfl rfl rfl rfl rfl Tryz.underlying27 Tryz.type2 rfl rfl rfl (by decide) rfl rfl rfl rfl (intsD_one _) (by rw [intsD_length, intsD_length]; exact hc6) ?_
      rw [intsD_app]
      refine kN 1 rfl ?_
      cases h
      exact Weak_trans (Weak_keep 0 hm [1, 5, 11, 12] [0] _ _ rfl rfl rfl) (Weak_reset 0 hm hz [1, 5, 11, 12] _ _ rfl rfl)
     refine ACode_skip ?_
     cases h
     exact Weak_keep 0 hm [1, 5, 11, 12] [0] _ _ rfl rfl rfl
    refine (ACode_region ?_)
    refine AOps_q 22 _ rfl rfl rfl (QOp_add _ _ _ _ _ _ _ rfl rfl rfl) ?_
    refine kN 1 rfl ?_
    exact ⟨k0, _, _, Nat.lt_succ_self _, Weak_keep 0 hm [1, 5, 11, 12] [0] _ _ rfl rfl rfl, _, _, rfl, rfl, h⟩
   refine ACode_exit ?_
   cases h
   exact Weak_keep 0 hm [5] [0] _ _ rfl rfl rfl
 refine kR ?_
 refine kN 2 rfl ?_
 refine ACode_ret ?_
 cases h
 exact ⟨_, _, Weak_reset 0 hm hz [4] _ _ rfl rfl, _, _, [0], _, (.cons (ResV_tmp _ _ rfl) .nil), rfl, rfl, rfl, rfl, rfl⟩

-- loop.example/g01362/impl.LongestBeginning$1
def impl_LongestBeginning_c1 (p0 : Int) (p1 : Int) : Bool :=
 decide (p0 < p1)
set_option maxRecDepth 100000 in
theorem impl_LongestBeginning_c1_ac (p0 : Int) (p1 : Int) : AC Tryz.prog 61 [iV p0, .d (.pv ([iD p1]) 0)] [] (fun res H' => res = [bV (impl_LongestBeginning_c1 p0 p1)] ∧ H' = []) := by
 refine AC_of_body true Tryz.func61 rfl Tryz.ntmps61 (rvs := [.tmp 3]) rfl rfl (fun G hG => ?_)
 have hm : G.H.length = 0 := by rw [hG]; rfl
 have hz : zeroG G.H = true := by rw [hG]; rfl
 obtain ⟨r, h⟩ : ∃ r, impl_LongestBeginning_c1 p0 p1 = r := ⟨_, rfl⟩
 rw [h]
 unfold impl_LongestBeginning_c1 at h
 refine kR ?_
 refine kN 1 rfl ?_
 refine kR ?_
 refine kM 1 rfl ?_
 refine AOps_q 5 _ rfl rfl rfl (QOp_load_pv _ _ _ _ _ rfl Tryz.isAgg2 rfl rfl) ?_
 refine AOps_q 6 _ rfl rfl rfl (QOp_lss _ _ _ _ _ _ _ rfl rfl rfl) ?_
 refine kN 1 rfl ?_
 refine ACode_ret ?_
 cases h
 exact ⟨_, _, fun r a w h => ⟨r, h⟩, _, _, [], _, (.cons (ResV_tmp _ _ rfl) .nil), rfl, rfl, rfl, rfl, rfl⟩

-- loop.example/g01362/impl.made
def impl_made_l1 (p2 : Int → Int → Option (Int)) (x1 : Int) : Nat → Int → Col → Option (Col)
 | 0, _, _ => none
 | k1 + 1, x4, x5 => (if decide (x4 < x1) then (p2 x4 x1).bind fun r7 => (impl_Colouring_put x5 x4 x1 r7).bind fun r8 => impl_made_l1 p2 x1 k1 (w64 (x4 + 1)) r8 else some x5)
def impl_made_l0 (k : Nat) (p0 : Int) (p2 : Int → Int → Option (Int)) : Nat → Int → Col → Option (Col)
 | 0, _, _ => none
 | k0 + 1, x1, x2 => (if decide (x1 < p0) then (impl_made_l1 p2 x1 k 0 x2 : Option (Col)).bind fun s9 => impl_made_l0 k p0 p2 k0 (w64 (x1 + 1)) s9 else some x2)
def impl_made (k : Nat) (p0 : Int) (p1 : Int) (p2 : Int → Int → Option (Int)) : Option (Col) :=
 (impl_made_l0 k p0 p2 k 0 (⟨p0, p1, B136.zero⟩ : Col) : Option (Col)).bind fun s10 => some s10
set_option maxRecDepth 100000 in
theorem impl_made_ac (k : Nat) (p0 : Int) (p1 : Int) (p2 : Int → Int → Option (Int)) (g_p2 : FuncId) (c_p2 : List D) (hg_p2 : ∀ args w, (callFunc g_p2 args).run Tryz.prog w = .ok (.enter g_p2 args) w) (hf_p2 : ∀ (a0 : Int) (a1 : Int) (r : Int), p2 a0 a1 = some r → AC Tryz.prog g_p2 ([iV a0, iV a1] ++ c_p2.map AV.d) [] (fun res H' => res = [iV r] ∧ H' = [])) (r : Col) (h : impl_made k p0 p1 p2 = some r) : AC Tryz.prog 90 [iV p0, iV p1, .d (.clo g_p2 c_p2)] [] (fun res H' => res = [.d (.agg (colD r))] ∧ H' = []) := by
 refine AC_of_body true Tryz.func90 rfl Tryz.ntmps90 (rvs := [.cell 6 26]) rfl rfl (fun G hG => ?_)
 have hm : G.H.length = 0 := by rw [hG]; rfl
 have hz : zeroG G.H = true := by rw [hG]; rfl
 unfold impl_made at h
 refine kR ?_
 refine AOps_alloc 6 _ _ (colD Col.zero) (zero_of Tryz.typeInfo26 rfl) (by rfl) rfl rfl rfl rfl ?_
 refine AOps_nil ?_
 refine kR ?_
 refine kM 2 rfl ?_
 refine AOps_q 12 _ rfl rfl rfl (QOp_build _ _ [_, _] [0, 1] [iD p0, iD p1] _ (colD Col.zero) (colD (⟨p0, p1, B136.zero⟩ : Col)) [(0, 1), (1, 1), (2, 136)] rfl rfl Tryz.underlying26 (zero_of Tryz.typeInfo26 rfl) (fun w => by simp [Tryz.sizeOf2, Tryz.sizeOf2, Tryz.sizeOf24]) rfl (by rfl) (by rfl) (allc (ok1 rfl) (allc (ok1 rfl) (fun _ h => nomatch h)))) ?_
 refine AOps_alloc 7 _ _ (colD Col.zero) (zero_of Tryz.typeInfo26 rfl) (by rfl) rfl rfl rfl rfl ?_
 refine AOps_store _ _ _ _ _ _ (colD _) _ _ rfl rfl rfl rfl rfl rfl rfl (colD_one _) (by rw [colD_length]; exact Tryz.sizeOf26) (by rw [colD_length, colD_length]; decide) (colD_whole _ _) ?_
 refine AOps_nil ?_
 refine kB (fun s10 => [(6, .ptr 0 0), (7, .ptr 1 0)]) (fun s10 => [.box (colD Col.zero), .box (colD s10)]) h (fun s10 h => ?_) (fun s10 h => ?_)
 ·refine kR ?_
  refine kN 2 rfl ?_
  refine ACode_block ?_
  refine ACode_loopW (fun k0 E H => ∃ (x1 : Int) (x2 : Col), E = [(2, .d (.clo g_p2 c_p2)), (6, .ptr 0 0), (7, .ptr 1 0), (13, iV p0), (14, iV x1)] ∧ H = [.box (colD Col.zero), .box (colD x2)] ∧ impl_made_l0 k p0 p2 k0 x1 x2 = some s10) k _ _ (Weak_keep 0 hm [2, 6, 7, 13, 14] [0, 1] _ _ rfl rfl rfl) ⟨_, _, rfl, rfl, h⟩ ?_
  clear h
  rintro k0 E H ⟨x1, x2, rfl, rfl, h⟩
  cases k0 with
  | zero => cases (show (none : Option (Col)) = some _ from h)
  | succ k0 =>
   rw [impl_made_l0] at h
   refine kR ?_
   refine AOps_q 15 _ rfl rfl rfl (QOp_lss _ _ _ _ _ _ _ rfl rfl rfl) ?_
   refine AOps_nil ?_
   refine ACode_seq ?_
   refine kI h rfl (fun h _ => ?_) (fun h _ => ?_)
   ·refine ACode_skip ?_
    refine kB (fun s9 => [(2, .d (.clo g_p2 c_p2)), (6, .ptr 0 0), (7, .ptr 1 0), (13, iV p0), (14, iV x1)]) (fun s9 => [.box (colD Col.zero), .box (colD s9)]) h (fun s9 h => ?_) (fun s9 h => ?_)
    ·refine ACode_block ?_
     refine kR ?_
     refine kN 2 rfl ?_
     refine kR ?_
     refine kN 2 rfl ?_
     refine ACode_block ?_
     refine ACode_loopW (fun k1 E H => ∃ (x4 : Int) (x5 : Col), E = [(2, .d (.clo g_p2 c_p2)), (6, .ptr 0 0), (7, .ptr 1 0), (8, iV x1), (13, iV p0), (14, iV x1), (17, iV x1), (18, iV x4)] ∧ H = [.box (colD Col.zero), .box (colD x5)] ∧ impl_made_l1 p2 x1 k1 x4 x5 = some s9) k _ _ (Weak_keep 0 hm [2, 6, 7, 8, 13, 14, 17, 18] [0, 1] _ _ rfl rfl rfl) ⟨_, _, rfl, rfl, h⟩ ?_
     clear h
     rintro k1 E H ⟨x4, x5, rfl, rfl, h⟩
     cases k1 with
     | zero => cases (show (none : Option (Col)) = some _ from h)
     | succ k1 =>
      rw [impl_made_l1] at h
      refine kR ?_
      refine AOps_q 19 _ rfl rfl rfl (QOp_lss _ _ _ _ _ _ _ rfl rfl rfl) ?_
      refine AOps_nil ?_
      refine ACode_seq ?_
      refine kI h rfl (fun h _ => ?_) (fun h _ => ?_)
      ·refine ACode_skip ?_
       refine ACode_seq ?_
       refine ACode_block ?_
       refine kR ?_
       refine kN 2 rfl ?_
       refine (ACode_region ?_)
       refine kM 5 rfl ?_
       obtain ⟨r7, hr7, h⟩ := bindO h
       refine kC [] 26 (iV r7) [.box (colD Col.zero), .box (colD x5)] rfl hg_p2 rfl (viewA_mapD _) (hf_p2 x4 x1 _ hr7) rfl ?_
       obtain ⟨r8, hr8, h⟩ := bindO h
       refine kC [1] 27 (.tup []) [.box (colD Col.zero), .box (colD r8)] rfl Tryz.call78 rfl rfl (impl_Colouring_put_ac x5 x4 x1 r7 _ hr8) rfl ?_
       refine AOps_nil ?_
       refine (ACode_region ?_)
       refine AOps_q 28 _ rfl rfl rfl (QOp_add _ _ _ _ _ _ _ rfl rfl rfl) ?_
       refine kN 1 rfl ?_
       exact ⟨k1, _, _, Nat.lt_succ_self _, Weak_keep 0 hm [2, 6, 7, 8, 13, 14, 17, 18] [0, 1] _ _ rfl rfl rfl, _, _, rfl, rfl, h⟩
      refine ACode_exit ?_
      cases h
      exact Weak_keep 0 hm [2, 6, 7, 13, 14] [0, 1] _ _ rfl rfl rfl
    refine (ACode_region ?_)
    refine AOps_q 29 _ rfl rfl rfl (QOp_add _ _ _ _ _ _ _ rfl rfl rfl) ?_
    refine kN 1 rfl ?_
    exact ⟨k0, _, _, Nat.lt_succ_self _, Weak_keep 0 hm [2, 6, 7, 13, 14] [0, 1] _ _ rfl rfl rfl, _, _, rfl, rfl, h⟩
   refine ACode_exit ?_
   cases h
   exact Weak_keep 0 hm [6, 7] [0, 1] _ _ rfl rfl rfl
 refine kR ?_
 refine AOps_q 30 _ rfl rfl rfl (QOp_loadN_ptr _ _ _ _ _ _ _ rfl Tryz.isAgg26 Tryz.sizeOf26 rfl rfl (colD_all _) (colD_length _)) ?_
 refine AOps_store _ _ _ _ _ _ (colD _) _ _ rfl rfl rfl rfl rfl rfl rfl (colD_one _) (by rw [colD_length]; exact Tryz.sizeOf26) (by rw [colD_length, colD_length]; decide) (colD_whole _ _) ?_
 refine AOps_nil ?_
 refine ACode_ret ?_
 cases h
 exact ⟨_, _, fun r a w h => ⟨r, h⟩, _, _, [], _, (.cons (ResV_agg _ _ _ _ _ _ Tryz.isAgg26 Tryz.sizeOf26 rfl rfl (colD_take _) (colD_length _)) .nil), rfl, rfl, rfl, rfl, rfl⟩

-- (*loop.example/g01362/impl.Colouring).part$1
def impl_Colouring_part_c1 (p0 : Int) (p1 : Int) (p2 : Col) (p3 : List Int) : Option (Int) :=
 (if 0 ≤ p0 ∧ p0 < (p3.length : Int) then (if 0 ≤ p1 ∧ p1 < (p3.length : Int) then (impl_Colouring_at p2 (p3.getD p0.toNat 0) (p3.getD p1.toNat 0)).bind fun r3 => some r3 else none) else none)
set_option maxRecDepth 100000 in
theorem impl_Colouring_part_c1_ac (p0 : Int) (p1 : Int) (p2 : Col) (p3 : List Int) (r : Int) (h : impl_Colouring_part_c1 p0 p1 p2 p3 = some r) : AC Tryz.prog 91 [iV p0, iV p1, .d (.pv ([.pv (colD p2) 0]) 0), .d (.pv ([.sl none (intsD p3)]) 0)] [] (fun res H' => res = [iV r] ∧ H' = []) := by
 refine AC_of_body true Tryz.func91 rfl Tryz.ntmps91 (rvs := [.tmp 6]) rfl rfl (fun G hG => ?_)
 have hm : G.H.length = 0 := by rw [hG]; rfl
 have hz : zeroG G.H = true := by rw [hG]; rfl
 unfold impl_Colouring_part_c1 at h
 refine kR ?_
 refine kN 1 rfl ?_
 refine ACode_seq (ACode_quiet mixed (by kernel_rfl) ?_)
 refine AQ_q 7 _ rfl rfl rfl (QOp_load_pv _ _ _ _ _ rfl Tryz.isAgg75 rfl rfl) ?_
 refine AQ_q 8 _ rfl rfl rfl (QOp_load_pv _ _ _ _ _ rfl Tryz.isAgg27 rfl rfl) ?_
 refine kQ 1 rfl ?_
 obtain ⟨hc1, h⟩ := guardO h
 refine AQ_q 10 _ rfl rfl rfl (QOp_indexAddr_sl _ _ _ _ _ _ _ _ rfl Tryz.underlying27 Tryz.sizeOf2 hc1.1 (by rw [intsD_length]; exact hc1.2) rfl rfl) ?_
 refine AQ_q 11 _ rfl rfl rfl (QOp_load_pv _ _ _ _ _ rfl Tryz.isAgg2 rfl (intsD_get _ _ 0 (by omega))) ?_
 refine AQ_q 12 _ rfl rfl rfl (QOp_load_pv _ _ _ _ _ rfl Tryz.isAgg27 rfl rfl) ?_
 refine kQ 1 rfl ?_
 obtain ⟨hc2, h⟩ := guardO h
 refine AQ_q 14 _ rfl rfl rfl (QOp_indexAddr_sl _ _ _ _ _ _ _ _ rfl Tryz.underlying27 Tryz.sizeOf2 hc2.1 (by rw [intsD_length]; exact hc2.2) rfl rfl) ?_
 refine AQ_q 15 _ rfl rfl rfl (QOp_load_pv _ _ _ _ _ rfl Tryz.isAgg2 rfl (intsD_get _ _ 0 (by omega))) ?_
 obtain ⟨r3, hr3, h⟩ := bindO h
 refine AQ_call 16 _ _ _ _ _ _ _ _ _ rfl rfl rfl rfl rfl rfl rfl Tryz.call92 rfl rfl rfl (impl_Colouring_at_ac p2 (p3.getD p0.toNat 0) (p3.getD p1.toNat 0) _ hr3) ?_
 refine kQ 1 rfl ?_
 refine AQ_nil ?_
 refine ACode_ret ?_
 cases h
 exact ⟨_, _, fun r a w h => ⟨r, h⟩, _, _, [], _, (.cons (ResV_tmp _ _ rfl) .nil), rfl, rfl, rfl, rfl, rfl⟩

-- (*loop.example/g01362/impl.Colouring).part
def impl_Colouring_part (k : Nat) (p0 : Col) (p1 : List Int) : Option (Col) :=
 (impl_made k (impl_size p1) p0.k (fun a0 a1 => impl_Colouring_part_c1 a0 a1 p0 p1)).bind fun r2 => some r2
set_option maxRecDepth 100000 in
theorem impl_Colouring_part_ac (k : Nat) (p0 : Col) (p1 : List Int) (r : Col) (h : impl_Colouring_part k p0 p1 = some r) : AC Tryz.prog 59 [.d (.pv (colD p0) 0), .d (.sl none (intsD p1))] [] (fun res H' => res = [.d (.agg (colD r))] ∧ H' = []) := by
 refine AC_of_body true Tryz.func59 rfl Tryz.ntmps59 (rvs := [.cell 4 26]) rfl rfl (fun G hG => ?_)
 have hm : G.H.length = 0 := by rw [hG]; rfl
 have hz : zeroG G.H = true := by rw [hG]; rfl
 unfold impl_Colouring_part at h
 refine kR ?_
 refine AOps_boxI 2 _ _ (.pv (colD p0) 0) _ rfl (fun c hc => by cases hc with | head => rfl | tail _ h => cases h) rfl rfl rfl rfl rfl ?_
 refine AOps_boxI 3 _ _ (.sl none (intsD p1)) _ rfl (fun c hc => by cases hc with | head => rfl | tail _ h => cases h) rfl rfl rfl rfl rfl ?_
 refine AOps_alloc 4 _ _ (colD Col.zero) (zero_of Tryz.typeInfo26 rfl) (by rfl) rfl rfl rfl rfl ?_
 refine AOps_nil ?_
 obtain ⟨r2, hr2, h⟩ := bindO h
 refine ACode_seqJ (fun E' H' => Weak 13 G E' H' [(4, .ptr 0 0)] [.box (colD r2)]) ?_ ?_
 ·refine ACode_anyLast (l := [_, _, _, _, _, _, _, _]) mixed (by kernel_rfl) ?_
  refine AAny_q 0 5 _ rfl (by kernel_rfl) rfl rfl rfl (QOp_load_pv _ _ _ _ _ rfl Tryz.isAgg27 rfl rfl) ?_
  refine AAny_call 1 6 _ _ _ _ _ _ _ _ _ rfl (by kernel_rfl) rfl rfl rfl rfl rfl rfl rfl Tryz.call74 rfl rfl rfl (impl_size_ac p1) ?_
  refine AAny_q 2 7 _ rfl (by kernel_rfl) rfl rfl rfl (QOp_load_pv _ _ _ _ _ rfl Tryz.isAgg75 rfl rfl) ?_
  refine AAny_q 3 8 _ rfl (by kernel_rfl) rfl rfl rfl (QOp_nilCheck_pv _ _ _ rfl rfl) ?_
  refine AAny_q 4 9 _ rfl (by kernel_rfl) rfl rfl rfl (QOp_fieldAddr_pv _ _ _ _ _ 1 _ _ rfl Tryz.underlying26 rfl _ Tryz.sizeOf2 rfl rfl) ?_
  refine AAny_q 5 10 _ rfl (by kernel_rfl) rfl rfl rfl (QOp_load_pv _ _ _ _ _ rfl Tryz.isAgg2 rfl rfl) ?_
  refine AAny_q 6 11 _ rfl (by kernel_rfl) rfl rfl rfl (QOp_makeFuncD _ _ _ _ rfl rfl rfl) ?_
  refine AAny_all [7] (by kernel_rfl) rfl (allc ?_ (fun _ h => nomatch h))
  refine AStep_callN 7 12 _ _ _ _ _ _ _ _ _ rfl rfl rfl rfl rfl rfl rfl rfl Tryz.call90 rfl rfl rfl (impl_made_ac k (impl_size p1) p0.k (fun a0 a1 => impl_Colouring_part_c1 a0 a1 p0 p1) 91 ([.pv ([.pv (colD p0) 0]) 0, .pv ([.sl none (intsD p1)]) 0]) Tryz.call91 (fun a0 a1 r h => impl_Colouring_part_c1_ac a0 a1 p0 p1 r h) _ hr2) ?_
  rintro _ _ ⟨rfl, rfl⟩
  refine ⟨(fun _ h => nomatch h), (allc (trivial) (fun _ h => nomatch h)), AAny_as 12 (v' := .d (.agg (colD r2))) (H' := [.box (colD Col.zero)]) rfl rfl ?_⟩
  refine AAny_done (by kernel_rfl) ?_
  refine AOps_store _ _ _ _ _ _ (colD _) _ _ rfl rfl rfl rfl rfl rfl rfl (colD_one _) (by rw [colD_length]; exact Tryz.sizeOf26) (by rw [colD_length, colD_length]; decide) (colD_whole _ _) ?_
  refine AOps_nil ?_
  exact Weak_keep 0 hm [4] [0] _ _ rfl rfl rfl
 intro E' H' hw
 refine ACode_weak hw ?_
 refine ACode_ret ?_
 cases h
 exact ⟨_, _, fun r a w h => ⟨r, h⟩, _, _, [], _, (.cons (ResV_agg _ _ _ _ _ _ Tryz.isAgg26 Tryz.sizeOf26 rfl rfl (colD_take _) (colD_length _)) .nil), rfl, rfl, rfl, rfl, rfl⟩

-- loop.example/g01362/impl.LongestBeginning
def impl_LongestBeginning_l0 (k : Nat) (p0 : Col) (p1 : List Int) : Nat → Int → Option (Sum (Unit) (Int × Int))
 | 0, _ => none
 | k0 + 1, x3 => (if decide (0 < x3) then (impl_Colouring_that k p0 (fun a0 => some (impl_LongestBeginning_c1 a0 x3))).bind fun r5 => (impl_Colouring_part k p0 r5).bind fun r6 => (impl_Colouring_avoids k r6 p1).bind fun r7 => (if r7 then some (.inr (x3, 0)) else impl_LongestBeginning_l0 k p0 p1 k0 (w64 (x3 - 1))) else some (.inl ()))
def impl_LongestBeginning (k : Nat) (p0 : Col) (p1 : List Int) : Option (Int × Int) :=
 (impl_Colouring_sizesCode k p0 p1 (some (impl_always))).bind fun r1 => (if !decide (r1 = 0) then some (0, r1) else (impl_LongestBeginning_l0 k p0 p1 k p0.p : Option (Sum (Unit) (Int × Int))).bind fun os9 => (match os9 with | .inl s9 => some (0, 0) | .inr rr => some rr))
set_option maxRecDepth 100000 in
theorem impl_LongestBeginning_ac (k : Nat) (p0 : Col) (p1 : List Int) (r : Int × Int) (h : impl_LongestBeginning k p0 p1 = some r) : AC Tryz.prog 25 [.d (.agg (colD p0)), .d (.sl none (intsD p1))] [] (fun res H' => res = [iV r.1, iV r.2] ∧ H' = []) := by
 refine AC_of_body true Tryz.func25 rfl Tryz.ntmps25 (rvs := [.tmp 4, .tmp 5]) rfl rfl (fun G hG => ?_)
 have hm : G.H.length = 0 := by rw [hG]; rfl
 have hz : zeroG G.H = true := by rw [hG]; rfl
 unfold impl_LongestBeginning at h
 refine kR ?_
 refine AOps_boxI 2 _ _ (.agg (colD p0)) (colD p0) rfl (colD_one _) rfl rfl rfl rfl rfl ?_
 refine kN 2 rfl ?_
 refine ACode_seq ?_
 refine kR ?_
 refine kM 1 rfl ?_
 obtain ⟨r1, hr1, h⟩ := bindO h
 refine kC [] 10 (iV r1) [] rfl Tryz.call39 rfl rfl (impl_Colouring_sizesCode_ac k p0 p1 (some (impl_always)) 29 ([]) Tryz.call29 (fun r h => by cases h; exact impl_always_ac) _ hr1) rfl ?_
 refine kN 1 rfl ?_
 refine kR ?_
 refine kM 1 rfl ?_
 refine AOps_q 12 _ rfl rfl rfl (QOp_neq _ _ _ _ _ _ _ rfl rfl rfl) ?_
 refine AOps_nil ?_
 refine kI h rfl (fun h _ => ?_) (fun h _ => ?_)
 ·refine kR ?_
  refine kN 3 rfl ?_
  refine ACode_ret ?_
  cases h
  exact ⟨_, _, fun r a w h => ⟨r, h⟩, _, _, [], _, (.cons (ResV_tmp _ _ rfl) (.cons (ResV_tmp _ _ rfl) .nil)), rfl, rfl, rfl, rfl, rfl⟩
 refine ACode_skip ?_
 refine kO (fun s9 => []) (fun s9 => []) h (fun os9 h hks9 => ?_) (fun s9 h => ?_)
 ·refine kR ?_
  refine AOps_q 14 _ rfl rfl rfl (QOp_fieldAddr_pv _ _ _ _ _ 0 _ _ rfl Tryz.underlying26 rfl _ Tryz.sizeOf2 rfl rfl) ?_
  refine AOps_q 15 _ rfl rfl rfl (QOp_load_pv _ _ _ _ _ rfl Tryz.isAgg2 rfl rfl) ?_
  refine AOps_alloc 7 _ _ ([iD 0]) (zero_of Tryz.typeInfo2 rfl) (by rfl) rfl rfl rfl rfl ?_
  refine AOps_store1 _ _ _ _ _ _ _ _ rfl rfl rfl rfl rfl rfl rfl Tryz.sizeOf2 (Nat.le_of_ble_eq_true rfl) rfl ?_
  refine AOps_nil ?_
  refine ACode_block ?_
  refine ACode_loopW (fun k0 E H => ∃ (x3 : Int), E = [(1, .d (.sl none (intsD p1))), (2, .d (.pv (colD p0) 0)), (7, .ptr 0 0)] ∧ H = [.box [iD x3]] ∧ impl_LongestBeginning_l0 k p0 p1 k0 x3 = some os9) k _ _ (Weak_keep 0 hm [1, 2, 7] [0] _ _ rfl rfl rfl) ⟨_, rfl, rfl, h⟩ ?_
  clear h
  rintro k0 E H ⟨x3, rfl, rfl, h⟩
  cases k0 with
  | zero => cases (show (none : Option (Sum (Unit) (Int × Int))) = some _ from h)
  | succ k0 =>
   rw [impl_LongestBeginning_l0] at h
   refine ACode_seq ?_
   refine kR ?_
   refine AOps_q 16 _ rfl rfl rfl (QOp_load_ptr _ _ _ _ _ _ rfl Tryz.isAgg2 rfl rfl rfl) ?_
   refine AOps_q 17 _ rfl rfl rfl (QOp_gtr _ _ _ _ _ _ _ rfl rfl rfl) ?_
   refine AOps_nil ?_
   refine kI h rfl (fun h _ => ?_) (fun h _ => ?_)
   ·refine ACode_skip ?_
    refine ACode_seq ?_
    refine ACode_block ?_
    refine kR ?_
    refine AOps_q 20 _ rfl rfl rfl (QOp_makeFunc _ _ _ rfl rfl) ?_
    obtain ⟨r5, hr5, h⟩ := bindO h
    refine AOps_callL [] 21 _ _ _ _ _ _ _ _ _ _ rfl rfl rfl rfl rfl rfl rfl Tryz.call60 rfl (nodupB_sound _ rfl) rfl rfl rfl (impl_Colouring_that_ac k p0 (fun a0 => some (impl_LongestBeginning_c1 a0 x3)) 61 ([.pv ([iD x3]) 0]) Tryz.call61 (fun a0 r h => by cases h; exact impl_LongestBeginning_c1_ac a0 x3) _ hr5) ?_
    rintro _ _ ⟨rfl, rfl⟩
    refine ⟨(allc (intsD_flat _) (fun _ h => nomatch h)), (allc (trivial) (fun _ h => nomatch h)), AOps_as 21 (v' := .vec 1 0) (H' := [.box [iD x3], .vec 0 (intsD r5)]) rfl rfl ?_⟩
    obtain ⟨r6, hr6, h⟩ := bindO h
    refine AOps_callL [] 22 _ _ _ _ _ _ _ _ _ _ rfl rfl rfl rfl rfl rfl rfl Tryz.call59 rfl (nodupB_sound _ rfl) rfl rfl rfl (impl_Colouring_part_ac k p0 r5 _ hr6) ?_
    rintro _ _ ⟨rfl, rfl⟩
    refine ⟨(fun _ h => nomatch h), (allc (flat_agg (colD_flat _)) (fun _ h => nomatch h)), AOps_as 22 (v' := .d (.agg (colD r6))) (H' := [.box [iD x3], .vec 0 (intsD r5)]) rfl rfl ?_⟩
    refine AOps_alloc 8 _ _ (colD Col.zero) (zero_of Tryz.typeInfo26 rfl) (by rfl) rfl rfl rfl rfl ?_
    refine AOps_store _ _ _ _ _ _ (colD _) _ _ rfl rfl rfl rfl rfl rfl rfl (colD_one _) (by rw [colD_length]; exact Tryz.sizeOf26) (by rw [colD_length, colD_length]; decide) (colD_whole _ _) ?_
    refine AOps_nil ?_
    refine kR ?_
    refine kM 1 rfl ?_
    obtain ⟨r7, hr7, h⟩ := bindO h
    refine AOps_callL [] 24 _ _ _ _ _ _ _ _ _ _ rfl rfl rfl rfl rfl rfl rfl Tryz.call40 rfl (nodupB_sound _ rfl) rfl rfl rfl (impl_Colouring_avoids_ac k r6 p1 _ hr7) ?_
    rintro _ _ ⟨rfl, rfl⟩
    refine ⟨(fun _ h => nomatch h), (allc (flat_s _) (fun _ h => nomatch h)), AOps_as 24 (v' := bV r7) (H' := [.box [iD x3], .vec 0 (intsD r5), .box (colD r6)]) rfl rfl ?_⟩
    refine AOps_nil ?_
    refine kI h rfl (fun h _ => ?_) (fun h _ => ?_)
    ·refine kR ?_
     refine AOps_q 25 _ rfl rfl rfl (QOp_load_ptr _ _ _ _ _ _ rfl Tryz.isAgg2 rfl rfl rfl) ?_
     refine kN 2 rfl ?_
     refine ACode_ret ?_
     cases h
     have h := hks9
     cases h
     exact ⟨_, _, fun r a w h => ⟨r, h⟩, _, _, [], _, (.cons (ResV_tmp _ _ rfl) (.cons (ResV_tmp _ _ rfl) .nil)), rfl, rfl, rfl, rfl, rfl⟩
    refine ACode_skip ?_
    refine ACode_seq ?_
    refine kR ?_
    refine AOps_q 26 _ rfl rfl rfl (QOp_load_ptr _ _ _ _ _ _ rfl Tryz.isAgg2 rfl rfl rfl) ?_
    refine AOps_nil ?_
    refine (ACode_region ?_)
    refine AOps_alloc 7 _ _ ([iD 0]) (zero_of Tryz.typeInfo2 rfl) (by rfl) rfl rfl rfl rfl ?_
    refine AOps_store1 _ _ _ _ _ _ _ _ rfl rfl rfl rfl rfl rfl rfl Tryz.sizeOf2 (Nat.le_of_ble_eq_true rfl) rfl ?_
    refine AOps_nil ?_
    refine (ACode_region ?_)
    refine AOps_q 18 _ rfl rfl rfl (QOp_load_ptr _ _ _ _ _ _ rfl Tryz.isAgg2 rfl rfl rfl) ?_
    refine AOps_q 19 _ rfl rfl rfl (QOp_sub _ _ _ _ _ _ _ rfl rfl rfl) ?_
    refine AOps_store1 _ _ _ _ _ _ _ _ rfl rfl rfl rfl rfl rfl rfl Tryz.sizeOf2 (Nat.le_of_ble_eq_true rfl) rfl ?_
    refine AOps_nil ?_
    exact ⟨k0, _, _, Nat.lt_succ_self _, Weak_keep 0 hm [1, 2, 7] [3] _ _ rfl rfl rfl, _, rfl, rfl, h⟩
   refine ACode_exit ?_
   cases h
   exact ⟨_, rfl, Weak_keep 0 hm [] [] _ _ rfl rfl rfl⟩
 refine kR ?_
 refine kN 2 rfl ?_
 refine ACode_ret ?_
 cases h
 exact ⟨_, _, fun r a w h => ⟨r, h⟩, _, _, [], _, (.cons (ResV_tmp _ _ rfl) (.cons (ResV_tmp _ _ rfl) .nil)), rfl, rfl, rfl, rfl, rfl⟩

-- loop.example/g01362/spec.l01Part
def spec_l01Part_l1 (p0 : Col) (p1 : List Int) (x1 : Int) : Nat → Int → Col → Option (Col)
 | 0, _, _ => none
 | k1 + 1, x4, x5 => (if decide (x4 < x1) then (if 0 ≤ x4 ∧ x4 < (p1.length : Int) then (if 0 ≤ x1 ∧ x1 < (p1.length : Int) then (spec_l01At p0 (p1.getD x4.toNat 0) (p1.getD x1.toNat 0)).bind fun r10 => (if 0 ≤ (spec_l01Edge x4 x1) ∧ (spec_l01Edge x4 x1) < 136 then spec_l01Part_l1 p0 p1 x1 k1 (w64 (x4 + 1)) (x5.set ((spec_l01Edge x4 x1).toNat) (toByte r10)) else none) else none) else none) else some x5)
def spec_l01Part_l0 (k : Nat) (p0 : Col) (p1 : List Int) : Nat → Int → Col → Option (Col)
 | 0, _, _ => none
 | k0 + 1, x1, x2 => (if decide (x1 < x2.p) then (spec_l01Part_l1 p0 p1 x1 k 0 x2 : Option (Col)).bind fun s12 => spec_l01Part_l0 k p0 p1 k0 (w64 (x1 + 1)) s12 else some x2)
def spec_l01Part (k : Nat) (p0 : Col) (p1 : List Int) : Option (Col) :=
 (spec_l01Part_l0 k p0 p1 k 1 (⟨(p1.length : Int), p0.k, B136.zero⟩ : Col) : Option (Col)).bind fun s13 => some s13
set_option maxRecDepth 100000 in
theorem spec_l01Part_ac (k : Nat) (p0 : Col) (p1 : List Int) (r : Col) (h : spec_l01Part k p0 p1 = some r) : AC Tryz.prog 62 [.d (.agg (colD p0)), .d (.sl none (intsD p1))] [] (fun res H' => res = [.d (.agg (colD r))] ∧ H' = []) := by
 refine AC_of_body true Tryz.func62 rfl Tryz.ntmps62 (rvs := [.cell 4 26]) rfl rfl (fun G hG => ?_)
 have hm : G.H.length = 0 := by rw [hG]; rfl
 have hz : zeroG G.H = true := by rw [hG]; rfl
 unfold spec_l01Part at h
 refine kR ?_
 refine AOps_boxI 2 _ _ (.agg (colD p0)) (colD p0) rfl (colD_one _) rfl rfl rfl rfl rfl ?_
 refine AOps_alloc 4 _ _ (colD Col.zero) (zero_of Tryz.typeInfo26 rfl) (by rfl) rfl rfl rfl rfl ?_
 refine AOps_nil ?_
 refine kR ?_
 refine kM 1 rfl ?_
 refine AOps_q 9 _ rfl rfl rfl (QOp_len_sl _ _ _ _ _ _ _ (intsD_length _) rfl rfl rfl rfl Tryz.underlying27 rfl) ?_
 refine AOps_q 10 _ rfl rfl rfl (QOp_fieldAddr_pv _ _ _ _ _ 1 _ _ rfl Tryz.underlying26 rfl _ Tryz.sizeOf2 rfl rfl) ?_
 refine AOps_q 11 _ rfl rfl rfl (QOp_load_pv _ _ _ _ _ rfl Tryz.isAgg2 rfl rfl) ?_
 refine AOps_q 12 _ rfl rfl rfl (QOp_build _ _ [_, _] [0, 1] [iD (p1.length : Int), iD p0.k] _ (colD Col.zero) (colD (⟨(p1.length : Int), p0.k, B136.zero⟩ : Col)) [(0, 1), (1, 1), (2, 136)] rfl rfl Tryz.underlying26 (zero_of Tryz.typeInfo26 rfl) (fun w => by simp [Tryz.sizeOf2, Tryz.sizeOf2, Tryz.sizeOf24]) rfl (by rfl) (by rfl) (allc (ok1 rfl) (allc (ok1 rfl) (fun _ h => nomatch h)))) ?_
 refine AOps_alloc 5 _ _ (colD Col.zero) (zero_of Tryz.typeInfo26 rfl) (by rfl) rfl rfl rfl rfl ?_
 refine AOps_store _ _ _ _ _ _ (colD _) _ _ rfl rfl rfl rfl rfl rfl rfl (colD_one _) (by rw [colD_length]; exact Tryz.sizeOf26) (by rw [colD_length, colD_length]; decide) (colD_whole _ _) ?_
 refine AOps_nil ?_
 refine kB (fun s13 => [(4, .ptr 0 0), (5, .ptr 1 0)]) (fun s13 => [.box (colD Col.zero), .box (colD s13)]) h (fun s13 h => ?_) (fun s13 h => ?_)
 ·refine kR ?_
  refine kN 1 rfl ?_
  refine ACode_block ?_
  refine ACode_loopW (fun k0 E H => ∃ (x1 : Int) (x2 : Col), E = [(1, .d (.sl none (intsD p1))), (2, .d (.pv (colD p0) 0)), (4, .ptr 0 0), (5, .ptr 1 0), (6, iV x1)] ∧ H = [.box (colD Col.zero), .box (colD x2)] ∧ spec_l01Part_l0 k p0 p1 k0 x1 x2 = some s13) k _ _ (Weak_keep 0 hm [1, 2, 4, 5, 6] [0, 1] _ _ rfl rfl rfl) ⟨_, _, rfl, rfl, h⟩ ?_
  clear h
  rintro k0 E H ⟨x1, x2, rfl, rfl, h⟩
  cases k0 with
  | zero => cases (show (none : Option (Col)) = some _ from h)
  | succ k0 =>
   rw [spec_l01Part_l0] at h
   refine ACode_seq ?_
   refine kR ?_
   refine kM 1 rfl ?_
   refine AOps_q 14 _ rfl rfl rfl (QOp_fieldAddr_ptr _ _ _ _ _ _ 0 _ _ rfl Tryz.underlying26 rfl _ Tryz.sizeOf2 rfl rfl rfl rfl) ?_
   refine AOps_q 15 _ rfl rfl rfl (QOp_load_ptr _ _ _ _ _ _ rfl Tryz.isAgg2 rfl rfl rfl) ?_
   refine AOps_q 16 _ rfl rfl rfl (QOp_lss _ _ _ _ _ _ _ rfl rfl rfl) ?_
   refine AOps_nil ?_
   refine kI h rfl (fun h _ => ?_) (fun h _ => ?_)
   ·refine ACode_skip ?_
    refine kB (fun s12 => [(1, .d (.sl none (intsD p1))), (2, .d (.pv (colD p0) 0)), (4, .ptr 0 0), (5, .ptr 1 0), (6, iV x1)]) (fun s12 => [.box (colD Col.zero), .box (colD s12)]) h (fun s12 h => ?_) (fun s12 h => ?_)
    ·refine ACode_block ?_
     refine kR ?_
     refine kN 1 rfl ?_
     refine ACode_block ?_
     refine ACode_loopW (fun k1 E H => ∃ (x4 : Int) (x5 : Col), E = [(1, .d (.sl none (intsD p1))), (2, .d (.pv (colD p0) 0)), (4, .ptr 0 0), (5, .ptr 1 0), (6, iV x1), (7, iV x4)] ∧ H = [.box (colD Col.zero), .box (colD x5)] ∧ spec_l01Part_l1 p0 p1 x1 k1 x4 x5 = some s12) k _ _ (Weak_keep 0 hm [1, 2, 4, 5, 6, 7] [0, 1] _ _ rfl rfl rfl) ⟨_, _, rfl, rfl, h⟩ ?_
     clear h
     rintro k1 E H ⟨x4, x5, rfl, rfl, h⟩
     cases k1 with
     | zero => cases (show (none : Option (Col)) = some _ from h)
     | succ k1 =>
      rw [spec_l01Part_l1] at h
      refine ACode_seq ?_
      refine kR ?_
      refine kM 2 rfl ?_
      refine AOps_q 21 _ rfl rfl rfl (QOp_lss _ _ _ _ _ _ _ rfl rfl rfl) ?_
      refine AOps_nil ?_
      refine kI h rfl (fun h _ => ?_) (fun h _ => ?_)
      ·refine ACode_skip ?_
       refine ACode_seq ?_
       refine ACode_block ?_
       refine (ACode_last (l := [_, _, _, _, _, _, _, _, _, _, _, _, _, _, _, _]) mixed (by kernel_rfl) (by kernel_rfl) ?_)
       refine kQ 2 rfl ?_
       refine AQ_call 26 _ _ _ _ _ _ _ _ _ rfl rfl rfl rfl rfl rfl rfl Tryz.call85 rfl rfl rfl (spec_l01Edge_ac x4 x1) ?_
       refine AQ_q 27 _ rfl rfl rfl (QOp_loadN_pv _ _ _ _ _ _ rfl Tryz.isAgg26 Tryz.sizeOf26 rfl (colD_all _) (colD_length _)) ?_
       refine kQ 2 rfl ?_
       obtain ⟨hc8, h⟩ := guardO h
       refine AQ_q 30 _ rfl rfl rfl (QOp_indexAddr_sl _ _ _ _ _ _ _ _ rfl Tryz.underlying27 Tryz.sizeOf2 hc8.1 (by rw [intsD_length]; exact hc8.2) rfl rfl) ?_
       refine AQ_q 31 _ rfl rfl rfl (QOp_load_pv _ _ _ _ _ rfl Tryz.isAgg2 rfl (intsD_get _ _ 0 (by omega))) ?_
       refine kQ 2 rfl ?_
       obtain ⟨hc9, h⟩ := guardO h
       refine AQ_q 34 _ rfl rfl rfl (QOp_indexAddr_sl _ _ _ _ _ _ _ _ rfl Tryz.underlying27 Tryz.sizeOf2 hc9.1 (by rw [intsD_length]; exact hc9.2) rfl rfl) ?_
       refine AQ_q 35 _ rfl rfl rfl (QOp_load_pv _ _ _ _ _ rfl Tryz.isAgg2 rfl (intsD_get _ _ 0 (by omega))) ?_
       obtain ⟨r10, hr10, h⟩ := bindO h
       refine AQ_call 36 _ _ _ _ _ _ _ _ _ rfl rfl rfl rfl rfl rfl rfl Tryz.call93 rfl rfl rfl (spec_l01At_ac p0 (p1.getD x4.toNat 0) (p1.getD x1.toNat 0) _ hr10) ?_
       refine AQ_q 37 _ rfl rfl rfl (QOp_toByte _ _ _ _ _ rfl rfl Tryz.underlying5 rfl) ?_
       refine AQ_q 38 _ rfl rfl rfl (QOp_fieldAddr_ptr _ _ _ _ _ _ 2 _ _ rfl Tryz.underlying26 rfl _ Tryz.sizeOf24 rfl rfl rfl rfl) ?_
       obtain ⟨hc11, h⟩ := guardO h
       refine AQ_q 39 _ rfl rfl rfl (QOp_indexAddrA_ptr _ _ _ _ _ _ _ _ _ _ rfl Tryz.underlying24 Tryz.sizeOf5 hc11.1 hc11.2 rfl rfl rfl rfl) ?_
       refine AQ_nil ?_
       refine AOps_store1 _ _ _ _ _ _ (colD (x5.set ((spec_l01Edge x4 x1).toNat) (toByte r10))) _ rfl rfl rfl rfl rfl rfl rfl Tryz.sizeOf5 (by rw [colD_length]; omega) (colD_setE x5 ((spec_l01Edge x4 x1).toNat) (toByte r10)) ?_
       refine AOps_nil ?_
       refine (ACode_region ?_)
       refine kM 1 rfl ?_
       refine AOps_q 23 _ rfl rfl rfl (QOp_add _ _ _ _ _ _ _ rfl rfl rfl) ?_
       refine kN 1 rfl ?_
       exact ⟨k1, _, _, Nat.lt_succ_self _, Weak_keep 0 hm [1, 2, 4, 5, 6, 7] [0, 1] _ _ rfl rfl rfl, _, _, rfl, rfl, h⟩
      refine ACode_exit ?_
      cases h
      exact Weak_keep 0 hm [1, 2, 4, 5, 6] [0, 1] _ _ rfl rfl rfl
    refine (ACode_region ?_)
    refine kM 1 rfl ?_
    refine AOps_q 18 _ rfl rfl rfl (QOp_add _ _ _ _ _ _ _ rfl rfl rfl) ?_
    refine kN 1 rfl ?_
    exact ⟨k0, _, _, Nat.lt_succ_self _, Weak_keep 0 hm [1, 2, 4, 5, 6] [0, 1] _ _ rfl rfl rfl, _, _, rfl, rfl, h⟩
   refine ACode_exit ?_
   cases h
   exact Weak_keep 0 hm [4, 5] [0, 1] _ _ rfl rfl rfl
 refine kR ?_
 refine AOps_q 40 _ rfl rfl rfl (QOp_loadN_ptr _ _ _ _ _ _ _ rfl Tryz.isAgg26 Tryz.sizeOf26 rfl rfl (colD_all _) (colD_length _)) ?_
 refine AOps_store _ _ _ _ _ _ (colD _) _ _ rfl rfl rfl rfl rfl rfl rfl (colD_one _) (by rw [colD_length]; exact Tryz.sizeOf26) (by rw [colD_length, colD_length]; decide) (colD_whole _ _) ?_
 refine AOps_nil ?_
 refine ACode_ret ?_
 cases h
 exact ⟨_, _, fun r a w h => ⟨r, h⟩, _, _, [], _, (.cons (ResV_agg _ _ _ _ _ _ Tryz.isAgg26 Tryz.sizeOf26 rfl rfl (colD_take _) (colD_length _)) .nil), rfl, rfl, rfl, rfl, rfl⟩

-- loop.example/g01362/spec.LongestBeginning
def spec_LongestBeginning_l0 (k : Nat) (p0 : Col) (p1 : List Int) : Nat → Int → (List Int) → Option (Sum (Unit) (Int × Int))
 | 0, _, _ => none
 | k0 + 1, x3, x4 => (if decide (x3 < p0.p) then (if x4.length + ([x3]).length ≤ 1099511627776 then (spec_l01Part k p0 (x4 ++ ([x3]))).bind fun r7 => (spec_l05Avoids k r7 p1).bind fun r8 => (if !r8 then some (.inr (x3, 0)) else spec_LongestBeginning_l0 k p0 p1 k0 (w64 (x3 + 1)) (x4 ++ ([x3]))) else none) else some (.inl ()))
def spec_LongestBeginning (k : Nat) (p0 : Col) (p1 : List Int) : Option (Int × Int) :=
 (spec_l05Code k p0 p1).bind fun r1 => (if !decide (r1 = 0) then some (0, r1) else (spec_LongestBeginning_l0 k p0 p1 k 0 ([] : List Int) : Option (Sum (Unit) (Int × Int))).bind fun os10 => (match os10 with | .inl s10 => some (p0.p, 0) | .inr rr => some rr))
set_option maxRecDepth 100000 in
theorem spec_LongestBeginning_ac (k : Nat) (p0 : Col) (p1 : List Int) (r : Int × Int) (h : spec_LongestBeginning k p0 p1 = some r) : AC Tryz.prog 26 [.d (.agg (colD p0)), .d (.sl none (intsD p1))] [] (fun res H' => res = [iV r.1, iV r.2] ∧ H' = []) := by
 refine AC_of_body true Tryz.func26 rfl Tryz.ntmps26 (rvs := [.tmp 4, .tmp 5]) rfl rfl (fun G hG => ?_)
 have hm : G.H.length = 0 := by rw [hG]; rfl
 have hz : zeroG G.H = true := by rw [hG]; rfl
 unfold spec_LongestBeginning at h
 refine kR ?_
 refine AOps_boxI 2 _ _ (.agg (colD p0)) (colD p0) rfl (colD_one _) rfl rfl rfl rfl rfl ?_
 refine kN 2 rfl ?_
 refine ACode_seq ?_
 refine kR ?_
 refine AOps_q 9 _ rfl rfl rfl (QOp_loadN_pv _ _ _ _ _ _ rfl Tryz.isAgg26 Tryz.sizeOf26 rfl (colD_all _) (colD_length _)) ?_
 refine kM 1 rfl ?_
 obtain ⟨r1, hr1, h⟩ := bindO h
 refine kC [] 11 (iV r1) [] rfl Tryz.call41 rfl rfl (spec_l05Code_ac k p0 p1 _ hr1) rfl ?_
 refine kN 1 rfl ?_
 refine kR ?_
 refine kM 1 rfl ?_
 refine AOps_q 13 _ rfl rfl rfl (QOp_neq _ _ _ _ _ _ _ rfl rfl rfl) ?_
 refine AOps_nil ?_
 refine kI h rfl (fun h _ => ?_) (fun h _ => ?_)
 ·refine kR ?_
  refine kN 3 rfl ?_
  refine ACode_ret ?_
  cases h
  exact ⟨_, _, fun r a w h => ⟨r, h⟩, _, _, [], _, (.cons (ResV_tmp _ _ rfl) (.cons (ResV_tmp _ _ rfl) .nil)), rfl, rfl, rfl, rfl, rfl⟩
 refine ACode_skip ?_
 refine kR ?_
 refine AOps_buildSlice 15 _ _ _ [] (intsD ([] : List Int)) _ rfl rfl rfl rfl rfl (by decide) Tryz.underlying27 Tryz.sizeOf2 (zero_of Tryz.typeInfo2 rfl) rfl rfl (intsD_one _) ?_
 refine kN 1 rfl ?_
 refine kO (fun s10 => [(2, .d (.pv (colD p0) 0))]) (fun s10 => []) h (fun os10 h hks10 => ?_) (fun s10 h => ?_)
 ·refine kR ?_
  refine kN 1 rfl ?_
  refine ACode_block ?_
  refine ACode_loopW (fun k0 E H => ∃ (x3 : Int) (x4 : List Int), E = [(1, .d (.sl none (intsD p1))), (2, .d (.pv (colD p0) 0)), (7, .vec 0 0), (8, iV x3)] ∧ H = [.vec 0 (intsD x4)] ∧ spec_LongestBeginning_l0 k p0 p1 k0 x3 x4 = some os10) k _ _ (Weak_keep 0 hm [1, 2, 7, 8] [0] _ _ rfl rfl rfl) ⟨_, _, rfl, rfl, h⟩ ?_
  clear h
  rintro k0 E H ⟨x3, x4, rfl, rfl, h⟩
  cases k0 with
  | zero => cases (show (none : Option (Sum (Unit) (Int × Int))) = some _ from h)
  | succ k0 =>
   rw [spec_LongestBeginning_l0] at h
   refine ACode_seq ?_
   refine kR ?_
   refine kM 1 rfl ?_
   refine AOps_q 17 _ rfl rfl rfl (QOp_fieldAddr_pv _ _ _ _ _ 0 _ _ rfl Tryz.underlying26 rfl _ Tryz.sizeOf2 rfl rfl) ?_
   refine AOps_q 18 _ rfl rfl rfl (QOp_load_pv _ _ _ _ _ rfl Tryz.isAgg2 rfl rfl) ?_
   refine AOps_q 19 _ rfl rfl rfl (QOp_lss _ _ _ _ _ _ _ rfl rfl rfl) ?_
   refine AOps_nil ?_
   refine kI h rfl (fun h _ => ?_) (fun h _ => ?_)
   ·refine ACode_skip ?_
    refine ACode_seq ?_
    refine ACode_block ?_
    refine kR ?_
    refine kM 2 rfl ?_
    refine AOps_buildSlice 24 _ _ _ [_] (intsD ([x3])) _ rfl rfl rfl rfl rfl (by decide) Tryz.underlying27 Tryz.sizeOf2 (zero_of Tryz.typeInfo2 rfl) rfl rfl (intsD_one _) ?_
    obtain ⟨hc6, h⟩ := guardO h
    refine AOps_append 25 _ _ _ _ _ _ _ _ _ _ _ _ rfl rfl rfl rfl rfl rfl rfl Tryz.underlying27 Tryz.type2 rfl rfl rfl (by decide) rfl rfl rfl rfl (intsD_one _) (by rw [intsD_length, intsD_length]; exact hc6) ?_
    rw [intsD_app]
    refine kN 1 rfl ?_
    refine kR ?_
    refine AOps_q 26 _ rfl rfl rfl (QOp_loadN_pv _ _ _ _ _ _ rfl Tryz.isAgg26 Tryz.sizeOf26 rfl (colD_all _) (colD_length _)) ?_
    refine kM 1 rfl ?_
    obtain ⟨r7, hr7, h⟩ := bindO h
    refine AOps_callL [] 28 _ _ _ _ _ _ _ _ _ _ rfl rfl rfl rfl rfl rfl rfl Tryz.call62 rfl (nodupB_sound _ rfl) rfl rfl rfl (spec_l01Part_ac k p0 (x4 ++ ([x3])) _ hr7) ?_
    rintro _ _ ⟨rfl, rfl⟩
    refine ⟨(fun _ h => nomatch h), (allc (flat_agg (colD_flat _)) (fun _ h => nomatch h)), AOps_as 28 (v' := .d (.agg (colD r7))) (H' := [.vec 1 (intsD (x4 ++ ([x3]))), .vec 0 (intsD ([x3]))]) rfl rfl ?_⟩
    refine kM 1 rfl ?_
    obtain ⟨r8, hr8, h⟩ := bindO h
    refine kC [] 30 (bV r8) [.vec 1 (intsD (x4 ++ ([x3]))), .vec 0 (intsD ([x3]))] rfl Tryz.call42 rfl rfl (spec_l05Avoids_ac k r7 p1 _ hr8) rfl ?_
    refine AOps_q 31 _ rfl rfl rfl (QOp_not _ _ _ rfl rfl) ?_
    refine AOps_nil ?_
    refine kI h rfl (fun h _ => ?_) (fun h _ => ?_)
    ·refine kR ?_
     refine kN 3 rfl ?_
     refine ACode_ret ?_
     cases h
     have h := hks10
     cases h
     exact ⟨_, _, Weak_reset 0 hm hz [4, 5] _ _ rfl rfl, _, _, [], _, (.cons (ResV_tmp _ _ rfl) (.cons (ResV_tmp _ _ rfl) .nil)), rfl, rfl, rfl, rfl, rfl⟩
    refine ACode_skip ?_
    refine (ACode_region ?_)
    refine kM 1 rfl ?_
    refine AOps_q 21 _ rfl rfl rfl (QOp_add _ _ _ _ _ _ _ rfl rfl rfl) ?_
    refine kN 1 rfl ?_
    exact ⟨k0, _, _, Nat.lt_succ_self _, Weak_trans (Weak_keep 0 hm [1, 2, 7, 8] [0] _ _ rfl rfl rfl) (Weak_reset 0 hm hz [1, 2, 7, 8] _ _ rfl rfl), _, _, rfl, rfl, h⟩
   refine ACode_exit ?_
   cases h
   exact ⟨_, rfl, Weak_keep 0 hm [2] [] _ _ rfl rfl rfl⟩
 refine kR ?_
 refine AOps_q 33 _ rfl rfl rfl (QOp_fieldAddr_pv _ _ _ _ _ 0 _ _ rfl Tryz.underlying26 rfl _ Tryz.sizeOf2 rfl rfl) ?_
 refine AOps_q 34 _ rfl rfl rfl (QOp_load_pv _ _ _ _ _ rfl Tryz.isAgg2 rfl rfl) ?_
 refine kN 2 rfl ?_
 refine ACode_ret ?_
 cases h
 exact ⟨_, _, fun r a w h => ⟨r, h⟩, _, _, [], _, (.cons (ResV_tmp _ _ rfl) (.cons (ResV_tmp _ _ rfl) .nil)), rfl, rfl, rfl, rfl, rfl⟩

-- loop.example/g01362/laws.FnExtensions
def laws_FnExtensions_l0 (k : Nat) (r3 : Col × List Int) (r10 : Option (List (List Int)) × Int) : Nat → Int → Option (Sum (Unit) (Bool))
 | 0, _ => none
 | k0 + 1, x38 => (letO (if decide (x38 < ((r10.1.getD []).length : Int)) then decide (x38 < 12) else false) fun (s40 : Bool) => (if s40 then some (.inl ()) else (some (.inl ())).bind fun rr => some (.inr rr)) : Option (Sum (Unit) (Sum (Unit) (Bool)))).bind fun os42 => (match os42 with | .inl s42 => ((if 0 ≤ x38 ∧ x38 < ((r10.1.getD []).length : Int) then (impl_IsExtension k r3.1 r3.2 ((r10.1.getD []).getD x38.toNat [])).bind fun r44 => (if 0 ≤ x38 ∧ x38 < ((r10.1.getD []).length : Int) then (impl_PutPoint k r3.1 ((r10.1.getD []).getD x38.toNat [])).bind fun r46 => (impl_AvoidsSizes k r46.1 r3.2).bind fun r47 => letO (if !decide (r44.2 = 0) then true else (if !decide (r46.2 = 0) then true else (if !decide (r47.2 = 0) then true else (if !r44.1 then true else !r47.1)))) fun (s52 : Bool) => (if s52 then (some (.inr false)).bind fun rr => some (.inr rr) else some (.inl ())) else none) else none) : Option (Sum (Unit) (Sum (Unit) (Bool)))).bind fun os54 => (match os54 with | .inl s54 => laws_FnExtensions_l0 k r3 r10 k0 (w64 (x38 + 1)) | .inr rr => some rr) | .inr rr => some rr)
def laws_FnExtensions (k : Nat) (p0 : List UInt8) : Option (Bool) :=
 (if (laws_big p0) then some true else (spec_DrawExtensionsByDegree k p0).bind fun r3 => (impl_ExtensionsByDegree k r3.1 r3.2).bind fun r4 => (spec_ExtensionsByDegree k r3.1 r3.2).bind fun r5 => (impl_CountExtensions k r3.1 r3.2).bind fun r6 => (spec_CountExtensions k r3.1 r3.2).bind fun r7 => (impl_FirstExtension k r3.1 r3.2).bind fun r8 => (spec_FirstExtension k r3.1 r3.2).bind fun r9 => (impl_ExtensionList k r3.1 r3.2).bind fun r10 => (spec_ExtensionList k r3.1 r3.2).bind fun r11 => (impl_IsClosed k r3.1 r3.2).bind fun r12 => (spec_IsClosed k r3.1 r3.2).bind fun r13 => (((if !decide (r4.2 = r5.2) then some true else (laws_likeInts k (r4.1.getD []) r5.1).bind fun r15 => (if !r15 then some true else (if !decide (r6.2 = r7.2) then some true else (if !decide (r6.1 = r7.1) then some true else (if !decide (r8.2 = r9.2) then some true else (laws_likeInts k (r8.1.getD []) r9.1).bind fun r20 => (if !r20 then some true else (if !decide (r10.2 = r11.2) then some true else (laws_rows5 k (r10.1.getD []) r11.1).bind fun r23 => (if !r23 then some true else (if !decide (r12.2 = r13.2) then some true else some (!(r12.1 == r13.1))))))))))) : Option (Bool)).bind fun s26 => (if s26 then some (.inr false) else some (.inl ())) : Option (Sum (Unit) (Bool))).bind fun os28 => (match os28 with | .inl s28 => ((if decide (r6.2 = 0) then (((laws_sum k (r4.1.getD [])).bind fun r30 => (if !decide (r30 = r6.1) then some true else (if !(decide (0 < r6.1) == decide (r8.2 = 0)) then some true else (if !(r12.1 == decide (r6.1 = 0)) then some true else (if decide (r10.2 = 0) then some (!decide (((r10.1.getD []).length : Int) = r6.1)) else some false)))) : Option (Bool)).bind fun s35 => (if s35 then (some (.inr false)).bind fun rr => some (.inr rr) else some (.inl ())) : Option (Sum (Unit) (Sum (Unit) (Bool)))).bind fun os37 => (match os37 with | .inl s37 => laws_FnExtensions_l0 k r3 r10 k 0 | .inr rr => some rr) else some (.inl ())) : Option (Sum (Unit) (Bool))).bind fun os55 => (match os55 with | .inl s55 => (spec_DrawIsExtension k p0).bind fun r56 => (impl_IsExtension k r56.1 r56.2.1 r56.2.2).bind fun r57 => (spec_IsExtension k r56.1 r56.2.1 r56.2.2).bind fun r58 => (spec_DrawLongestBeginning k p0).bind fun r59 => (impl_LongestBeginning k r59.1 r59.2).bind fun r60 => (spec_LongestBeginning k r59.1 r59.2).bind fun r61 => (letO (if !decide (r57.2 = r58.2) then true else (if !(r57.1 == r58.1) then true else (if !decide (r60.2 = r61.2) then true else !decide (r60.1 = r61.1)))) fun (s65 : Bool) => (if s65 then some (.inr false) else some (.inl ())) : Option (Sum (Unit) (Bool))).bind fun os67 => (match os67 with | .inl s67 => (if decide (r60.2 = 0) then (impl_AvoidsSizes k r59.1 r59.2).bind fun r69 => letO (if decide (r69.2 = 0) then (r69.1 == decide (r60.1 = r59.1.p)) else false) fun (s71 : Bool) => some s71 else some true) | .inr rr => some rr) | .inr rr => some rr) | .inr rr => some rr))
set_option maxRecDepth 100000 in
theorem laws_FnExtensions_ac (k : Nat) (p0 : List UInt8) (r : Bool) (h : laws_FnExtensions k p0 = some r) : AC Tryz.prog 3 [.d (.sl none (bysD p0))] [] (fun res H' => res = [bV r] ∧ H' = []) := by
 refine AC_of_body true Tryz.func3 rfl Tryz.ntmps3 (rvs := [.tmp 2]) rfl rfl (fun G hG => ?_)
 have hm : G.H.length = 0 := by rw [hG]; rfl
 have hz : zeroG G.H = true := by rw [hG]; rfl
 unfold laws_FnExtensions at h
 refine kR ?_
 refine kN 1 rfl ?_
 refine ACode_seq ?_
 refine kR ?_
 refine kM 1 rfl ?_
 refine kC [] 48 (bV (laws_big p0)) [] rfl Tryz.call4 rfl rfl (laws_big_ac p0) rfl ?_
 refine AOps_nil ?_
 refine kI h rfl (fun h _ => ?_) (fun h _ => ?_)
 ·refine kR ?_
  refine kN 1 rfl ?_
  refine ACode_ret ?_
  cases h
  exact ⟨_, _, fun r a w h => ⟨r, h⟩, _, _, [], _, (.cons (ResV_tmp _ _ rfl) .nil), rfl, rfl, rfl, rfl, rfl⟩
 refine ACode_skip ?_
 refine kR ?_
 refine kM 1 rfl ?_
 obtain ⟨r3, hr3, h⟩ := bindO h
 refine kC [] 51 (.tup [.d (.agg (colD r3.1)), .d (.sl none (intsD r3.2))]) [] rfl Tryz.call5 rfl rfl (spec_DrawExtensionsByDegree_ac k p0 _ hr3) rfl ?_
 refine kM 3 rfl ?_
 refine AOps_alloc 3 _ _ (colD Col.zero) (zero_of Tryz.typeInfo26 rfl) (by rfl) rfl rfl rfl rfl ?_
 refine AOps_store _ _ _ _ _ _ (colD _) _ _ rfl rfl rfl rfl rfl rfl rfl (colD_one _) (by rw [colD_length]; exact Tryz.sizeOf26) (by rw [colD_length, colD_length]; decide) (colD_whole _ _) ?_
 refine kN 1 rfl ?_
 refine kR ?_
 refine AOps_q 55 _ rfl rfl rfl (QOp_loadN_ptr _ _ _ _ _ _ _ rfl Tryz.isAgg26 Tryz.sizeOf26 rfl rfl (colD_all _) (colD_length _)) ?_
 refine kM 1 rfl ?_
 obtain ⟨r4, hr4, h⟩ := bindO h
 refine kC [] 57 (.tup [.d (.sl none (intsD (r4.1.getD []))), iV r4.2]) [.box (colD r3.1)] rfl Tryz.call6 rfl rfl (AC_frz rfl (frz_cons frz_nil) (impl_ExtensionsByDegree_ac k r3.1 r3.2 _ hr4)) rfl ?_
 refine kN 5 rfl ?_
 refine kR ?_
 refine AOps_q 61 _ rfl rfl rfl (QOp_loadN_ptr _ _ _ _ _ _ _ rfl Tryz.isAgg26 Tryz.sizeOf26 rfl rfl (colD_all _) (colD_length _)) ?_
 refine kM 1 rfl ?_
 obtain ⟨r5, hr5, h⟩ := bindO h
 refine kC [] 63 (.tup [.d (.sl none (intsD r5.1)), iV r5.2]) [.box (colD r3.1)] rfl Tryz.call7 rfl rfl (spec_ExtensionsByDegree_ac k r3.1 r3.2 _ hr5) rfl ?_
 refine kN 5 rfl ?_
 refine kR ?_
 refine AOps_q 67 _ rfl rfl rfl (QOp_loadN_ptr _ _ _ _ _ _ _ rfl Tryz.isAgg26 Tryz.sizeOf26 rfl rfl (colD_all _) (colD_length _)) ?_
 refine kM 1 rfl ?_
 obtain ⟨r6, hr6, h⟩ := bindO h
 refine kC [] 69 (.tup [iV r6.1, iV r6.2]) [.box (colD r3.1)] rfl Tryz.call8 rfl rfl (impl_CountExtensions_ac k r3.1 r3.2 _ hr6) rfl ?_
 refine kN 5 rfl ?_
 refine kR ?_
 refine AOps_q 73 _ rfl rfl rfl (QOp_loadN_ptr _ _ _ _ _ _ _ rfl Tryz.isAgg26 Tryz.sizeOf26 rfl rfl (colD_all _) (colD_length _)) ?_
 refine kM 1 rfl ?_
 obtain ⟨r7, hr7, h⟩ := bindO h
 refine kC [] 75 (.tup [iV r7.1, iV r7.2]) [.box (colD r3.1)] rfl Tryz.call9 rfl rfl (spec_CountExtensions_ac k r3.1 r3.2 _ hr7) rfl ?_
 refine kN 5 rfl ?_
 refine kR ?_
 refine AOps_q 79 _ rfl rfl rfl (QOp_loadN_ptr _ _ _ _ _ _ _ rfl Tryz.isAgg26 Tryz.sizeOf26 rfl rfl (colD_all _) (colD_length _)) ?_
 refine kM 1 rfl ?_
 obtain ⟨r8, hr8, h⟩ := bindO h
 refine kC [] 81 (.tup [.d (.sl none (intsD (r8.1.getD []))), iV r8.2]) [.box (colD r3.1)] rfl Tryz.call10 rfl rfl (AC_frz rfl (frz_cons frz_nil) (impl_FirstExtension_ac k r3.1 r3.2 _ hr8)) rfl ?_
 refine kN 5 rfl ?_
 refine kR ?_
 refine AOps_q 85 _ rfl rfl rfl (QOp_loadN_ptr _ _ _ _ _ _ _ rfl Tryz.isAgg26 Tryz.sizeOf26 rfl rfl (colD_all _) (colD_length _)) ?_
 refine kM 1 rfl ?_
 obtain ⟨r9, hr9, h⟩ := bindO h
 refine kC [] 87 (.tup [.d (.sl none (intsD r9.1)), iV r9.2]) [.box (colD r3.1)] rfl Tryz.call11 rfl rfl (spec_FirstExtension_ac k r3.1 r3.2 _ hr9) rfl ?_
 refine kN 5 rfl ?_
 refine kR ?_
 refine AOps_q 91 _ rfl rfl rfl (QOp_loadN_ptr _ _ _ _ _ _ _ rfl Tryz.isAgg26 Tryz.sizeOf26 rfl rfl (colD_all _) (colD_length _)) ?_
 refine kM 1 rfl ?_
 obtain ⟨r10, hr10, h⟩ := bindO h
 refine kC [] 93 (.tup [.d (.sl none (rowsD (r10.1.getD []))), iV r10.2]) [.box (colD r3.1)] rfl Tryz.call12 rfl rfl (AC_frz rfl (frz_cons frz_nil) (impl_ExtensionList_ac k r3.1 r3.2 _ hr10)) rfl ?_
 refine kN 5 rfl ?_
 refine kR ?_
 refine AOps_q 97 _ rfl rfl rfl (QOp_loadN_ptr _ _ _ _ _ _ _ rfl Tryz.isAgg26 Tryz.sizeOf26 rfl rfl (colD_all _) (colD_length _)) ?_
 refine kM 1 rfl ?_
 obtain ⟨r11, hr11, h⟩ := bindO h
 refine kC [] 99 (.tup [.d (.sl none (rowsD r11.1)), iV r11.2]) [.box (colD r3.1)] rfl Tryz.call13 rfl rfl (spec_ExtensionList_ac k r3.1 r3.2 _ hr11) rfl ?_
 refine kN 5 rfl ?_
 refine kR ?_
 refine AOps_q 103 _ rfl rfl rfl (QOp_loadN_ptr _ _ _ _ _ _ _ rfl Tryz.isAgg26 Tryz.sizeOf26 rfl rfl (colD_all _) (colD_length _)) ?_
 refine kM 1 rfl ?_
 obtain ⟨r12, hr12, h⟩ := bindO h
 refine kC [] 105 (.tup [bV r12.1, iV r12.2]) [.box (colD r3.1)] rfl Tryz.call14 rfl rfl (impl_IsClosed_ac k r3.1 r3.2 _ hr12) rfl ?_
 refine kN 5 rfl ?_
 refine kR ?_
 refine AOps_q 109 _ rfl rfl rfl (QOp_loadN_ptr _ _ _ _ _ _ _ rfl Tryz.isAgg26 Tryz.sizeOf26 rfl rfl (colD_all _) (colD_length _)) ?_
 refine kM 1 rfl ?_
 obtain ⟨r13, hr13, h⟩ := bindO h
 refine kC [] 111 (.tup [bV r13.1, iV r13.2]) [.box (colD r3.1)] rfl Tryz.call15 rfl rfl (spec_IsClosed_ac k r3.1 r3.2 _ hr13) rfl ?_
 refine kN 5 rfl ?_
 refine kO (fun s28 => [(0, .d (.sl none (bysD p0))), (3, .ptr 0 0), (4, .d (.sl none (intsD r3.2))), (5, .d (.sl none (intsD (r4.1.getD [])))), (9, iV r6.1), (10, iV r6.2), (14, iV r8.2), (17, .d (.sl none (rowsD (r10.1.getD [])))), (18, iV r10.2), (21, bV r12.1)]) (fun s28 => [.box (colD r3.1)]) h (fun os28 h hks28 => ?_) (fun s28 h => ?_)
 ·refine kB (fun s26 => [(0, .d (.sl none (bysD p0))), (3, .ptr 0 0), (4, .d (.sl none (intsD r3.2))), (5, .d (.sl none (intsD (r4.1.getD [])))), (9, iV r6.1), (10, iV r6.2), (14, iV r8.2), (17, .d (.sl none (rowsD (r10.1.getD [])))), (18, iV r10.2), (21, bV r12.1), (164, bV s26)]) (fun s26 => [.box (colD r3.1)]) h (fun s26 h => ?_) (fun s26 h => ?_)
  ·refine (ACode_region ?_)
   refine kM 2 rfl ?_
   refine AOps_q 116 _ rfl rfl rfl (QOp_neq _ _ _ _ _ _ _ rfl rfl rfl) ?_
   refine kM 1 rfl ?_
   refine AOps_case 117 _ rfl (fun hb14 => ?_) (fun hb14 => ?_)
   ·have h := iteT hb14 h
    refine AOps_skip 118 rfl rfl rfl ?_
    refine AOps_skip 119 rfl rfl rfl ?_
    refine AOps_skip 120 rfl rfl rfl ?_
    refine AOps_skip 121 rfl rfl rfl ?_
    refine kM 2 rfl ?_
    refine AOps_skip 124 rfl rfl rfl ?_
    refine AOps_skip 125 rfl rfl rfl ?_
    refine AOps_skip 126 rfl rfl rfl ?_
    refine kM 2 rfl ?_
    refine AOps_skip 129 rfl rfl rfl ?_
    refine AOps_skip 130 rfl rfl rfl ?_
    refine AOps_skip 131 rfl rfl rfl ?_
    refine kM 2 rfl ?_
    refine AOps_skip 134 rfl rfl rfl ?_
    refine AOps_skip 135 rfl rfl rfl ?_
    refine AOps_skip 136 rfl rfl rfl ?_
    refine kM 2 rfl ?_
    refine AOps_skip 139 rfl rfl rfl ?_
    refine AOps_skip 140 rfl rfl rfl ?_
    refine AOps_skip 141 rfl rfl rfl ?_
    refine AOps_skip 142 rfl rfl rfl ?_
    refine kM 2 rfl ?_
    refine AOps_skip 145 rfl rfl rfl ?_
    refine AOps_skip 146 rfl rfl rfl ?_
    refine AOps_skip 147 rfl rfl rfl ?_
    refine kM 2 rfl ?_
    refine AOps_skip 150 rfl rfl rfl ?_
    refine AOps_skip 151 rfl rfl rfl ?_
    refine AOps_skip 152 rfl rfl rfl ?_
    refine AOps_skip 153 rfl rfl rfl ?_
    refine kM 2 rfl ?_
    refine AOps_skip 156 rfl rfl rfl ?_
    refine AOps_skip 157 rfl rfl rfl ?_
    refine AOps_skip 158 rfl rfl rfl ?_
    refine kM 2 rfl ?_
    refine AOps_skip 161 rfl rfl rfl ?_
    refine AOps_skip 162 rfl rfl rfl ?_
    refine AOps_skip 163 rfl rfl rfl ?_
    refine kN 1 rfl ?_
    cases h
    exact Weak_keep 0 hm [0, 3, 4, 5, 9, 10, 14, 17, 18, 21, 164] [0] _ _ rfl rfl rfl
   have h := iteF hb14 h
   refine kM 2 rfl ?_
   obtain ⟨r15, hr15, h⟩ := bindO h
   refine kC [] 120 (bV r15) [.box (colD r3.1)] rfl Tryz.call16 rfl rfl (laws_likeInts_ac k (r4.1.getD []) r5.1 _ hr15) rfl ?_
   refine AOps_q 121 _ rfl rfl rfl (QOp_not _ _ _ rfl rfl) ?_
   refine kM 2 rfl ?_
   refine AOps_case 123 _ rfl (fun hb16 => ?_) (fun hb16 => ?_)
   ·have h := iteT hb16 h
    refine AOps_skip 124 rfl rfl rfl ?_
    refine AOps_skip 125 rfl rfl rfl ?_
    refine AOps_skip 126 rfl rfl rfl ?_
    refine kM 2 rfl ?_
    refine AOps_skip 129 rfl rfl rfl ?_
    refine AOps_skip 130 rfl rfl rfl ?_
    refine AOps_skip 131 rfl rfl rfl ?_
    refine kM 2 rfl ?_
    refine AOps_skip 134 rfl rfl rfl ?_
    refine AOps_skip 135 rfl rfl rfl ?_
    refine AOps_skip 136 rfl rfl rfl ?_
    refine kM 2 rfl ?_
    refine AOps_skip 139 rfl rfl rfl ?_
    refine AOps_skip 140 rfl rfl rfl ?_
    refine AOps_skip 141 rfl rfl rfl ?_
    refine AOps_skip 142 rfl rfl rfl ?_
    refine kM 2 rfl ?_
    refine AOps_skip 145 rfl rfl rfl ?_
    refine AOps_skip 146 rfl rfl rfl ?_
    refine AOps_skip 147 rfl rfl rfl ?_
    refine kM 2 rfl ?_
    refine AOps_skip 150 rfl rfl rfl ?_
    refine AOps_skip 151 rfl rfl rfl ?_
    refine AOps_skip 152 rfl rfl rfl ?_
    refine AOps_skip 153 rfl rfl rfl ?_
    refine kM 2 rfl ?_
    refine AOps_skip 156 rfl rfl rfl ?_
    refine AOps_skip 157 rfl rfl rfl ?_
    refine AOps_skip 158 rfl rfl rfl ?_
    refine kM 2 rfl ?_
    refine AOps_skip 161 rfl rfl rfl ?_
    refine AOps_skip 162 rfl rfl rfl ?_
    refine AOps_skip 163 rfl rfl rfl ?_
    refine kN 1 rfl ?_
    cases h
    exact Weak_keep 0 hm [0, 3, 4, 5, 9, 10, 14, 17, 18, 21, 164] [0] _ _ rfl rfl rfl
   have h := iteF hb16 h
   refine kM 2 rfl ?_
   refine AOps_q 126 _ rfl rfl rfl (QOp_neq _ _ _ _ _ _ _ rfl rfl rfl) ?_
   refine kM 2 rfl ?_
   refine AOps_case 128 _ rfl (fun hb17 => ?_) (fun hb17 => ?_)
   ·have h := iteT hb17 h
    refine AOps_skip 129 rfl rfl rfl ?_
    refine AOps_skip 130 rfl rfl rfl ?_
    refine AOps_skip 131 rfl rfl rfl ?_
    refine kM 2 rfl ?_
    refine AOps_skip 134 rfl rfl rfl ?_
    refine AOps_skip 135 rfl rfl rfl ?_
    refine AOps_skip 136 rfl rfl rfl ?_
    refine kM 2 rfl ?_
    refine AOps_skip 139 rfl rfl rfl ?_
    refine AOps_skip 140 rfl rfl rfl ?_
    refine AOps_skip 141 rfl rfl rfl ?_
    refine AOps_skip 142 rfl rfl rfl ?_
    refine kM 2 rfl ?_
    refine AOps_skip 145 rfl rfl rfl ?_
    refine AOps_skip 146 rfl rfl rfl ?_
    refine AOps_skip 147 rfl rfl rfl ?_
    refine kM 2 rfl ?_
    refine AOps_skip 150 rfl rfl rfl ?_
    refine AOps_skip 151 rfl rfl rfl ?_
    refine AOps_skip 152 rfl rfl rfl ?_
    refine AOps_skip 153 rfl rfl rfl ?_
    refine kM 2 rfl ?_
    refine AOps_skip 156 rfl rfl rfl ?_
    refine AOps_skip 157 rfl rfl rfl ?_
    refine AOps_skip 158 rfl rfl rfl ?_
    refine kM 2 rfl ?_
    refine AOps_skip 161 rfl rfl rfl ?_
    refine AOps_skip 162 rfl rfl rfl ?_
    refine AOps_skip 163 rfl rfl rfl ?_
    refine kN 1 rfl ?_
    cases h
    exact Weak_keep 0 hm [0, 3, 4, 5, 9, 10, 14, 17, 18, 21, 164] [0] _ _ rfl rfl rfl
   have h := iteF hb17 h
   refine kM 2 rfl ?_
   refine AOps_q 131 _ rfl rfl rfl (QOp_neq _ _ _ _ _ _ _ rfl rfl rfl) ?_
   refine kM 2 rfl ?_
   refine AOps_case 133 _ rfl (fun hb18 => ?_) (fun hb18 => ?_)
   ·have h := iteT hb18 h
    refine AOps_skip 134 rfl rfl rfl ?_
    refine AOps_skip 135 rfl rfl rfl ?_
    refine AOps_skip 136 rfl rfl rfl ?_
    refine kM 2 rfl ?_
    refine AOps_skip 139 rfl rfl rfl ?_
    refine AOps_skip 140 rfl rfl rfl ?_
    refine AOps_skip 141 rfl rfl rfl ?_
    refine AOps_skip 142 rfl rfl rfl ?_
    refine kM 2 rfl ?_
    refine AOps_skip 145 rfl rfl rfl ?_
    refine AOps_skip 146 rfl rfl rfl ?_
    refine AOps_skip 147 rfl rfl rfl ?_
    refine kM 2 rfl ?_
    refine AOps_skip 150 rfl rfl rfl ?_
    refine AOps_skip 151 rfl rfl rfl ?_
    refine AOps_skip 152 rfl rfl rfl ?_
    refine AOps_skip 153 rfl rfl rfl ?_
    refine kM 2 rfl ?_
    refine AOps_skip 156 rfl rfl rfl ?_
    refine AOps_skip 157 rfl rfl rfl ?_
    refine AOps_skip 158 rfl rfl rfl ?_
    refine kM 2 rfl ?_
    refine AOps_skip 161 rfl rfl rfl ?_
    refine AOps_skip 162 rfl rfl rfl ?_
    refine AOps_skip 163 rfl rfl rfl ?_
    refine kN 1 rfl ?_
    cases h
    exact Weak_keep 0 hm [0, 3, 4, 5, 9, 10, 14, 17, 18, 21, 164] [0] _ _ rfl rfl rfl
   have h := iteF hb18 h
   refine kM 2 rfl ?_
   refine AOps_q 136 _ rfl rfl rfl (QOp_neq _ _ _ _ _ _ _ rfl rfl rfl) ?_
   refine kM 2 rfl ?_
   refine AOps_case 138 _ rfl (fun hb19 => ?_) (fun hb19 => ?_)
   ·have h := iteT hb19 h
    refine AOps_skip 139 rfl rfl rfl ?_
    refine AOps_skip 140 rfl rfl rfl ?_
    refine AOps_skip 141 rfl rfl rfl ?_
    refine AOps_skip 142 rfl rfl rfl ?_
    refine kM 2 rfl ?_
    refine AOps_skip 145 rfl rfl rfl ?_
    refine AOps_skip 146 rfl rfl rfl ?_
    refine AOps_skip 147 rfl rfl rfl ?_
    refine kM 2 rfl ?_
    refine AOps_skip 150 rfl rfl rfl ?_
    refine AOps_skip 151 rfl rfl rfl ?_
    refine AOps_skip 152 rfl rfl rfl ?_
    refine AOps_skip 153 rfl rfl rfl ?_
    refine kM 2 rfl ?_
    refine AOps_skip 156 rfl rfl rfl ?_
    refine AOps_skip 157 rfl rfl rfl ?_
    refine AOps_skip 158 rfl rfl rfl ?_
    refine kM 2 rfl ?_
    refine AOps_skip 161 rfl rfl rfl ?_
    refine AOps_skip 162 rfl rfl rfl ?_
    refine AOps_skip 163 rfl rfl rfl ?_
    refine kN 1 rfl ?_
    cases h
    exact Weak_keep 0 hm [0, 3, 4, 5, 9, 10, 14, 17, 18, 21, 164] [0] _ _ rfl rfl rfl
   have h := iteF hb19 h
   refine kM 2 rfl ?_
   obtain ⟨r20, hr20, h⟩ := bindO h
   refine kC [] 141 (bV r20) [.box (colD r3.1)] rfl Tryz.call16 rfl rfl (laws_likeInts_ac k (r8.1.getD []) r9.1 _ hr20) rfl ?_
   refine AOps_q 142 _ rfl rfl rfl (QOp_not _ _ _ rfl rfl) ?_
   refine kM 2 rfl ?_
   refine AOps_case 144 _ rfl (fun hb21 => ?_) (fun hb21 => ?_)
   ·have h := iteT hb21 h
    refine AOps_skip 145 rfl rfl rfl ?_
    refine AOps_skip 146 rfl rfl rfl ?_
    refine AOps_skip 147 rfl rfl rfl ?_
    refine kM 2 rfl ?_
    refine AOps_skip 150 rfl rfl rfl ?_
    refine AOps_skip 151 rfl rfl rfl ?_
    refine AOps_skip 152 rfl rfl rfl ?_
    refine AOps_skip 153 rfl rfl rfl ?_
    refine kM 2 rfl ?_
    refine AOps_skip 156 rfl rfl rfl ?_
    refine AOps_skip 157 rfl rfl rfl ?_
    refine AOps_skip 158 rfl rfl rfl ?_
    refine kM 2 rfl ?_
    refine AOps_skip 161 rfl rfl rfl ?_
    refine AOps_skip 162 rfl rfl rfl ?_
    refine AOps_skip 163 rfl rfl rfl ?_
    refine kN 1 rfl ?_
    cases h
    exact Weak_keep 0 hm [0, 3, 4, 5, 9, 10, 14, 17, 18, 21, 164] [0] _ _ rfl rfl rfl
   have h := iteF hb21 h
   refine kM 2 rfl ?_
   refine AOps_q 147 _ rfl rfl rfl (QOp_neq _ _ _ _ _ _ _ rfl rfl rfl) ?_
   refine kM 2 rfl ?_
   refine AOps_case 149 _ rfl (fun hb22 => ?_) (fun hb22 => ?_)
   ·have h := iteT hb22 h
    refine AOps_skip 150 rfl rfl rfl ?_
    refine AOps_skip 151 rfl rfl rfl ?_
    refine AOps_skip 152 rfl rfl rfl ?_
    refine AOps_skip 153 rfl rfl rfl ?_
    refine kM 2 rfl ?_
    refine AOps_skip 156 rfl rfl rfl ?_
    refine AOps_skip 157 rfl rfl rfl ?_
    refine AOps_skip 158 rfl rfl rfl ?_
    refine kM 2 rfl ?_
    refine AOps_skip 161 rfl rfl rfl ?_
    refine AOps_skip 162 rfl rfl rfl ?_
    refine AOps_skip 163 rfl rfl rfl ?_
    refine kN 1 rfl ?_
    cases h
    exact Weak_keep 0 hm [0, 3, 4, 5, 9, 10, 14, 17, 18, 21, 164] [0] _ _ rfl rfl rfl
   have h := iteF hb22 h
   refine kM 2 rfl ?_
   obtain ⟨r23, hr23, h⟩ := bindO h
   refine kC [] 152 (bV r23) [.box (colD r3.1)] rfl Tryz.call17 rfl rfl (laws_rows5_ac k (r10.1.getD []) r11.1 _ hr23) rfl ?_
   refine AOps_q 153 _ rfl rfl rfl (QOp_not _ _ _ rfl rfl) ?_
   refine kM 2 rfl ?_
   refine AOps_case 155 _ rfl (fun hb24 => ?_) (fun hb24 => ?_)
   ·have h := iteT hb24 h
    refine AOps_skip 156 rfl rfl rfl ?_
    refine AOps_skip 157 rfl rfl rfl ?_
    refine AOps_skip 158 rfl rfl rfl ?_
    refine kM 2 rfl ?_
    refine AOps_skip 161 rfl rfl rfl ?_
    refine AOps_skip 162 rfl rfl rfl ?_
    refine AOps_skip 163 rfl rfl rfl ?_
    refine kN 1 rfl ?_
    cases h
    exact Weak_keep 0 hm [0, 3, 4, 5, 9, 10, 14, 17, 18, 21, 164] [0] _ _ rfl rfl rfl
   have h := iteF hb24 h
   refine kM 2 rfl ?_
   refine AOps_q 158 _ rfl rfl rfl (QOp_neq _ _ _ _ _ _ _ rfl rfl rfl) ?_
   refine kM 2 rfl ?_
   refine AOps_case 160 _ rfl (fun hb25 => ?_) (fun hb25 => ?_)
   ·have h := iteT hb25 h
    refine AOps_skip 161 rfl rfl rfl ?_
    refine AOps_skip 162 rfl rfl rfl ?_
    refine AOps_skip 163 rfl rfl rfl ?_
    refine kN 1 rfl ?_
    cases h
    exact Weak_keep 0 hm [0, 3, 4, 5, 9, 10, 14, 17, 18, 21, 164] [0] _ _ rfl rfl rfl
   have h := iteF hb25 h
   refine kM 2 rfl ?_
   refine AOps_q 163 _ rfl rfl rfl (QOp_bneq _ _ _ _ _ _ rfl rfl rfl Tryz.underlying4) ?_
   refine kN 1 rfl ?_
   cases h
   exact Weak_keep 0 hm [0, 3, 4, 5, 9, 10, 14, 17, 18, 21, 164] [0] _ _ rfl rfl rfl
  refine kI h rfl (fun h _ => ?_) (fun h _ => ?_)
  ·refine kR ?_
   refine kN 1 rfl ?_
   refine ACode_ret ?_
   cases h
   have h := hks28
   cases h
   exact ⟨_, _, fun r a w h => ⟨r, h⟩, _, _, [], _, (.cons (ResV_tmp _ _ rfl) .nil), rfl, rfl, rfl, rfl, rfl⟩
  refine ACode_skip ?_
  cases h
  exact ⟨_, rfl, Weak_keep 0 hm [0, 3, 4, 5, 9, 10, 14, 17, 18, 21] [0] _ _ rfl rfl rfl⟩
 refine kO (fun s55 => [(0, .d (.sl none (bysD p0)))]) (fun s55 => []) h (fun os55 h hks55 => ?_) (fun s55 h => ?_)
 ·refine kR ?_
  refine kM 1 rfl ?_
  refine AOps_q 166 _ rfl rfl rfl (QOp_eql _ _ _ _ _ _ _ rfl rfl rfl) ?_
  refine AOps_nil ?_
  refine kI h rfl (fun h _ => ?_) (fun h _ => ?_)
  ·refine kO (fun s37 => [(0, .d (.sl none (bysD p0))), (3, .ptr 0 0), (4, .d (.sl none (intsD r3.2))), (17, .d (.sl none (rowsD (r10.1.getD []))))]) (fun s37 => [.box (colD r3.1)]) h (fun os37 h hks37 => ?_) (fun s37 h => ?_)
   ·refine kB (fun s35 => [(0, .d (.sl none (bysD p0))), (3, .ptr 0 0), (4, .d (.sl none (intsD r3.2))), (17, .d (.sl none (rowsD (r10.1.getD [])))), (193, bV s35)]) (fun s35 => [.box (colD r3.1)]) h (fun s35 h => ?_) (fun s35 h => ?_)
    ·refine (ACode_region ?_)
     refine kM 1 rfl ?_
     obtain ⟨r30, hr30, h⟩ := bindO h
     refine kC [] 168 (iV r30) [.box (colD r3.1)] rfl Tryz.call18 rfl rfl (laws_sum_ac k (r4.1.getD []) _ hr30) rfl ?_
     refine kM 1 rfl ?_
     refine AOps_q 170 _ rfl rfl rfl (QOp_neq _ _ _ _ _ _ _ rfl rfl rfl) ?_
     refine kM 1 rfl ?_
     refine AOps_case 171 _ rfl (fun hb31 => ?_) (fun hb31 => ?_)
     ·have h := iteT hb31 h
      refine AOps_skip 172 rfl rfl rfl ?_
      refine AOps_skip 173 rfl rfl rfl ?_
      refine AOps_skip 174 rfl rfl rfl ?_
      refine AOps_skip 175 rfl rfl rfl ?_
      refine AOps_skip 176 rfl rfl rfl ?_
      refine kM 2 rfl ?_
      refine AOps_skip 179 rfl rfl rfl ?_
      refine AOps_skip 180 rfl rfl rfl ?_
      refine AOps_skip 181 rfl rfl rfl ?_
      refine AOps_skip 182 rfl rfl rfl ?_
      refine kM 2 rfl ?_
      refine AOps_skip 185 rfl rfl rfl ?_
      refine AOps_skip 186 rfl rfl rfl ?_
      refine AOps_skip 187 rfl rfl rfl ?_
      refine AOps_skip 188 rfl rfl rfl ?_
      refine AOps_skip 189 rfl rfl rfl ?_
      refine AOps_skip 190 rfl rfl rfl ?_
      refine AOps_skip 191 rfl rfl rfl ?_
      refine AOps_skip 192 rfl rfl rfl ?_
      refine kN 1 rfl ?_
      cases h
      exact Weak_keep 0 hm [0, 3, 4, 17, 193] [0] _ _ rfl rfl rfl
     have h := iteF hb31 h
     refine kM 1 rfl ?_
     refine AOps_q 173 _ rfl rfl rfl (QOp_gtr _ _ _ _ _ _ _ rfl rfl rfl) ?_
     refine kM 1 rfl ?_
     refine AOps_q 175 _ rfl rfl rfl (QOp_eql _ _ _ _ _ _ _ rfl rfl rfl) ?_
     refine AOps_q 176 _ rfl rfl rfl (QOp_bneq _ _ _ _ _ _ rfl rfl rfl Tryz.underlying4) ?_
     refine kM 2 rfl ?_
     refine AOps_case 178 _ rfl (fun hb32 => ?_) (fun hb32 => ?_)
     ·have h := iteT hb32 h
      refine AOps_skip 179 rfl rfl rfl ?_
      refine AOps_skip 180 rfl rfl rfl ?_
      refine AOps_skip 181 rfl rfl rfl ?_
      refine AOps_skip 182 rfl rfl rfl ?_
      refine kM 2 rfl ?_
      refine AOps_skip 185 rfl rfl rfl ?_
      refine AOps_skip 186 rfl rfl rfl ?_
      refine AOps_skip 187 rfl rfl rfl ?_
      refine AOps_skip 188 rfl rfl rfl ?_
      refine AOps_skip 189 rfl rfl rfl ?_
      refine AOps_skip 190 rfl rfl rfl ?_
      refine AOps_skip 191 rfl rfl rfl ?_
      refine AOps_skip 192 rfl rfl rfl ?_
      refine kN 1 rfl ?_
      cases h
      exact Weak_keep 0 hm [0, 3, 4, 17, 193] [0] _ _ rfl rfl rfl
     have h := iteF hb32 h
     refine kM 2 rfl ?_
     refine AOps_q 181 _ rfl rfl rfl (QOp_eql _ _ _ _ _ _ _ rfl rfl rfl) ?_
     refine AOps_q 182 _ rfl rfl rfl (QOp_bneq _ _ _ _ _ _ rfl rfl rfl Tryz.underlying4) ?_
     refine kM 2 rfl ?_
     refine AOps_case 184 _ rfl (fun hb33 => ?_) (fun hb33 => ?_)
     ·have h := iteT hb33 h
      refine AOps_skip 185 rfl rfl rfl ?_
      refine AOps_skip 186 rfl rfl rfl ?_
      refine AOps_skip 187 rfl rfl rfl ?_
      refine AOps_skip 188 rfl rfl rfl ?_
      refine AOps_skip 189 rfl rfl rfl ?_
      refine AOps_skip 190 rfl rfl rfl ?_
      refine AOps_skip 191 rfl rfl rfl ?_
      refine AOps_skip 192 rfl rfl rfl ?_
      refine kN 1 rfl ?_
      cases h
      exact Weak_keep 0 hm [0, 3, 4, 17, 193] [0] _ _ rfl rfl rfl
     have h := iteF hb33 h
     refine kM 1 rfl ?_
     refine AOps_q 186 _ rfl rfl rfl (QOp_eql _ _ _ _ _ _ _ rfl rfl rfl) ?_
     refine kM 1 rfl ?_
     refine AOps_case 187 _ rfl (fun hb34 => ?_) (fun hb34 => ?_)
     ·have h := iteT hb34 h
      refine kM 1 rfl ?_
      refine AOps_q 189 _ rfl rfl rfl (QOp_len_sl _ _ _ _ _ _ _ (rowsD_length _) rfl rfl rfl rfl Tryz.underlying34 rfl) ?_
      refine kM 1 rfl ?_
      refine AOps_q 191 _ rfl rfl rfl (QOp_neq _ _ _ _ _ _ _ rfl rfl rfl) ?_
      refine kN 2 rfl ?_
      cases h
      exact Weak_keep 0 hm [0, 3, 4, 17, 193] [0] _ _ rfl rfl rfl
     have h := iteF hb34 h
     refine AOps_skip 188 rfl rfl rfl ?_
     refine AOps_skip 189 rfl rfl rfl ?_
     refine AOps_skip 190 rfl rfl rfl ?_
     refine AOps_skip 191 rfl rfl rfl ?_
     refine kN 2 rfl ?_
     cases h
     exact Weak_keep 0 hm [0, 3, 4, 17, 193] [0] _ _ rfl rfl rfl
    refine kI h rfl (fun h _ => ?_) (fun h _ => ?_)
    ·refine kR ?_
     refine kN 1 rfl ?_
     refine ACode_ret ?_
     obtain ⟨rr, hz72, h2⟩ := bindO h
     obtain rfl := Option.some.inj h2
     obtain rfl := Option.some.inj (show some rr = some _ from hks37)
     have h := hz72
     cases h
     have h := hks55
     cases h
     exact ⟨_, _, fun r a w h => ⟨r, h⟩, _, _, [], _, (.cons (ResV_tmp _ _ rfl) .nil), rfl, rfl, rfl, rfl, rfl⟩
    refine ACode_skip ?_
    cases h
    exact ⟨_, rfl, Weak_keep 0 hm [0, 3, 4, 17] [0] _ _ rfl rfl rfl⟩
   refine kR ?_
   refine kN 1 rfl ?_
   refine ACode_block ?_
   refine ACode_loopW (fun k0 E H => ∃ (x38 : Int), E = [(0, .d (.sl none (bysD p0))), (3, .ptr 0 0), (4, .d (.sl none (intsD r3.2))), (17, .d (.sl none (rowsD (r10.1.getD [])))), (25, iV x38)] ∧ H = [.box (colD r3.1)] ∧ laws_FnExtensions_l0 k r3 r10 k0 x38 = some os55) k _ _ (Weak_keep 0 hm [0, 3, 4, 17, 25] [0] _ _ rfl rfl rfl) ⟨_, rfl, rfl, h⟩ ?_
   clear h
   rintro k0 E H ⟨x38, rfl, rfl, h⟩
   cases k0 with
   | zero => cases (show (none : Option (Sum (Unit) (Bool))) = some _ from h)
   | succ k0 =>
    rw [laws_FnExtensions_l0] at h
    refine kO (fun s42 => [(0, .d (.sl none (bysD p0))), (3, .ptr 0 0), (4, .d (.sl none (intsD r3.2))), (17, .d (.sl none (rowsD (r10.1.getD [])))), (25, iV x38)]) (fun s42 => [.box (colD r3.1)]) h (fun os42 h hks42 => ?_) (fun s42 h => ?_)
    ·refine kL (fun s40 => [(0, .d (.sl none (bysD p0))), (3, .ptr 0 0), (4, .d (.sl none (intsD r3.2))), (17, .d (.sl none (rowsD (r10.1.getD [])))), (25, iV x38), (201, bV s40)]) (fun s40 => [.box (colD r3.1)]) h (fun s40 h => ?_) (fun s40 h => ?_)
     ·refine (ACode_region ?_)
      refine kM 2 rfl ?_
      refine AOps_q 196 _ rfl rfl rfl (QOp_len_sl _ _ _ _ _ _ _ (rowsD_length _) rfl rfl rfl rfl Tryz.underlying34 rfl) ?_
      refine AOps_q 197 _ rfl rfl rfl (QOp_lss _ _ _ _ _ _ _ rfl rfl rfl) ?_
      refine kM 1 rfl ?_
      refine AOps_case 198 _ rfl (fun hb39 => ?_) (fun hb39 => ?_)
      ·have h := iteT hb39 h
       refine kM 1 rfl ?_
       refine AOps_q 200 _ rfl rfl rfl (QOp_lss _ _ _ _ _ _ _ rfl rfl rfl) ?_
       refine kN 1 rfl ?_
       cases h
       exact Weak_keep 0 hm [0, 3, 4, 17, 25, 201] [0] _ _ rfl rfl rfl
      have h := iteF hb39 h
      refine AOps_skip 199 rfl rfl rfl ?_
      refine AOps_skip 200 rfl rfl rfl ?_
      refine kN 1 rfl ?_
      cases h
      exact Weak_keep 0 hm [0, 3, 4, 17, 25, 201] [0] _ _ rfl rfl rfl
     refine kI h rfl (fun h _ => ?_) (fun h _ => ?_)
     ·refine ACode_skip ?_
      cases h
      exact ⟨_, rfl, Weak_keep 0 hm [0, 3, 4, 17, 25] [0] _ _ rfl rfl rfl⟩
     refine ACode_exit ?_
     obtain ⟨rr, hz73, h2⟩ := bindO h
     obtain rfl := Option.some.inj h2
     obtain rfl := Option.some.inj (show some rr = some _ from hks42)
     have h := hz73
     cases h
     exact ⟨_, rfl, Weak_keep 0 hm [0] [] _ _ rfl rfl rfl⟩
    refine kO (fun s54 => [(0, .d (.sl none (bysD p0))), (3, .ptr 0 0), (4, .d (.sl none (intsD r3.2))), (17, .d (.sl none (rowsD (r10.1.getD [])))), (25, iV x38)]) (fun s54 => [.box (colD r3.1)]) h (fun os54 h hks54 => ?_) (fun s54 h => ?_)
    ·refine ACode_block ?_
     obtain ⟨hc43, h⟩ := guardO h
     obtain ⟨r44, hr44, h⟩ := bindO h
     refine ACode_seqJ (fun E' H' => Weak 320 G E' H' [(0, .d (.sl none (bysD p0))), (3, .ptr 0 0), (4, .d (.sl none (intsD r3.2))), (17, .d (.sl none (rowsD (r10.1.getD [])))), (25, iV x38), (26, bV r44.1), (27, iV r44.2)] [.box (colD r3.1)]) ?_ ?_
     ·refine ACode_any mixed ?_
      refine AAny_q 0 205 _ rfl (by kernel_rfl) rfl rfl rfl (QOp_loadN_ptr _ _ _ _ _ _ _ rfl Tryz.isAgg26 Tryz.sizeOf26 rfl rfl (colD_all _) (colD_length _)) ?_
      refine AAny_q 1 206 _ rfl (by kernel_rfl) rfl rfl rfl (QOp_move _ _ rfl rfl) ?_
      refine AAny_q 2 207 _ rfl (by kernel_rfl) rfl rfl rfl (QOp_move _ _ rfl rfl) ?_
      refine AAny_q 3 208 _ rfl (by kernel_rfl) rfl rfl rfl (QOp_move _ _ rfl rfl) ?_
      refine AAny_q 4 209 _ rfl (by kernel_rfl) rfl rfl rfl (QOp_indexAddr_sl _ _ _ _ _ _ _ _ rfl Tryz.underlying34 Tryz.sizeOf27 hc43.1 (by rw [rowsD_length]; exact hc43.2) rfl rfl) ?_
      refine AAny_q 5 210 _ rfl (by kernel_rfl) rfl rfl rfl (QOp_load_pv _ _ _ _ _ rfl Tryz.isAgg27 rfl (rowsD_get _ _ [] (by omega))) ?_
      refine AAny_all [6] (by kernel_rfl) rfl (allc ?_ (fun _ h => nomatch h))
      refine AStep_callN 6 211 _ _ _ _ _ _ _ _ _ rfl rfl rfl rfl rfl rfl rfl rfl Tryz.call19 rfl rfl rfl (impl_IsExtension_ac k r3.1 r3.2 ((r10.1.getD []).getD x38.toNat []) _ hr44) ?_
      rintro _ _ ⟨rfl, rfl⟩
      refine ⟨(fun _ h => nomatch h), (allc (trivial) (allc (trivial) (fun _ h => nomatch h))), AAny_as 211 (v' := .tup [bV r44.1, iV r44.2]) (H' := [.box (colD r3.1)]) rfl rfl ?_⟩
      refine AAny_q 7 204 _ rfl (by kernel_rfl) rfl rfl rfl (QOp_move _ _ rfl rfl) ?_
      refine AAny_q 8 212 _ rfl (by kernel_rfl) rfl rfl rfl (QOp_extract _ _ _ _ rfl rfl rfl) ?_
      refine AAny_q 9 213 _ rfl (by kernel_rfl) rfl rfl rfl (QOp_extract _ _ _ _ rfl rfl rfl) ?_
      refine AAny_q 10 26 _ rfl (by kernel_rfl) rfl rfl rfl (QOp_assign _ _ rfl rfl) ?_
      refine AAny_q 11 27 _ rfl (by kernel_rfl) rfl rfl rfl (QOp_assign _ _ rfl rfl) ?_
      refine AAny_done (by kernel_rfl) ?_
      exact Weak_keep 0 hm [0, 3, 4, 17, 25, 26, 27] [0] _ _ rfl rfl rfl
     intro E' H' hw
     refine ACode_weak hw ?_
     obtain ⟨hc45, h⟩ := guardO h
     obtain ⟨r46, hr46, h⟩ := bindO h
     refine ACode_seq (ACode_reg [(0, .d (.sl none (bysD p0))), (3, .ptr 0 0), (4, .d (.sl none (intsD r3.2))), (17, .d (.sl none (rowsD (r10.1.getD [])))), (25, iV x38), (26, bV r44.1), (27, iV r44.2), (28, .ptr 1 0), (29, iV r46.2)] [.box (colD r3.1), .box (colD r46.1)] ?_ ?_)
     ·refine ACode_anyU mixed ?_
      refine AU_cut 2 #[true, true, true, true, true, true, true, true, true, true, false, false] [(0, .d (.sl none (bysD p0))), (3, .ptr 0 0), (4, .d (.sl none (intsD r3.2))), (17, .d (.sl none (rowsD (r10.1.getD [])))), (25, iV x38), (26, bV r44.1), (27, iV r44.2), (28, .ptr 1 0), (221, .d (.agg (colD r46.1))), (222, iV r46.2)] [.box (colD r3.1), .box (colD Col.zero)] ?_ (fun hS0 => ?_)
      ·refine AU_one 10 (by kernel_rfl) rfl rfl ?_
       refine AOps_store _ _ _ _ _ _ (colD _) _ _ rfl rfl rfl rfl rfl rfl rfl (colD_one _) (by rw [colD_length]; exact Tryz.sizeOf26) (by rw [colD_length, colD_length]; decide) (colD_whole _ _) ?_
       refine AOps_nil ?_
       refine AU_u 11 29 _ rfl (by kernel_rfl) rfl rfl rfl (UOp_assign _ _ rfl rfl) ?_
       refine AU_done (by kernel_rfl) ?_
       exact ⟨rfl, Weak_keep 0 hm [0, 3, 4, 17, 25, 26, 27, 28, 29] [0, 1] _ _ rfl rfl rfl⟩
      refine AU_cut 6 #[true, true, true, true, true, false, false, false, false, true, false, false] [(0, .d (.sl none (bysD p0))), (3, .ptr 0 0), (4, .d (.sl none (intsD r3.2))), (17, .d (.sl none (rowsD (r10.1.getD [])))), (25, iV x38), (26, bV r44.1), (27, iV r44.2), (28, .ptr 1 0), (215, .d (.agg (colD r3.1))), (219, .d (.sl none (intsD ((r10.1.getD []).getD x38.toNat []))))] [.box (colD r3.1), .box (colD Col.zero)] ?_ (fun hS1 => ?_)
      ·refine AU_one 5 (by kernel_rfl) rfl rfl ?_
       refine kC [] 220 (.tup [.d (.agg (colD r46.1)), iV r46.2]) [.box (colD r3.1), .box (colD Col.zero)] rfl Tryz.call20 rfl rfl (impl_PutPoint_ac k r3.1 ((r10.1.getD []).getD x38.toNat []) _ hr46) rfl ?_
       refine AOps_nil ?_
       refine AU_u 6 214 _ rfl (by kernel_rfl) rfl rfl rfl (UOp_move _ _ rfl rfl) ?_
       refine AU_u 7 221 _ rfl (by kernel_rfl) rfl rfl rfl (UOp_extract _ _ _ _ rfl rfl rfl) ?_
       refine AU_u 8 222 _ rfl (by kernel_rfl) rfl rfl rfl (UOp_extract _ _ _ _ rfl rfl rfl) ?_
       exact AU_to (by kernel_rfl) hS0 (Weak_keep 0 hm [0, 3, 4, 17, 25, 26, 27, 28, 221, 222] [0, 1] _ _ rfl rfl rfl)
      refine AU_cut 7 #[true, true, true, true, true, false, false, false, false, false, false, false] [(0, .d (.sl none (bysD p0))), (3, .ptr 0 0), (4, .d (.sl none (intsD r3.2))), (17, .d (.sl none (rowsD (r10.1.getD [])))), (25, iV x38), (26, bV r44.1), (27, iV r44.2), (215, .d (.agg (colD r3.1))), (219, .d (.sl none (intsD ((r10.1.getD []).getD x38.toNat []))))] [.box (colD r3.1)] ?_ (fun hS2 => ?_)
      ·refine AU_all [5, 9] (by kernel_rfl) rfl (allc ?_ (allc ?_ (fun _ h => nomatch h)))
       ·refine US_of 5 rfl rfl ?_
        refine kC [] 220 (.tup [.d (.agg (colD r46.1)), iV r46.2]) [.box (colD r3.1)] rfl Tryz.call20 rfl rfl (impl_PutPoint_ac k r3.1 ((r10.1.getD []).getD x38.toNat []) _ hr46) rfl ?_
        refine AOps_nil ?_
        refine AU_u 6 214 _ rfl (by kernel_rfl) rfl rfl rfl (UOp_move _ _ rfl rfl) ?_
        refine AU_u 7 221 _ rfl (by kernel_rfl) rfl rfl rfl (UOp_extract _ _ _ _ rfl rfl rfl) ?_
        refine AU_u 8 222 _ rfl (by kernel_rfl) rfl rfl rfl (UOp_extract _ _ _ _ rfl rfl rfl) ?_
        refine AU_one 9 (by kernel_rfl) rfl rfl ?_
        refine AOps_alloc 28 _ _ (colD Col.zero) (zero_of Tryz.typeInfo26 rfl) (by rfl) rfl rfl rfl rfl ?_
        refine AOps_nil ?_
        exact AU_to (by kernel_rfl) hS0 (Weak_keep 0 hm [0, 3, 4, 17, 25, 26, 27, 28, 221, 222] [0, 1] _ _ rfl rfl rfl)
       refine US_of 9 rfl rfl ?_
       refine AOps_alloc 28 _ _ (colD Col.zero) (zero_of Tryz.typeInfo26 rfl) (by rfl) rfl rfl rfl rfl ?_
       refine AOps_nil ?_
       exact AU_to (by kernel_rfl) hS1 (Weak_keep 0 hm [0, 3, 4, 17, 25, 26, 27, 28, 215, 219] [0, 1] _ _ rfl rfl rfl)
      refine AU_cut 7 #[true, true, true, true, false, false, false, false, false, true, false, false] [(0, .d (.sl none (bysD p0))), (3, .ptr 0 0), (4, .d (.sl none (intsD r3.2))), (17, .d (.sl none (rowsD (r10.1.getD [])))), (25, iV x38), (26, bV r44.1), (27, iV r44.2), (28, .ptr 1 0), (215, .d (.agg (colD r3.1))), (218, .d (.pv (rowsD (r10.1.getD [])) x38.toNat))] [.box (colD r3.1), .box (colD Col.zero)] ?_ (fun hS3 => ?_)
      ·refine AU_one 4 (by kernel_rfl) rfl rfl ?_
       refine AOps_q 219 _ rfl rfl rfl (QOp_load_pv _ _ _ _ _ rfl Tryz.isAgg27 rfl (rowsD_get _ _ [] (by omega))) ?_
       refine AOps_nil ?_
       exact AU_to (by kernel_rfl) hS1 (Weak_keep 0 hm [0, 3, 4, 17, 25, 26, 27, 28, 215, 219] [0, 1] _ _ rfl rfl rfl)
      refine AU_cut 7 #[false, true, true, true, true, false, false, false, false, true, false, false] [(0, .d (.sl none (bysD p0))), (3, .ptr 0 0), (4, .d (.sl none (intsD r3.2))), (17, .d (.sl none (rowsD (r10.1.getD [])))), (25, iV x38), (26, bV r44.1), (27, iV r44.2), (28, .ptr 1 0), (219, .d (.sl none (intsD ((r10.1.getD []).getD x38.toNat []))))] [.box (colD r3.1), .box (colD Col.zero)] ?_ (fun hS4 => ?_)
      ·refine AU_one 0 (by kernel_rfl) rfl rfl ?_
       refine AOps_q 215 _ rfl rfl rfl (QOp_loadN_ptr _ _ _ _ _ _ _ rfl Tryz.isAgg26 Tryz.sizeOf26 rfl rfl (colD_all _) (colD_length _)) ?_
       refine AOps_nil ?_
       exact AU_to (by kernel_rfl) hS1 (Weak_keep 0 hm [0, 3, 4, 17, 25, 26, 27, 28, 215, 219] [0, 1] _ _ rfl rfl rfl)
      refine AU_u 1 216 _ rfl (by kernel_rfl) rfl rfl rfl (UOp_move _ _ rfl rfl) ?_
      refine AU_u 2 217 _ rfl (by kernel_rfl) rfl rfl rfl (UOp_move _ _ rfl rfl) ?_
      refine AU_u 3 218 _ rfl (by kernel_rfl) rfl rfl rfl (UOp_indexAddr_sl _ _ _ _ _ _ _ _ rfl Tryz.underlying34 Tryz.sizeOf27 hc45.1 (by rw [rowsD_length]; exact hc45.2) rfl rfl) ?_
      refine AU_all [0, 4, 9] (by kernel_rfl) rfl (allc ?_ (allc ?_ (allc ?_ (fun _ h => nomatch h))))
      ·refine US_of 0 rfl rfl ?_
       refine AOps_q 215 _ rfl rfl rfl (QOp_loadN_ptr _ _ _ _ _ _ _ rfl Tryz.isAgg26 Tryz.sizeOf26 rfl rfl (colD_all _) (colD_length _)) ?_
       refine AOps_nil ?_
       refine AU_all [4, 9] (by kernel_rfl) rfl (allc ?_ (allc ?_ (fun _ h => nomatch h)))
       ·refine US_of 4 rfl rfl ?_
        refine AOps_q 219 _ rfl rfl rfl (QOp_load_pv _ _ _ _ _ rfl Tryz.isAgg27 rfl (rowsD_get _ _ [] (by omega))) ?_
        refine AOps_nil ?_
        exact AU_to (by kernel_rfl) hS2 (Weak_keep 0 hm [0, 3, 4, 17, 25, 26, 27, 215, 219] [0] _ _ rfl rfl rfl)
       refine US_of 9 rfl rfl ?_
       refine AOps_alloc 28 _ _ (colD Col.zero) (zero_of Tryz.typeInfo26 rfl) (by rfl) rfl rfl rfl rfl ?_
       refine AOps_nil ?_
       exact AU_to (by kernel_rfl) hS3 (Weak_keep 0 hm [0, 3, 4, 17, 25, 26, 27, 28, 215, 218] [0, 1] _ _ rfl rfl rfl)
      ·refine US_of 4 rfl rfl ?_
       refine AOps_q 219 _ rfl rfl rfl (QOp_load_pv _ _ _ _ _ rfl Tryz.isAgg27 rfl (rowsD_get _ _ [] (by omega))) ?_
       refine AOps_nil ?_
       refine AU_all [0, 9] (by kernel_rfl) rfl (allc ?_ (allc ?_ (fun _ h => nomatch h)))
       ·refine US_of 0 rfl rfl ?_
        refine AOps_q 215 _ rfl rfl rfl (QOp_loadN_ptr _ _ _ _ _ _ _ rfl Tryz.isAgg26 Tryz.sizeOf26 rfl rfl (colD_all _) (colD_length _)) ?_
        refine AOps_nil ?_
        exact AU_to (by kernel_rfl) hS2 (Weak_keep 0 hm [0, 3, 4, 17, 25, 26, 27, 215, 219] [0] _ _ rfl rfl rfl)
       refine US_of 9 rfl rfl ?_
       refine AOps_alloc 28 _ _ (colD Col.zero) (zero_of Tryz.typeInfo26 rfl) (by rfl) rfl rfl rfl rfl ?_
       refine AOps_nil ?_
       exact AU_to (by kernel_rfl) hS4 (Weak_keep 0 hm [0, 3, 4, 17, 25, 26, 27, 28, 219] [0, 1] _ _ rfl rfl rfl)
      refine US_of 9 rfl rfl ?_
      refine AOps_alloc 28 _ _ (colD Col.zero) (zero_of Tryz.typeInfo26 rfl) (by rfl) rfl rfl rfl rfl ?_
      refine AOps_nil ?_
      refine AU_all [0, 4] (by kernel_rfl) rfl (allc ?_ (allc ?_ (fun _ h => nomatch h)))
      ·refine US_of 0 rfl rfl ?_
       refine AOps_q 215 _ rfl rfl rfl (QOp_loadN_ptr _ _ _ _ _ _ _ rfl Tryz.isAgg26 Tryz.sizeOf26 rfl rfl (colD_all _) (colD_length _)) ?_
       refine AOps_nil ?_
       exact AU_to (by kernel_rfl) hS3 (Weak_keep 0 hm [0, 3, 4, 17, 25, 26, 27, 28, 215, 218] [0, 1] _ _ rfl rfl rfl)
      refine US_of 4 rfl rfl ?_
      refine AOps_q 219 _ rfl rfl rfl (QOp_load_pv _ _ _ _ _ rfl Tryz.isAgg27 rfl (rowsD_get _ _ [] (by omega))) ?_
      refine AOps_nil ?_
      exact AU_to (by kernel_rfl) hS4 (Weak_keep 0 hm [0, 3, 4, 17, 25, 26, 27, 28, 219] [0, 1] _ _ rfl rfl rfl)
     refine kR ?_
     refine AOps_q 224 _ rfl rfl rfl (QOp_loadN_ptr _ _ _ _ _ _ _ rfl Tryz.isAgg26 Tryz.sizeOf26 rfl rfl (colD_all _) (colD_length _)) ?_
     refine kM 1 rfl ?_
     obtain ⟨r47, hr47, h⟩ := bindO h
     refine kC [] 226 (.tup [bV r47.1, iV r47.2]) [.box (colD r3.1), .box (colD r46.1)] rfl Tryz.call21 rfl rfl (impl_AvoidsSizes_ac k r46.1 r3.2 _ hr47) rfl ?_
     refine kN 5 rfl ?_
     refine kL (fun s52 => [(0, .d (.sl none (bysD p0))), (3, .ptr 0 0), (4, .d (.sl none (intsD r3.2))), (17, .d (.sl none (rowsD (r10.1.getD [])))), (25, iV x38), (246, bV s52)]) (fun s52 => [.box (colD r3.1)]) h (fun s52 h => ?_) (fun s52 h => ?_)
     ·refine (ACode_region ?_)
      refine kM 1 rfl ?_
      refine AOps_q 230 _ rfl rfl rfl (QOp_neq _ _ _ _ _ _ _ rfl rfl rfl) ?_
      refine kM 1 rfl ?_
      refine AOps_case 231 _ rfl (fun hb48 => ?_) (fun hb48 => ?_)
      ·have h := iteT hb48 h
       refine AOps_skip 232 rfl rfl rfl ?_
       refine AOps_skip 233 rfl rfl rfl ?_
       refine kM 2 rfl ?_
       refine AOps_skip 236 rfl rfl rfl ?_
       refine AOps_skip 237 rfl rfl rfl ?_
       refine kM 2 rfl ?_
       refine AOps_skip 240 rfl rfl rfl ?_
       refine AOps_skip 241 rfl rfl rfl ?_
       refine kM 2 rfl ?_
       refine AOps_skip 244 rfl rfl rfl ?_
       refine AOps_skip 245 rfl rfl rfl ?_
       refine kN 1 rfl ?_
       cases h
       exact Weak_keep 0 hm [0, 3, 4, 17, 25, 246] [0] _ _ rfl rfl rfl
      have h := iteF hb48 h
      refine kM 1 rfl ?_
      refine AOps_q 233 _ rfl rfl rfl (QOp_neq _ _ _ _ _ _ _ rfl rfl rfl) ?_
      refine kM 2 rfl ?_
      refine AOps_case 235 _ rfl (fun hb49 => ?_) (fun hb49 => ?_)
      ·have h := iteT hb49 h
       refine AOps_skip 236 rfl rfl rfl ?_
       refine AOps_skip 237 rfl rfl rfl ?_
       refine kM 2 rfl ?_
       refine AOps_skip 240 rfl rfl rfl ?_
       refine AOps_skip 241 rfl rfl rfl ?_
       refine kM 2 rfl ?_
       refine AOps_skip 244 rfl rfl rfl ?_
       refine AOps_skip 245 rfl rfl rfl ?_
       refine kN 1 rfl ?_
       cases h
       exact Weak_keep 0 hm [0, 3, 4, 17, 25, 246] [0] _ _ rfl rfl rfl
      have h := iteF hb49 h
      refine kM 1 rfl ?_
      refine AOps_q 237 _ rfl rfl rfl (QOp_neq _ _ _ _ _ _ _ rfl rfl rfl) ?_
      refine kM 2 rfl ?_
      refine AOps_case 239 _ rfl (fun hb50 => ?_) (fun hb50 => ?_)
      ·have h := iteT hb50 h
       refine AOps_skip 240 rfl rfl rfl ?_
       refine AOps_skip 241 rfl rfl rfl ?_
       refine kM 2 rfl ?_
       refine AOps_skip 244 rfl rfl rfl ?_
       refine AOps_skip 245 rfl rfl rfl ?_
       refine kN 1 rfl ?_
       cases h
       exact Weak_keep 0 hm [0, 3, 4, 17, 25, 246] [0] _ _ rfl rfl rfl
      have h := iteF hb50 h
      refine kM 1 rfl ?_
      refine AOps_q 241 _ rfl rfl rfl (QOp_not _ _ _ rfl rfl) ?_
      refine kM 2 rfl ?_
      refine AOps_case 243 _ rfl (fun hb51 => ?_) (fun hb51 => ?_)
      ·have h := iteT hb51 h
       refine AOps_skip 244 rfl rfl rfl ?_
       refine AOps_skip 245 rfl rfl rfl ?_
       refine kN 1 rfl ?_
       cases h
       exact Weak_keep 0 hm [0, 3, 4, 17, 25, 246] [0] _ _ rfl rfl rfl
      have h := iteF hb51 h
      refine kM 1 rfl ?_
      refine AOps_q 245 _ rfl rfl rfl (QOp_not _ _ _ rfl rfl) ?_
      refine kN 1 rfl ?_
      cases h
      exact Weak_keep 0 hm [0, 3, 4, 17, 25, 246] [0] _ _ rfl rfl rfl
     refine kI h rfl (fun h _ => ?_) (fun h _ => ?_)
     ·refine kR ?_
      refine kN 1 rfl ?_
      refine ACode_ret ?_
      obtain ⟨rr, hz74, h2⟩ := bindO h
      obtain rfl := Option.some.inj h2
      obtain rfl := Option.some.inj (show some rr = some _ from hks54)
      have h := hz74
      cases h
      have h := hks55
      cases h
      exact ⟨_, _, fun r a w h => ⟨r, h⟩, _, _, [], _, (.cons (ResV_tmp _ _ rfl) .nil), rfl, rfl, rfl, rfl, rfl⟩
     refine ACode_skip ?_
     cases h
     exact ⟨_, rfl, Weak_keep 0 hm [0, 3, 4, 17, 25] [0] _ _ rfl rfl rfl⟩
    refine (ACode_region ?_)
    refine kM 1 rfl ?_
    refine AOps_q 203 _ rfl rfl rfl (QOp_add _ _ _ _ _ _ _ rfl rfl rfl) ?_
    refine kN 1 rfl ?_
    exact ⟨k0, _, _, Nat.lt_succ_self _, Weak_keep 0 hm [0, 3, 4, 17, 25] [0] _ _ rfl rfl rfl, _, rfl, rfl, h⟩
  refine ACode_skip ?_
  cases h
  exact ⟨_, rfl, Weak_keep 0 hm [0] [] _ _ rfl rfl rfl⟩
 refine kR ?_
 refine kM 1 rfl ?_
 obtain ⟨r56, hr56, h⟩ := bindO h
 refine kC [] 249 (.tup [.d (.agg (colD r56.1)), .d (.sl none (intsD r56.2.1)), .vec 0 0]) [.vec 0 (intsD r56.2.2)] rfl Tryz.call22 rfl rfl (spec_DrawIsExtension_ac k p0 _ hr56) rfl ?_
 refine kM 4 rfl ?_
 refine AOps_alloc 32 _ _ (colD Col.zero) (zero_of Tryz.typeInfo26 rfl) (by rfl) rfl rfl rfl rfl ?_
 refine AOps_store _ _ _ _ _ _ (colD _) _ _ rfl rfl rfl rfl rfl rfl rfl (colD_one _) (by rw [colD_length]; exact Tryz.sizeOf26) (by rw [colD_length, colD_length]; decide) (colD_whole _ _) ?_
 refine kN 2 rfl ?_
 refine kR ?_
 refine AOps_q 254 _ rfl rfl rfl (QOp_loadN_ptr _ _ _ _ _ _ _ rfl Tryz.isAgg26 Tryz.sizeOf26 rfl rfl (colD_all _) (colD_length _)) ?_
 refine kM 2 rfl ?_
 obtain ⟨r57, hr57, h⟩ := bindO h
 refine AOps_callL [] 257 _ _ _ _ _ _ _ _ _ _ rfl rfl rfl rfl rfl rfl rfl Tryz.call19 rfl (nodupB_sound _ rfl) rfl rfl rfl (impl_IsExtension_ac k r56.1 r56.2.1 r56.2.2 _ hr57) ?_
 rintro _ _ ⟨rfl, rfl⟩
 refine ⟨(fun _ h => nomatch h), (allc (flat_s _) (allc (flat_s _) (fun _ h => nomatch h))), AOps_as 257 (v' := .tup [bV r57.1, iV r57.2]) (H' := [.vec 0 (intsD r56.2.2), .box (colD r56.1)]) rfl rfl ?_⟩
 refine kN 5 rfl ?_
 refine kR ?_
 refine AOps_q 261 _ rfl rfl rfl (QOp_loadN_ptr _ _ _ _ _ _ _ rfl Tryz.isAgg26 Tryz.sizeOf26 rfl rfl (colD_all _) (colD_length _)) ?_
 refine kM 2 rfl ?_
 obtain ⟨r58, hr58, h⟩ := bindO h
 refine AOps_callL [] 264 _ _ _ _ _ _ _ _ _ _ rfl rfl rfl rfl rfl rfl rfl Tryz.call23 rfl (nodupB_sound _ rfl) rfl rfl rfl (spec_IsExtension_ac k r56.1 r56.2.1 r56.2.2 _ hr58) ?_
 rintro _ _ ⟨rfl, rfl⟩
 refine ⟨(fun _ h => nomatch h), (allc (flat_s _) (allc (flat_s _) (fun _ h => nomatch h))), AOps_as 264 (v' := .tup [bV r58.1, iV r58.2]) (H' := [.vec 0 (intsD r56.2.2), .box (colD r56.1)]) rfl rfl ?_⟩
 refine kN 5 rfl ?_
 refine kR ?_
 refine kM 1 rfl ?_
 obtain ⟨r59, hr59, h⟩ := bindO h
 refine kC [] 269 (.tup [.d (.agg (colD r59.1)), .vec 2 0]) [.vec 0 (intsD r56.2.2), .box (colD r56.1), .vec 0 (intsD r59.2)] rfl Tryz.call24 rfl rfl (spec_DrawLongestBeginning_ac k p0 _ hr59) rfl ?_
 refine kM 3 rfl ?_
 refine AOps_alloc 39 _ _ (colD Col.zero) (zero_of Tryz.typeInfo26 rfl) (by rfl) rfl rfl rfl rfl ?_
 refine AOps_store _ _ _ _ _ _ (colD _) _ _ rfl rfl rfl rfl rfl rfl rfl (colD_one _) (by rw [colD_length]; exact Tryz.sizeOf26) (by rw [colD_length, colD_length]; decide) (colD_whole _ _) ?_
 refine kN 1 rfl ?_
 refine kR ?_
 refine AOps_q 273 _ rfl rfl rfl (QOp_loadN_ptr _ _ _ _ _ _ _ rfl Tryz.isAgg26 Tryz.sizeOf26 rfl rfl (colD_all _) (colD_length _)) ?_
 refine kM 1 rfl ?_
 obtain ⟨r60, hr60, h⟩ := bindO h
 refine AOps_callL [] 275 _ _ _ _ _ _ _ _ _ _ rfl rfl rfl rfl rfl rfl rfl Tryz.call25 rfl (nodupB_sound _ rfl) rfl rfl rfl (impl_LongestBeginning_ac k r59.1 r59.2 _ hr60) ?_
 rintro _ _ ⟨rfl, rfl⟩
 refine ⟨(fun _ h => nomatch h), (allc (flat_s _) (allc (flat_s _) (fun _ h => nomatch h))), AOps_as 275 (v' := .tup [iV r60.1, iV r60.2]) (H' := [.vec 0 (intsD r56.2.2), .box (colD r56.1), .vec 0 (intsD r59.2), .box (colD r59.1)]) rfl rfl ?_⟩
 refine kN 5 rfl ?_
 refine kR ?_
 refine AOps_q 279 _ rfl rfl rfl (QOp_loadN_ptr _ _ _ _ _ _ _ rfl Tryz.isAgg26 Tryz.sizeOf26 rfl rfl (colD_all _) (colD_length _)) ?_
 refine kM 1 rfl ?_
 obtain ⟨r61, hr61, h⟩ := bindO h
 refine AOps_callL [] 281 _ _ _ _ _ _ _ _ _ _ rfl rfl rfl rfl rfl rfl rfl Tryz.call26 rfl (nodupB_sound _ rfl) rfl rfl rfl (spec_LongestBeginning_ac k r59.1 r59.2 _ hr61) ?_
 rintro _ _ ⟨rfl, rfl⟩
 refine ⟨(fun _ h => nomatch h), (allc (flat_s _) (allc (flat_s _) (fun _ h => nomatch h))), AOps_as 281 (v' := .tup [iV r61.1, iV r61.2]) (H' := [.vec 0 (intsD r56.2.2), .box (colD r56.1), .vec 0 (intsD r59.2), .box (colD r59.1)]) rfl rfl ?_⟩
 refine kN 5 rfl ?_
 refine kO (fun s67 => [(39, .ptr 0 0), (40, .vec 1 0), (41, iV r60.1), (42, iV r60.2)]) (fun s67 => [.box (colD r59.1), .vec 0 (intsD r59.2)]) h (fun os67 h hks67 => ?_) (fun s67 h => ?_)
 ·refine kL (fun s65 => [(39, .ptr 0 0), (40, .vec 1 0), (41, iV r60.1), (42, iV r60.2), (301, bV s65)]) (fun s65 => [.box (colD r59.1), .vec 0 (intsD r59.2)]) h (fun s65 h => ?_) (fun s65 h => ?_)
  ·refine (ACode_region ?_)
   refine kM 2 rfl ?_
   refine AOps_q 286 _ rfl rfl rfl (QOp_neq _ _ _ _ _ _ _ rfl rfl rfl) ?_
   refine kM 1 rfl ?_
   refine AOps_case 287 _ rfl (fun hb62 => ?_) (fun hb62 => ?_)
   ·have h := iteT hb62 h
    refine AOps_skip 288 rfl rfl rfl ?_
    refine AOps_skip 289 rfl rfl rfl ?_
    refine AOps_skip 290 rfl rfl rfl ?_
    refine kM 2 rfl ?_
    refine AOps_skip 293 rfl rfl rfl ?_
    refine AOps_skip 294 rfl rfl rfl ?_
    refine AOps_skip 295 rfl rfl rfl ?_
    refine kM 2 rfl ?_
    refine AOps_skip 298 rfl rfl rfl ?_
    refine AOps_skip 299 rfl rfl rfl ?_
    refine AOps_skip 300 rfl rfl rfl ?_
    refine kN 1 rfl ?_
    cases h
    exact Weak_keep 0 hm [39, 40, 41, 42, 301] [3, 2] _ _ rfl rfl rfl
   have h := iteF hb62 h
   refine kM 2 rfl ?_
   refine AOps_q 290 _ rfl rfl rfl (QOp_bneq _ _ _ _ _ _ rfl rfl rfl Tryz.underlying4) ?_
   refine kM 2 rfl ?_
   refine AOps_case 292 _ rfl (fun hb63 => ?_) (fun hb63 => ?_)
   ·have h := iteT hb63 h
    refine AOps_skip 293 rfl rfl rfl ?_
    refine AOps_skip 294 rfl rfl rfl ?_
    refine AOps_skip 295 rfl rfl rfl ?_
    refine kM 2 rfl ?_
    refine AOps_skip 298 rfl rfl rfl ?_
    refine AOps_skip 299 rfl rfl rfl ?_
    refine AOps_skip 300 rfl rfl rfl ?_
    refine kN 1 rfl ?_
    cases h
    exact Weak_keep 0 hm [39, 40, 41, 42, 301] [3, 2] _ _ rfl rfl rfl
   have h := iteF hb63 h
   refine kM 2 rfl ?_
   refine AOps_q 295 _ rfl rfl rfl (QOp_neq _ _ _ _ _ _ _ rfl rfl rfl) ?_
   refine kM 2 rfl ?_
   refine AOps_case 297 _ rfl (fun hb64 => ?_) (fun hb64 => ?_)
   ·have h := iteT hb64 h
    refine AOps_skip 298 rfl rfl rfl ?_
    refine AOps_skip 299 rfl rfl rfl ?_
    refine AOps_skip 300 rfl rfl rfl ?_
    refine kN 1 rfl ?_
    cases h
    exact Weak_keep 0 hm [39, 40, 41, 42, 301] [3, 2] _ _ rfl rfl rfl
   have h := iteF hb64 h
   refine kM 2 rfl ?_
   refine AOps_q 300 _ rfl rfl rfl (QOp_neq _ _ _ _ _ _ _ rfl rfl rfl) ?_
   refine kN 1 rfl ?_
   cases h
   exact Weak_keep 0 hm [39, 40, 41, 42, 301] [3, 2] _ _ rfl rfl rfl
  refine kI h rfl (fun h _ => ?_) (fun h _ => ?_)
  ·refine kR ?_
   refine kN 1 rfl ?_
   refine ACode_ret ?_
   cases h
   have h := hks67
   cases h
   exact ⟨_, _, fun r a w h => ⟨r, h⟩, _, _, [], _, (.cons (ResV_tmp _ _ rfl) .nil), rfl, rfl, rfl, rfl, rfl⟩
  refine ACode_skip ?_
  cases h
  exact ⟨_, rfl, Weak_keep 0 hm [39, 40, 41, 42] [0, 1] _ _ rfl rfl rfl⟩
 refine ACode_seq ?_
 refine kR ?_
 refine kM 1 rfl ?_
 refine AOps_q 303 _ rfl rfl rfl (QOp_eql _ _ _ _ _ _ _ rfl rfl rfl) ?_
 refine AOps_nil ?_
 refine kI h rfl (fun h _ => ?_) (fun h _ => ?_)
 ·refine kR ?_
  refine AOps_q 305 _ rfl rfl rfl (QOp_loadN_ptr _ _ _ _ _ _ _ rfl Tryz.isAgg26 Tryz.sizeOf26 rfl rfl (colD_all _) (colD_length _)) ?_
  refine kM 1 rfl ?_
  obtain ⟨r69, hr69, h⟩ := bindO h
  refine AOps_callL [] 307 _ _ _ _ _ _ _ _ _ _ rfl rfl rfl rfl rfl rfl rfl Tryz.call21 rfl (nodupB_sound _ rfl) rfl rfl rfl (impl_AvoidsSizes_ac k r59.1 r59.2 _ hr69) ?_
  rintro _ _ ⟨rfl, rfl⟩
  refine ⟨(fun _ h => nomatch h), (allc (flat_s _) (allc (flat_s _) (fun _ h => nomatch h))), AOps_as 307 (v' := .tup [bV r69.1, iV r69.2]) (H' := [.box (colD r59.1), .vec 0 (intsD r59.2)]) rfl rfl ?_⟩
  refine kN 5 rfl ?_
  refine kL (fun s71 => [(2, bV s71)]) (fun s71 => []) h (fun s71 h => ?_) (fun s71 h => ?_)
  ·refine (ACode_region ?_)
   refine kM 1 rfl ?_
   refine AOps_q 311 _ rfl rfl rfl (QOp_eql _ _ _ _ _ _ _ rfl rfl rfl) ?_
   refine kM 1 rfl ?_
   refine AOps_case 312 _ rfl (fun hb70 => ?_) (fun hb70 => ?_)
   ·have h := iteT hb70 h
    refine kM 2 rfl ?_
    refine AOps_q 315 _ rfl rfl rfl (QOp_fieldAddr_ptr _ _ _ _ _ _ 0 _ _ rfl Tryz.underlying26 rfl _ Tryz.sizeOf2 rfl rfl rfl rfl) ?_
    refine AOps_q 316 _ rfl rfl rfl (QOp_load_ptr _ _ _ _ _ _ rfl Tryz.isAgg2 rfl rfl rfl) ?_
    refine AOps_q 317 _ rfl rfl rfl (QOp_eql _ _ _ _ _ _ _ rfl rfl rfl) ?_
    refine AOps_q 318 _ rfl rfl rfl (QOp_beq _ _ _ _ _ _ rfl rfl rfl Tryz.underlying4) ?_
    refine kN 2 rfl ?_
    cases h
    exact Weak_keep 0 hm [2] [] _ _ rfl rfl rfl
   have h := iteF hb70 h
   refine AOps_skip 313 rfl rfl rfl ?_
   refine AOps_skip 314 rfl rfl rfl ?_
   refine AOps_skip 315 rfl rfl rfl ?_
   refine AOps_skip 316 rfl rfl rfl ?_
   refine AOps_skip 317 rfl rfl rfl ?_
   refine AOps_skip 318 rfl rfl rfl ?_
   refine kN 2 rfl ?_
   cases h
   exact Weak_keep 0 hm [2] [] _ _ rfl rfl rfl
  refine ACode_ret ?_
  cases h
  exact ⟨_, _, fun r a w h => ⟨r, h⟩, _, _, [], _, (.cons (ResV_tmp _ _ rfl) .nil), rfl, rfl, rfl, rfl, rfl⟩
 refine ACode_skip ?_
 refine kR ?_
 refine kN 1 rfl ?_
 refine ACode_ret ?_
 cases h
 exact ⟨_, _, fun r a w h => ⟨r, h⟩, _, _, [], _, (.cons (ResV_tmp _ _ rfl) .nil), rfl, rfl, rfl, rfl, rfl⟩

end Go.Proofs.YtjcgphgipleccaaGreat
