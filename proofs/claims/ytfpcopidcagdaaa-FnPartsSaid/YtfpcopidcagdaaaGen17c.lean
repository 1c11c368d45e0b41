/- Plain functions of the program and that the program computes them: printed by the own tool gen.py. No conditions. -/
import Derived.Test.YtfpcopidcagdaaaGen17b
set_option linter.unusedVariables false
set_option linter.unusedSimpArgs false
namespace Go.Proofs.Ytfpcopidcagdaaa
open Go Go.RowKit Ab

-- loop.example/g01362/spec.l04Draw
def spec_l04Draw (k : Nat) (p0 : Src) : Option (Col × Int × Src) :=
  (spec_l01Next p0 9).bind fun r1 => (spec_l01Pick r1.2 ([1, 2, 2, 2, 3, 4])).bind fun r2 => (spec_l01DrawOf k r2.2 (w64 (1 + r1.1)) r2.1).bind fun r3 => ((spec_l01Next r3.2 3).bind fun r4 => (if decide (r4.1 = 0) then (spec_l01Spoil k r4.2).bind fun r6 => some (r6.2, r6.1) else some (r4.2, r3.1)) : Option (Src × Col)).bind fun s7 => (spec_l01Near s7.1 (if 3 < (if w64 (s7.2.k - 1) < 0 then 0 else w64 (s7.2.k - 1)) then 3 else (if w64 (s7.2.k - 1) < 0 then 0 else w64 (s7.2.k - 1)))).bind fun r8 => some (s7.2, r8.1, r8.2)
set_option maxRecDepth 100000 in
theorem spec_l04Draw_ac (k : Nat) (p0 : Src) (r : Col × Int × Src) (h : spec_l04Draw k p0 = some r) : AC Try.prog 99 [.ptr 0 0] [.box (srcD p0)] (fun res H' => res = [.d (.agg (colD r.1)), iV r.2.1] ∧ H' = [.box (srcD r.2.2)]) := by
  refine AC_of_body true Try.func99 rfl Try.ntmps99 (rvs := [.cell 2 26, .tmp 3]) rfl rfl (fun G hG => ?_)
  have hm : G.H.length = 1 := by rw [hG]; rfl
  have hz : zeroG G.H = true := by rw [hG]; rfl
  unfold spec_l04Draw at h
  refine ACode_seq (ACode_region ?_)
  refine AOps_alloc 2 _ _ (colD Col.zero) (zero_of Try.typeInfo26 rfl) (by rfl) rfl rfl rfl rfl ?_
  refine AOps_q 3 _ rfl rfl rfl (QOp_assign _ _ rfl rfl) ?_
  refine AOps_nil ?_
  refine ACode_seq (ACode_region ?_)
  refine AOps_q 5 _ rfl rfl rfl (QOp_move _ _ rfl rfl) ?_
  refine AOps_q 6 _ rfl rfl rfl (QOp_move _ _ rfl rfl) ?_
  obtain ⟨r1, hr1, h⟩ := bindO h
  refine AOps_call [0] 7 _ _ _ _ _ _ _ _ _ _ rfl rfl rfl rfl rfl rfl rfl Try.call59 rfl (nodupB_sound _ rfl) rfl rfl rfl (spec_l01Next_ac p0 9 _ hr1) ?_
  rintro _ _ ⟨rfl, rfl⟩
  refine ⟨(allc (fun _ _ => trivial) (fun _ h => nomatch h)), (allc (trivial) (fun _ h => nomatch h)), AOps_as 7 (v' := iV r1.1) (H' := [.box (srcD r1.2), .box (colD Col.zero)]) rfl rfl ?_⟩
  refine AOps_q 8 _ rfl rfl rfl (QOp_add _ _ _ _ _ _ _ rfl rfl rfl) ?_
  refine AOps_q 9 _ rfl rfl rfl (QOp_move _ _ rfl rfl) ?_
  refine AOps_buildSlice 10 _ _ _ [_, _, _, _, _, _] (intsD ([1, 2, 2, 2, 3, 4])) _ rfl rfl rfl rfl rfl (by decide) Try.underlying29 Try.sizeOf2 (zero_of Try.typeInfo2 rfl) rfl rfl (intsD_one _) ?_
  refine AOps_freezeL [10] 2 0 _ (allc (rfl) (fun _ h => nomatch h)) rfl ?_
  obtain ⟨r2, hr2, h⟩ := bindO h
  refine AOps_call [0] 11 _ _ _ _ _ _ _ _ _ _ rfl rfl rfl rfl rfl rfl rfl Try.call60 rfl (nodupB_sound _ rfl) rfl rfl rfl (spec_l01Pick_ac r1.2 ([1, 2, 2, 2, 3, 4]) _ hr2) ?_
  rintro _ _ ⟨rfl, rfl⟩
  refine ⟨(allc (fun _ _ => trivial) (fun _ h => nomatch h)), (allc (trivial) (fun _ h => nomatch h)), AOps_as 11 (v' := iV r2.1) (H' := [.box (srcD r2.2), .box (colD Col.zero), .gone]) rfl rfl ?_⟩
  obtain ⟨r3, hr3, h⟩ := bindO h
  refine AOps_call [0] 12 _ _ _ _ _ _ _ _ _ _ rfl rfl rfl rfl rfl rfl rfl Try.call98 rfl (nodupB_sound _ rfl) rfl rfl rfl (spec_l01DrawOf_ac k r2.2 (w64 (1 + r1.1)) r2.1 _ hr3) ?_
  rintro _ _ ⟨rfl, rfl⟩
  refine ⟨(allc (fun _ _ => trivial) (fun _ h => nomatch h)), (allc (trivial) (fun _ h => nomatch h)), AOps_as 12 (v' := .d (.agg (colD r3.1))) (H' := [.box (srcD r3.2), .box (colD Col.zero), .gone]) rfl rfl ?_⟩
  refine AOps_alloc 4 _ _ (colD Col.zero) (zero_of Try.typeInfo26 rfl) (by rfl) rfl rfl rfl rfl ?_
  refine AOps_store _ _ _ _ _ _ (colD _) _ _ rfl rfl rfl rfl rfl rfl rfl (colD_one _) (by rw [colD_length]; exact Try.sizeOf26) (by rw [colD_length, colD_length]; decide) (colD_whole _ _) ?_
  refine AOps_nil ?_
  obtain ⟨s7, hss7, hks7⟩ := bindO h
  clear h
  refine ACode_seqJ (fun E' H' => Weak 26 G E' H' [(0, .ptr 0 0), (2, .ptr 1 0), (4, .ptr 2 0)] [.box (srcD s7.1), .box (colD Col.zero), .box (colD s7.2)]) ?_ ?_
  · have h := hss7
    clear hss7
    refine ACode_seq (ACode_region ?_)
    refine AOps_q 13 _ rfl rfl rfl (QOp_move _ _ rfl rfl) ?_
    obtain ⟨r4, hr4, h⟩ := bindO h
    refine AOps_call [0] 14 _ _ _ _ _ _ _ _ _ _ rfl rfl rfl rfl rfl rfl rfl Try.call59 rfl (nodupB_sound _ rfl) rfl rfl rfl (spec_l01Next_ac r3.2 3 _ hr4) ?_
    rintro _ _ ⟨rfl, rfl⟩
    refine ⟨(allc (fun _ _ => trivial) (fun _ h => nomatch h)), (allc (trivial) (fun _ h => nomatch h)), AOps_as 14 (v' := iV r4.1) (H' := [.box (srcD r4.2), .box (colD Col.zero), .gone, .box (colD r3.1)]) rfl rfl ?_⟩
    refine AOps_q 15 _ rfl rfl rfl (QOp_eql _ _ _ _ _ _ _ rfl rfl rfl) ?_
    refine AOps_nil ?_
    refine ACode_cond _ rfl (fun hb5 => ?_) (fun hb5 => ?_)
    · have h := iteT hb5 h
      refine (ACode_region ?_)
      refine AOps_q 16 _ rfl rfl rfl (QOp_move _ _ rfl rfl) ?_
      obtain ⟨r6, hr6, h⟩ := bindO h
      refine AOps_call [0] 17 _ _ _ _ _ _ _ _ _ _ rfl rfl rfl rfl rfl rfl rfl Try.call80 rfl (nodupB_sound _ rfl) rfl rfl rfl (spec_l01Spoil_ac k r4.2 _ hr6) ?_
      rintro _ _ ⟨rfl, rfl⟩
      refine ⟨(allc (fun _ _ => trivial) (fun _ h => nomatch h)), (allc (trivial) (fun _ h => nomatch h)), AOps_as 17 (v' := .d (.agg (colD r6.1))) (H' := [.box (srcD r6.2), .box (colD Col.zero), .gone, .box (colD r3.1)]) rfl rfl ?_⟩
      refine AOps_store _ _ _ _ _ _ (colD _) _ _ rfl rfl rfl rfl rfl rfl rfl (colD_one _) (by rw [colD_length]; exact Try.sizeOf26) (by rw [colD_length, colD_length]; decide) (colD_whole _ _) ?_
      refine AOps_nil ?_
      cases h
      exact Weak_keep 1 hm [0, 2, 4] [1, 3] _ _ rfl rfl rfl
    · have h := iteF hb5 h
      refine ACode_skip ?_
      cases h
      exact Weak_keep 1 hm [0, 2, 4] [1, 3] _ _ rfl rfl rfl
  intro E' H' hw
  refine ACode_weak hw ?_
  have h := hks7
  obtain ⟨r8, hr8, h⟩ := bindO h
  refine ACode_seq (ACode_reg [(2, .ptr 1 0), (3, iV r8.1)] [.box (srcD r8.2), .box (colD s7.2)] ?_ ?_)
  · refine ACode_anyU mixed ?_
    refine AU_u 1 19 _ rfl (by kernel_rfl) rfl rfl rfl (UOp_move _ _ rfl rfl) ?_
    refine AU_u 2 20 _ rfl (by kernel_rfl) rfl rfl rfl (UOp_fieldAddr_ptr _ _ _ _ _ _ 1 _ _ rfl Try.underlying26 rfl _ Try.sizeOf2 rfl rfl rfl rfl) ?_
    refine AU_all [0, 3] (by kernel_rfl) rfl (allc ?_ (allc ?_ (fun _ h => nomatch h)))
    · refine US_of 0 rfl rfl ?_
      refine AOps_q 18 _ rfl rfl rfl (QOp_loadN_ptr _ _ _ _ _ _ _ rfl Try.isAgg26 Try.sizeOf26 rfl rfl (colD_all _) (colD_length _)) ?_
      refine AOps_nil ?_
      refine AU_all [3] (by kernel_rfl) rfl (allc ?_ (fun _ h => nomatch h))
      · refine US_of 3 rfl rfl ?_
        refine AOps_q 21 _ rfl rfl rfl (QOp_load_ptr _ _ _ _ _ _ rfl Try.isAgg2 rfl rfl rfl) ?_
        refine AOps_nil ?_
        refine AU_u 4 22 _ rfl (by kernel_rfl) rfl rfl rfl (UOp_sub _ _ _ _ _ _ _ rfl rfl rfl) ?_
        refine AU_u 5 23 _ rfl (by kernel_rfl) rfl rfl rfl (UOp_max _ _ _ _ _ _ rfl rfl rfl rfl rfl) ?_
        refine AU_u 6 24 _ rfl (by kernel_rfl) rfl rfl rfl (UOp_min _ _ _ _ _ _ rfl rfl rfl rfl rfl) ?_
        refine AU_all [7] (by kernel_rfl) rfl (allc ?_ (fun _ h => nomatch h))
        · refine US_of 7 rfl rfl ?_
          refine AOps_call [0] 25 _ _ _ _ _ _ _ _ _ _ rfl rfl rfl rfl rfl rfl rfl Try.call107 rfl (nodupB_sound _ rfl) rfl rfl rfl (spec_l01Near_ac s7.1 (if 3 < (if w64 (s7.2.k - 1) < 0 then 0 else w64 (s7.2.k - 1)) then 3 else (if w64 (s7.2.k - 1) < 0 then 0 else w64 (s7.2.k - 1))) _ hr8) ?_
          rintro _ _ ⟨rfl, rfl⟩
          refine ⟨(allc (fun _ _ => trivial) (fun _ h => nomatch h)), (allc (trivial) (fun _ h => nomatch h)), AOps_as 25 (v' := iV r8.1) (H' := [.box (srcD r8.2), .box (colD Col.zero), .box (colD s7.2)]) rfl rfl ?_⟩
          refine AOps_nil ?_
          refine AU_all [8] (by kernel_rfl) rfl (allc ?_ (fun _ h => nomatch h))
          · refine US_of 8 rfl rfl ?_
            refine AOps_store _ _ _ _ _ _ (colD _) _ _ rfl rfl rfl rfl rfl rfl rfl (colD_one _) (by rw [colD_length]; exact Try.sizeOf26) (by rw [colD_length, colD_length]; decide) (colD_whole _ _) ?_
            refine AOps_nil ?_
            refine AU_u 9 3 _ rfl (by kernel_rfl) rfl rfl rfl (UOp_assign _ _ rfl rfl) ?_
            refine AU_done (by kernel_rfl) ?_
            exact ⟨rfl, Weak_keep 1 hm [2, 3] [1] _ _ rfl rfl rfl⟩
    · refine US_of 3 rfl rfl ?_
      refine AOps_q 21 _ rfl rfl rfl (QOp_load_ptr _ _ _ _ _ _ rfl Try.isAgg2 rfl rfl rfl) ?_
      refine AOps_nil ?_
      refine AU_u 4 22 _ rfl (by kernel_rfl) rfl rfl rfl (UOp_sub _ _ _ _ _ _ _ rfl rfl rfl) ?_
      refine AU_u 5 23 _ rfl (by kernel_rfl) rfl rfl rfl (UOp_max _ _ _ _ _ _ rfl rfl rfl rfl rfl) ?_
      refine AU_u 6 24 _ rfl (by kernel_rfl) rfl rfl rfl (UOp_min _ _ _ _ _ _ rfl rfl rfl rfl rfl) ?_
      refine AU_all [0, 7] (by kernel_rfl) rfl (allc ?_ (allc ?_ (fun _ h => nomatch h)))
      · refine US_of 0 rfl rfl ?_
        refine AOps_q 18 _ rfl rfl rfl (QOp_loadN_ptr _ _ _ _ _ _ _ rfl Try.isAgg26 Try.sizeOf26 rfl rfl (colD_all _) (colD_length _)) ?_
        refine AOps_nil ?_
        refine AU_all [7] (by kernel_rfl) rfl (allc ?_ (fun _ h => nomatch h))
        · refine US_of 7 rfl rfl ?_
          refine AOps_call [0] 25 _ _ _ _ _ _ _ _ _ _ rfl rfl rfl rfl rfl rfl rfl Try.call107 rfl (nodupB_sound _ rfl) rfl rfl rfl (spec_l01Near_ac s7.1 (if 3 < (if w64 (s7.2.k - 1) < 0 then 0 else w64 (s7.2.k - 1)) then 3 else (if w64 (s7.2.k - 1) < 0 then 0 else w64 (s7.2.k - 1))) _ hr8) ?_
          rintro _ _ ⟨rfl, rfl⟩
          refine ⟨(allc (fun _ _ => trivial) (fun _ h => nomatch h)), (allc (trivial) (fun _ h => nomatch h)), AOps_as 25 (v' := iV r8.1) (H' := [.box (srcD r8.2), .box (colD Col.zero), .box (colD s7.2)]) rfl rfl ?_⟩
          refine AOps_nil ?_
          refine AU_all [8] (by kernel_rfl) rfl (allc ?_ (fun _ h => nomatch h))
          · refine US_of 8 rfl rfl ?_
            refine AOps_store _ _ _ _ _ _ (colD _) _ _ rfl rfl rfl rfl rfl rfl rfl (colD_one _) (by rw [colD_length]; exact Try.sizeOf26) (by rw [colD_length, colD_length]; decide) (colD_whole _ _) ?_
            refine AOps_nil ?_
            refine AU_u 9 3 _ rfl (by kernel_rfl) rfl rfl rfl (UOp_assign _ _ rfl rfl) ?_
            refine AU_done (by kernel_rfl) ?_
            exact ⟨rfl, Weak_keep 1 hm [2, 3] [1] _ _ rfl rfl rfl⟩
      · refine US_of 7 rfl rfl ?_
        refine AOps_call [0] 25 _ _ _ _ _ _ _ _ _ _ rfl rfl rfl rfl rfl rfl rfl Try.call107 rfl (nodupB_sound _ rfl) rfl rfl rfl (spec_l01Near_ac s7.1 (if 3 < (if w64 (s7.2.k - 1) < 0 then 0 else w64 (s7.2.k - 1)) then 3 else (if w64 (s7.2.k - 1) < 0 then 0 else w64 (s7.2.k - 1))) _ hr8) ?_
        rintro _ _ ⟨rfl, rfl⟩
        refine ⟨(allc (fun _ _ => trivial) (fun _ h => nomatch h)), (allc (trivial) (fun _ h => nomatch h)), AOps_as 25 (v' := iV r8.1) (H' := [.box (srcD r8.2), .box (colD Col.zero), .box (colD s7.2)]) rfl rfl ?_⟩
        refine AOps_nil ?_
        refine AU_all [0] (by kernel_rfl) rfl (allc ?_ (fun _ h => nomatch h))
        · refine US_of 0 rfl rfl ?_
          refine AOps_q 18 _ rfl rfl rfl (QOp_loadN_ptr _ _ _ _ _ _ _ rfl Try.isAgg26 Try.sizeOf26 rfl rfl (colD_all _) (colD_length _)) ?_
          refine AOps_nil ?_
          refine AU_all [8] (by kernel_rfl) rfl (allc ?_ (fun _ h => nomatch h))
          · refine US_of 8 rfl rfl ?_
            refine AOps_store _ _ _ _ _ _ (colD _) _ _ rfl rfl rfl rfl rfl rfl rfl (colD_one _) (by rw [colD_length]; exact Try.sizeOf26) (by rw [colD_length, colD_length]; decide) (colD_whole _ _) ?_
            refine AOps_nil ?_
            refine AU_u 9 3 _ rfl (by kernel_rfl) rfl rfl rfl (UOp_assign _ _ rfl rfl) ?_
            refine AU_done (by kernel_rfl) ?_
            exact ⟨rfl, Weak_keep 1 hm [2, 3] [1] _ _ rfl rfl rfl⟩
  refine ACode_ret ?_
  cases h
  exact ⟨_, _, fun r a w h => ⟨r, h⟩, _, _, [], _, (.cons (ResV_agg _ _ _ _ _ _ Try.isAgg26 Try.sizeOf26 rfl rfl (colD_take _) (colD_length _)) (.cons (ResV_tmp _ _ rfl) .nil)), rfl, rfl, rfl, rfl, rfl⟩

-- loop.example/g01362/spec.DrawComponentsOf
def spec_DrawComponentsOf (k : Nat) (p0 : List UInt8) : Option (Col × Int) :=
  (spec_l01From k p0).bind fun r1 => (spec_l01Next r1 2).bind fun r2 => (if decide (r2.1 = 0) then (spec_l01Next r2.2 8).bind fun r4 => (spec_l01DrawOf k r4.2 (w64 (1 + r4.1)) 4).bind fun r5 => (spec_l01Next r5.2 4).bind fun r6 => some (r5.1, r6.1) else (spec_l04Draw k r2.2).bind fun r7 => some (r7.1, r7.2.1))
set_option maxRecDepth 100000 in
theorem spec_DrawComponentsOf_ac (k : Nat) (p0 : List UInt8) (r : Col × Int) (h : spec_DrawComponentsOf k p0 = some r) : AC Try.prog 36 [.d (.sl none (bysD p0))] [] (fun res H' => res = [.d (.agg (colD r.1)), iV r.2] ∧ H' = []) := by
  refine AC_of_body true Try.func36 rfl Try.ntmps36 (rvs := [.cell 2 26, .tmp 3]) rfl rfl (fun G hG => ?_)
  have hm : G.H.length = 0 := by rw [hG]; rfl
  have hz : zeroG G.H = true := by rw [hG]; rfl
  unfold spec_DrawComponentsOf at h
  refine ACode_seq (ACode_region ?_)
  refine AOps_alloc 2 _ _ (colD Col.zero) (zero_of Try.typeInfo26 rfl) (by rfl) rfl rfl rfl rfl ?_
  refine AOps_q 3 _ rfl rfl rfl (QOp_assign _ _ rfl rfl) ?_
  refine AOps_nil ?_
  refine ACode_seq (ACode_region ?_)
  refine AOps_q 7 _ rfl rfl rfl (QOp_move _ _ rfl rfl) ?_
  obtain ⟨r1, hr1, h⟩ := bindO h
  refine AOps_call [] 8 _ _ _ _ _ _ _ _ _ _ rfl rfl rfl rfl rfl rfl rfl Try.call57 rfl (nodupB_sound _ rfl) rfl rfl rfl (spec_l01From_ac k p0 _ hr1) ?_
  rintro _ _ ⟨rfl, rfl⟩
  refine ⟨(allc (fun _ _ => trivial) (fun _ h => nomatch h)), (allc (trivial) (fun _ h => nomatch h)), AOps_as 8 (v' := .ptr 1 0) (H' := [.box (colD Col.zero), .box (srcD r1)]) rfl rfl ?_⟩
  refine AOps_q 4 _ rfl rfl rfl (QOp_assign _ _ rfl rfl) ?_
  refine AOps_nil ?_
  refine ACode_seq ?_
  refine ACode_seq (ACode_region ?_)
  refine AOps_q 9 _ rfl rfl rfl (QOp_move _ _ rfl rfl) ?_
  obtain ⟨r2, hr2, h⟩ := bindO h
  refine AOps_call [1] 10 _ _ _ _ _ _ _ _ _ _ rfl rfl rfl rfl rfl rfl rfl Try.call59 rfl (nodupB_sound _ rfl) rfl rfl rfl (spec_l01Next_ac r1 2 _ hr2) ?_
  rintro _ _ ⟨rfl, rfl⟩
  refine ⟨(allc (fun _ _ => trivial) (fun _ h => nomatch h)), (allc (trivial) (fun _ h => nomatch h)), AOps_as 10 (v' := iV r2.1) (H' := [.box (colD Col.zero), .box (srcD r2.2)]) rfl rfl ?_⟩
  refine AOps_q 11 _ rfl rfl rfl (QOp_eql _ _ _ _ _ _ _ rfl rfl rfl) ?_
  refine AOps_nil ?_
  refine ACode_cond _ rfl (fun hb3 => ?_) (fun hb3 => ?_)
  · have h := iteT hb3 h
    refine ACode_seq (ACode_region ?_)
    refine AOps_q 12 _ rfl rfl rfl (QOp_move _ _ rfl rfl) ?_
    refine AOps_q 13 _ rfl rfl rfl (QOp_move _ _ rfl rfl) ?_
    obtain ⟨r4, hr4, h⟩ := bindO h
    refine AOps_call [1] 14 _ _ _ _ _ _ _ _ _ _ rfl rfl rfl rfl rfl rfl rfl Try.call59 rfl (nodupB_sound _ rfl) rfl rfl rfl (spec_l01Next_ac r2.2 8 _ hr4) ?_
    rintro _ _ ⟨rfl, rfl⟩
    refine ⟨(allc (fun _ _ => trivial) (fun _ h => nomatch h)), (allc (trivial) (fun _ h => nomatch h)), AOps_as 14 (v' := iV r4.1) (H' := [.box (colD Col.zero), .box (srcD r4.2)]) rfl rfl ?_⟩
    refine AOps_q 15 _ rfl rfl rfl (QOp_add _ _ _ _ _ _ _ rfl rfl rfl) ?_
    obtain ⟨r5, hr5, h⟩ := bindO h
    refine AOps_call [1] 16 _ _ _ _ _ _ _ _ _ _ rfl rfl rfl rfl rfl rfl rfl Try.call98 rfl (nodupB_sound _ rfl) rfl rfl rfl (spec_l01DrawOf_ac k r4.2 (w64 (1 + r4.1)) 4 _ hr5) ?_
    rintro _ _ ⟨rfl, rfl⟩
    refine ⟨(allc (fun _ _ => trivial) (fun _ h => nomatch h)), (allc (trivial) (fun _ h => nomatch h)), AOps_as 16 (v' := .d (.agg (colD r5.1))) (H' := [.box (colD Col.zero), .box (srcD r5.2)]) rfl rfl ?_⟩
    refine AOps_q 17 _ rfl rfl rfl (QOp_move _ _ rfl rfl) ?_
    obtain ⟨r6, hr6, h⟩ := bindO h
    refine AOps_call [1] 18 _ _ _ _ _ _ _ _ _ _ rfl rfl rfl rfl rfl rfl rfl Try.call59 rfl (nodupB_sound _ rfl) rfl rfl rfl (spec_l01Next_ac r5.2 4 _ hr6) ?_
    rintro _ _ ⟨rfl, rfl⟩
    refine ⟨(allc (fun _ _ => trivial) (fun _ h => nomatch h)), (allc (trivial) (fun _ h => nomatch h)), AOps_as 18 (v' := iV r6.1) (H' := [.box (colD Col.zero), .box (srcD r6.2)]) rfl rfl ?_⟩
    refine AOps_store _ _ _ _ _ _ (colD _) _ _ rfl rfl rfl rfl rfl rfl rfl (colD_one _) (by rw [colD_length]; exact Try.sizeOf26) (by rw [colD_length, colD_length]; decide) (colD_whole _ _) ?_
    refine AOps_q 3 _ rfl rfl rfl (QOp_assign _ _ rfl rfl) ?_
    refine AOps_nil ?_
    refine ACode_ret ?_
    cases h
    exact ⟨_, _, fun r a w h => ⟨r, h⟩, _, _, [], _, (.cons (ResV_agg _ _ _ _ _ _ Try.isAgg26 Try.sizeOf26 rfl rfl (colD_take _) (colD_length _)) (.cons (ResV_tmp _ _ rfl) .nil)), rfl, rfl, rfl, rfl, rfl⟩
  · have h := iteF hb3 h
    refine ACode_skip ?_
    refine ACode_seq (ACode_region ?_)
    refine AOps_q 20 _ rfl rfl rfl (QOp_move _ _ rfl rfl) ?_
    obtain ⟨r7, hr7, h⟩ := bindO h
    refine AOps_call [1] 21 _ _ _ _ _ _ _ _ _ _ rfl rfl rfl rfl rfl rfl rfl Try.call99 rfl (nodupB_sound _ rfl) rfl rfl rfl (spec_l04Draw_ac k r2.2 _ hr7) ?_
    rintro _ _ ⟨rfl, rfl⟩
    refine ⟨(allc (fun _ _ => trivial) (fun _ h => nomatch h)), (allc (trivial) (allc (trivial) (fun _ h => nomatch h))), AOps_as 21 (v' := .tup [.d (.agg (colD r7.1)), iV r7.2.1]) (H' := [.box (colD Col.zero), .box (srcD r7.2.2)]) rfl rfl ?_⟩
    refine AOps_q 19 _ rfl rfl rfl (QOp_move _ _ rfl rfl) ?_
    refine AOps_q 22 _ rfl rfl rfl (QOp_extract _ _ _ _ rfl rfl rfl) ?_
    refine AOps_q 23 _ rfl rfl rfl (QOp_extract _ _ _ _ rfl rfl rfl) ?_
    refine AOps_alloc 5 _ _ (colD Col.zero) (zero_of Try.typeInfo26 rfl) (by rfl) rfl rfl rfl rfl ?_
    refine AOps_store _ _ _ _ _ _ (colD _) _ _ rfl rfl rfl rfl rfl rfl rfl (colD_one _) (by rw [colD_length]; exact Try.sizeOf26) (by rw [colD_length, colD_length]; decide) (colD_whole _ _) ?_
    refine AOps_q 6 _ rfl rfl rfl (QOp_assign _ _ rfl rfl) ?_
    refine AOps_nil ?_
    refine ACode_seq (ACode_region ?_)
    refine AOps_q 24 _ rfl rfl rfl (QOp_loadN_ptr _ _ _ _ _ _ _ rfl Try.isAgg26 Try.sizeOf26 rfl rfl (colD_all _) (colD_length _)) ?_
    refine AOps_q 25 _ rfl rfl rfl (QOp_move _ _ rfl rfl) ?_
    refine AOps_store _ _ _ _ _ _ (colD _) _ _ rfl rfl rfl rfl rfl rfl rfl (colD_one _) (by rw [colD_length]; exact Try.sizeOf26) (by rw [colD_length, colD_length]; decide) (colD_whole _ _) ?_
    refine AOps_q 3 _ rfl rfl rfl (QOp_assign _ _ rfl rfl) ?_
    refine AOps_nil ?_
    refine ACode_ret ?_
    cases h
    exact ⟨_, _, fun r a w h => ⟨r, h⟩, _, _, [], _, (.cons (ResV_agg _ _ _ _ _ _ Try.isAgg26 Try.sizeOf26 rfl rfl (colD_take _) (colD_length _)) (.cons (ResV_tmp _ _ rfl) .nil)), rfl, rfl, rfl, rfl, rfl⟩

-- loop.example/g01362/impl.in
def impl_in (p0 : Int) (p1 : Int) (p2 : Int) : Bool :=
  letO (if decide (p1 ≤ p0) then decide (p0 ≤ p2) else false) fun (s2 : Bool) => s2
set_option maxRecDepth 100000 in
theorem impl_in_ac (p0 : Int) (p1 : Int) (p2 : Int) : AC Try.prog 62 [iV p0, iV p1, iV p2] [] (fun res H' => res = [bV (impl_in p0 p1 p2)] ∧ H' = []) := by
  refine AC_of_body true Try.func62 rfl Try.ntmps62 (rvs := [.tmp 6]) rfl rfl (fun G hG => ?_)
  have hm : G.H.length = 0 := by rw [hG]; rfl
  have hz : zeroG G.H = true := by rw [hG]; rfl
  obtain ⟨r, h⟩ : ∃ r, impl_in p0 p1 p2 = r := ⟨_, rfl⟩
  rw [h]
  unfold impl_in at h
  refine ACode_seq (ACode_region ?_)
  refine AOps_q 6 _ rfl rfl rfl (QOp_assign _ _ rfl rfl) ?_
  refine AOps_nil ?_
  obtain ⟨s2, hss2, hks2⟩ := letS h
  clear h
  refine ACode_seqJ (fun E' H' => Weak 15 G E' H' [(6, bV s2)] []) ?_ ?_
  · have h := hss2
    clear hss2
    refine (ACode_region ?_)
    refine AOps_q 7 _ rfl rfl rfl (QOp_move _ _ rfl rfl) ?_
    refine AOps_q 8 _ rfl rfl rfl (QOp_move _ _ rfl rfl) ?_
    refine AOps_q 9 _ rfl rfl rfl (QOp_geq _ _ _ _ _ _ _ rfl rfl rfl) ?_
    refine AOps_q 10 _ rfl rfl rfl (QOp_move _ _ rfl rfl) ?_
    refine AOps_case 10 _ rfl (fun hb1 => ?_) (fun hb1 => ?_)
    · have h := iteT hb1 h
      refine AOps_q 11 _ rfl rfl rfl (QOp_move _ _ rfl rfl) ?_
      refine AOps_q 12 _ rfl rfl rfl (QOp_move _ _ rfl rfl) ?_
      refine AOps_q 13 _ rfl rfl rfl (QOp_leq _ _ _ _ _ _ _ rfl rfl rfl) ?_
      refine AOps_q 14 _ rfl rfl rfl (QOp_pick_t _ _ _ _ rfl rfl rfl) ?_
      refine AOps_q 6 _ rfl rfl rfl (QOp_assign _ _ rfl rfl) ?_
      refine AOps_nil ?_
      cases h
      exact Weak_keep 0 hm [6] [] _ _ rfl rfl rfl
    · have h := iteF hb1 h
      refine AOps_skip 11 rfl rfl rfl ?_
      refine AOps_skip 12 rfl rfl rfl ?_
      refine AOps_skip 13 rfl rfl rfl ?_
      refine AOps_q 14 _ rfl rfl rfl (QOp_pick_f _ _ _ _ rfl rfl rfl) ?_
      refine AOps_q 6 _ rfl rfl rfl (QOp_assign _ _ rfl rfl) ?_
      refine AOps_nil ?_
      cases h
      exact Weak_keep 0 hm [6] [] _ _ rfl rfl rfl
  intro E' H' hw
  refine ACode_weak hw ?_
  have h := hks2
  refine ACode_ret ?_
  cases h
  exact ⟨_, _, fun r a w h => ⟨r, h⟩, _, _, [], _, (.cons (ResV_tmp _ _ rfl) .nil), rfl, rfl, rfl, rfl, rfl⟩

-- (*loop.example/g01362/impl.Colouring).edges
def impl_Colouring_edges (p0 : Col) : Int :=
  w64 ((w64 (p0.p * (w64 (p0.p - 1)))).tdiv 2)
set_option maxRecDepth 100000 in
theorem impl_Colouring_edges_ac (p0 : Col) : AC Try.prog 130 [.d (.pv (colD p0) 0)] [] (fun res H' => res = [iV (impl_Colouring_edges p0)] ∧ H' = []) := by
  refine AC_of_body true Try.func130 rfl Try.ntmps130 (rvs := [.tmp 2]) rfl rfl (fun G hG => ?_)
  have hm : G.H.length = 0 := by rw [hG]; rfl
  have hz : zeroG G.H = true := by rw [hG]; rfl
  obtain ⟨r, h⟩ : ∃ r, impl_Colouring_edges p0 = r := ⟨_, rfl⟩
  rw [h]
  unfold impl_Colouring_edges at h
  refine ACode_seq (ACode_region ?_)
  refine AOps_q 2 _ rfl rfl rfl (QOp_assign _ _ rfl rfl) ?_
  refine AOps_nil ?_
  refine ACode_seq (ACode_quiet mixed (by kernel_rfl) ?_)
  refine AQ_q 3 _ rfl rfl rfl (QOp_move _ _ rfl rfl) ?_
  refine AQ_q 4 _ rfl rfl rfl (QOp_nilCheck_pv _ _ _ rfl rfl) ?_
  refine AQ_q 5 _ rfl rfl rfl (QOp_fieldAddr_pv _ _ _ _ _ 0 _ _ rfl Try.underlying26 rfl _ Try.sizeOf2 rfl rfl) ?_
  refine AQ_q 6 _ rfl rfl rfl (QOp_load_pv _ _ _ _ _ rfl Try.isAgg2 rfl rfl) ?_
  refine AQ_q 7 _ rfl rfl rfl (QOp_move _ _ rfl rfl) ?_
  refine AQ_q 8 _ rfl rfl rfl (QOp_nilCheck_pv _ _ _ rfl rfl) ?_
  refine AQ_q 9 _ rfl rfl rfl (QOp_fieldAddr_pv _ _ _ _ _ 0 _ _ rfl Try.underlying26 rfl _ Try.sizeOf2 rfl rfl) ?_
  refine AQ_q 10 _ rfl rfl rfl (QOp_load_pv _ _ _ _ _ rfl Try.isAgg2 rfl rfl) ?_
  refine AQ_q 11 _ rfl rfl rfl (QOp_sub _ _ _ _ _ _ _ rfl rfl rfl) ?_
  refine AQ_q 12 _ rfl rfl rfl (QOp_mul _ _ _ _ _ _ _ rfl rfl rfl) ?_
  refine AQ_q 13 _ rfl rfl rfl (QOp_quo _ _ _ _ _ _ _ (by decide) rfl rfl rfl) ?_
  refine AQ_q 2 _ rfl rfl rfl (QOp_assign _ _ rfl rfl) ?_
  refine AQ_nil ?_
  refine ACode_ret ?_
  cases h
  exact ⟨_, _, fun r a w h => ⟨r, h⟩, _, _, [], _, (.cons (ResV_tmp _ _ rfl) .nil), rfl, rfl, rfl, rfl, rfl⟩

-- (*loop.example/g01362/impl.Colouring).isColouring
def impl_Colouring_isColouring_l0 (k : Nat) (p0 : Col) : Nat → Int → Option (Sum (Unit) (Bool))
  | 0, _ => none
  | k0 + 1, x7 => (if decide (x7 < 136) then ((if 0 ≤ x7 ∧ x7 < 136 then letO (if decide (p0.k ≤ ((p0.e.get x7.toNat).toNat : Int)) then true else (if decide ((impl_Colouring_edges p0) ≤ x7) then !decide (((p0.e.get x7.toNat).toNat : Int) = 0) else false)) fun (s13 : Bool) => (if s13 then (some (.inr false)).bind fun rr => some (.inr rr) else some (.inl ())) else none) : Option (Sum (Unit) (Sum (Unit) (Bool)))).bind fun os15 => (match os15 with | .inl s15 => impl_Colouring_isColouring_l0 k p0 k0 (w64 (x7 + 1)) | .inr rr => some rr) else some (.inl ()))
def impl_Colouring_isColouring (k : Nat) (p0 : Col) : Option (Bool) :=
  (letO (if !(impl_in p0.p 1 17) then true else !(impl_in p0.k 1 4)) fun (s4 : Bool) => (if s4 then some (.inr false) else some (.inl ())) : Option (Sum (Unit) (Bool))).bind fun os6 => (match os6 with | .inl s6 => (impl_Colouring_isColouring_l0 k p0 k 0 : Option (Sum (Unit) (Bool))).bind fun os16 => (match os16 with | .inl s16 => some true | .inr rr => some rr) | .inr rr => some rr)
set_option maxRecDepth 100000 in
theorem impl_Colouring_isColouring_ac (k : Nat) (p0 : Col) (r : Bool) (h : impl_Colouring_isColouring k p0 = some r) : AC Try.prog 115 [.d (.pv (colD p0) 0)] [] (fun res H' => res = [bV r] ∧ H' = []) := by
  refine AC_of_body true Try.func115 rfl Try.ntmps115 (rvs := [.tmp 2]) rfl rfl (fun G hG => ?_)
  have hm : G.H.length = 0 := by rw [hG]; rfl
  have hz : zeroG G.H = true := by rw [hG]; rfl
  unfold impl_Colouring_isColouring at h
  refine ACode_seq (ACode_region ?_)
  refine AOps_q 2 _ rfl rfl rfl (QOp_assign _ _ rfl rfl) ?_
  refine AOps_nil ?_
  obtain ⟨os6, hss6, hks6⟩ := bindO h
  clear h
  refine ACode_seqJ (fun E' H' => ∃ s6 : Unit, os6 = .inl s6 ∧ Weak 45 G E' H' [(0, .d (.pv (colD p0) 0))] []) ?_ ?_
  · have h := hss6
    clear hss6
    obtain ⟨s4, hss4, hks4⟩ := letS h
    clear h
    refine ACode_seqJ (fun E' H' => Weak 45 G E' H' [(0, .d (.pv (colD p0) 0)), (18, bV s4)] []) ?_ ?_
    · have h := hss4
      clear hss4
      refine (ACode_region ?_)
      refine AOps_q 5 _ rfl rfl rfl (QOp_move _ _ rfl rfl) ?_
      refine AOps_q 6 _ rfl rfl rfl (QOp_nilCheck_pv _ _ _ rfl rfl) ?_
      refine AOps_q 7 _ rfl rfl rfl (QOp_fieldAddr_pv _ _ _ _ _ 0 _ _ rfl Try.underlying26 rfl _ Try.sizeOf2 rfl rfl) ?_
      refine AOps_q 8 _ rfl rfl rfl (QOp_load_pv _ _ _ _ _ rfl Try.isAgg2 rfl rfl) ?_
      refine AOps_call [] 9 _ _ _ _ _ _ _ _ _ _ rfl rfl rfl rfl rfl rfl rfl Try.call62 rfl (nodupB_sound _ rfl) rfl rfl rfl (impl_in_ac p0.p 1 17) ?_
      rintro _ _ ⟨rfl, rfl⟩
      refine ⟨(fun _ h => nomatch h), (allc (trivial) (fun _ h => nomatch h)), AOps_as 9 (v' := bV (impl_in p0.p 1 17)) (H' := []) rfl rfl ?_⟩
      refine AOps_q 10 _ rfl rfl rfl (QOp_not _ _ _ rfl rfl) ?_
      refine AOps_q 11 _ rfl rfl rfl (QOp_move _ _ rfl rfl) ?_
      refine AOps_case 11 _ rfl (fun hb2 => ?_) (fun hb2 => ?_)
      · have h := iteT hb2 h
        refine AOps_skip 12 rfl rfl rfl ?_
        refine AOps_skip 13 rfl rfl rfl ?_
        refine AOps_skip 14 rfl rfl rfl ?_
        refine AOps_skip 15 rfl rfl rfl ?_
        refine AOps_skip 16 rfl rfl rfl ?_
        refine AOps_skip 17 rfl rfl rfl ?_
        refine AOps_q 18 _ rfl rfl rfl (QOp_pick_t _ _ _ _ rfl rfl rfl) ?_
        refine AOps_nil ?_
        cases h
        exact Weak_keep 0 hm [0, 18] [] _ _ rfl rfl rfl
      · have h := iteF hb2 h
        refine AOps_q 12 _ rfl rfl rfl (QOp_move _ _ rfl rfl) ?_
        refine AOps_q 13 _ rfl rfl rfl (QOp_nilCheck_pv _ _ _ rfl rfl) ?_
        refine AOps_q 14 _ rfl rfl rfl (QOp_fieldAddr_pv _ _ _ _ _ 1 _ _ rfl Try.underlying26 rfl _ Try.sizeOf2 rfl rfl) ?_
        refine AOps_q 15 _ rfl rfl rfl (QOp_load_pv _ _ _ _ _ rfl Try.isAgg2 rfl rfl) ?_
        refine AOps_call [] 16 _ _ _ _ _ _ _ _ _ _ rfl rfl rfl rfl rfl rfl rfl Try.call62 rfl (nodupB_sound _ rfl) rfl rfl rfl (impl_in_ac p0.k 1 4) ?_
        rintro _ _ ⟨rfl, rfl⟩
        refine ⟨(fun _ h => nomatch h), (allc (trivial) (fun _ h => nomatch h)), AOps_as 16 (v' := bV (impl_in p0.k 1 4)) (H' := []) rfl rfl ?_⟩
        refine AOps_q 17 _ rfl rfl rfl (QOp_not _ _ _ rfl rfl) ?_
        refine AOps_q 18 _ rfl rfl rfl (QOp_pick_f _ _ _ _ rfl rfl rfl) ?_
        refine AOps_nil ?_
        cases h
        exact Weak_keep 0 hm [0, 18] [] _ _ rfl rfl rfl
    intro E' H' hw
    refine ACode_weak hw ?_
    have h := hks4
    refine ACode_cond _ rfl (fun hb5 => ?_) (fun hb5 => ?_)
    · have h := iteT hb5 h
      refine ACode_seq (ACode_region ?_)
      refine AOps_q 2 _ rfl rfl rfl (QOp_assign _ _ rfl rfl) ?_
      refine AOps_nil ?_
      refine ACode_ret ?_
      cases h
      have h := hks6
      cases h
      exact ⟨_, _, fun r a w h => ⟨r, h⟩, _, _, [], _, (.cons (ResV_tmp _ _ rfl) .nil), rfl, rfl, rfl, rfl, rfl⟩
    · have h := iteF hb5 h
      refine ACode_skip ?_
      cases h
      exact ⟨_, rfl, Weak_keep 0 hm [0] [] _ _ rfl rfl rfl⟩
  rintro E' H' ⟨s6, rfl, hw⟩
  refine ACode_weak hw ?_
  have h := hks6
  obtain ⟨os16, hss16, hks16⟩ := bindO h
  clear h
  refine ACode_seqJ (fun E' H' => ∃ s16 : Unit, os16 = .inl s16 ∧ Weak 45 G E' H' [] []) ?_ ?_
  · have h := hss16
    clear hss16
    refine ACode_seq (ACode_region ?_)
    refine AOps_q 19 _ rfl rfl rfl (QOp_move _ _ rfl rfl) ?_
    refine AOps_q 20 _ rfl rfl rfl (QOp_nilCheck_pv _ _ _ rfl rfl) ?_
    refine AOps_q 21 _ rfl rfl rfl (QOp_fieldAddr_pv _ _ _ _ _ 2 _ _ rfl Try.underlying26 rfl _ Try.sizeOf24 rfl rfl) ?_
    refine AOps_q 22 _ rfl rfl rfl (QOp_loadN_pv _ _ _ _ _ _ rfl Try.isAgg24 Try.sizeOf24 rfl (colD_edges _) (byD_length _)) ?_
    refine AOps_q 23 _ rfl rfl rfl (QOp_move _ _ rfl rfl) ?_
    refine AOps_nil ?_
    refine ACode_block ?_
    refine ACode_loopW (fun k0 E H => ∃ (x7 : Int), E = [(0, .d (.pv (colD p0) 0)), (22, .d (.agg (byD p0.e))), (23, iV x7)] ∧ H = [] ∧ impl_Colouring_isColouring_l0 k p0 k0 x7 = some os16) k _ _ (Weak_keep 0 hm [0, 22, 23] [] _ _ rfl rfl rfl) ⟨_, rfl, rfl, h⟩ ?_
    clear h
    rintro k0 E H ⟨x7, rfl, rfl, h⟩
    cases k0 with
    | zero => cases (show (none : Option (Sum (Unit) (Bool))) = some _ from h)
    | succ k0 =>
      rw [impl_Colouring_isColouring_l0] at h
      refine ACode_seq (ACode_region ?_)
      refine AOps_q 24 _ rfl rfl rfl (QOp_lss _ _ _ _ _ _ _ rfl rfl rfl) ?_
      refine AOps_nil ?_
      refine ACode_seq ?_
      refine ACode_cond _ rfl (fun hb8 => ?_) (fun hb8 => ?_)
      · have h := iteT hb8 h
        refine ACode_skip ?_
        obtain ⟨os15, hss15, hks15⟩ := bindO h
        clear h
        refine ACode_seqJ (fun E' H' => ∃ s15 : Unit, os15 = .inl s15 ∧ Weak 45 G E' H' [(0, .d (.pv (colD p0) 0)), (22, .d (.agg (byD p0.e))), (23, iV x7)] []) ?_ ?_
        · have h := hss15
          clear hss15
          refine ACode_block ?_
          refine ACode_seq (ACode_region ?_)
          refine AOps_q 25 _ rfl rfl rfl (QOp_move _ _ rfl rfl) ?_
          obtain ⟨hc9, h⟩ := guardO h
          refine AOps_q 26 _ rfl rfl rfl (QOp_index_agg _ _ _ _ _ _ _ _ _ rfl Try.underlying24 Try.sizeOf5 Try.isAgg5 hc9.1 hc9.2 rfl rfl (byD_get _ _ (by omega))) ?_
          refine AOps_q 3 _ rfl rfl rfl (QOp_assign _ _ rfl rfl) ?_
          refine AOps_q 4 _ rfl rfl rfl (QOp_assign _ _ rfl rfl) ?_
          refine AOps_nil ?_
          obtain ⟨s13, hss13, hks13⟩ := letS h
          clear h
          refine ACode_seqJ (fun E' H' => Weak 45 G E' H' [(0, .d (.pv (colD p0) 0)), (22, .d (.agg (byD p0.e))), (23, iV x7), (43, bV s13)] []) ?_ ?_
          · have h := hss13
            clear hss13
            refine (ACode_region ?_)
            refine AOps_q 27 _ rfl rfl rfl (QOp_move _ _ rfl rfl) ?_
            refine AOps_q 28 _ rfl rfl rfl (QOp_fromByte _ _ _ _ _ rfl rfl Try.underlying2 wrap_i64_byte rfl) ?_
            refine AOps_q 29 _ rfl rfl rfl (QOp_move _ _ rfl rfl) ?_
            refine AOps_q 30 _ rfl rfl rfl (QOp_nilCheck_pv _ _ _ rfl rfl) ?_
            refine AOps_q 31 _ rfl rfl rfl (QOp_fieldAddr_pv _ _ _ _ _ 1 _ _ rfl Try.underlying26 rfl _ Try.sizeOf2 rfl rfl) ?_
            refine AOps_q 32 _ rfl rfl rfl (QOp_load_pv _ _ _ _ _ rfl Try.isAgg2 rfl rfl) ?_
            refine AOps_q 33 _ rfl rfl rfl (QOp_geq _ _ _ _ _ _ _ rfl rfl rfl) ?_
            refine AOps_q 34 _ rfl rfl rfl (QOp_move _ _ rfl rfl) ?_
            refine AOps_case 34 _ rfl (fun hb10 => ?_) (fun hb10 => ?_)
            · have h := iteT hb10 h
              refine AOps_skip 35 rfl rfl rfl ?_
              refine AOps_skip 36 rfl rfl rfl ?_
              refine AOps_skip 37 rfl rfl rfl ?_
              refine AOps_skip 38 rfl rfl rfl ?_
              refine AOps_skip 39 rfl rfl rfl ?_
              refine AOps_skip 40 rfl rfl rfl ?_
              refine AOps_skip 41 rfl rfl rfl ?_
              refine AOps_skip 42 rfl rfl rfl ?_
              refine AOps_q 43 _ rfl rfl rfl (QOp_pick_t _ _ _ _ rfl rfl rfl) ?_
              refine AOps_nil ?_
              cases h
              exact Weak_keep 0 hm [0, 22, 23, 43] [] _ _ rfl rfl rfl
            · have h := iteF hb10 h
              refine AOps_q 35 _ rfl rfl rfl (QOp_move _ _ rfl rfl) ?_
              refine AOps_q 36 _ rfl rfl rfl (QOp_move _ _ rfl rfl) ?_
              refine AOps_call [] 37 _ _ _ _ _ _ _ _ _ _ rfl rfl rfl rfl rfl rfl rfl Try.call130 rfl (nodupB_sound _ rfl) rfl rfl rfl (impl_Colouring_edges_ac p0) ?_
              rintro _ _ ⟨rfl, rfl⟩
              refine ⟨(fun _ h => nomatch h), (allc (trivial) (fun _ h => nomatch h)), AOps_as 37 (v' := iV (impl_Colouring_edges p0)) (H' := []) rfl rfl ?_⟩
              refine AOps_q 38 _ rfl rfl rfl (QOp_geq _ _ _ _ _ _ _ rfl rfl rfl) ?_
              refine AOps_q 39 _ rfl rfl rfl (QOp_move _ _ rfl rfl) ?_
              refine AOps_case 39 _ rfl (fun hb12 => ?_) (fun hb12 => ?_)
              · have h := iteT hb12 h
                refine AOps_q 40 _ rfl rfl rfl (QOp_move _ _ rfl rfl) ?_
                refine AOps_q 41 _ rfl rfl rfl (QOp_neq _ _ _ _ _ _ _ rfl rfl rfl) ?_
                refine AOps_q 42 _ rfl rfl rfl (QOp_pick_t _ _ _ _ rfl rfl rfl) ?_
                refine AOps_q 43 _ rfl rfl rfl (QOp_pick_f _ _ _ _ rfl rfl rfl) ?_
                refine AOps_nil ?_
                cases h
                exact Weak_keep 0 hm [0, 22, 23, 43] [] _ _ rfl rfl rfl
              · have h := iteF hb12 h
                refine AOps_skip 40 rfl rfl rfl ?_
                refine AOps_skip 41 rfl rfl rfl ?_
                refine AOps_q 42 _ rfl rfl rfl (QOp_pick_f _ _ _ _ rfl rfl rfl) ?_
                refine AOps_q 43 _ rfl rfl rfl (QOp_pick_f _ _ _ _ rfl rfl rfl) ?_
                refine AOps_nil ?_
                cases h
                exact Weak_keep 0 hm [0, 22, 23, 43] [] _ _ rfl rfl rfl
          intro E' H' hw
          refine ACode_weak hw ?_
          have h := hks13
          refine ACode_cond _ rfl (fun hb14 => ?_) (fun hb14 => ?_)
          · have h := iteT hb14 h
            refine ACode_seq (ACode_region ?_)
            refine AOps_q 2 _ rfl rfl rfl (QOp_assign _ _ rfl rfl) ?_
            refine AOps_nil ?_
            refine ACode_ret ?_
            obtain ⟨rr, hz17, h2⟩ := bindO h
            obtain rfl := Option.some.inj h2
            obtain rfl := Option.some.inj (show some rr = some _ from hks15)
            have h := hz17
            cases h
            have h := hks16
            cases h
            exact ⟨_, _, fun r a w h => ⟨r, h⟩, _, _, [], _, (.cons (ResV_tmp _ _ rfl) .nil), rfl, rfl, rfl, rfl, rfl⟩
          · have h := iteF hb14 h
            refine ACode_skip ?_
            cases h
            exact ⟨_, rfl, Weak_keep 0 hm [0, 22, 23] [] _ _ rfl rfl rfl⟩
        rintro E' H' ⟨s15, rfl, hw⟩
        refine ACode_weak hw ?_
        have h := hks15
        refine (ACode_region ?_)
        refine AOps_q 44 _ rfl rfl rfl (QOp_add _ _ _ _ _ _ _ rfl rfl rfl) ?_
        refine AOps_q 23 _ rfl rfl rfl (QOp_move _ _ rfl rfl) ?_
        refine AOps_nil ?_
        exact ⟨k0, _, _, Nat.lt_succ_self _, Weak_keep 0 hm [0, 22, 23] [] _ _ rfl rfl rfl, _, rfl, rfl, h⟩
      · have h := iteF hb8 h
        refine ACode_exit ?_
        cases h
        exact ⟨_, rfl, Weak_keep 0 hm [] [] _ _ rfl rfl rfl⟩
  rintro E' H' ⟨s16, rfl, hw⟩
  refine ACode_weak hw ?_
  have h := hks16
  refine ACode_seq (ACode_region ?_)
  refine AOps_q 2 _ rfl rfl rfl (QOp_assign _ _ rfl rfl) ?_
  refine AOps_nil ?_
  refine ACode_ret ?_
  cases h
  exact ⟨_, _, fun r a w h => ⟨r, h⟩, _, _, [], _, (.cons (ResV_tmp _ _ rfl) .nil), rfl, rfl, rfl, rfl, rfl⟩

-- (*loop.example/g01362/impl.Colouring).code
def impl_Colouring_code (k : Nat) (p0 : Col) (p1 : Option (Bool)) : Option (Int) :=
  (impl_Colouring_isColouring k p0).bind fun r1 => (if !r1 then some 1 else (p1).bind fun r3 => (if !r3 then some 2 else some 0))
set_option maxRecDepth 100000 in
theorem impl_Colouring_code_ac (k : Nat) (p0 : Col) (p1 : Option (Bool)) (g_p1 : FuncId) (c_p1 : List D) (hg_p1 : ∀ args w, (callFunc g_p1 args).run Try.prog w = .ok (.enter g_p1 args) w) (hf_p1 : ∀ (r : Bool), p1 = some r → AC Try.prog g_p1 ([] ++ c_p1.map AV.d) [] (fun res H' => res = [bV r] ∧ H' = [])) (r : Int) (h : impl_Colouring_code k p0 p1 = some r) : AC Try.prog 68 [.d (.pv (colD p0) 0), .d (.clo g_p1 c_p1)] [] (fun res H' => res = [iV r] ∧ H' = []) := by
  refine AC_of_body true Try.func68 rfl Try.ntmps68 (rvs := [.tmp 4]) rfl rfl (fun G hG => ?_)
  have hm : G.H.length = 0 := by rw [hG]; rfl
  have hz : zeroG G.H = true := by rw [hG]; rfl
  unfold impl_Colouring_code at h
  refine ACode_seq (ACode_region ?_)
  refine AOps_q 4 _ rfl rfl rfl (QOp_assign _ _ rfl rfl) ?_
  refine AOps_nil ?_
  refine ACode_seq ?_
  refine ACode_block ?_
  refine ACode_seq (ACode_region ?_)
  refine AOps_q 6 _ rfl rfl rfl (QOp_move _ _ rfl rfl) ?_
  obtain ⟨r1, hr1, h⟩ := bindO h
  refine AOps_call [] 7 _ _ _ _ _ _ _ _ _ _ rfl rfl rfl rfl rfl rfl rfl Try.call115 rfl (nodupB_sound _ rfl) rfl rfl rfl (impl_Colouring_isColouring_ac k p0 _ hr1) ?_
  rintro _ _ ⟨rfl, rfl⟩
  refine ⟨(fun _ h => nomatch h), (allc (trivial) (fun _ h => nomatch h)), AOps_as 7 (v' := bV r1) (H' := []) rfl rfl ?_⟩
  refine AOps_q 8 _ rfl rfl rfl (QOp_not _ _ _ rfl rfl) ?_
  refine AOps_q 5 _ rfl rfl rfl (QOp_assign _ _ rfl rfl) ?_
  refine AOps_nil ?_
  refine ACode_cond _ rfl (fun hb2 => ?_) (fun hb2 => ?_)
  · have h := iteT hb2 h
    refine ACode_seq (ACode_region ?_)
    refine AOps_q 4 _ rfl rfl rfl (QOp_assign _ _ rfl rfl) ?_
    refine AOps_nil ?_
    refine ACode_ret ?_
    cases h
    exact ⟨_, _, fun r a w h => ⟨r, h⟩, _, _, [], _, (.cons (ResV_tmp _ _ rfl) .nil), rfl, rfl, rfl, rfl, rfl⟩
  · have h := iteF hb2 h
    refine ACode_seq (ACode_region ?_)
    refine AOps_q 10 _ rfl rfl rfl (QOp_move _ _ rfl rfl) ?_
    obtain ⟨r3, hr3, h⟩ := bindO h
    refine AOps_call [] 11 _ _ _ _ _ _ _ _ _ _ rfl rfl rfl rfl rfl rfl rfl hg_p1 rfl (nodupB_sound _ rfl) rfl rfl (viewA_mapD _) (hf_p1 _ hr3) ?_
    rintro _ _ ⟨rfl, rfl⟩
    refine ⟨(fun _ h => nomatch h), (allc (trivial) (fun _ h => nomatch h)), AOps_as 11 (v' := bV r3) (H' := []) rfl rfl ?_⟩
    refine AOps_q 12 _ rfl rfl rfl (QOp_not _ _ _ rfl rfl) ?_
    refine AOps_q 9 _ rfl rfl rfl (QOp_assign _ _ rfl rfl) ?_
    refine AOps_nil ?_
    refine ACode_cond _ rfl (fun hb4 => ?_) (fun hb4 => ?_)
    · have h := iteT hb4 h
      refine ACode_seq (ACode_region ?_)
      refine AOps_q 4 _ rfl rfl rfl (QOp_assign _ _ rfl rfl) ?_
      refine AOps_nil ?_
      refine ACode_ret ?_
      cases h
      exact ⟨_, _, fun r a w h => ⟨r, h⟩, _, _, [], _, (.cons (ResV_tmp _ _ rfl) .nil), rfl, rfl, rfl, rfl, rfl⟩
    · have h := iteF hb4 h
      refine ACode_skip ?_
      refine ACode_seq (ACode_region ?_)
      refine AOps_q 4 _ rfl rfl rfl (QOp_assign _ _ rfl rfl) ?_
      refine AOps_nil ?_
      refine ACode_ret ?_
      cases h
      exact ⟨_, _, fun r a w h => ⟨r, h⟩, _, _, [], _, (.cons (ResV_tmp _ _ rfl) .nil), rfl, rfl, rfl, rfl, rfl⟩

-- (*loop.example/g01362/impl.Colouring).hasColour
def impl_Colouring_hasColour (p0 : Col) (p1 : Int) : Bool :=
  (impl_in p1 0 (w64 (p0.k - 1)))
set_option maxRecDepth 100000 in
theorem impl_Colouring_hasColour_ac (p0 : Col) (p1 : Int) : AC Try.prog 77 [.d (.pv (colD p0) 0), iV p1] [] (fun res H' => res = [bV (impl_Colouring_hasColour p0 p1)] ∧ H' = []) := by
  refine AC_of_body true Try.func77 rfl Try.ntmps77 (rvs := [.tmp 4]) rfl rfl (fun G hG => ?_)
  have hm : G.H.length = 0 := by rw [hG]; rfl
  have hz : zeroG G.H = true := by rw [hG]; rfl
  obtain ⟨r, h⟩ : ∃ r, impl_Colouring_hasColour p0 p1 = r := ⟨_, rfl⟩
  rw [h]
  unfold impl_Colouring_hasColour at h
  refine ACode_seq (ACode_region ?_)
  refine AOps_q 4 _ rfl rfl rfl (QOp_assign _ _ rfl rfl) ?_
  refine AOps_nil ?_
  refine ACode_seq (ACode_region ?_)
  refine AOps_q 5 _ rfl rfl rfl (QOp_move _ _ rfl rfl) ?_
  refine AOps_q 6 _ rfl rfl rfl (QOp_move _ _ rfl rfl) ?_
  refine AOps_q 7 _ rfl rfl rfl (QOp_nilCheck_pv _ _ _ rfl rfl) ?_
  refine AOps_q 8 _ rfl rfl rfl (QOp_fieldAddr_pv _ _ _ _ _ 1 _ _ rfl Try.underlying26 rfl _ Try.sizeOf2 rfl rfl) ?_
  refine AOps_q 9 _ rfl rfl rfl (QOp_load_pv _ _ _ _ _ rfl Try.isAgg2 rfl rfl) ?_
  refine AOps_q 10 _ rfl rfl rfl (QOp_sub _ _ _ _ _ _ _ rfl rfl rfl) ?_
  refine AOps_call [] 11 _ _ _ _ _ _ _ _ _ _ rfl rfl rfl rfl rfl rfl rfl Try.call62 rfl (nodupB_sound _ rfl) rfl rfl rfl (impl_in_ac p1 0 (w64 (p0.k - 1))) ?_
  rintro _ _ ⟨rfl, rfl⟩
  refine ⟨(fun _ h => nomatch h), (allc (trivial) (fun _ h => nomatch h)), AOps_as 11 (v' := bV (impl_in p1 0 (w64 (p0.k - 1)))) (H' := []) rfl rfl ?_⟩
  refine AOps_q 4 _ rfl rfl rfl (QOp_assign _ _ rfl rfl) ?_
  refine AOps_nil ?_
  refine ACode_ret ?_
  cases h
  exact ⟨_, _, fun r a w h => ⟨r, h⟩, _, _, [], _, (.cons (ResV_tmp _ _ rfl) .nil), rfl, rfl, rfl, rfl, rfl⟩

-- (*loop.example/g01362/impl.Colouring).colourCode$1
def impl_Colouring_colourCode_c1 (p0 : Col) (p1 : Int) (p2 : Bool) : Bool :=
  letO (if (impl_Colouring_hasColour p0 p1) then p2 else false) fun (s3 : Bool) => s3
set_option maxRecDepth 100000 in
theorem impl_Colouring_colourCode_c1_ac (p0 : Col) (p1 : Int) (p2 : Bool) : AC Try.prog 108 [.d (.pv ([.pv (colD p0) 0]) 0), .d (.pv ([iD p1]) 0), .d (.pv ([.s (.bool p2)]) 0)] [] (fun res H' => res = [bV (impl_Colouring_colourCode_c1 p0 p1 p2)] ∧ H' = []) := by
  refine AC_of_body true Try.func108 rfl Try.ntmps108 (rvs := [.tmp 3]) rfl rfl (fun G hG => ?_)
  have hm : G.H.length = 0 := by rw [hG]; rfl
  have hz : zeroG G.H = true := by rw [hG]; rfl
  obtain ⟨r, h⟩ : ∃ r, impl_Colouring_colourCode_c1 p0 p1 p2 = r := ⟨_, rfl⟩
  rw [h]
  unfold impl_Colouring_colourCode_c1 at h
  refine ACode_seq (ACode_region ?_)
  refine AOps_q 3 _ rfl rfl rfl (QOp_assign _ _ rfl rfl) ?_
  refine AOps_nil ?_
  obtain ⟨s3, hss3, hks3⟩ := letS h
  clear h
  refine ACode_seqJ (fun E' H' => Weak 10 G E' H' [(3, bV s3)] []) ?_ ?_
  · have h := hss3
    clear hss3
    refine (ACode_region ?_)
    refine AOps_q 4 _ rfl rfl rfl (QOp_load_pv _ _ _ _ _ rfl Try.isAgg99 rfl rfl) ?_
    refine AOps_q 5 _ rfl rfl rfl (QOp_load_pv _ _ _ _ _ rfl Try.isAgg2 rfl rfl) ?_
    refine AOps_call [] 6 _ _ _ _ _ _ _ _ _ _ rfl rfl rfl rfl rfl rfl rfl Try.call77 rfl (nodupB_sound _ rfl) rfl rfl rfl (impl_Colouring_hasColour_ac p0 p1) ?_
    rintro _ _ ⟨rfl, rfl⟩
    refine ⟨(fun _ h => nomatch h), (allc (trivial) (fun _ h => nomatch h)), AOps_as 6 (v' := bV (impl_Colouring_hasColour p0 p1)) (H' := []) rfl rfl ?_⟩
    refine AOps_q 7 _ rfl rfl rfl (QOp_move _ _ rfl rfl) ?_
    refine AOps_case 7 _ rfl (fun hb2 => ?_) (fun hb2 => ?_)
    · have h := iteT hb2 h
      refine AOps_q 8 _ rfl rfl rfl (QOp_load_pv _ _ _ _ _ rfl Try.isAgg4 rfl rfl) ?_
      refine AOps_q 9 _ rfl rfl rfl (QOp_pick_t _ _ _ _ rfl rfl rfl) ?_
      refine AOps_q 3 _ rfl rfl rfl (QOp_assign _ _ rfl rfl) ?_
      refine AOps_nil ?_
      cases h
      exact Weak_keep 0 hm [3] [] _ _ rfl rfl rfl
    · have h := iteF hb2 h
      refine AOps_skip 8 rfl rfl rfl ?_
      refine AOps_q 9 _ rfl rfl rfl (QOp_pick_f _ _ _ _ rfl rfl rfl) ?_
      refine AOps_q 3 _ rfl rfl rfl (QOp_assign _ _ rfl rfl) ?_
      refine AOps_nil ?_
      cases h
      exact Weak_keep 0 hm [3] [] _ _ rfl rfl rfl
  intro E' H' hw
  refine ACode_weak hw ?_
  have h := hks3
  refine ACode_ret ?_
  cases h
  exact ⟨_, _, fun r a w h => ⟨r, h⟩, _, _, [], _, (.cons (ResV_tmp _ _ rfl) .nil), rfl, rfl, rfl, rfl, rfl⟩

-- (*loop.example/g01362/impl.Colouring).colourCode
def impl_Colouring_colourCode (k : Nat) (p0 : Col) (p1 : Int) (p2 : Bool) : Option (Int) :=
  (impl_Colouring_code k p0 (some (impl_Colouring_colourCode_c1 p0 p1 p2))).bind fun r1 => some r1
set_option maxRecDepth 100000 in
theorem impl_Colouring_colourCode_ac (k : Nat) (p0 : Col) (p1 : Int) (p2 : Bool) (r : Int) (h : impl_Colouring_colourCode k p0 p1 p2 = some r) : AC Try.prog 48 [.d (.pv (colD p0) 0), iV p1, bV p2] [] (fun res H' => res = [iV r] ∧ H' = []) := by
  refine AC_of_body true Try.func48 rfl Try.ntmps48 (rvs := [.tmp 6]) rfl rfl (fun G hG => ?_)
  have hm : G.H.length = 0 := by rw [hG]; rfl
  have hz : zeroG G.H = true := by rw [hG]; rfl
  unfold impl_Colouring_colourCode at h
  refine ACode_seq (ACode_region ?_)
  refine AOps_boxI 3 _ _ (.pv (colD p0) 0) _ rfl (fun c hc => by cases hc with | head => rfl | tail _ h => cases h) rfl rfl rfl rfl rfl ?_
  refine AOps_boxI 4 _ _ (iD p1) _ rfl (fun c hc => by cases hc with | head => rfl | tail _ h => cases h) rfl rfl rfl rfl rfl ?_
  refine AOps_boxI 5 _ _ (.s (.bool p2)) _ rfl (fun c hc => by cases hc with | head => rfl | tail _ h => cases h) rfl rfl rfl rfl rfl ?_
  refine AOps_q 6 _ rfl rfl rfl (QOp_assign _ _ rfl rfl) ?_
  refine AOps_nil ?_
  refine ACode_seq (ACode_region ?_)
  refine AOps_q 7 _ rfl rfl rfl (QOp_load_pv _ _ _ _ _ rfl Try.isAgg99 rfl rfl) ?_
  refine AOps_q 8 _ rfl rfl rfl (QOp_makeFuncD _ _ _ _ rfl rfl rfl) ?_
  obtain ⟨r1, hr1, h⟩ := bindO h
  refine AOps_call [] 9 _ _ _ _ _ _ _ _ _ _ rfl rfl rfl rfl rfl rfl rfl Try.call68 rfl (nodupB_sound _ rfl) rfl rfl rfl (impl_Colouring_code_ac k p0 (some (impl_Colouring_colourCode_c1 p0 p1 p2)) 108 ([.pv ([.pv (colD p0) 0]) 0, .pv ([iD p1]) 0, .pv ([.s (.bool p2)]) 0]) Try.call108 (fun r h => by cases h; exact impl_Colouring_colourCode_c1_ac p0 p1 p2) _ hr1) ?_
  rintro _ _ ⟨rfl, rfl⟩
  refine ⟨(fun _ h => nomatch h), (allc (trivial) (fun _ h => nomatch h)), AOps_as 9 (v' := iV r1) (H' := []) rfl rfl ?_⟩
  refine AOps_q 6 _ rfl rfl rfl (QOp_assign _ _ rfl rfl) ?_
  refine AOps_nil ?_
  refine ACode_ret ?_
  cases h
  exact ⟨_, _, fun r a w h => ⟨r, h⟩, _, _, [], _, (.cons (ResV_tmp _ _ rfl) .nil), rfl, rfl, rfl, rfl, rfl⟩

-- math/bits.Mul64
def math_bits_Mul64 (p0 : Int) (p1 : Int) : Int × Int :=
  (IntKind.u64.wrap ((IntKind.u64.wrap ((IntKind.u64.wrap ((bShr .u64 p0 32) * (bShr .u64 p1 32))) + (bShr .u64 (IntKind.u64.wrap ((IntKind.u64.wrap ((bShr .u64 p0 32) * (bAnd .u64 p1 4294967295))) + (bShr .u64 (IntKind.u64.wrap ((bAnd .u64 p0 4294967295) * (bAnd .u64 p1 4294967295))) 32))) 32))) + (bShr .u64 (IntKind.u64.wrap ((bAnd .u64 (IntKind.u64.wrap ((IntKind.u64.wrap ((bShr .u64 p0 32) * (bAnd .u64 p1 4294967295))) + (bShr .u64 (IntKind.u64.wrap ((bAnd .u64 p0 4294967295) * (bAnd .u64 p1 4294967295))) 32))) 4294967295) + (IntKind.u64.wrap ((bAnd .u64 p0 4294967295) * (bShr .u64 p1 32))))) 32)), IntKind.u64.wrap (p0 * p1))
set_option maxRecDepth 100000 in
theorem math_bits_Mul64_ac (p0 : Int) (p1 : Int) : AC Try.prog 147 [.d (.s (.int .u64 p0)), .d (.s (.int .u64 p1))] [] (fun res H' => res = [.d (.s (.int .u64 ((math_bits_Mul64 p0 p1).1))), .d (.s (.int .u64 ((math_bits_Mul64 p0 p1).2)))] ∧ H' = []) := by
  refine AC_of_body true Try.func147 rfl Try.ntmps147 (rvs := [.tmp 4, .tmp 5]) rfl rfl (fun G hG => ?_)
  have hm : G.H.length = 0 := by rw [hG]; rfl
  have hz : zeroG G.H = true := by rw [hG]; rfl
  obtain ⟨r, h⟩ : ∃ r, math_bits_Mul64 p0 p1 = r := ⟨_, rfl⟩
  rw [h]
  unfold math_bits_Mul64 at h
  refine ACode_seq (ACode_region ?_)
  refine AOps_q 4 _ rfl rfl rfl (QOp_assign _ _ rfl rfl) ?_
  refine AOps_q 5 _ rfl rfl rfl (QOp_assign _ _ rfl rfl) ?_
  refine AOps_nil ?_
  refine ACode_seq (ACode_region ?_)
  refine AOps_q 14 _ rfl rfl rfl (QOp_move _ _ rfl rfl) ?_
  refine AOps_q 15 _ rfl rfl rfl (QOp_and _ _ _ _ _ _ _ rfl rfl rfl) ?_
  refine AOps_q 6 _ rfl rfl rfl (QOp_assign _ _ rfl rfl) ?_
  refine AOps_nil ?_
  refine ACode_seq (ACode_region ?_)
  refine AOps_q 16 _ rfl rfl rfl (QOp_move _ _ rfl rfl) ?_
  refine AOps_q 17 _ rfl rfl rfl (QOp_shr _ _ _ _ _ _ _ _ (by decide) rfl rfl rfl) ?_
  refine AOps_q 7 _ rfl rfl rfl (QOp_assign _ _ rfl rfl) ?_
  refine AOps_nil ?_
  refine ACode_seq (ACode_region ?_)
  refine AOps_q 18 _ rfl rfl rfl (QOp_move _ _ rfl rfl) ?_
  refine AOps_q 19 _ rfl rfl rfl (QOp_and _ _ _ _ _ _ _ rfl rfl rfl) ?_
  refine AOps_q 8 _ rfl rfl rfl (QOp_assign _ _ rfl rfl) ?_
  refine AOps_nil ?_
  refine ACode_seq (ACode_region ?_)
  refine AOps_q 20 _ rfl rfl rfl (QOp_move _ _ rfl rfl) ?_
  refine AOps_q 21 _ rfl rfl rfl (QOp_shr _ _ _ _ _ _ _ _ (by decide) rfl rfl rfl) ?_
  refine AOps_q 9 _ rfl rfl rfl (QOp_assign _ _ rfl rfl) ?_
  refine AOps_nil ?_
  refine ACode_seq (ACode_region ?_)
  refine AOps_q 22 _ rfl rfl rfl (QOp_move _ _ rfl rfl) ?_
  refine AOps_q 23 _ rfl rfl rfl (QOp_move _ _ rfl rfl) ?_
  refine AOps_q 24 _ rfl rfl rfl (QOp_mul _ _ _ _ _ _ _ rfl rfl rfl) ?_
  refine AOps_q 10 _ rfl rfl rfl (QOp_assign _ _ rfl rfl) ?_
  refine AOps_nil ?_
  refine ACode_seq (ACode_region ?_)
  refine AOps_q 25 _ rfl rfl rfl (QOp_move _ _ rfl rfl) ?_
  refine AOps_q 26 _ rfl rfl rfl (QOp_move _ _ rfl rfl) ?_
  refine AOps_q 27 _ rfl rfl rfl (QOp_mul _ _ _ _ _ _ _ rfl rfl rfl) ?_
  refine AOps_q 28 _ rfl rfl rfl (QOp_move _ _ rfl rfl) ?_
  refine AOps_q 29 _ rfl rfl rfl (QOp_shr _ _ _ _ _ _ _ _ (by decide) rfl rfl rfl) ?_
  refine AOps_q 30 _ rfl rfl rfl (QOp_add _ _ _ _ _ _ _ rfl rfl rfl) ?_
  refine AOps_q 11 _ rfl rfl rfl (QOp_assign _ _ rfl rfl) ?_
  refine AOps_nil ?_
  refine ACode_seq (ACode_region ?_)
  refine AOps_q 31 _ rfl rfl rfl (QOp_move _ _ rfl rfl) ?_
  refine AOps_q 32 _ rfl rfl rfl (QOp_and _ _ _ _ _ _ _ rfl rfl rfl) ?_
  refine AOps_q 12 _ rfl rfl rfl (QOp_assign _ _ rfl rfl) ?_
  refine AOps_nil ?_
  refine ACode_seq (ACode_region ?_)
  refine AOps_q 33 _ rfl rfl rfl (QOp_move _ _ rfl rfl) ?_
  refine AOps_q 34 _ rfl rfl rfl (QOp_shr _ _ _ _ _ _ _ _ (by decide) rfl rfl rfl) ?_
  refine AOps_q 13 _ rfl rfl rfl (QOp_assign _ _ rfl rfl) ?_
  refine AOps_nil ?_
  refine ACode_seq (ACode_region ?_)
  refine AOps_q 35 _ rfl rfl rfl (QOp_move _ _ rfl rfl) ?_
  refine AOps_q 36 _ rfl rfl rfl (QOp_move _ _ rfl rfl) ?_
  refine AOps_q 37 _ rfl rfl rfl (QOp_move _ _ rfl rfl) ?_
  refine AOps_q 38 _ rfl rfl rfl (QOp_mul _ _ _ _ _ _ _ rfl rfl rfl) ?_
  refine AOps_q 39 _ rfl rfl rfl (QOp_add _ _ _ _ _ _ _ rfl rfl rfl) ?_
  refine AOps_q 12 _ rfl rfl rfl (QOp_assign _ _ rfl rfl) ?_
  refine AOps_nil ?_
  refine ACode_seq (ACode_region ?_)
  refine AOps_q 40 _ rfl rfl rfl (QOp_move _ _ rfl rfl) ?_
  refine AOps_q 41 _ rfl rfl rfl (QOp_move _ _ rfl rfl) ?_
  refine AOps_q 42 _ rfl rfl rfl (QOp_mul _ _ _ _ _ _ _ rfl rfl rfl) ?_
  refine AOps_q 43 _ rfl rfl rfl (QOp_move _ _ rfl rfl) ?_
  refine AOps_q 44 _ rfl rfl rfl (QOp_add _ _ _ _ _ _ _ rfl rfl rfl) ?_
  refine AOps_q 45 _ rfl rfl rfl (QOp_move _ _ rfl rfl) ?_
  refine AOps_q 46 _ rfl rfl rfl (QOp_shr _ _ _ _ _ _ _ _ (by decide) rfl rfl rfl) ?_
  refine AOps_q 47 _ rfl rfl rfl (QOp_add _ _ _ _ _ _ _ rfl rfl rfl) ?_
  refine AOps_q 4 _ rfl rfl rfl (QOp_assign _ _ rfl rfl) ?_
  refine AOps_nil ?_
  refine ACode_seq (ACode_region ?_)
  refine AOps_q 48 _ rfl rfl rfl (QOp_move _ _ rfl rfl) ?_
  refine AOps_q 49 _ rfl rfl rfl (QOp_move _ _ rfl rfl) ?_
  refine AOps_q 50 _ rfl rfl rfl (QOp_mul _ _ _ _ _ _ _ rfl rfl rfl) ?_
  refine AOps_q 5 _ rfl rfl rfl (QOp_assign _ _ rfl rfl) ?_
  refine AOps_nil ?_
  refine ACode_ret ?_
  cases h
  exact ⟨_, _, fun r a w h => ⟨r, h⟩, _, _, [], _, (.cons (ResV_tmp _ _ rfl) (.cons (ResV_tmp _ _ rfl) .nil)), rfl, rfl, rfl, rfl, rfl⟩

-- math/bits.Mul
def math_bits_Mul (p0 : Int) (p1 : Int) : Int × Int :=
  ((math_bits_Mul64 p0 p1).1, (math_bits_Mul64 p0 p1).2)
set_option maxRecDepth 100000 in
theorem math_bits_Mul_ac (p0 : Int) (p1 : Int) : AC Try.prog 141 [.d (.s (.int .u64 p0)), .d (.s (.int .u64 p1))] [] (fun res H' => res = [.d (.s (.int .u64 ((math_bits_Mul p0 p1).1))), .d (.s (.int .u64 ((math_bits_Mul p0 p1).2)))] ∧ H' = []) := by
  refine AC_of_body true Try.func141 rfl Try.ntmps141 (rvs := [.tmp 4, .tmp 5]) rfl rfl (fun G hG => ?_)
  have hm : G.H.length = 0 := by rw [hG]; rfl
  have hz : zeroG G.H = true := by rw [hG]; rfl
  obtain ⟨r, h⟩ : ∃ r, math_bits_Mul p0 p1 = r := ⟨_, rfl⟩
  rw [h]
  unfold math_bits_Mul at h
  refine ACode_seq (ACode_region ?_)
  refine AOps_q 4 _ rfl rfl rfl (QOp_assign _ _ rfl rfl) ?_
  refine AOps_q 5 _ rfl rfl rfl (QOp_assign _ _ rfl rfl) ?_
  refine AOps_nil ?_
  refine ACode_seq ?_
  refine ACode_condF rfl ?_
  refine ACode_skip ?_
  refine ACode_seq (ACode_region ?_)
  refine AOps_q 23 _ rfl rfl rfl (QOp_move _ _ rfl rfl) ?_
  refine AOps_q 24 _ rfl rfl rfl (QOp_move _ _ rfl rfl) ?_
  refine AOps_call [] 25 _ _ _ _ _ _ _ _ _ _ rfl rfl rfl rfl rfl rfl rfl Try.call147 rfl (nodupB_sound _ rfl) rfl rfl rfl (math_bits_Mul64_ac p0 p1) ?_
  rintro _ _ ⟨rfl, rfl⟩
  refine ⟨(fun _ h => nomatch h), (allc (trivial) (allc (trivial) (fun _ h => nomatch h))), AOps_as 25 (v' := .tup [.d (.s (.int .u64 ((math_bits_Mul64 p0 p1).1))), .d (.s (.int .u64 ((math_bits_Mul64 p0 p1).2)))]) (H' := []) rfl rfl ?_⟩
  refine AOps_q 22 _ rfl rfl rfl (QOp_move _ _ rfl rfl) ?_
  refine AOps_q 26 _ rfl rfl rfl (QOp_extract _ _ _ _ rfl rfl rfl) ?_
  refine AOps_q 27 _ rfl rfl rfl (QOp_extract _ _ _ _ rfl rfl rfl) ?_
  refine AOps_q 8 _ rfl rfl rfl (QOp_assign _ _ rfl rfl) ?_
  refine AOps_q 9 _ rfl rfl rfl (QOp_assign _ _ rfl rfl) ?_
  refine AOps_nil ?_
  refine ACode_seq (ACode_region ?_)
  refine AOps_q 28 _ rfl rfl rfl (QOp_move _ _ rfl rfl) ?_
  refine AOps_q 29 _ rfl rfl rfl (QOp_move _ _ rfl rfl) ?_
  refine AOps_q 4 _ rfl rfl rfl (QOp_assign _ _ rfl rfl) ?_
  refine AOps_q 5 _ rfl rfl rfl (QOp_assign _ _ rfl rfl) ?_
  refine AOps_nil ?_
  refine ACode_ret ?_
  cases h
  exact ⟨_, _, fun r a w h => ⟨r, h⟩, _, _, [], _, (.cons (ResV_tmp _ _ rfl) (.cons (ResV_tmp _ _ rfl) .nil)), rfl, rfl, rfl, rfl, rfl⟩

-- slices.Repeat[[]int64,int64]
def slices_Repeat_l0 : Nat → Int → (List Int) → Option (List Int)
  | 0, _, _ => none
  | k0 + 1, x9, x10 => (if decide (x9 < (x10.length : Int)) then (if 0 ≤ x9 ∧ x9 ≤ ((x10.length : Nat) : Int) ∧ ((x10.length : Nat) : Int) ≤ ((x10.length : Nat) : Int) then (if 0 ≤ 0 ∧ 0 ≤ x9 ∧ x9 ≤ ((x10.length : Nat) : Int) then slices_Repeat_l0 k0 (w64 (x9 + ((min ((x10.drop 0).take (x9.toNat - 0)).length ((x10.length - x9.toNat)) : Nat) : Int))) (splicedL x10 x9.toNat ((x10.length - x9.toNat)) ((x10.drop 0).take (x9.toNat - 0))) else none) else none) else some x10)
def slices_Repeat (k : Nat) (p0 : List Int) (p1 : Int) : Option (List Int) :=
  ((if decide (p1 < 0) then none else some ()) : Option (Unit)).bind fun s2 => (letO (if decide (0 < (math_bits_Mul (IntKind.u64.wrap (p0.length : Int)) (IntKind.u64.wrap p1)).1) then true else decide (9223372036854775807 < (math_bits_Mul (IntKind.u64.wrap (p0.length : Int)) (IntKind.u64.wrap p1)).2)) fun (s5 : Bool) => (if s5 then none else some ()) : Option (Unit)).bind fun s7 => (if 0 ≤ w64 ((math_bits_Mul (IntKind.u64.wrap (p0.length : Int)) (IntKind.u64.wrap p1)).2) ∧ w64 ((math_bits_Mul (IntKind.u64.wrap (p0.length : Int)) (IntKind.u64.wrap p1)).2) ≤ w64 ((math_bits_Mul (IntKind.u64.wrap (p0.length : Int)) (IntKind.u64.wrap p1)).2) ∧ w64 ((math_bits_Mul (IntKind.u64.wrap (p0.length : Int)) (IntKind.u64.wrap p1)).2) ≤ 1099511627776 then (slices_Repeat_l0 k ((min p0.length ((List.replicate (w64 ((math_bits_Mul (IntKind.u64.wrap (p0.length : Int)) (IntKind.u64.wrap p1)).2)).toNat (0 : Int)).length) : Nat) : Int) (splicedL (List.replicate (w64 ((math_bits_Mul (IntKind.u64.wrap (p0.length : Int)) (IntKind.u64.wrap p1)).2)).toNat (0 : Int)) 0 ((List.replicate (w64 ((math_bits_Mul (IntKind.u64.wrap (p0.length : Int)) (IntKind.u64.wrap p1)).2)).toNat (0 : Int)).length) p0) : Option (List Int)).bind fun s16 => some s16 else none)
set_option maxRecDepth 100000 in
theorem slices_Repeat_ac (k : Nat) (p0 : List Int) (p1 : Int) (r : List Int) (h : slices_Repeat k p0 p1 = some r) : AC Try.prog 126 [.d (.sl none (intsD p0)), iV p1] [] (fun res H' => res = [.vec 0 0] ∧ H' = [.vec 0 (intsD r)]) := by
  refine AC_of_body true Try.func126 rfl Try.ntmps126 (rvs := [.tmp 4]) rfl rfl (fun G hG => ?_)
  have hm : G.H.length = 0 := by rw [hG]; rfl
  have hz : zeroG G.H = true := by rw [hG]; rfl
  unfold slices_Repeat at h
  refine ACode_seq (ACode_region ?_)
  refine AOps_q 4 _ rfl rfl rfl (QOp_assign _ _ rfl rfl) ?_
  refine AOps_nil ?_
  obtain ⟨s2, hss2, hks2⟩ := bindO h
  clear h
  refine ACode_seqJ (fun E' H' => Weak 48 G E' H' [(0, .d (.sl none (intsD p0))), (1, iV p1)] []) ?_ ?_
  · have h := hss2
    clear hss2
    refine ACode_seq (ACode_region ?_)
    refine AOps_q 9 _ rfl rfl rfl (QOp_move _ _ rfl rfl) ?_
    refine AOps_q 10 _ rfl rfl rfl (QOp_lss _ _ _ _ _ _ _ rfl rfl rfl) ?_
    refine AOps_nil ?_
    refine ACode_cond _ rfl (fun hb1 => ?_) (fun hb1 => ?_)
    · have h := iteT hb1 h
      refine (ACode_region ?_)
      cases h
    · have h := iteF hb1 h
      refine ACode_skip ?_
      cases h
      exact Weak_keep 0 hm [0, 1] [] _ _ rfl rfl rfl
  intro E' H' hw
  refine ACode_weak hw ?_
  have h := hks2
  refine ACode_seq (ACode_region ?_)
  refine AOps_q 13 _ rfl rfl rfl (QOp_move _ _ rfl rfl) ?_
  refine AOps_q 14 _ rfl rfl rfl (QOp_len_sl _ _ _ _ _ _ _ (intsD_length _) rfl rfl rfl rfl Try.underlying29 rfl) ?_
  refine AOps_q 15 _ rfl rfl rfl (QOp_conv _ _ _ _ _ _ rfl rfl Try.underlying102 rfl) ?_
  refine AOps_q 16 _ rfl rfl rfl (QOp_move _ _ rfl rfl) ?_
  refine AOps_q 17 _ rfl rfl rfl (QOp_conv _ _ _ _ _ _ rfl rfl Try.underlying102 rfl) ?_
  refine AOps_call [] 18 _ _ _ _ _ _ _ _ _ _ rfl rfl rfl rfl rfl rfl rfl Try.call141 rfl (nodupB_sound _ rfl) rfl rfl rfl (math_bits_Mul_ac (IntKind.u64.wrap (p0.length : Int)) (IntKind.u64.wrap p1)) ?_
  rintro _ _ ⟨rfl, rfl⟩
  refine ⟨(fun _ h => nomatch h), (allc (trivial) (allc (trivial) (fun _ h => nomatch h))), AOps_as 18 (v' := .tup [.d (.s (.int .u64 ((math_bits_Mul (IntKind.u64.wrap (p0.length : Int)) (IntKind.u64.wrap p1)).1))), .d (.s (.int .u64 ((math_bits_Mul (IntKind.u64.wrap (p0.length : Int)) (IntKind.u64.wrap p1)).2)))]) (H' := []) rfl rfl ?_⟩
  refine AOps_q 12 _ rfl rfl rfl (QOp_move _ _ rfl rfl) ?_
  refine AOps_q 19 _ rfl rfl rfl (QOp_extract _ _ _ _ rfl rfl rfl) ?_
  refine AOps_q 20 _ rfl rfl rfl (QOp_extract _ _ _ _ rfl rfl rfl) ?_
  refine AOps_q 5 _ rfl rfl rfl (QOp_assign _ _ rfl rfl) ?_
  refine AOps_q 6 _ rfl rfl rfl (QOp_assign _ _ rfl rfl) ?_
  refine AOps_nil ?_
  obtain ⟨s7, hss7, hks7⟩ := bindO h
  clear h
  refine ACode_seqJ (fun E' H' => Weak 48 G E' H' [(0, .d (.sl none (intsD p0))), (6, .d (.s (.int .u64 ((math_bits_Mul (IntKind.u64.wrap (p0.length : Int)) (IntKind.u64.wrap p1)).2))))] []) ?_ ?_
  · have h := hss7
    clear hss7
    obtain ⟨s5, hss5, hks5⟩ := letS h
    clear h
    refine ACode_seqJ (fun E' H' => Weak 48 G E' H' [(0, .d (.sl none (intsD p0))), (6, .d (.s (.int .u64 ((math_bits_Mul (IntKind.u64.wrap (p0.length : Int)) (IntKind.u64.wrap p1)).2)))), (26, bV s5)] []) ?_ ?_
    · have h := hss5
      clear hss5
      refine (ACode_region ?_)
      refine AOps_q 21 _ rfl rfl rfl (QOp_move _ _ rfl rfl) ?_
      refine AOps_q 22 _ rfl rfl rfl (QOp_gtr _ _ _ _ _ _ _ rfl rfl rfl) ?_
      refine AOps_q 23 _ rfl rfl rfl (QOp_move _ _ rfl rfl) ?_
      refine AOps_case 23 _ rfl (fun hb4 => ?_) (fun hb4 => ?_)
      · have h := iteT hb4 h
        refine AOps_skip 24 rfl rfl rfl ?_
        refine AOps_skip 25 rfl rfl rfl ?_
        refine AOps_q 26 _ rfl rfl rfl (QOp_pick_t _ _ _ _ rfl rfl rfl) ?_
        refine AOps_nil ?_
        cases h
        exact Weak_keep 0 hm [0, 6, 26] [] _ _ rfl rfl rfl
      · have h := iteF hb4 h
        refine AOps_q 24 _ rfl rfl rfl (QOp_move _ _ rfl rfl) ?_
        refine AOps_q 25 _ rfl rfl rfl (QOp_gtr _ _ _ _ _ _ _ rfl rfl rfl) ?_
        refine AOps_q 26 _ rfl rfl rfl (QOp_pick_f _ _ _ _ rfl rfl rfl) ?_
        refine AOps_nil ?_
        cases h
        exact Weak_keep 0 hm [0, 6, 26] [] _ _ rfl rfl rfl
    intro E' H' hw
    refine ACode_weak hw ?_
    have h := hks5
    refine ACode_cond _ rfl (fun hb6 => ?_) (fun hb6 => ?_)
    · have h := iteT hb6 h
      refine (ACode_region ?_)
      cases h
    · have h := iteF hb6 h
      refine ACode_skip ?_
      cases h
      exact Weak_keep 0 hm [0, 6] [] _ _ rfl rfl rfl
  intro E' H' hw
  refine ACode_weak hw ?_
  have h := hks7
  refine ACode_seq (ACode_region ?_)
  refine AOps_q 28 _ rfl rfl rfl (QOp_move _ _ rfl rfl) ?_
  refine AOps_q 29 _ rfl rfl rfl (QOp_conv _ _ _ _ _ _ rfl rfl Try.underlying3 rfl) ?_
  obtain ⟨hc8, h⟩ := guardO h
  refine AOps_makeSliceG intsD iD 0 (intsD_rep · _) 30 _ _ _ _ _ _ (w64 ((math_bits_Mul (IntKind.u64.wrap (p0.length : Int)) (IntKind.u64.wrap p1)).2)) (w64 ((math_bits_Mul (IntKind.u64.wrap (p0.length : Int)) (IntKind.u64.wrap p1)).2)) _ (.int .i64 0) rfl rfl rfl rfl rfl rfl Try.underlying29 Try.type2 rfl rfl (by decide) rfl rfl hc8.1 hc8.2.1 hc8.2.2 ?_
  refine AOps_q 7 _ rfl rfl rfl (QOp_assign _ _ rfl rfl) ?_
  refine AOps_nil ?_
  refine ACode_seq (ACode_region ?_)
  refine AOps_q 31 _ rfl rfl rfl (QOp_move _ _ rfl rfl) ?_
  refine AOps_q 32 _ rfl rfl rfl (QOp_move _ _ rfl rfl) ?_
  refine AOps_copy 33 _ _ _ _ _ _ _ 0 0 0 _ ((List.replicate (w64 ((math_bits_Mul (IntKind.u64.wrap (p0.length : Int)) (IntKind.u64.wrap p1)).2)).toNat (0 : Int)).length) _ (intsD (List.replicate (w64 ((math_bits_Mul (IntKind.u64.wrap (p0.length : Int)) (IntKind.u64.wrap p1)).2)).toNat (0 : Int))) (intsD p0) rfl rfl rfl rfl rfl rfl rfl Try.underlying29 (by kernel_rfl) rfl rfl (intsD_length _) rfl rfl rfl (intsD_one _) (min p0.length ((List.replicate (w64 ((math_bits_Mul (IntKind.u64.wrap (p0.length : Int)) (IntKind.u64.wrap p1)).2)).toNat (0 : Int)).length)) (by rw [intsD_length]) ?_
  rw [intsD_spl]
  refine AOps_q 8 _ rfl rfl rfl (QOp_assign _ _ rfl rfl) ?_
  refine AOps_nil ?_
  obtain ⟨s16, hss16, hks16⟩ := bindO h
  clear h
  refine ACode_seqJ (fun E' H' => Weak 48 G E' H' [(7, .vec 0 0)] [.vec 0 (intsD s16)]) ?_ ?_
  · have h := hss16
    clear hss16
    refine ACode_block ?_
    refine ACode_loopW (fun k0 E H => ∃ (x9 : Int) (x10 : List Int), E = [(7, .vec 0 0), (8, iV x9)] ∧ H = [.vec 0 (intsD x10)] ∧ slices_Repeat_l0 k0 x9 x10 = some s16) k _ _ (Weak_keep 0 hm [7, 8] [0] _ _ rfl rfl rfl) ⟨_, _, rfl, rfl, h⟩ ?_
    clear h
    rintro k0 E H ⟨x9, x10, rfl, rfl, h⟩
    cases k0 with
    | zero => cases (show (none : Option (List Int)) = some _ from h)
    | succ k0 =>
      rw [slices_Repeat_l0] at h
      refine ACode_seq ?_
      refine ACode_seq (ACode_region ?_)
      refine AOps_q 34 _ rfl rfl rfl (QOp_move _ _ rfl rfl) ?_
      refine AOps_q 35 _ rfl rfl rfl (QOp_move _ _ rfl rfl) ?_
      refine AOps_q 36 _ rfl rfl rfl (QOp_len_vec _ _ _ _ _ _ _ _ (intsD_length _) rfl rfl rfl rfl Try.underlying29 rfl rfl) ?_
      refine AOps_q 37 _ rfl rfl rfl (QOp_lss _ _ _ _ _ _ _ rfl rfl rfl) ?_
      refine AOps_nil ?_
      refine ACode_cond _ rfl (fun hb11 => ?_) (fun hb11 => ?_)
      · have h := iteT hb11 h
        refine ACode_skip ?_
        refine ACode_block ?_
        refine ACode_anyU mixed ?_
        refine AU_u 0 38 _ rfl (by kernel_rfl) rfl rfl rfl (UOp_move _ _ rfl rfl) ?_
        refine AU_u 1 39 _ rfl (by kernel_rfl) rfl rfl rfl (UOp_move _ _ rfl rfl) ?_
        refine AU_u 2 40 _ rfl (by kernel_rfl) rfl rfl rfl (UOp_move _ _ rfl rfl) ?_
        obtain ⟨hc13, h⟩ := guardO h
        refine AU_u 3 41 _ rfl (by kernel_rfl) rfl rfl rfl (UOp_cut _ _ _ _ _ _ _ _ _ _ _ (x9.toNat) (x10.length) rfl Try.underlying29 Try.sizeOf2 rfl rfl rfl (by exact ⟨_, by rw [Int.toNat_of_nonneg (by omega)]; rfl⟩) (intsD_length _).symm (by omega) (by rw [intsD_length]; omega) _ (Nat.zero_add _) _ rfl) ?_
        refine AU_u 4 42 _ rfl (by kernel_rfl) rfl rfl rfl (UOp_move _ _ rfl rfl) ?_
        refine AU_u 5 43 _ rfl (by kernel_rfl) rfl rfl rfl (UOp_move _ _ rfl rfl) ?_
        obtain ⟨hc15, h⟩ := guardO h
        refine AU_u 6 44 _ rfl (by kernel_rfl) rfl rfl rfl (UOp_cut _ _ _ _ _ _ _ _ _ _ _ (0) (x9.toNat) rfl Try.underlying29 Try.sizeOf2 rfl rfl rfl rfl (by exact ⟨_, by rw [Int.toNat_of_nonneg (by omega)]; rfl⟩) (by omega) (by rw [intsD_length]; omega) _ (Nat.zero_add _) _ rfl) ?_
        refine AU_all [7] (by kernel_rfl) rfl (allc ?_ (fun _ h => nomatch h))
        refine US_of 7 rfl rfl ?_
        refine AOps_copy 45 _ _ _ _ _ _ _ 0 0 x9.toNat _ ((x10.length - x9.toNat)) _ (intsD x10) (intsD ((x10.drop 0).take (x9.toNat - 0))) rfl rfl rfl rfl rfl rfl rfl Try.underlying29 (by kernel_rfl) rfl rfl rfl rfl rfl (by rw [intsD_dt]; rfl) (intsD_one _) (min ((x10.drop 0).take (x9.toNat - 0)).length ((x10.length - x9.toNat))) (by rw [intsD_length]) ?_
        rw [intsD_spl]
        refine AOps_nil ?_
        refine AU_u 8 46 _ rfl (by kernel_rfl) rfl rfl rfl (UOp_add _ _ _ _ _ _ _ rfl rfl rfl) ?_
        refine AU_u 9 8 _ rfl (by kernel_rfl) rfl rfl rfl (UOp_assign _ _ rfl rfl) ?_
        refine AU_done (by kernel_rfl) ?_
        exact ⟨k0, _, _, Nat.lt_succ_self _, Weak_keep 0 hm [7, 8] [0] _ _ rfl rfl rfl, _, _, rfl, rfl, h⟩
      · have h := iteF hb11 h
        refine ACode_exit ?_
        cases h
        exact Weak_keep 0 hm [7] [0] _ _ rfl rfl rfl
  intro E' H' hw
  refine ACode_weak hw ?_
  have h := hks16
  refine ACode_seq (ACode_region ?_)
  refine AOps_q 47 _ rfl rfl rfl (QOp_move _ _ rfl rfl) ?_
  refine AOps_q 4 _ rfl rfl rfl (QOp_assign _ _ rfl rfl) ?_
  refine AOps_nil ?_
  refine ACode_ret ?_
  cases h
  exact ⟨_, _, Weak_reset 0 hm hz [4] _ _ rfl rfl, _, _, [0], _, (.cons (ResV_tmp _ _ rfl) .nil), rfl, rfl, rfl, rfl, rfl⟩

-- (*loop.example/g01362/impl.Colouring).that
def impl_Colouring_that_l0 (p0 : Col) (p1 : Int → Option (Bool)) : Nat → Int → (List Int) → Option (List Int)
  | 0, _, _ => none
  | k0 + 1, x1, x2 => (if decide (x1 < p0.p) then ((p1 x1).bind fun r4 => (if r4 then (if x2.length + ([x1]).length ≤ 1099511627776 then some (x2 ++ ([x1])) else none) else some x2) : Option (List Int)).bind fun s7 => impl_Colouring_that_l0 p0 p1 k0 (w64 (x1 + 1)) s7 else some x2)
def impl_Colouring_that (k : Nat) (p0 : Col) (p1 : Int → Option (Bool)) : Option (List Int) :=
  (impl_Colouring_that_l0 p0 p1 k 0 ([] : List Int) : Option (List Int)).bind fun s8 => some s8
set_option maxRecDepth 100000 in
theorem impl_Colouring_that_ac (k : Nat) (p0 : Col) (p1 : Int → Option (Bool)) (g_p1 : FuncId) (c_p1 : List D) (hg_p1 : ∀ args w, (callFunc g_p1 args).run Try.prog w = .ok (.enter g_p1 args) w) (hf_p1 : ∀ (a0 : Int) (r : Bool), p1 a0 = some r → AC Try.prog g_p1 ([iV a0] ++ c_p1.map AV.d) [] (fun res H' => res = [bV r] ∧ H' = [])) (r : List Int) (h : impl_Colouring_that k p0 p1 = some r) : AC Try.prog 70 [.d (.pv (colD p0) 0), .d (.clo g_p1 c_p1)] [] (fun res H' => res = [.vec 0 0] ∧ H' = [.vec 0 (intsD r)]) := by
  refine AC_of_body true Try.func70 rfl Try.ntmps70 (rvs := [.tmp 4]) rfl rfl (fun G hG => ?_)
  have hm : G.H.length = 0 := by rw [hG]; rfl
  have hz : zeroG G.H = true := by rw [hG]; rfl
  unfold impl_Colouring_that at h
  refine ACode_seq (ACode_region ?_)
  refine AOps_q 4 _ rfl rfl rfl (QOp_assign _ _ rfl rfl) ?_
  refine AOps_nil ?_
  refine ACode_seq (ACode_region ?_)
  refine AOps_buildSlice 7 _ _ _ [] (intsD ([] : List Int)) _ rfl rfl rfl rfl rfl (by decide) Try.underlying29 Try.sizeOf2 (zero_of Try.typeInfo2 rfl) rfl rfl (intsD_one _) ?_
  refine AOps_q 5 _ rfl rfl rfl (QOp_assign _ _ rfl rfl) ?_
  refine AOps_nil ?_
  obtain ⟨s8, hss8, hks8⟩ := bindO h
  clear h
  refine ACode_seqJ (fun E' H' => Weak 24 G E' H' [(5, .vec 0 0)] [.vec 0 (intsD s8)]) ?_ ?_
  · have h := hss8
    clear hss8
    refine ACode_seq (ACode_region ?_)
    refine AOps_q 8 _ rfl rfl rfl (QOp_move _ _ rfl rfl) ?_
    refine AOps_q 9 _ rfl rfl rfl (QOp_nilCheck_pv _ _ _ rfl rfl) ?_
    refine AOps_q 10 _ rfl rfl rfl (QOp_fieldAddr_pv _ _ _ _ _ 0 _ _ rfl Try.underlying26 rfl _ Try.sizeOf2 rfl rfl) ?_
    refine AOps_q 11 _ rfl rfl rfl (QOp_load_pv _ _ _ _ _ rfl Try.isAgg2 rfl rfl) ?_
    refine AOps_q 12 _ rfl rfl rfl (QOp_move _ _ rfl rfl) ?_
    refine AOps_nil ?_
    refine ACode_block ?_
    refine ACode_loopW (fun k0 E H => ∃ (x1 : Int) (x2 : List Int), E = [(1, .d (.clo g_p1 c_p1)), (5, .vec 0 0), (11, iV p0.p), (12, iV x1)] ∧ H = [.vec 0 (intsD x2)] ∧ impl_Colouring_that_l0 p0 p1 k0 x1 x2 = some s8) k _ _ (Weak_keep 0 hm [1, 5, 11, 12] [0] _ _ rfl rfl rfl) ⟨_, _, rfl, rfl, h⟩ ?_
    clear h
    rintro k0 E H ⟨x1, x2, rfl, rfl, h⟩
    cases k0 with
    | zero => cases (show (none : Option (List Int)) = some _ from h)
    | succ k0 =>
      rw [impl_Colouring_that_l0] at h
      refine ACode_seq (ACode_region ?_)
      refine AOps_q 13 _ rfl rfl rfl (QOp_lss _ _ _ _ _ _ _ rfl rfl rfl) ?_
      refine AOps_nil ?_
      refine ACode_seq ?_
      refine ACode_cond _ rfl (fun hb3 => ?_) (fun hb3 => ?_)
      · have h := iteT hb3 h
        refine ACode_skip ?_
        obtain ⟨s7, hss7, hks7⟩ := bindO h
        clear h
        refine ACode_seqJ (fun E' H' => Weak 24 G E' H' [(1, .d (.clo g_p1 c_p1)), (5, .vec 0 0), (11, iV p0.p), (12, iV x1)] [.vec 0 (intsD s7)]) ?_ ?_
        · have h := hss7
          clear hss7
          refine ACode_block ?_
          refine ACode_seq (ACode_region ?_)
          refine AOps_q 14 _ rfl rfl rfl (QOp_move _ _ rfl rfl) ?_
          refine AOps_q 6 _ rfl rfl rfl (QOp_assign _ _ rfl rfl) ?_
          refine AOps_nil ?_
          refine ACode_seq (ACode_region ?_)
          refine AOps_q 15 _ rfl rfl rfl (QOp_move _ _ rfl rfl) ?_
          refine AOps_q 16 _ rfl rfl rfl (QOp_move _ _ rfl rfl) ?_
          obtain ⟨r4, hr4, h⟩ := bindO h
          refine AOps_call [] 17 _ _ _ _ _ _ _ _ _ _ rfl rfl rfl rfl rfl rfl rfl hg_p1 rfl (nodupB_sound _ rfl) rfl rfl (viewA_mapD _) (hf_p1 x1 _ hr4) ?_
          rintro _ _ ⟨rfl, rfl⟩
          refine ⟨(fun _ h => nomatch h), (allc (trivial) (fun _ h => nomatch h)), AOps_as 17 (v' := bV r4) (H' := [.vec 0 (intsD x2)]) rfl rfl ?_⟩
          refine AOps_nil ?_
          refine ACode_cond _ rfl (fun hb5 => ?_) (fun hb5 => ?_)
          · have h := iteT hb5 h
            refine (ACode_region ?_)
            refine AOps_q 18 _ rfl rfl rfl (QOp_move _ _ rfl rfl) ?_
            refine AOps_q 19 _ rfl rfl rfl (QOp_move _ _ rfl rfl) ?_
            refine AOps_buildSlice 20 _ _ _ [_] (intsD ([x1])) _ rfl rfl rfl rfl rfl (by decide) Try.underlying29 Try.sizeOf2 (zero_of Try.typeInfo2 rfl) rfl rfl (intsD_one _) ?_
            obtain ⟨hc6, h⟩ := guardO h
            refine AOps_append 21 _ _ _ _ _ _ _ _ _ _ _ _ rfl rfl rfl rfl rfl rfl rfl Try.underlying29 Try.type2 rfl rfl rfl (by decide) rfl rfl rfl rfl (intsD_one _) (by rw [intsD_length, intsD_length]; exact hc6) ?_
            rw [intsD_app]
            refine AOps_q 5 _ rfl rfl rfl (QOp_assign _ _ rfl rfl) ?_
            refine AOps_nil ?_
            cases h
            exact Weak_trans (Weak_keep 0 hm [1, 5, 11, 12] [0] _ _ rfl rfl rfl) (Weak_reset 0 hm hz [1, 5, 11, 12] _ _ rfl rfl)
          · have h := iteF hb5 h
            refine ACode_skip ?_
            cases h
            exact Weak_keep 0 hm [1, 5, 11, 12] [0] _ _ rfl rfl rfl
        intro E' H' hw
        refine ACode_weak hw ?_
        have h := hks7
        refine (ACode_region ?_)
        refine AOps_q 22 _ rfl rfl rfl (QOp_add _ _ _ _ _ _ _ rfl rfl rfl) ?_
        refine AOps_q 12 _ rfl rfl rfl (QOp_move _ _ rfl rfl) ?_
        refine AOps_nil ?_
        exact ⟨k0, _, _, Nat.lt_succ_self _, Weak_keep 0 hm [1, 5, 11, 12] [0] _ _ rfl rfl rfl, _, _, rfl, rfl, h⟩
      · have h := iteF hb3 h
        refine ACode_exit ?_
        cases h
        exact Weak_keep 0 hm [5] [0] _ _ rfl rfl rfl
  intro E' H' hw
  refine ACode_weak hw ?_
  have h := hks8
  refine ACode_seq (ACode_region ?_)
  refine AOps_q 23 _ rfl rfl rfl (QOp_move _ _ rfl rfl) ?_
  refine AOps_q 4 _ rfl rfl rfl (QOp_assign _ _ rfl rfl) ?_
  refine AOps_nil ?_
  refine ACode_ret ?_
  cases h
  exact ⟨_, _, Weak_reset 0 hm hz [4] _ _ rfl rfl, _, _, [0], _, (.cons (ResV_tmp _ _ rfl) .nil), rfl, rfl, rfl, rfl, rfl⟩

-- loop.example/g01362/impl.number
def impl_number (p0 : Int) (p1 : Int) : Int :=
  w64 ((w64 ((w64 ((if p0 < p1 then p1 else p0) * (w64 ((if p0 < p1 then p1 else p0) - 1)))).tdiv 2)) + (if p1 < p0 then p1 else p0))
set_option maxRecDepth 100000 in
theorem impl_number_ac (p0 : Int) (p1 : Int) : AC Try.prog 109 [iV p0, iV p1] [] (fun res H' => res = [iV (impl_number p0 p1)] ∧ H' = []) := by
  refine AC_of_body true Try.func109 rfl Try.ntmps109 (rvs := [.tmp 4]) rfl rfl (fun G hG => ?_)
  have hm : G.H.length = 0 := by rw [hG]; rfl
  have hz : zeroG G.H = true := by rw [hG]; rfl
  obtain ⟨r, h⟩ : ∃ r, impl_number p0 p1 = r := ⟨_, rfl⟩
  rw [h]
  unfold impl_number at h
  refine ACode_seq (ACode_region ?_)
  refine AOps_q 4 _ rfl rfl rfl (QOp_assign _ _ rfl rfl) ?_
  refine AOps_nil ?_
  refine ACode_seq (ACode_region ?_)
  refine AOps_q 5 _ rfl rfl rfl (QOp_move _ _ rfl rfl) ?_
  refine AOps_q 6 _ rfl rfl rfl (QOp_move _ _ rfl rfl) ?_
  refine AOps_q 7 _ rfl rfl rfl (QOp_min _ _ _ _ _ _ rfl rfl rfl rfl rfl) ?_
  refine AOps_q 8 _ rfl rfl rfl (QOp_move _ _ rfl rfl) ?_
  refine AOps_q 9 _ rfl rfl rfl (QOp_move _ _ rfl rfl) ?_
  refine AOps_q 10 _ rfl rfl rfl (QOp_max _ _ _ _ _ _ rfl rfl rfl rfl rfl) ?_
  refine AOps_q 0 _ rfl rfl rfl (QOp_assign _ _ rfl rfl) ?_
  refine AOps_q 1 _ rfl rfl rfl (QOp_assign _ _ rfl rfl) ?_
  refine AOps_nil ?_
  refine ACode_seq (ACode_region ?_)
  refine AOps_q 11 _ rfl rfl rfl (QOp_move _ _ rfl rfl) ?_
  refine AOps_q 12 _ rfl rfl rfl (QOp_move _ _ rfl rfl) ?_
  refine AOps_q 13 _ rfl rfl rfl (QOp_sub _ _ _ _ _ _ _ rfl rfl rfl) ?_
  refine AOps_q 14 _ rfl rfl rfl (QOp_mul _ _ _ _ _ _ _ rfl rfl rfl) ?_
  refine AOps_q 15 _ rfl rfl rfl (QOp_quo _ _ _ _ _ _ _ (by decide) rfl rfl rfl) ?_
  refine AOps_q 16 _ rfl rfl rfl (QOp_move _ _ rfl rfl) ?_
  refine AOps_q 17 _ rfl rfl rfl (QOp_add _ _ _ _ _ _ _ rfl rfl rfl) ?_
  refine AOps_q 4 _ rfl rfl rfl (QOp_assign _ _ rfl rfl) ?_
  refine AOps_nil ?_
  refine ACode_ret ?_
  cases h
  exact ⟨_, _, fun r a w h => ⟨r, h⟩, _, _, [], _, (.cons (ResV_tmp _ _ rfl) .nil), rfl, rfl, rfl, rfl, rfl⟩

-- (*loop.example/g01362/impl.Colouring).at
def impl_Colouring_at (p0 : Col) (p1 : Int) (p2 : Int) : Option (Int) :=
  (if 0 ≤ (impl_number p1 p2) ∧ (impl_number p1 p2) < 136 then some ((p0.get ((impl_number p1 p2).toNat)).toNat : Int) else none)
set_option maxRecDepth 100000 in
theorem impl_Colouring_at_ac (p0 : Col) (p1 : Int) (p2 : Int) (r : Int) (h : impl_Colouring_at p0 p1 p2 = some r) : AC Try.prog 51 [.d (.pv (colD p0) 0), iV p1, iV p2] [] (fun res H' => res = [iV r] ∧ H' = []) := by
  refine AC_of_body true Try.func51 rfl Try.ntmps51 (rvs := [.tmp 6]) rfl rfl (fun G hG => ?_)
  have hm : G.H.length = 0 := by rw [hG]; rfl
  have hz : zeroG G.H = true := by rw [hG]; rfl
  unfold impl_Colouring_at at h
  refine ACode_seq (ACode_region ?_)
  refine AOps_q 6 _ rfl rfl rfl (QOp_assign _ _ rfl rfl) ?_
  refine AOps_nil ?_
  refine ACode_seq (ACode_quiet mixed (by kernel_rfl) ?_)
  refine AQ_q 7 _ rfl rfl rfl (QOp_move _ _ rfl rfl) ?_
  refine AQ_q 8 _ rfl rfl rfl (QOp_move _ _ rfl rfl) ?_
  refine AQ_q 9 _ rfl rfl rfl (QOp_move _ _ rfl rfl) ?_
  refine AQ_call 10 _ _ _ _ _ _ _ _ _ rfl rfl rfl rfl rfl rfl rfl Try.call109 rfl rfl rfl (impl_number_ac p1 p2) ?_
  refine AQ_q 11 _ rfl rfl rfl (QOp_nilCheck_pv _ _ _ rfl rfl) ?_
  refine AQ_q 12 _ rfl rfl rfl (QOp_fieldAddr_pv _ _ _ _ _ 2 _ _ rfl Try.underlying26 rfl _ Try.sizeOf24 rfl rfl) ?_
  obtain ⟨hc2, h⟩ := guardO h
  refine AQ_q 13 _ rfl rfl rfl (QOp_indexAddrA_pv _ _ _ _ _ _ _ _ _ rfl Try.underlying24 Try.sizeOf5 hc2.1 hc2.2 rfl rfl) ?_
  refine AQ_q 14 _ rfl rfl rfl (QOp_load_pv _ _ _ _ _ rfl Try.isAgg5 rfl (colD_get _ _ (by omega))) ?_
  refine AQ_q 15 _ rfl rfl rfl (QOp_fromByte _ _ _ _ _ rfl rfl Try.underlying2 wrap_i64_byte rfl) ?_
  refine AQ_q 6 _ rfl rfl rfl (QOp_assign _ _ rfl rfl) ?_
  refine AQ_nil ?_
  refine ACode_ret ?_
  cases h
  exact ⟨_, _, fun r a w h => ⟨r, h⟩, _, _, [], _, (.cons (ResV_tmp _ _ rfl) .nil), rfl, rfl, rfl, rfl, rfl⟩

-- (*loop.example/g01362/impl.Colouring).joins
def impl_Colouring_joins (p0 : Col) (p1 : Int) (p2 : Int) (p3 : Int) : Option (Bool) :=
  ((if !decide (p1 = p2) then (impl_Colouring_at p0 p1 p2).bind fun r2 => some (decide (r2 = p3)) else some false) : Option (Bool)).bind fun s3 => some s3
set_option maxRecDepth 100000 in
theorem impl_Colouring_joins_ac (p0 : Col) (p1 : Int) (p2 : Int) (p3 : Int) (r : Bool) (h : impl_Colouring_joins p0 p1 p2 p3 = some r) : AC Try.prog 129 [.d (.pv (colD p0) 0), iV p1, iV p2, iV p3] [] (fun res H' => res = [bV r] ∧ H' = []) := by
  refine AC_of_body true Try.func129 rfl Try.ntmps129 (rvs := [.tmp 8]) rfl rfl (fun G hG => ?_)
  have hm : G.H.length = 0 := by rw [hG]; rfl
  have hz : zeroG G.H = true := by rw [hG]; rfl
  unfold impl_Colouring_joins at h
  refine ACode_seq (ACode_region ?_)
  refine AOps_q 8 _ rfl rfl rfl (QOp_assign _ _ rfl rfl) ?_
  refine AOps_nil ?_
  obtain ⟨s3, hss3, hks3⟩ := bindO h
  clear h
  refine ACode_seqJ (fun E' H' => Weak 20 G E' H' [(8, bV s3)] []) ?_ ?_
  · have h := hss3
    clear hss3
    refine (ACode_region ?_)
    refine AOps_q 9 _ rfl rfl rfl (QOp_move _ _ rfl rfl) ?_
    refine AOps_q 10 _ rfl rfl rfl (QOp_move _ _ rfl rfl) ?_
    refine AOps_q 11 _ rfl rfl rfl (QOp_neq _ _ _ _ _ _ _ rfl rfl rfl) ?_
    refine AOps_q 12 _ rfl rfl rfl (QOp_move _ _ rfl rfl) ?_
    refine AOps_case 12 _ rfl (fun hb1 => ?_) (fun hb1 => ?_)
    · have h := iteT hb1 h
      refine AOps_q 13 _ rfl rfl rfl (QOp_move _ _ rfl rfl) ?_
      refine AOps_q 14 _ rfl rfl rfl (QOp_move _ _ rfl rfl) ?_
      refine AOps_q 15 _ rfl rfl rfl (QOp_move _ _ rfl rfl) ?_
      obtain ⟨r2, hr2, h⟩ := bindO h
      refine AOps_call [] 16 _ _ _ _ _ _ _ _ _ _ rfl rfl rfl rfl rfl rfl rfl Try.call51 rfl (nodupB_sound _ rfl) rfl rfl rfl (impl_Colouring_at_ac p0 p1 p2 _ hr2) ?_
      rintro _ _ ⟨rfl, rfl⟩
      refine ⟨(fun _ h => nomatch h), (allc (trivial) (fun _ h => nomatch h)), AOps_as 16 (v' := iV r2) (H' := []) rfl rfl ?_⟩
      refine AOps_q 17 _ rfl rfl rfl (QOp_move _ _ rfl rfl) ?_
      refine AOps_q 18 _ rfl rfl rfl (QOp_eql _ _ _ _ _ _ _ rfl rfl rfl) ?_
      refine AOps_q 19 _ rfl rfl rfl (QOp_pick_t _ _ _ _ rfl rfl rfl) ?_
      refine AOps_q 8 _ rfl rfl rfl (QOp_assign _ _ rfl rfl) ?_
      refine AOps_nil ?_
      cases h
      exact Weak_keep 0 hm [8] [] _ _ rfl rfl rfl
    · have h := iteF hb1 h
      refine AOps_skip 13 rfl rfl rfl ?_
      refine AOps_skip 14 rfl rfl rfl ?_
      refine AOps_skip 15 rfl rfl rfl ?_
      refine AOps_skip 16 rfl rfl rfl ?_
      refine AOps_skip 17 rfl rfl rfl ?_
      refine AOps_skip 18 rfl rfl rfl ?_
      refine AOps_q 19 _ rfl rfl rfl (QOp_pick_f _ _ _ _ rfl rfl rfl) ?_
      refine AOps_q 8 _ rfl rfl rfl (QOp_assign _ _ rfl rfl) ?_
      refine AOps_nil ?_
      cases h
      exact Weak_keep 0 hm [8] [] _ _ rfl rfl rfl
  intro E' H' hw
  refine ACode_weak hw ?_
  have h := hks3
  refine ACode_ret ?_
  cases h
  exact ⟨_, _, fun r a w h => ⟨r, h⟩, _, _, [], _, (.cons (ResV_tmp _ _ rfl) .nil), rfl, rfl, rfl, rfl, rfl⟩

-- (*loop.example/g01362/impl.Colouring).neighbours$1
def impl_Colouring_neighbours_c1 (p0 : Int) (p1 : Col) (p2 : Int) (p3 : Int) : Option (Bool) :=
  (impl_Colouring_joins p1 p2 p0 p3).bind fun r1 => some r1
set_option maxRecDepth 100000 in
theorem impl_Colouring_neighbours_c1_ac (p0 : Int) (p1 : Col) (p2 : Int) (p3 : Int) (r : Bool) (h : impl_Colouring_neighbours_c1 p0 p1 p2 p3 = some r) : AC Try.prog 128 [iV p0, .d (.pv ([.pv (colD p1) 0]) 0), .d (.pv ([iD p2]) 0), .d (.pv ([iD p3]) 0)] [] (fun res H' => res = [bV r] ∧ H' = []) := by
  refine AC_of_body true Try.func128 rfl Try.ntmps128 (rvs := [.tmp 5]) rfl rfl (fun G hG => ?_)
  have hm : G.H.length = 0 := by rw [hG]; rfl
  have hz : zeroG G.H = true := by rw [hG]; rfl
  unfold impl_Colouring_neighbours_c1 at h
  refine ACode_seq (ACode_region ?_)
  refine AOps_q 5 _ rfl rfl rfl (QOp_assign _ _ rfl rfl) ?_
  refine AOps_nil ?_
  refine ACode_seq (ACode_region ?_)
  refine AOps_q 6 _ rfl rfl rfl (QOp_load_pv _ _ _ _ _ rfl Try.isAgg99 rfl rfl) ?_
  refine AOps_q 7 _ rfl rfl rfl (QOp_load_pv _ _ _ _ _ rfl Try.isAgg2 rfl rfl) ?_
  refine AOps_q 8 _ rfl rfl rfl (QOp_move _ _ rfl rfl) ?_
  refine AOps_q 9 _ rfl rfl rfl (QOp_load_pv _ _ _ _ _ rfl Try.isAgg2 rfl rfl) ?_
  obtain ⟨r1, hr1, h⟩ := bindO h
  refine AOps_call [] 10 _ _ _ _ _ _ _ _ _ _ rfl rfl rfl rfl rfl rfl rfl Try.call129 rfl (nodupB_sound _ rfl) rfl rfl rfl (impl_Colouring_joins_ac p1 p2 p0 p3 _ hr1) ?_
  rintro _ _ ⟨rfl, rfl⟩
  refine ⟨(fun _ h => nomatch h), (allc (trivial) (fun _ h => nomatch h)), AOps_as 10 (v' := bV r1) (H' := []) rfl rfl ?_⟩
  refine AOps_q 5 _ rfl rfl rfl (QOp_assign _ _ rfl rfl) ?_
  refine AOps_nil ?_
  refine ACode_ret ?_
  cases h
  exact ⟨_, _, fun r a w h => ⟨r, h⟩, _, _, [], _, (.cons (ResV_tmp _ _ rfl) .nil), rfl, rfl, rfl, rfl, rfl⟩

-- (*loop.example/g01362/impl.Colouring).neighbours
def impl_Colouring_neighbours (k : Nat) (p0 : Col) (p1 : Int) (p2 : Int) : Option (List Int) :=
  (impl_Colouring_that k p0 (fun a0 => impl_Colouring_neighbours_c1 a0 p0 p1 p2)).bind fun r1 => some r1
set_option maxRecDepth 100000 in
theorem impl_Colouring_neighbours_ac (k : Nat) (p0 : Col) (p1 : Int) (p2 : Int) (r : List Int) (h : impl_Colouring_neighbours k p0 p1 p2 = some r) : AC Try.prog 104 [.d (.pv (colD p0) 0), iV p1, iV p2] [] (fun res H' => res = [.vec 0 0] ∧ H' = [.vec 0 (intsD r)]) := by
  refine AC_of_body true Try.func104 rfl Try.ntmps104 (rvs := [.tmp 6]) rfl rfl (fun G hG => ?_)
  have hm : G.H.length = 0 := by rw [hG]; rfl
  have hz : zeroG G.H = true := by rw [hG]; rfl
  unfold impl_Colouring_neighbours at h
  refine ACode_seq (ACode_region ?_)
  refine AOps_boxI 3 _ _ (.pv (colD p0) 0) _ rfl (fun c hc => by cases hc with | head => rfl | tail _ h => cases h) rfl rfl rfl rfl rfl ?_
  refine AOps_boxI 4 _ _ (iD p1) _ rfl (fun c hc => by cases hc with | head => rfl | tail _ h => cases h) rfl rfl rfl rfl rfl ?_
  refine AOps_boxI 5 _ _ (iD p2) _ rfl (fun c hc => by cases hc with | head => rfl | tail _ h => cases h) rfl rfl rfl rfl rfl ?_
  refine AOps_q 6 _ rfl rfl rfl (QOp_assign _ _ rfl rfl) ?_
  refine AOps_nil ?_
  refine ACode_seq (ACode_region ?_)
  refine AOps_q 7 _ rfl rfl rfl (QOp_load_pv _ _ _ _ _ rfl Try.isAgg99 rfl rfl) ?_
  refine AOps_q 8 _ rfl rfl rfl (QOp_makeFuncD _ _ _ _ rfl rfl rfl) ?_
  obtain ⟨r1, hr1, h⟩ := bindO h
  refine AOps_call [] 9 _ _ _ _ _ _ _ _ _ _ rfl rfl rfl rfl rfl rfl rfl Try.call70 rfl (nodupB_sound _ rfl) rfl rfl rfl (impl_Colouring_that_ac k p0 (fun a0 => impl_Colouring_neighbours_c1 a0 p0 p1 p2) 128 ([.pv ([.pv (colD p0) 0]) 0, .pv ([iD p1]) 0, .pv ([iD p2]) 0]) Try.call128 (fun a0 r h => impl_Colouring_neighbours_c1_ac a0 p0 p1 p2 r h) _ hr1) ?_
  rintro _ _ ⟨rfl, rfl⟩
  refine ⟨(allc (fun _ _ => trivial) (fun _ h => nomatch h)), (allc (trivial) (fun _ h => nomatch h)), AOps_as 9 (v' := .vec 0 0) (H' := [.vec 0 (intsD r1)]) rfl rfl ?_⟩
  refine AOps_q 6 _ rfl rfl rfl (QOp_assign _ _ rfl rfl) ?_
  refine AOps_nil ?_
  refine ACode_ret ?_
  cases h
  exact ⟨_, _, Weak_reset 0 hm hz [6] _ _ rfl rfl, _, _, [0], _, (.cons (ResV_tmp _ _ rfl) .nil), rfl, rfl, rfl, rfl, rfl⟩

-- (*loop.example/g01362/impl.Colouring).walk
def impl_Colouring_walk_l2 (x9 : Int) (r14 : List Int) : Nat → Int → (List Int) → (List Int) → Option (List Int × List Int)
  | 0, _, _, _ => none
  | k2 + 1, x15, x16, x17 => (if decide (x15 < (r14.length : Int)) then ((if 0 ≤ x15 ∧ x15 < (r14.length : Int) then (if 0 ≤ (r14.getD x15.toNat 0) ∧ (r14.getD x15.toNat 0) < (x16.length : Int) then (if decide ((x16.getD (r14.getD x15.toNat 0).toNat 0) < 0) then (if 0 ≤ x9 ∧ x9 < (x17.length : Int) then (if 0 ≤ (x17.getD x9.toNat 0) ∧ (x17.getD x9.toNat 0) < (x16.length : Int) then (if 0 ≤ (r14.getD x15.toNat 0) ∧ (r14.getD x15.toNat 0) < (x16.length : Int) then (if x17.length + ([(r14.getD x15.toNat 0)]).length ≤ 1099511627776 then some (x16.set (r14.getD x15.toNat 0).toNat (w64 ((x16.getD (x17.getD x9.toNat 0).toNat 0) + 1)), (x17 ++ ([(r14.getD x15.toNat 0)]))) else none) else none) else none) else none) else some (x16, x17)) else none) else none) : Option (List Int × List Int)).bind fun s26 => impl_Colouring_walk_l2 x9 r14 k2 (w64 (x15 + 1)) s26.1 s26.2 else some (x16, x17))
def impl_Colouring_walk_l1 (k : Nat) (p0 : Col) (p1 : Int) : Nat → Int → (List Int) → (List Int) → Option (List Int × List Int)
  | 0, _, _, _ => none
  | k1 + 1, x9, x10, x11 => (if decide (x9 < (x11.length : Int)) then ((if 0 ≤ x9 ∧ x9 < (x11.length : Int) then (impl_Colouring_neighbours k p0 (x11.getD x9.toNat 0) p1).bind fun r14 => impl_Colouring_walk_l2 x9 r14 k 0 x10 x11 else none) : Option (List Int × List Int)).bind fun s27 => impl_Colouring_walk_l1 k p0 p1 k1 (w64 (x9 + 1)) s27.1 s27.2 else some (x10, x11))
def impl_Colouring_walk_l0 (k : Nat) (p0 : Col) (p1 : Int) : Nat → Int → (List Int) → (List (List Int)) → Option (List Int × List (List Int))
  | 0, _, _, _ => none
  | k0 + 1, x2, x3, x4 => (if decide (x2 < p0.p) then ((if 0 ≤ x2 ∧ x2 < (x3.length : Int) then (if decide (0 ≤ (x3.getD x2.toNat 0)) then some (x3, x4) else (if 0 ≤ x2 ∧ x2 < (x3.length : Int) then (impl_Colouring_walk_l1 k p0 p1 k 0 (x3.set x2.toNat 0) ([x2]) : Option (List Int × List Int)).bind fun s28 => (sortI s28.2).bind fun r29 => (if x4.length + ([r29]).length ≤ 1099511627776 then some (s28.1, (x4 ++ ([r29]))) else none) else none)) else none) : Option (List Int × List (List Int))).bind fun s31 => impl_Colouring_walk_l0 k p0 p1 k0 (w64 (x2 + 1)) s31.1 s31.2 else some (x3, x4))
def impl_Colouring_walk (k : Nat) (p0 : Col) (p1 : Int) : Option (List (List Int) × List Int) :=
  (slices_Repeat k ([(-1)]) p0.p).bind fun r1 => (impl_Colouring_walk_l0 k p0 p1 k 0 r1 ([] : List (List Int)) : Option (List Int × List (List Int))).bind fun s32 => some (s32.2, s32.1)
set_option maxRecDepth 100000 in
theorem impl_Colouring_walk_ac (k : Nat) (p0 : Col) (p1 : Int) (r : List (List Int) × List Int) (h : impl_Colouring_walk k p0 p1 = some r) : AC Try.prog 100 [.d (.pv (colD p0) 0), iV p1] [] (fun res H' => res = [.vec 0 0, .vec 1 0] ∧ H' = [.vec 0 (rowsD r.1), .vec 0 (intsD r.2)]) := by
  refine AC_of_body true Try.func100 rfl Try.ntmps100 (rvs := [.tmp 4, .tmp 5]) rfl rfl (fun G hG => ?_)
  have hm : G.H.length = 0 := by rw [hG]; rfl
  have hz : zeroG G.H = true := by rw [hG]; rfl
  unfold impl_Colouring_walk at h
  refine ACode_seq (ACode_region ?_)
  refine AOps_q 4 _ rfl rfl rfl (QOp_assign _ _ rfl rfl) ?_
  refine AOps_q 5 _ rfl rfl rfl (QOp_assign _ _ rfl rfl) ?_
  refine AOps_nil ?_
  refine ACode_seq (ACode_region ?_)
  refine AOps_buildSlice 13 _ _ _ [_] (intsD ([(-1)])) _ rfl rfl rfl rfl rfl (by decide) Try.underlying29 Try.sizeOf2 (zero_of Try.typeInfo2 rfl) rfl rfl (intsD_one _) ?_
  refine AOps_q 14 _ rfl rfl rfl (QOp_move _ _ rfl rfl) ?_
  refine AOps_q 15 _ rfl rfl rfl (QOp_nilCheck_pv _ _ _ rfl rfl) ?_
  refine AOps_q 16 _ rfl rfl rfl (QOp_fieldAddr_pv _ _ _ _ _ 0 _ _ rfl Try.underlying26 rfl _ Try.sizeOf2 rfl rfl) ?_
  refine AOps_q 17 _ rfl rfl rfl (QOp_load_pv _ _ _ _ _ rfl Try.isAgg2 rfl rfl) ?_
  obtain ⟨r1, hr1, h⟩ := bindO h
  refine AOps_callL [] 18 _ _ _ _ _ _ _ _ _ _ rfl rfl rfl rfl rfl rfl rfl Try.call126 rfl (nodupB_sound _ rfl) rfl rfl rfl (slices_Repeat_ac k ([(-1)]) p0.p _ hr1) ?_
  rintro _ _ ⟨rfl, rfl⟩
  refine ⟨(allc (intsD_flat _) (fun _ h => nomatch h)), (allc (trivial) (fun _ h => nomatch h)), AOps_as 18 (v' := .vec 1 0) (H' := [.vec 0 (intsD ([(-1)])), .vec 0 (intsD r1)]) rfl rfl ?_⟩
  refine AOps_buildSlice 19 _ _ _ [] (rowsD ([] : List (List Int))) _ rfl rfl rfl rfl rfl (by decide) Try.underlying46 Try.sizeOf29 (zero_of Try.typeInfo29 rfl) rfl rfl (rowsD_one _) ?_
  refine AOps_q 6 _ rfl rfl rfl (QOp_assign _ _ rfl rfl) ?_
  refine AOps_q 7 _ rfl rfl rfl (QOp_assign _ _ rfl rfl) ?_
  refine AOps_nil ?_
  obtain ⟨s32, hss32, hks32⟩ := bindO h
  clear h
  refine ACode_seqJ (fun E' H' => Weak 85 G E' H' [(6, .vec 0 0), (7, .vec 1 0)] [.vec 0 (intsD s32.1), .vec 0 (rowsD s32.2)]) ?_ ?_
  · have h := hss32
    clear hss32
    refine ACode_seq (ACode_region ?_)
    refine AOps_q 20 _ rfl rfl rfl (QOp_move _ _ rfl rfl) ?_
    refine AOps_q 21 _ rfl rfl rfl (QOp_nilCheck_pv _ _ _ rfl rfl) ?_
    refine AOps_q 22 _ rfl rfl rfl (QOp_fieldAddr_pv _ _ _ _ _ 0 _ _ rfl Try.underlying26 rfl _ Try.sizeOf2 rfl rfl) ?_
    refine AOps_q 23 _ rfl rfl rfl (QOp_load_pv _ _ _ _ _ rfl Try.isAgg2 rfl rfl) ?_
    refine AOps_q 24 _ rfl rfl rfl (QOp_move _ _ rfl rfl) ?_
    refine AOps_nil ?_
    refine ACode_block ?_
    refine ACode_loopW (fun k0 E H => ∃ (x2 : Int) (x3 : List Int) (x4 : List (List Int)), E = [(0, .d (.pv (colD p0) 0)), (1, iV p1), (6, .vec 0 0), (7, .vec 1 0), (23, iV p0.p), (24, iV x2)] ∧ H = [.vec 0 (intsD x3), .vec 0 (rowsD x4)] ∧ impl_Colouring_walk_l0 k p0 p1 k0 x2 x3 x4 = some s32) k _ _ (Weak_keep 0 hm [0, 1, 6, 7, 23, 24] [1, 2] _ _ rfl rfl rfl) ⟨_, _, _, rfl, rfl, h⟩ ?_
    clear h
    rintro k0 E H ⟨x2, x3, x4, rfl, rfl, h⟩
    cases k0 with
    | zero => cases (show (none : Option (List Int × List (List Int))) = some _ from h)
    | succ k0 =>
      rw [impl_Colouring_walk_l0] at h
      refine ACode_seq (ACode_region ?_)
      refine AOps_q 25 _ rfl rfl rfl (QOp_lss _ _ _ _ _ _ _ rfl rfl rfl) ?_
      refine AOps_nil ?_
      refine ACode_seq ?_
      refine ACode_cond _ rfl (fun hb5 => ?_) (fun hb5 => ?_)
      · have h := iteT hb5 h
        refine ACode_skip ?_
        obtain ⟨s31, hss31, hks31⟩ := bindO h
        clear h
        refine ACode_seqJ (fun E' H' => Weak 85 G E' H' [(0, .d (.pv (colD p0) 0)), (1, iV p1), (6, .vec 0 0), (7, .vec 1 0), (23, iV p0.p), (24, iV x2)] [.vec 0 (intsD s31.1), .vec 0 (rowsD s31.2)]) ?_ ?_
        · have h := hss31
          clear hss31
          refine ACode_block ?_
          refine ACode_seq (ACode_region ?_)
          refine AOps_q 26 _ rfl rfl rfl (QOp_move _ _ rfl rfl) ?_
          refine AOps_q 8 _ rfl rfl rfl (QOp_assign _ _ rfl rfl) ?_
          refine AOps_nil ?_
          refine ACode_seq ?_
          refine ACode_seq (ACode_region ?_)
          refine AOps_q 27 _ rfl rfl rfl (QOp_move _ _ rfl rfl) ?_
          refine AOps_q 28 _ rfl rfl rfl (QOp_move _ _ rfl rfl) ?_
          obtain ⟨hc6, h⟩ := guardO h
          refine AOps_q 29 _ rfl rfl rfl (QOp_indexAddr_vec _ _ _ _ _ _ _ _ _ rfl Try.underlying29 Try.sizeOf2 hc6.1 (by rw [intsD_length]; exact hc6.2) rfl rfl rfl) ?_
          refine AOps_q 30 _ rfl rfl rfl (QOp_load_eptr _ _ _ _ _ _ _ rfl Try.isAgg2 rfl rfl (intsD_get _ _ 0 (by omega))) ?_
          refine AOps_q 31 _ rfl rfl rfl (QOp_geq _ _ _ _ _ _ _ rfl rfl rfl) ?_
          refine AOps_nil ?_
          refine ACode_cond _ rfl (fun hb7 => ?_) (fun hb7 => ?_)
          · have h := iteT hb7 h
            refine ACode_exit ?_
            cases h
            exact Weak_keep 0 hm [0, 1, 6, 7, 23, 24] [0, 1] _ _ rfl rfl rfl
          · have h := iteF hb7 h
            refine ACode_skip ?_
            refine ACode_seq (ACode_region ?_)
            refine AOps_q 32 _ rfl rfl rfl (QOp_move _ _ rfl rfl) ?_
            refine AOps_q 33 _ rfl rfl rfl (QOp_move _ _ rfl rfl) ?_
            obtain ⟨hc8, h⟩ := guardO h
            refine AOps_q 34 _ rfl rfl rfl (QOp_indexAddr_vec _ _ _ _ _ _ _ _ _ rfl Try.underlying29 Try.sizeOf2 hc8.1 (by rw [intsD_length]; exact hc8.2) rfl rfl rfl) ?_
            refine AOps_store_eptr _ _ _ _ _ _ (intsD x3) _ rfl rfl rfl rfl rfl rfl rfl Try.sizeOf2 (by rw [intsD_length]; omega) ?_
            rw [intsD_set]
            refine AOps_nil ?_
            refine ACode_seq (ACode_region ?_)
            refine AOps_q 35 _ rfl rfl rfl (QOp_move _ _ rfl rfl) ?_
            refine AOps_buildSlice 36 _ _ _ [_] (intsD ([x2])) _ rfl rfl rfl rfl rfl (by decide) Try.underlying29 Try.sizeOf2 (zero_of Try.typeInfo2 rfl) rfl rfl (intsD_one _) ?_
            refine AOps_q 9 _ rfl rfl rfl (QOp_assign _ _ rfl rfl) ?_
            refine AOps_nil ?_
            obtain ⟨s28, hss28, hks28⟩ := bindO h
            clear h
            refine ACode_seqJ (fun E' H' => Weak 85 G E' H' [(0, .d (.pv (colD p0) 0)), (1, iV p1), (6, .vec 0 0), (7, .vec 1 0), (9, .vec 2 0), (23, iV p0.p), (24, iV x2)] [.vec 0 (intsD s28.1), .vec 0 (rowsD x4), .vec 0 (intsD s28.2)]) ?_ ?_
            · have h := hss28
              clear hss28
              refine ACode_seq (ACode_region ?_)
              refine AOps_q 10 _ rfl rfl rfl (QOp_assign _ _ rfl rfl) ?_
              refine AOps_nil ?_
              refine ACode_block ?_
              refine ACode_loopW (fun k1 E H => ∃ (x9 : Int) (x10 : List Int) (x11 : List Int), E = [(0, .d (.pv (colD p0) 0)), (1, iV p1), (6, .vec 0 0), (7, .vec 1 0), (9, .vec 2 0), (10, iV x9), (23, iV p0.p), (24, iV x2)] ∧ H = [.vec 0 (intsD x10), .vec 0 (rowsD x4), .vec 0 (intsD x11)] ∧ impl_Colouring_walk_l1 k p0 p1 k1 x9 x10 x11 = some s28) k _ _ (Weak_keep 0 hm [0, 1, 6, 7, 9, 10, 23, 24] [0, 1, 2] _ _ rfl rfl rfl) ⟨_, _, _, rfl, rfl, h⟩ ?_
              clear h
              rintro k1 E H ⟨x9, x10, x11, rfl, rfl, h⟩
              cases k1 with
              | zero => cases (show (none : Option (List Int × List Int)) = some _ from h)
              | succ k1 =>
                rw [impl_Colouring_walk_l1] at h
                refine ACode_seq ?_
                refine ACode_seq (ACode_region ?_)
                refine AOps_q 37 _ rfl rfl rfl (QOp_move _ _ rfl rfl) ?_
                refine AOps_q 38 _ rfl rfl rfl (QOp_move _ _ rfl rfl) ?_
                refine AOps_q 39 _ rfl rfl rfl (QOp_len_vec _ _ _ _ _ _ _ _ (intsD_length _) rfl rfl rfl rfl Try.underlying29 rfl rfl) ?_
                refine AOps_q 40 _ rfl rfl rfl (QOp_lss _ _ _ _ _ _ _ rfl rfl rfl) ?_
                refine AOps_nil ?_
                refine ACode_cond _ rfl (fun hb12 => ?_) (fun hb12 => ?_)
                · have h := iteT hb12 h
                  refine ACode_skip ?_
                  obtain ⟨s27, hss27, hks27⟩ := bindO h
                  clear h
                  refine ACode_seqJ (fun E' H' => Weak 85 G E' H' [(0, .d (.pv (colD p0) 0)), (1, iV p1), (6, .vec 0 0), (7, .vec 1 0), (9, .vec 2 0), (10, iV x9), (23, iV p0.p), (24, iV x2)] [.vec 0 (intsD s27.1), .vec 0 (rowsD x4), .vec 0 (intsD s27.2)]) ?_ ?_
                  · have h := hss27
                    clear hss27
                    refine ACode_block ?_
                    refine ACode_seq (ACode_region ?_)
                    refine AOps_q 43 _ rfl rfl rfl (QOp_move _ _ rfl rfl) ?_
                    refine AOps_q 44 _ rfl rfl rfl (QOp_move _ _ rfl rfl) ?_
                    refine AOps_q 45 _ rfl rfl rfl (QOp_move _ _ rfl rfl) ?_
                    obtain ⟨hc13, h⟩ := guardO h
                    refine AOps_q 46 _ rfl rfl rfl (QOp_indexAddr_vec _ _ _ _ _ _ _ _ _ rfl Try.underlying29 Try.sizeOf2 hc13.1 (by rw [intsD_length]; exact hc13.2) rfl rfl rfl) ?_
                    refine AOps_q 47 _ rfl rfl rfl (QOp_load_eptr _ _ _ _ _ _ _ rfl Try.isAgg2 rfl rfl (intsD_get _ _ 0 (by omega))) ?_
                    refine AOps_q 48 _ rfl rfl rfl (QOp_move _ _ rfl rfl) ?_
                    obtain ⟨r14, hr14, h⟩ := bindO h
                    refine AOps_call [] 49 _ _ _ _ _ _ _ _ _ _ rfl rfl rfl rfl rfl rfl rfl Try.call104 rfl (nodupB_sound _ rfl) rfl rfl rfl (impl_Colouring_neighbours_ac k p0 (x11.getD x9.toNat 0) p1 _ hr14) ?_
                    rintro _ _ ⟨rfl, rfl⟩
                    refine ⟨(allc (fun _ _ => trivial) (fun _ h => nomatch h)), (allc (trivial) (fun _ h => nomatch h)), AOps_as 49 (v' := .vec 3 0) (H' := [.vec 0 (intsD x10), .vec 0 (rowsD x4), .vec 0 (intsD x11), .vec 0 (intsD r14)]) rfl rfl ?_⟩
                    refine AOps_q 50 _ rfl rfl rfl (QOp_len_vec _ _ _ _ _ _ _ _ (intsD_length _) rfl rfl rfl rfl Try.underlying29 rfl rfl) ?_
                    refine AOps_q 51 _ rfl rfl rfl (QOp_move _ _ rfl rfl) ?_
                    refine AOps_nil ?_
                    refine ACode_block ?_
                    refine ACode_loopW (fun k2 E H => ∃ (x15 : Int) (x16 : List Int) (x17 : List Int), E = [(0, .d (.pv (colD p0) 0)), (1, iV p1), (6, .vec 0 0), (7, .vec 1 0), (9, .vec 2 0), (10, iV x9), (23, iV p0.p), (24, iV x2), (49, .vec 3 0), (50, iV (r14.length : Int)), (51, iV x15)] ∧ H = [.vec 0 (intsD x16), .vec 0 (rowsD x4), .vec 0 (intsD x17), .vec 0 (intsD r14)] ∧ impl_Colouring_walk_l2 x9 r14 k2 x15 x16 x17 = some s27) k _ _ (Weak_keep 0 hm [0, 1, 6, 7, 9, 10, 23, 24, 49, 50, 51] [0, 1, 2, 3] _ _ rfl rfl rfl) ⟨_, _, _, rfl, rfl, h⟩ ?_
                    clear h
                    rintro k2 E H ⟨x15, x16, x17, rfl, rfl, h⟩
                    cases k2 with
                    | zero => cases (show (none : Option (List Int × List Int)) = some _ from h)
                    | succ k2 =>
                      rw [impl_Colouring_walk_l2] at h
                      refine ACode_seq (ACode_region ?_)
                      refine AOps_q 52 _ rfl rfl rfl (QOp_lss _ _ _ _ _ _ _ rfl rfl rfl) ?_
                      refine AOps_nil ?_
                      refine ACode_seq ?_
                      refine ACode_cond _ rfl (fun hb18 => ?_) (fun hb18 => ?_)
                      · have h := iteT hb18 h
                        refine ACode_skip ?_
                        obtain ⟨s26, hss26, hks26⟩ := bindO h
                        clear h
                        refine ACode_seqJ (fun E' H' => Weak 85 G E' H' [(0, .d (.pv (colD p0) 0)), (1, iV p1), (6, .vec 0 0), (7, .vec 1 0), (9, .vec 2 0), (10, iV x9), (23, iV p0.p), (24, iV x2), (49, .vec 3 0), (50, iV (r14.length : Int)), (51, iV x15)] [.vec 0 (intsD s26.1), .vec 0 (rowsD x4), .vec 0 (intsD s26.2), .vec 0 (intsD r14)]) ?_ ?_
                        · have h := hss26
                          clear hss26
                          refine ACode_block ?_
                          refine ACode_seq (ACode_region ?_)
                          obtain ⟨hc19, h⟩ := guardO h
                          refine AOps_q 53 _ rfl rfl rfl (QOp_indexAddr_vec _ _ _ _ _ _ _ _ _ rfl Try.underlying29 Try.sizeOf2 hc19.1 (by rw [intsD_length]; exact hc19.2) rfl rfl rfl) ?_
                          refine AOps_q 54 _ rfl rfl rfl (QOp_load_eptr _ _ _ _ _ _ _ rfl Try.isAgg2 rfl rfl (intsD_get _ _ 0 (by omega))) ?_
                          refine AOps_q 12 _ rfl rfl rfl (QOp_assign _ _ rfl rfl) ?_
                          refine AOps_nil ?_
                          refine ACode_seq (ACode_region ?_)
                          refine AOps_q 55 _ rfl rfl rfl (QOp_move _ _ rfl rfl) ?_
                          refine AOps_q 56 _ rfl rfl rfl (QOp_move _ _ rfl rfl) ?_
                          obtain ⟨hc20, h⟩ := guardO h
                          refine AOps_q 57 _ rfl rfl rfl (QOp_indexAddr_vec _ _ _ _ _ _ _ _ _ rfl Try.underlying29 Try.sizeOf2 hc20.1 (by rw [intsD_length]; exact hc20.2) rfl rfl rfl) ?_
                          refine AOps_q 58 _ rfl rfl rfl (QOp_load_eptr _ _ _ _ _ _ _ rfl Try.isAgg2 rfl rfl (intsD_get _ _ 0 (by omega))) ?_
                          refine AOps_q 59 _ rfl rfl rfl (QOp_lss _ _ _ _ _ _ _ rfl rfl rfl) ?_
                          refine AOps_nil ?_
                          refine ACode_cond _ rfl (fun hb21 => ?_) (fun hb21 => ?_)
                          · have h := iteT hb21 h
                            refine ACode_seq (ACode_region ?_)
                            refine AOps_q 60 _ rfl rfl rfl (QOp_move _ _ rfl rfl) ?_
                            refine AOps_q 61 _ rfl rfl rfl (QOp_move _ _ rfl rfl) ?_
                            refine AOps_q 62 _ rfl rfl rfl (QOp_move _ _ rfl rfl) ?_
                            refine AOps_q 63 _ rfl rfl rfl (QOp_move _ _ rfl rfl) ?_
                            refine AOps_q 64 _ rfl rfl rfl (QOp_move _ _ rfl rfl) ?_
                            obtain ⟨hc22, h⟩ := guardO h
                            refine AOps_q 65 _ rfl rfl rfl (QOp_indexAddr_vec _ _ _ _ _ _ _ _ _ rfl Try.underlying29 Try.sizeOf2 hc22.1 (by rw [intsD_length]; exact hc22.2) rfl rfl rfl) ?_
                            refine AOps_q 66 _ rfl rfl rfl (QOp_load_eptr _ _ _ _ _ _ _ rfl Try.isAgg2 rfl rfl (intsD_get _ _ 0 (by omega))) ?_
                            obtain ⟨hc23, h⟩ := guardO h
                            refine AOps_q 67 _ rfl rfl rfl (QOp_indexAddr_vec _ _ _ _ _ _ _ _ _ rfl Try.underlying29 Try.sizeOf2 hc23.1 (by rw [intsD_length]; exact hc23.2) rfl rfl rfl) ?_
                            refine AOps_q 68 _ rfl rfl rfl (QOp_load_eptr _ _ _ _ _ _ _ rfl Try.isAgg2 rfl rfl (intsD_get _ _ 0 (by omega))) ?_
                            refine AOps_q 69 _ rfl rfl rfl (QOp_add _ _ _ _ _ _ _ rfl rfl rfl) ?_
                            obtain ⟨hc24, h⟩ := guardO h
                            refine AOps_q 70 _ rfl rfl rfl (QOp_indexAddr_vec _ _ _ _ _ _ _ _ _ rfl Try.underlying29 Try.sizeOf2 hc24.1 (by rw [intsD_length]; exact hc24.2) rfl rfl rfl) ?_
                            refine AOps_store_eptr _ _ _ _ _ _ (intsD x16) _ rfl rfl rfl rfl rfl rfl rfl Try.sizeOf2 (by rw [intsD_length]; omega) ?_
                            rw [intsD_set]
                            refine AOps_nil ?_
                            refine (ACode_region ?_)
                            refine AOps_q 71 _ rfl rfl rfl (QOp_move _ _ rfl rfl) ?_
                            refine AOps_q 72 _ rfl rfl rfl (QOp_move _ _ rfl rfl) ?_
                            refine AOps_buildSlice 73 _ _ _ [_] (intsD ([(r14.getD x15.toNat 0)])) _ rfl rfl rfl rfl rfl (by decide) Try.underlying29 Try.sizeOf2 (zero_of Try.typeInfo2 rfl) rfl rfl (intsD_one _) ?_
                            obtain ⟨hc25, h⟩ := guardO h
                            refine AOps_append 74 _ _ _ _ _ _ _ _ _ _ _ _ rfl rfl rfl rfl rfl rfl rfl Try.underlying29 Try.type2 rfl rfl rfl (by decide) rfl rfl rfl rfl (intsD_one _) (by rw [intsD_length, intsD_length]; exact hc25) ?_
                            rw [intsD_app]
                            refine AOps_q 9 _ rfl rfl rfl (QOp_assign _ _ rfl rfl) ?_
                            refine AOps_nil ?_
                            cases h
                            exact Weak_trans (Weak_keep 0 hm [0, 1, 6, 7, 9, 10, 23, 24, 49, 50, 51] [0, 1, 2, 3] _ _ rfl rfl rfl) (Weak_reset 0 hm hz [0, 1, 6, 7, 9, 10, 23, 24, 49, 50, 51] _ _ rfl rfl)
                          · have h := iteF hb21 h
                            refine ACode_skip ?_
                            cases h
                            exact Weak_keep 0 hm [0, 1, 6, 7, 9, 10, 23, 24, 49, 50, 51] [0, 1, 2, 3] _ _ rfl rfl rfl
                        intro E' H' hw
                        refine ACode_weak hw ?_
                        have h := hks26
                        refine (ACode_region ?_)
                        refine AOps_q 75 _ rfl rfl rfl (QOp_add _ _ _ _ _ _ _ rfl rfl rfl) ?_
                        refine AOps_q 51 _ rfl rfl rfl (QOp_move _ _ rfl rfl) ?_
                        refine AOps_nil ?_
                        exact ⟨k2, _, _, Nat.lt_succ_self _, Weak_keep 0 hm [0, 1, 6, 7, 9, 10, 23, 24, 49, 50, 51] [0, 1, 2, 3] _ _ rfl rfl rfl, _, _, _, rfl, rfl, h⟩
                      · have h := iteF hb18 h
                        refine ACode_exit ?_
                        cases h
                        exact Weak_keep 0 hm [0, 1, 6, 7, 9, 10, 23, 24] [0, 1, 2] _ _ rfl rfl rfl
                  intro E' H' hw
                  refine ACode_weak hw ?_
                  have h := hks27
                  refine (ACode_region ?_)
                  refine AOps_q 41 _ rfl rfl rfl (QOp_move _ _ rfl rfl) ?_
                  refine AOps_q 42 _ rfl rfl rfl (QOp_add _ _ _ _ _ _ _ rfl rfl rfl) ?_
                  refine AOps_q 10 _ rfl rfl rfl (QOp_assign _ _ rfl rfl) ?_
                  refine AOps_nil ?_
                  exact ⟨k1, _, _, Nat.lt_succ_self _, Weak_keep 0 hm [0, 1, 6, 7, 9, 10, 23, 24] [0, 1, 2] _ _ rfl rfl rfl, _, _, _, rfl, rfl, h⟩
                · have h := iteF hb12 h
                  refine ACode_exit ?_
                  cases h
                  exact Weak_keep 0 hm [0, 1, 6, 7, 9, 23, 24] [0, 1, 2] _ _ rfl rfl rfl
            intro E' H' hw
            refine ACode_weak hw ?_
            have h := hks28
            refine ACode_seq (ACode_region ?_)
            refine AOps_q 76 _ rfl rfl rfl (QOp_move _ _ rfl rfl) ?_
            obtain ⟨r29, hr29, h⟩ := bindO h
            refine AOps_call [2] 77 _ _ _ _ _ _ _ _ _ _ rfl rfl rfl rfl rfl rfl rfl Try.call127 rfl (nodupB_sound _ rfl) rfl rfl rfl (sortI_ac s28.2 _ hr29) ?_
            rintro _ _ ⟨rfl, rfl⟩
            refine ⟨(allc (fun _ _ => trivial) (fun _ h => nomatch h)), (fun _ h => nomatch h), AOps_as 77 (v' := .tup []) (H' := [.vec 0 (intsD s28.1), .vec 0 (rowsD x4), .vec 0 (intsD r29)]) rfl rfl ?_⟩
            refine AOps_nil ?_
            refine (ACode_region ?_)
            refine AOps_q 78 _ rfl rfl rfl (QOp_move _ _ rfl rfl) ?_
            refine AOps_q 79 _ rfl rfl rfl (QOp_move _ _ rfl rfl) ?_
            refine AOps_freeze 79 2 0 _ rfl rfl ?_
            refine AOps_buildSlice 80 _ _ _ [_] (rowsD ([r29])) _ rfl rfl rfl rfl rfl (by decide) Try.underlying46 Try.sizeOf29 (zero_of Try.typeInfo29 rfl) rfl rfl (rowsD_one _) ?_
            obtain ⟨hc30, h⟩ := guardO h
            refine AOps_append 81 _ _ _ _ _ _ _ _ _ _ _ _ rfl rfl rfl rfl rfl rfl rfl Try.underlying46 Try.type29 rfl rfl rfl (by decide) rfl rfl rfl rfl (rowsD_one _) (by rw [rowsD_length, rowsD_length]; exact hc30) ?_
            rw [rowsD_app]
            refine AOps_q 7 _ rfl rfl rfl (QOp_assign _ _ rfl rfl) ?_
            refine AOps_nil ?_
            cases h
            exact Weak_trans (Weak_keep 0 hm [0, 1, 6, 7, 23, 24] [0, 1] _ _ rfl rfl rfl) (Weak_reset 0 hm hz [0, 1, 6, 7, 23, 24] _ _ rfl rfl)
        intro E' H' hw
        refine ACode_weak hw ?_
        have h := hks31
        refine (ACode_region ?_)
        refine AOps_q 82 _ rfl rfl rfl (QOp_add _ _ _ _ _ _ _ rfl rfl rfl) ?_
        refine AOps_q 24 _ rfl rfl rfl (QOp_move _ _ rfl rfl) ?_
        refine AOps_nil ?_
        exact ⟨k0, _, _, Nat.lt_succ_self _, Weak_keep 0 hm [0, 1, 6, 7, 23, 24] [0, 1] _ _ rfl rfl rfl, _, _, _, rfl, rfl, h⟩
      · have h := iteF hb5 h
        refine ACode_exit ?_
        cases h
        exact Weak_keep 0 hm [6, 7] [0, 1] _ _ rfl rfl rfl
  intro E' H' hw
  refine ACode_weak hw ?_
  have h := hks32
  refine ACode_seq (ACode_region ?_)
  refine AOps_q 83 _ rfl rfl rfl (QOp_move _ _ rfl rfl) ?_
  refine AOps_q 84 _ rfl rfl rfl (QOp_move _ _ rfl rfl) ?_
  refine AOps_q 4 _ rfl rfl rfl (QOp_assign _ _ rfl rfl) ?_
  refine AOps_q 5 _ rfl rfl rfl (QOp_assign _ _ rfl rfl) ?_
  refine AOps_nil ?_
  refine ACode_ret ?_
  cases h
  exact ⟨_, _, Weak_reset 0 hm hz [4, 5] _ _ rfl rfl, _, _, [1, 0], _, (.cons (ResV_tmp _ _ rfl) (.cons (ResV_tmp _ _ rfl) .nil)), rfl, rfl, rfl, rfl, rfl⟩

-- loop.example/g01362/impl.ComponentsOf
def impl_ComponentsOf (k : Nat) (p0 : Col) (p1 : Int) : Option (Option (List (List Int)) × Int) :=
  (impl_Colouring_colourCode k p0 p1 true).bind fun r1 => (if !decide (r1 = 0) then some (none, r1) else (impl_Colouring_walk k p0 p1).bind fun r3 => some (some r3.1, 0))
set_option maxRecDepth 100000 in
theorem impl_ComponentsOf_ac (k : Nat) (p0 : Col) (p1 : Int) (r : Option (List (List Int)) × Int) (h : impl_ComponentsOf k p0 p1 = some r) : AC Try.prog 37 [.d (.agg (colD p0)), iV p1] [] (fun res H' => res = [ownA 0 (r.1.map rowsD), iV r.2] ∧ H' = [] ++ ownH (r.1.map rowsD)) := by
  refine AC_of_body false Try.func37 rfl Try.ntmps37 (rvs := [.tmp 4, .tmp 5]) rfl rfl (fun G hG => ?_)
  have hm : G.H.length = 0 := by rw [hG]; rfl
  have hz : zeroG G.H = true := by rw [hG]; rfl
  unfold impl_ComponentsOf at h
  refine ACode_seq (ACode_region ?_)
  refine AOps_boxI 2 _ _ (.agg (colD p0)) (colD p0) rfl (colD_one _) rfl rfl rfl rfl rfl ?_
  refine AOps_q 4 _ rfl rfl rfl (QOp_assign _ _ rfl rfl) ?_
  refine AOps_q 5 _ rfl rfl rfl (QOp_assign _ _ rfl rfl) ?_
  refine AOps_nil ?_
  refine ACode_seq ?_
  refine ACode_seq (ACode_region ?_)
  refine AOps_q 9 _ rfl rfl rfl (QOp_move _ _ rfl rfl) ?_
  obtain ⟨r1, hr1, h⟩ := bindO h
  refine AOps_call [] 10 _ _ _ _ _ _ _ _ _ _ rfl rfl rfl rfl rfl rfl rfl Try.call48 rfl (nodupB_sound _ rfl) rfl rfl rfl (impl_Colouring_colourCode_ac k p0 p1 true _ hr1) ?_
  rintro _ _ ⟨rfl, rfl⟩
  refine ⟨(fun _ h => nomatch h), (allc (trivial) (fun _ h => nomatch h)), AOps_as 10 (v' := iV r1) (H' := []) rfl rfl ?_⟩
  refine AOps_q 6 _ rfl rfl rfl (QOp_assign _ _ rfl rfl) ?_
  refine AOps_nil ?_
  refine ACode_seq (ACode_region ?_)
  refine AOps_q 11 _ rfl rfl rfl (QOp_move _ _ rfl rfl) ?_
  refine AOps_q 12 _ rfl rfl rfl (QOp_neq _ _ _ _ _ _ _ rfl rfl rfl) ?_
  refine AOps_nil ?_
  refine ACode_cond _ rfl (fun hb2 => ?_) (fun hb2 => ?_)
  · have h := iteT hb2 h
    refine ACode_seq (ACode_region ?_)
    refine AOps_q 13 _ rfl rfl rfl (QOp_move _ _ rfl rfl) ?_
    refine AOps_q 4 _ rfl rfl rfl (QOp_assign _ _ rfl rfl) ?_
    refine AOps_q 5 _ rfl rfl rfl (QOp_assign _ _ rfl rfl) ?_
    refine AOps_nil ?_
    refine ACode_ret ?_
    cases h
    exact ⟨_, _, fun r a w h => ⟨r, h⟩, _, _, [], _, (.cons (ResV_tmp _ _ rfl) (.cons (ResV_tmp _ _ rfl) .nil)), rfl, rfl, rfl, rfl, rfl⟩
  · have h := iteF hb2 h
    refine ACode_skip ?_
    refine ACode_seq (ACode_region ?_)
    refine AOps_q 15 _ rfl rfl rfl (QOp_move _ _ rfl rfl) ?_
    obtain ⟨r3, hr3, h⟩ := bindO h
    refine AOps_call [] 16 _ _ _ _ _ _ _ _ _ _ rfl rfl rfl rfl rfl rfl rfl Try.call100 rfl (nodupB_sound _ rfl) rfl rfl rfl (impl_Colouring_walk_ac k p0 p1 _ hr3) ?_
    rintro _ _ ⟨rfl, rfl⟩
    refine ⟨(allc (fun _ _ => trivial) (allc (fun _ _ => trivial) (fun _ h => nomatch h))), (allc (trivial) (allc (trivial) (fun _ h => nomatch h))), AOps_as 16 (v' := .tup [.vec 0 0, .vec 1 0]) (H' := [.vec 0 (rowsD r3.1), .vec 0 (intsD r3.2)]) rfl rfl ?_⟩
    refine AOps_q 14 _ rfl rfl rfl (QOp_move _ _ rfl rfl) ?_
    refine AOps_q 17 _ rfl rfl rfl (QOp_extract _ _ _ _ rfl rfl rfl) ?_
    refine AOps_q 18 _ rfl rfl rfl (QOp_extract _ _ _ _ rfl rfl rfl) ?_
    refine AOps_q 7 _ rfl rfl rfl (QOp_assign _ _ rfl rfl) ?_
    refine AOps_q 8 _ rfl rfl rfl (QOp_assign _ _ rfl rfl) ?_
    refine AOps_nil ?_
    refine ACode_seq (ACode_region ?_)
    refine AOps_q 19 _ rfl rfl rfl (QOp_move _ _ rfl rfl) ?_
    refine AOps_q 4 _ rfl rfl rfl (QOp_assign _ _ rfl rfl) ?_
    refine AOps_q 5 _ rfl rfl rfl (QOp_assign _ _ rfl rfl) ?_
    refine AOps_nil ?_
    refine ACode_ret ?_
    cases h
    exact ⟨_, _, Weak_reset 0 hm hz [4, 5] _ _ rfl rfl, _, _, [0], _, (.cons (ResV_tmp _ _ rfl) (.cons (ResV_tmp _ _ rfl) .nil)), rfl, rfl, rfl, rfl, rfl⟩

-- loop.example/g01362/spec.l01In
def spec_l01In (p0 : Int) (p1 : Int) (p2 : Int) : Bool :=
  letO (if decide (p1 ≤ p0) then decide (p0 ≤ p2) else false) fun (s2 : Bool) => s2
set_option maxRecDepth 100000 in
theorem spec_l01In_ac (p0 : Int) (p1 : Int) (p2 : Int) : AC Try.prog 66 [iV p0, iV p1, iV p2] [] (fun res H' => res = [bV (spec_l01In p0 p1 p2)] ∧ H' = []) := by
  refine AC_of_body true Try.func66 rfl Try.ntmps66 (rvs := [.tmp 6]) rfl rfl (fun G hG => ?_)
  have hm : G.H.length = 0 := by rw [hG]; rfl
  have hz : zeroG G.H = true := by rw [hG]; rfl
  obtain ⟨r, h⟩ : ∃ r, spec_l01In p0 p1 p2 = r := ⟨_, rfl⟩
  rw [h]
  unfold spec_l01In at h
  refine ACode_seq (ACode_region ?_)
  refine AOps_q 6 _ rfl rfl rfl (QOp_assign _ _ rfl rfl) ?_
  refine AOps_nil ?_
  obtain ⟨s2, hss2, hks2⟩ := letS h
  clear h
  refine ACode_seqJ (fun E' H' => Weak 15 G E' H' [(6, bV s2)] []) ?_ ?_
  · have h := hss2
    clear hss2
    refine (ACode_region ?_)
    refine AOps_q 7 _ rfl rfl rfl (QOp_move _ _ rfl rfl) ?_
    refine AOps_q 8 _ rfl rfl rfl (QOp_move _ _ rfl rfl) ?_
    refine AOps_q 9 _ rfl rfl rfl (QOp_geq _ _ _ _ _ _ _ rfl rfl rfl) ?_
    refine AOps_q 10 _ rfl rfl rfl (QOp_move _ _ rfl rfl) ?_
    refine AOps_case 10 _ rfl (fun hb1 => ?_) (fun hb1 => ?_)
    · have h := iteT hb1 h
      refine AOps_q 11 _ rfl rfl rfl (QOp_move _ _ rfl rfl) ?_
      refine AOps_q 12 _ rfl rfl rfl (QOp_move _ _ rfl rfl) ?_
      refine AOps_q 13 _ rfl rfl rfl (QOp_leq _ _ _ _ _ _ _ rfl rfl rfl) ?_
      refine AOps_q 14 _ rfl rfl rfl (QOp_pick_t _ _ _ _ rfl rfl rfl) ?_
      refine AOps_q 6 _ rfl rfl rfl (QOp_assign _ _ rfl rfl) ?_
      refine AOps_nil ?_
      cases h
      exact Weak_keep 0 hm [6] [] _ _ rfl rfl rfl
    · have h := iteF hb1 h
      refine AOps_skip 11 rfl rfl rfl ?_
      refine AOps_skip 12 rfl rfl rfl ?_
      refine AOps_skip 13 rfl rfl rfl ?_
      refine AOps_q 14 _ rfl rfl rfl (QOp_pick_f _ _ _ _ rfl rfl rfl) ?_
      refine AOps_q 6 _ rfl rfl rfl (QOp_assign _ _ rfl rfl) ?_
      refine AOps_nil ?_
      cases h
      exact Weak_keep 0 hm [6] [] _ _ rfl rfl rfl
  intro E' H' hw
  refine ACode_weak hw ?_
  have h := hks2
  refine ACode_ret ?_
  cases h
  exact ⟨_, _, fun r a w h => ⟨r, h⟩, _, _, [], _, (.cons (ResV_tmp _ _ rfl) .nil), rfl, rfl, rfl, rfl, rfl⟩

-- loop.example/g01362/spec.l01Is
def spec_l01Is_l0 (k : Nat) (p0 : Col) : Nat → Int → Option (Sum (Unit) (Bool))
  | 0, _ => none
  | k0 + 1, x7 => (if decide (x7 < 136) then (((if decide (x7 < w64 ((w64 (p0.p * (w64 (p0.p - 1)))).tdiv 2)) then (if 0 ≤ x7 ∧ x7 < 136 then (if decide (p0.k ≤ ((p0.get x7.toNat).toNat : Int)) then some true else (if decide (w64 ((w64 (p0.p * (w64 (p0.p - 1)))).tdiv 2) ≤ x7) then (if 0 ≤ x7 ∧ x7 < 136 then some (!decide (((p0.get x7.toNat).toNat : Int) = 0)) else none) else some false)) else none) else (if decide (w64 ((w64 (p0.p * (w64 (p0.p - 1)))).tdiv 2) ≤ x7) then (if 0 ≤ x7 ∧ x7 < 136 then some (!decide (((p0.get x7.toNat).toNat : Int) = 0)) else none) else some false)) : Option (Bool)).bind fun s16 => (if s16 then (some (.inr false)).bind fun rr => some (.inr rr) else some (.inl ())) : Option (Sum (Unit) (Sum (Unit) (Bool)))).bind fun os18 => (match os18 with | .inl s18 => spec_l01Is_l0 k p0 k0 (w64 (x7 + 1)) | .inr rr => some rr) else some (.inl ()))
def spec_l01Is (k : Nat) (p0 : Col) : Option (Bool) :=
  (letO (if !(spec_l01In p0.p 1 17) then true else !(spec_l01In p0.k 1 4)) fun (s4 : Bool) => (if s4 then some (.inr false) else some (.inl ())) : Option (Sum (Unit) (Bool))).bind fun os6 => (match os6 with | .inl s6 => (spec_l01Is_l0 k p0 k 0 : Option (Sum (Unit) (Bool))).bind fun os19 => (match os19 with | .inl s19 => some true | .inr rr => some rr) | .inr rr => some rr)
set_option maxRecDepth 100000 in
theorem spec_l01Is_ac (k : Nat) (p0 : Col) (r : Bool) (h : spec_l01Is k p0 = some r) : AC Try.prog 72 [.d (.agg (colD p0))] [] (fun res H' => res = [bV r] ∧ H' = []) := by
  refine AC_of_body true Try.func72 rfl Try.ntmps72 (rvs := [.tmp 2]) rfl rfl (fun G hG => ?_)
  have hm : G.H.length = 0 := by rw [hG]; rfl
  have hz : zeroG G.H = true := by rw [hG]; rfl
  unfold spec_l01Is at h
  refine ACode_seq (ACode_region ?_)
  refine AOps_boxI 1 _ _ (.agg (colD p0)) (colD p0) rfl (colD_one _) rfl rfl rfl rfl rfl ?_
  refine AOps_q 2 _ rfl rfl rfl (QOp_assign _ _ rfl rfl) ?_
  refine AOps_nil ?_
  obtain ⟨os6, hss6, hks6⟩ := bindO h
  clear h
  refine ACode_seqJ (fun E' H' => ∃ s6 : Unit, os6 = .inl s6 ∧ Weak 51 G E' H' [(1, .d (.pv (colD p0) 0))] []) ?_ ?_
  · have h := hss6
    clear hss6
    obtain ⟨s4, hss4, hks4⟩ := letS h
    clear h
    refine ACode_seqJ (fun E' H' => Weak 51 G E' H' [(1, .d (.pv (colD p0) 0)), (14, bV s4)] []) ?_ ?_
    · have h := hss4
      clear hss4
      refine (ACode_region ?_)
      refine AOps_q 5 _ rfl rfl rfl (QOp_fieldAddr_pv _ _ _ _ _ 0 _ _ rfl Try.underlying26 rfl _ Try.sizeOf2 rfl rfl) ?_
      refine AOps_q 6 _ rfl rfl rfl (QOp_load_pv _ _ _ _ _ rfl Try.isAgg2 rfl rfl) ?_
      refine AOps_call [] 7 _ _ _ _ _ _ _ _ _ _ rfl rfl rfl rfl rfl rfl rfl Try.call66 rfl (nodupB_sound _ rfl) rfl rfl rfl (spec_l01In_ac p0.p 1 17) ?_
      rintro _ _ ⟨rfl, rfl⟩
      refine ⟨(fun _ h => nomatch h), (allc (trivial) (fun _ h => nomatch h)), AOps_as 7 (v' := bV (spec_l01In p0.p 1 17)) (H' := []) rfl rfl ?_⟩
      refine AOps_q 8 _ rfl rfl rfl (QOp_not _ _ _ rfl rfl) ?_
      refine AOps_q 9 _ rfl rfl rfl (QOp_move _ _ rfl rfl) ?_
      refine AOps_case 9 _ rfl (fun hb2 => ?_) (fun hb2 => ?_)
      · have h := iteT hb2 h
        refine AOps_skip 10 rfl rfl rfl ?_
        refine AOps_skip 11 rfl rfl rfl ?_
        refine AOps_skip 12 rfl rfl rfl ?_
        refine AOps_skip 13 rfl rfl rfl ?_
        refine AOps_q 14 _ rfl rfl rfl (QOp_pick_t _ _ _ _ rfl rfl rfl) ?_
        refine AOps_nil ?_
        cases h
        exact Weak_keep 0 hm [1, 14] [] _ _ rfl rfl rfl
      · have h := iteF hb2 h
        refine AOps_q 10 _ rfl rfl rfl (QOp_fieldAddr_pv _ _ _ _ _ 1 _ _ rfl Try.underlying26 rfl _ Try.sizeOf2 rfl rfl) ?_
        refine AOps_q 11 _ rfl rfl rfl (QOp_load_pv _ _ _ _ _ rfl Try.isAgg2 rfl rfl) ?_
        refine AOps_call [] 12 _ _ _ _ _ _ _ _ _ _ rfl rfl rfl rfl rfl rfl rfl Try.call66 rfl (nodupB_sound _ rfl) rfl rfl rfl (spec_l01In_ac p0.k 1 4) ?_
        rintro _ _ ⟨rfl, rfl⟩
        refine ⟨(fun _ h => nomatch h), (allc (trivial) (fun _ h => nomatch h)), AOps_as 12 (v' := bV (spec_l01In p0.k 1 4)) (H' := []) rfl rfl ?_⟩
        refine AOps_q 13 _ rfl rfl rfl (QOp_not _ _ _ rfl rfl) ?_
        refine AOps_q 14 _ rfl rfl rfl (QOp_pick_f _ _ _ _ rfl rfl rfl) ?_
        refine AOps_nil ?_
        cases h
        exact Weak_keep 0 hm [1, 14] [] _ _ rfl rfl rfl
    intro E' H' hw
    refine ACode_weak hw ?_
    have h := hks4
    refine ACode_cond _ rfl (fun hb5 => ?_) (fun hb5 => ?_)
    · have h := iteT hb5 h
      refine ACode_seq (ACode_region ?_)
      refine AOps_q 2 _ rfl rfl rfl (QOp_assign _ _ rfl rfl) ?_
      refine AOps_nil ?_
      refine ACode_ret ?_
      cases h
      have h := hks6
      cases h
      exact ⟨_, _, fun r a w h => ⟨r, h⟩, _, _, [], _, (.cons (ResV_tmp _ _ rfl) .nil), rfl, rfl, rfl, rfl, rfl⟩
    · have h := iteF hb5 h
      refine ACode_skip ?_
      cases h
      exact ⟨_, rfl, Weak_keep 0 hm [1] [] _ _ rfl rfl rfl⟩
  rintro E' H' ⟨s6, rfl, hw⟩
  refine ACode_weak hw ?_
  have h := hks6
  refine ACode_seq (ACode_region ?_)
  refine AOps_q 15 _ rfl rfl rfl (QOp_fieldAddr_pv _ _ _ _ _ 0 _ _ rfl Try.underlying26 rfl _ Try.sizeOf2 rfl rfl) ?_
  refine AOps_q 16 _ rfl rfl rfl (QOp_load_pv _ _ _ _ _ rfl Try.isAgg2 rfl rfl) ?_
  refine AOps_q 17 _ rfl rfl rfl (QOp_fieldAddr_pv _ _ _ _ _ 0 _ _ rfl Try.underlying26 rfl _ Try.sizeOf2 rfl rfl) ?_
  refine AOps_q 18 _ rfl rfl rfl (QOp_load_pv _ _ _ _ _ rfl Try.isAgg2 rfl rfl) ?_
  refine AOps_q 19 _ rfl rfl rfl (QOp_sub _ _ _ _ _ _ _ rfl rfl rfl) ?_
  refine AOps_q 20 _ rfl rfl rfl (QOp_mul _ _ _ _ _ _ _ rfl rfl rfl) ?_
  refine AOps_q 21 _ rfl rfl rfl (QOp_quo _ _ _ _ _ _ _ (by decide) rfl rfl rfl) ?_
  refine AOps_q 3 _ rfl rfl rfl (QOp_assign _ _ rfl rfl) ?_
  refine AOps_nil ?_
  obtain ⟨os19, hss19, hks19⟩ := bindO h
  clear h
  refine ACode_seqJ (fun E' H' => ∃ s19 : Unit, os19 = .inl s19 ∧ Weak 51 G E' H' [] []) ?_ ?_
  · have h := hss19
    clear hss19
    refine ACode_seq (ACode_region ?_)
    refine AOps_q 4 _ rfl rfl rfl (QOp_assign _ _ rfl rfl) ?_
    refine AOps_nil ?_
    refine ACode_block ?_
    refine ACode_loopW (fun k0 E H => ∃ (x7 : Int), E = [(1, .d (.pv (colD p0) 0)), (3, iV (w64 ((w64 (p0.p * (w64 (p0.p - 1)))).tdiv 2))), (4, iV x7)] ∧ H = [] ∧ spec_l01Is_l0 k p0 k0 x7 = some os19) k _ _ (Weak_keep 0 hm [1, 3, 4] [] _ _ rfl rfl rfl) ⟨_, rfl, rfl, h⟩ ?_
    clear h
    rintro k0 E H ⟨x7, rfl, rfl, h⟩
    cases k0 with
    | zero => cases (show (none : Option (Sum (Unit) (Bool))) = some _ from h)
    | succ k0 =>
      rw [spec_l01Is_l0] at h
      refine ACode_seq ?_
      refine ACode_seq (ACode_region ?_)
      refine AOps_q 22 _ rfl rfl rfl (QOp_move _ _ rfl rfl) ?_
      refine AOps_q 23 _ rfl rfl rfl (QOp_lss _ _ _ _ _ _ _ rfl rfl rfl) ?_
      refine AOps_nil ?_
      refine ACode_cond _ rfl (fun hb8 => ?_) (fun hb8 => ?_)
      · have h := iteT hb8 h
        refine ACode_skip ?_
        obtain ⟨os18, hss18, hks18⟩ := bindO h
        clear h
        refine ACode_seqJ (fun E' H' => ∃ s18 : Unit, os18 = .inl s18 ∧ Weak 51 G E' H' [(1, .d (.pv (colD p0) 0)), (3, iV (w64 ((w64 (p0.p * (w64 (p0.p - 1)))).tdiv 2))), (4, iV x7)] []) ?_ ?_
        · have h := hss18
          clear hss18
          refine ACode_block ?_
          obtain ⟨s16, hss16, hks16⟩ := bindO h
          clear h
          refine ACode_seqJ (fun E' H' => Weak 51 G E' H' [(1, .d (.pv (colD p0) 0)), (3, iV (w64 ((w64 (p0.p * (w64 (p0.p - 1)))).tdiv 2))), (4, iV x7), (50, bV s16)] []) ?_ ?_
          · have h := hss16
            clear hss16
            refine (ACode_quiet mixed (by kernel_rfl) ?_)
            refine AQ_q 26 _ rfl rfl rfl (QOp_move _ _ rfl rfl) ?_
            refine AQ_q 27 _ rfl rfl rfl (QOp_move _ _ rfl rfl) ?_
            refine AQ_q 28 _ rfl rfl rfl (QOp_lss _ _ _ _ _ _ _ rfl rfl rfl) ?_
            refine AQ_q 29 _ rfl rfl rfl (QOp_move _ _ rfl rfl) ?_
            refine AQ_case 29 _ rfl (fun hb9 => ?_) (fun hb9 => ?_)
            · have h := iteT hb9 h
              refine AQ_q 30 _ rfl rfl rfl (QOp_move _ _ rfl rfl) ?_
              refine AQ_q 31 _ rfl rfl rfl (QOp_fieldAddr_pv _ _ _ _ _ 2 _ _ rfl Try.underlying26 rfl _ Try.sizeOf24 rfl rfl) ?_
              obtain ⟨hc10, h⟩ := guardO h
              refine AQ_q 32 _ rfl rfl rfl (QOp_indexAddrA_pv _ _ _ _ _ _ _ _ _ rfl Try.underlying24 Try.sizeOf5 hc10.1 hc10.2 rfl rfl) ?_
              refine AQ_q 33 _ rfl rfl rfl (QOp_load_pv _ _ _ _ _ rfl Try.isAgg5 rfl (colD_get _ _ (by omega))) ?_
              refine AQ_q 34 _ rfl rfl rfl (QOp_fromByte _ _ _ _ _ rfl rfl Try.underlying2 wrap_i64_byte rfl) ?_
              refine AQ_q 35 _ rfl rfl rfl (QOp_fieldAddr_pv _ _ _ _ _ 1 _ _ rfl Try.underlying26 rfl _ Try.sizeOf2 rfl rfl) ?_
              refine AQ_q 36 _ rfl rfl rfl (QOp_load_pv _ _ _ _ _ rfl Try.isAgg2 rfl rfl) ?_
              refine AQ_q 37 _ rfl rfl rfl (QOp_geq _ _ _ _ _ _ _ rfl rfl rfl) ?_
              refine AQ_q 38 _ rfl rfl rfl (QOp_pick_t _ _ _ _ rfl rfl rfl) ?_
              refine AQ_q 39 _ rfl rfl rfl (QOp_move _ _ rfl rfl) ?_
              refine AQ_case 39 _ rfl (fun hb11 => ?_) (fun hb11 => ?_)
              · have h := iteT hb11 h
                refine AQ_skip 40 rfl rfl rfl ?_
                refine AQ_skip 41 rfl rfl rfl ?_
                refine AQ_skip 42 rfl rfl rfl ?_
                refine AQ_skip 43 rfl rfl rfl ?_
                refine AQ_skip 44 rfl rfl rfl ?_
                refine AQ_skip 45 rfl rfl rfl ?_
                refine AQ_skip 46 rfl rfl rfl ?_
                refine AQ_skip 47 rfl rfl rfl ?_
                refine AQ_skip 48 rfl rfl rfl ?_
                refine AQ_skip 49 rfl rfl rfl ?_
                refine AQ_q 50 _ rfl rfl rfl (QOp_pick_t _ _ _ _ rfl rfl rfl) ?_
                refine AQ_nil ?_
                cases h
                exact Weak_keep 0 hm [1, 3, 4, 50] [] _ _ rfl rfl rfl
              · have h := iteF hb11 h
                refine AQ_q 40 _ rfl rfl rfl (QOp_move _ _ rfl rfl) ?_
                refine AQ_q 41 _ rfl rfl rfl (QOp_move _ _ rfl rfl) ?_
                refine AQ_q 42 _ rfl rfl rfl (QOp_geq _ _ _ _ _ _ _ rfl rfl rfl) ?_
                refine AQ_q 43 _ rfl rfl rfl (QOp_move _ _ rfl rfl) ?_
                refine AQ_case 43 _ rfl (fun hb12 => ?_) (fun hb12 => ?_)
                · have h := iteT hb12 h
                  refine AQ_q 44 _ rfl rfl rfl (QOp_move _ _ rfl rfl) ?_
                  refine AQ_q 45 _ rfl rfl rfl (QOp_fieldAddr_pv _ _ _ _ _ 2 _ _ rfl Try.underlying26 rfl _ Try.sizeOf24 rfl rfl) ?_
                  obtain ⟨hc13, h⟩ := guardO h
                  refine AQ_q 46 _ rfl rfl rfl (QOp_indexAddrA_pv _ _ _ _ _ _ _ _ _ rfl Try.underlying24 Try.sizeOf5 hc13.1 hc13.2 rfl rfl) ?_
                  refine AQ_q 47 _ rfl rfl rfl (QOp_load_pv _ _ _ _ _ rfl Try.isAgg5 rfl (colD_get _ _ (by omega))) ?_
                  refine AQ_q 48 _ rfl rfl rfl (QOp_neq _ _ _ _ _ _ _ rfl rfl rfl) ?_
                  refine AQ_q 49 _ rfl rfl rfl (QOp_pick_t _ _ _ _ rfl rfl rfl) ?_
                  refine AQ_q 50 _ rfl rfl rfl (QOp_pick_f _ _ _ _ rfl rfl rfl) ?_
                  refine AQ_nil ?_
                  cases h
                  exact Weak_keep 0 hm [1, 3, 4, 50] [] _ _ rfl rfl rfl
                · have h := iteF hb12 h
                  refine AQ_skip 44 rfl rfl rfl ?_
                  refine AQ_skip 45 rfl rfl rfl ?_
                  refine AQ_skip 46 rfl rfl rfl ?_
                  refine AQ_skip 47 rfl rfl rfl ?_
                  refine AQ_skip 48 rfl rfl rfl ?_
                  refine AQ_q 49 _ rfl rfl rfl (QOp_pick_f _ _ _ _ rfl rfl rfl) ?_
                  refine AQ_q 50 _ rfl rfl rfl (QOp_pick_f _ _ _ _ rfl rfl rfl) ?_
                  refine AQ_nil ?_
                  cases h
                  exact Weak_keep 0 hm [1, 3, 4, 50] [] _ _ rfl rfl rfl
            · have h := iteF hb9 h
              refine AQ_skip 30 rfl rfl rfl ?_
              refine AQ_skip 31 rfl rfl rfl ?_
              refine AQ_skip 32 rfl rfl rfl ?_
              refine AQ_skip 33 rfl rfl rfl ?_
              refine AQ_skip 34 rfl rfl rfl ?_
              refine AQ_skip 35 rfl rfl rfl ?_
              refine AQ_skip 36 rfl rfl rfl ?_
              refine AQ_skip 37 rfl rfl rfl ?_
              refine AQ_q 38 _ rfl rfl rfl (QOp_pick_f _ _ _ _ rfl rfl rfl) ?_
              refine AQ_q 39 _ rfl rfl rfl (QOp_move _ _ rfl rfl) ?_
              refine AQ_q 40 _ rfl rfl rfl (QOp_move _ _ rfl rfl) ?_
              refine AQ_q 41 _ rfl rfl rfl (QOp_move _ _ rfl rfl) ?_
              refine AQ_q 42 _ rfl rfl rfl (QOp_geq _ _ _ _ _ _ _ rfl rfl rfl) ?_
              refine AQ_q 43 _ rfl rfl rfl (QOp_move _ _ rfl rfl) ?_
              refine AQ_case 43 _ rfl (fun hb14 => ?_) (fun hb14 => ?_)
              · have h := iteT hb14 h
                refine AQ_q 44 _ rfl rfl rfl (QOp_move _ _ rfl rfl) ?_
                refine AQ_q 45 _ rfl rfl rfl (QOp_fieldAddr_pv _ _ _ _ _ 2 _ _ rfl Try.underlying26 rfl _ Try.sizeOf24 rfl rfl) ?_
                obtain ⟨hc15, h⟩ := guardO h
                refine AQ_q 46 _ rfl rfl rfl (QOp_indexAddrA_pv _ _ _ _ _ _ _ _ _ rfl Try.underlying24 Try.sizeOf5 hc15.1 hc15.2 rfl rfl) ?_
                refine AQ_q 47 _ rfl rfl rfl (QOp_load_pv _ _ _ _ _ rfl Try.isAgg5 rfl (colD_get _ _ (by omega))) ?_
                refine AQ_q 48 _ rfl rfl rfl (QOp_neq _ _ _ _ _ _ _ rfl rfl rfl) ?_
                refine AQ_q 49 _ rfl rfl rfl (QOp_pick_t _ _ _ _ rfl rfl rfl) ?_
                refine AQ_q 50 _ rfl rfl rfl (QOp_pick_f _ _ _ _ rfl rfl rfl) ?_
                refine AQ_nil ?_
                cases h
                exact Weak_keep 0 hm [1, 3, 4, 50] [] _ _ rfl rfl rfl
              · have h := iteF hb14 h
                refine AQ_skip 44 rfl rfl rfl ?_
                refine AQ_skip 45 rfl rfl rfl ?_
                refine AQ_skip 46 rfl rfl rfl ?_
                refine AQ_skip 47 rfl rfl rfl ?_
                refine AQ_skip 48 rfl rfl rfl ?_
                refine AQ_q 49 _ rfl rfl rfl (QOp_pick_f _ _ _ _ rfl rfl rfl) ?_
                refine AQ_q 50 _ rfl rfl rfl (QOp_pick_f _ _ _ _ rfl rfl rfl) ?_
                refine AQ_nil ?_
                cases h
                exact Weak_keep 0 hm [1, 3, 4, 50] [] _ _ rfl rfl rfl
          intro E' H' hw
          refine ACode_weak hw ?_
          have h := hks16
          refine ACode_cond _ rfl (fun hb17 => ?_) (fun hb17 => ?_)
          · have h := iteT hb17 h
            refine ACode_seq (ACode_region ?_)
            refine AOps_q 2 _ rfl rfl rfl (QOp_assign _ _ rfl rfl) ?_
            refine AOps_nil ?_
            refine ACode_ret ?_
            obtain ⟨rr, hz20, h2⟩ := bindO h
            obtain rfl := Option.some.inj h2
            obtain rfl := Option.some.inj (show some rr = some _ from hks18)
            have h := hz20
            cases h
            have h := hks19
            cases h
            exact ⟨_, _, fun r a w h => ⟨r, h⟩, _, _, [], _, (.cons (ResV_tmp _ _ rfl) .nil), rfl, rfl, rfl, rfl, rfl⟩
          · have h := iteF hb17 h
            refine ACode_skip ?_
            cases h
            exact ⟨_, rfl, Weak_keep 0 hm [1, 3, 4] [] _ _ rfl rfl rfl⟩
        rintro E' H' ⟨s18, rfl, hw⟩
        refine ACode_weak hw ?_
        have h := hks18
        refine (ACode_region ?_)
        refine AOps_q 24 _ rfl rfl rfl (QOp_move _ _ rfl rfl) ?_
        refine AOps_q 25 _ rfl rfl rfl (QOp_add _ _ _ _ _ _ _ rfl rfl rfl) ?_
        refine AOps_q 4 _ rfl rfl rfl (QOp_assign _ _ rfl rfl) ?_
        refine AOps_nil ?_
        exact ⟨k0, _, _, Nat.lt_succ_self _, Weak_keep 0 hm [1, 3, 4] [] _ _ rfl rfl rfl, _, rfl, rfl, h⟩
      · have h := iteF hb8 h
        refine ACode_exit ?_
        cases h
        exact ⟨_, rfl, Weak_keep 0 hm [] [] _ _ rfl rfl rfl⟩
  rintro E' H' ⟨s19, rfl, hw⟩
  refine ACode_weak hw ?_
  have h := hks19
  refine ACode_seq (ACode_region ?_)
  refine AOps_q 2 _ rfl rfl rfl (QOp_assign _ _ rfl rfl) ?_
  refine AOps_nil ?_
  refine ACode_ret ?_
  cases h
  exact ⟨_, _, fun r a w h => ⟨r, h⟩, _, _, [], _, (.cons (ResV_tmp _ _ rfl) .nil), rfl, rfl, rfl, rfl, rfl⟩

-- loop.example/g01362/spec.l01All
def spec_l01All_l0 (p0 : List Int) (p1 : Int) : Nat → Int → Option (Sum (Unit) (Bool))
  | 0, _ => none
  | k0 + 1, x1 => (if decide (x1 < (p0.length : Int)) then (if 0 ≤ x1 ∧ x1 < (p0.length : Int) then (if !(spec_l01In (p0.getD x1.toNat 0) 0 (w64 (p1 - 1))) then some (.inr false) else spec_l01All_l0 p0 p1 k0 (w64 (x1 + 1))) else none) else some (.inl ()))
def spec_l01All (k : Nat) (p0 : List Int) (p1 : Int) : Option (Bool) :=
  (spec_l01All_l0 p0 p1 k 0 : Option (Sum (Unit) (Bool))).bind fun os6 => (match os6 with | .inl s6 => some true | .inr rr => some rr)
set_option maxRecDepth 100000 in
theorem spec_l01All_ac (k : Nat) (p0 : List Int) (p1 : Int) (r : Bool) (h : spec_l01All k p0 p1 = some r) : AC Try.prog 110 [.d (.sl none (intsD p0)), iV p1] [] (fun res H' => res = [bV r] ∧ H' = []) := by
  refine AC_of_body true Try.func110 rfl Try.ntmps110 (rvs := [.tmp 4]) rfl rfl (fun G hG => ?_)
  have hm : G.H.length = 0 := by rw [hG]; rfl
  have hz : zeroG G.H = true := by rw [hG]; rfl
  unfold spec_l01All at h
  refine ACode_seq (ACode_region ?_)
  refine AOps_q 4 _ rfl rfl rfl (QOp_assign _ _ rfl rfl) ?_
  refine AOps_nil ?_
  obtain ⟨os6, hss6, hks6⟩ := bindO h
  clear h
  refine ACode_seqJ (fun E' H' => ∃ s6 : Unit, os6 = .inl s6 ∧ Weak 20 G E' H' [] []) ?_ ?_
  · have h := hss6
    clear hss6
    refine ACode_seq (ACode_region ?_)
    refine AOps_q 5 _ rfl rfl rfl (QOp_assign _ _ rfl rfl) ?_
    refine AOps_nil ?_
    refine ACode_block ?_
    refine ACode_loopW (fun k0 E H => ∃ (x1 : Int), E = [(0, .d (.sl none (intsD p0))), (1, iV p1), (5, iV x1)] ∧ H = [] ∧ spec_l01All_l0 p0 p1 k0 x1 = some os6) k _ _ (Weak_keep 0 hm [0, 1, 5] [] _ _ rfl rfl rfl) ⟨_, rfl, rfl, h⟩ ?_
    clear h
    rintro k0 E H ⟨x1, rfl, rfl, h⟩
    cases k0 with
    | zero => cases (show (none : Option (Sum (Unit) (Bool))) = some _ from h)
    | succ k0 =>
      rw [spec_l01All_l0] at h
      refine ACode_seq ?_
      refine ACode_seq (ACode_region ?_)
      refine AOps_q 6 _ rfl rfl rfl (QOp_move _ _ rfl rfl) ?_
      refine AOps_q 7 _ rfl rfl rfl (QOp_move _ _ rfl rfl) ?_
      refine AOps_q 8 _ rfl rfl rfl (QOp_len_sl _ _ _ _ _ _ _ (intsD_length _) rfl rfl rfl rfl Try.underlying29 rfl) ?_
      refine AOps_q 9 _ rfl rfl rfl (QOp_lss _ _ _ _ _ _ _ rfl rfl rfl) ?_
      refine AOps_nil ?_
      refine ACode_cond _ rfl (fun hb2 => ?_) (fun hb2 => ?_)
      · have h := iteT hb2 h
        refine ACode_skip ?_
        refine ACode_seq ?_
        refine ACode_block ?_
        refine ACode_seq (ACode_region ?_)
        refine AOps_q 12 _ rfl rfl rfl (QOp_move _ _ rfl rfl) ?_
        refine AOps_q 13 _ rfl rfl rfl (QOp_move _ _ rfl rfl) ?_
        obtain ⟨hc3, h⟩ := guardO h
        refine AOps_q 14 _ rfl rfl rfl (QOp_indexAddr_sl _ _ _ _ _ _ _ _ rfl Try.underlying29 Try.sizeOf2 hc3.1 (by rw [intsD_length]; exact hc3.2) rfl rfl) ?_
        refine AOps_q 15 _ rfl rfl rfl (QOp_load_pv _ _ _ _ _ rfl Try.isAgg2 rfl (intsD_get _ _ 0 (by omega))) ?_
        refine AOps_q 16 _ rfl rfl rfl (QOp_move _ _ rfl rfl) ?_
        refine AOps_q 17 _ rfl rfl rfl (QOp_sub _ _ _ _ _ _ _ rfl rfl rfl) ?_
        refine AOps_call [] 18 _ _ _ _ _ _ _ _ _ _ rfl rfl rfl rfl rfl rfl rfl Try.call66 rfl (nodupB_sound _ rfl) rfl rfl rfl (spec_l01In_ac (p0.getD x1.toNat 0) 0 (w64 (p1 - 1))) ?_
        rintro _ _ ⟨rfl, rfl⟩
        refine ⟨(fun _ h => nomatch h), (allc (trivial) (fun _ h => nomatch h)), AOps_as 18 (v' := bV (spec_l01In (p0.getD x1.toNat 0) 0 (w64 (p1 - 1)))) (H' := []) rfl rfl ?_⟩
        refine AOps_q 19 _ rfl rfl rfl (QOp_not _ _ _ rfl rfl) ?_
        refine AOps_nil ?_
        refine ACode_cond _ rfl (fun hb5 => ?_) (fun hb5 => ?_)
        · have h := iteT hb5 h
          refine ACode_seq (ACode_region ?_)
          refine AOps_q 4 _ rfl rfl rfl (QOp_assign _ _ rfl rfl) ?_
          refine AOps_nil ?_
          refine ACode_ret ?_
          cases h
          have h := hks6
          cases h
          exact ⟨_, _, fun r a w h => ⟨r, h⟩, _, _, [], _, (.cons (ResV_tmp _ _ rfl) .nil), rfl, rfl, rfl, rfl, rfl⟩
        · have h := iteF hb5 h
          refine ACode_skip ?_
          refine (ACode_region ?_)
          refine AOps_q 10 _ rfl rfl rfl (QOp_move _ _ rfl rfl) ?_
          refine AOps_q 11 _ rfl rfl rfl (QOp_add _ _ _ _ _ _ _ rfl rfl rfl) ?_
          refine AOps_q 5 _ rfl rfl rfl (QOp_assign _ _ rfl rfl) ?_
          refine AOps_nil ?_
          exact ⟨k0, _, _, Nat.lt_succ_self _, Weak_keep 0 hm [0, 1, 5] [] _ _ rfl rfl rfl, _, rfl, rfl, h⟩
      · have h := iteF hb2 h
        refine ACode_exit ?_
        cases h
        exact ⟨_, rfl, Weak_keep 0 hm [] [] _ _ rfl rfl rfl⟩
  rintro E' H' ⟨s6, rfl, hw⟩
  refine ACode_weak hw ?_
  have h := hks6
  refine ACode_seq (ACode_region ?_)
  refine AOps_q 4 _ rfl rfl rfl (QOp_assign _ _ rfl rfl) ?_
  refine AOps_nil ?_
  refine ACode_ret ?_
  cases h
  exact ⟨_, _, fun r a w h => ⟨r, h⟩, _, _, [], _, (.cons (ResV_tmp _ _ rfl) .nil), rfl, rfl, rfl, rfl, rfl⟩

-- loop.example/g01362/spec.l01Given
def spec_l01Given (k : Nat) (p0 : Col) (p1 : Int) (p2 : List Int) : Option (Int) :=
  ((spec_l01Is k p0).bind fun r1 => (if !r1 then some (.inr 1) else ((if !(spec_l01In p1 0 (w64 (p0.k - 1))) then some true else (spec_l01All k p2 p0.p).bind fun r5 => some (!r5)) : Option (Bool)).bind fun s6 => (if s6 then some (.inr 2) else some (.inl ()))) : Option (Sum (Unit) (Int))).bind fun os8 => (match os8 with | .inl s8 => some 0 | .inr rr => some rr)
set_option maxRecDepth 100000 in
theorem spec_l01Given_ac (k : Nat) (p0 : Col) (p1 : Int) (p2 : List Int) (r : Int) (h : spec_l01Given k p0 p1 p2 = some r) : AC Try.prog 52 [.d (.agg (colD p0)), iV p1, .d (.sl none (intsD p2))] [] (fun res H' => res = [iV r] ∧ H' = []) := by
  refine AC_of_body true Try.func52 rfl Try.ntmps52 (rvs := [.tmp 6]) rfl rfl (fun G hG => ?_)
  have hm : G.H.length = 0 := by rw [hG]; rfl
  have hz : zeroG G.H = true := by rw [hG]; rfl
  unfold spec_l01Given at h
  refine ACode_seq (ACode_region ?_)
  refine AOps_boxI 3 _ _ (.agg (colD p0)) (colD p0) rfl (colD_one _) rfl rfl rfl rfl rfl ?_
  refine AOps_q 6 _ rfl rfl rfl (QOp_assign _ _ rfl rfl) ?_
  refine AOps_nil ?_
  obtain ⟨os8, hss8, hks8⟩ := bindO h
  clear h
  refine ACode_seqJ (fun E' H' => ∃ s8 : Unit, os8 = .inl s8 ∧ Weak 25 G E' H' [] []) ?_ ?_
  · have h := hss8
    clear hss8
    refine ACode_block ?_
    refine ACode_seq (ACode_region ?_)
    refine AOps_q 8 _ rfl rfl rfl (QOp_loadN_pv _ _ _ _ _ _ rfl Try.isAgg26 Try.sizeOf26 rfl (colD_all _) (colD_length _)) ?_
    obtain ⟨r1, hr1, h⟩ := bindO h
    refine AOps_call [] 9 _ _ _ _ _ _ _ _ _ _ rfl rfl rfl rfl rfl rfl rfl Try.call72 rfl (nodupB_sound _ rfl) rfl rfl rfl (spec_l01Is_ac k p0 _ hr1) ?_
    rintro _ _ ⟨rfl, rfl⟩
    refine ⟨(fun _ h => nomatch h), (allc (trivial) (fun _ h => nomatch h)), AOps_as 9 (v' := bV r1) (H' := []) rfl rfl ?_⟩
    refine AOps_q 10 _ rfl rfl rfl (QOp_not _ _ _ rfl rfl) ?_
    refine AOps_q 7 _ rfl rfl rfl (QOp_assign _ _ rfl rfl) ?_
    refine AOps_nil ?_
    refine ACode_cond _ rfl (fun hb2 => ?_) (fun hb2 => ?_)
    · have h := iteT hb2 h
      refine ACode_seq (ACode_region ?_)
      refine AOps_q 6 _ rfl rfl rfl (QOp_assign _ _ rfl rfl) ?_
      refine AOps_nil ?_
      refine ACode_ret ?_
      cases h
      have h := hks8
      cases h
      exact ⟨_, _, fun r a w h => ⟨r, h⟩, _, _, [], _, (.cons (ResV_tmp _ _ rfl) .nil), rfl, rfl, rfl, rfl, rfl⟩
    · have h := iteF hb2 h
      obtain ⟨s6, hss6, hks6⟩ := bindO h
      clear h
      refine ACode_seqJ (fun E' H' => Weak 25 G E' H' [(11, bV s6)] []) ?_ ?_
      · have h := hss6
        clear hss6
        refine (ACode_region ?_)
        refine AOps_q 12 _ rfl rfl rfl (QOp_move _ _ rfl rfl) ?_
        refine AOps_q 13 _ rfl rfl rfl (QOp_fieldAddr_pv _ _ _ _ _ 1 _ _ rfl Try.underlying26 rfl _ Try.sizeOf2 rfl rfl) ?_
        refine AOps_q 14 _ rfl rfl rfl (QOp_load_pv _ _ _ _ _ rfl Try.isAgg2 rfl rfl) ?_
        refine AOps_q 15 _ rfl rfl rfl (QOp_sub _ _ _ _ _ _ _ rfl rfl rfl) ?_
        refine AOps_call [] 16 _ _ _ _ _ _ _ _ _ _ rfl rfl rfl rfl rfl rfl rfl Try.call66 rfl (nodupB_sound _ rfl) rfl rfl rfl (spec_l01In_ac p1 0 (w64 (p0.k - 1))) ?_
        rintro _ _ ⟨rfl, rfl⟩
        refine ⟨(fun _ h => nomatch h), (allc (trivial) (fun _ h => nomatch h)), AOps_as 16 (v' := bV (spec_l01In p1 0 (w64 (p0.k - 1)))) (H' := []) rfl rfl ?_⟩
        refine AOps_q 17 _ rfl rfl rfl (QOp_not _ _ _ rfl rfl) ?_
        refine AOps_q 18 _ rfl rfl rfl (QOp_move _ _ rfl rfl) ?_
        refine AOps_case 18 _ rfl (fun hb4 => ?_) (fun hb4 => ?_)
        · have h := iteT hb4 h
          refine AOps_skip 19 rfl rfl rfl ?_
          refine AOps_skip 20 rfl rfl rfl ?_
          refine AOps_skip 21 rfl rfl rfl ?_
          refine AOps_skip 22 rfl rfl rfl ?_
          refine AOps_skip 23 rfl rfl rfl ?_
          refine AOps_q 24 _ rfl rfl rfl (QOp_pick_t _ _ _ _ rfl rfl rfl) ?_
          refine AOps_q 11 _ rfl rfl rfl (QOp_assign _ _ rfl rfl) ?_
          refine AOps_nil ?_
          cases h
          exact Weak_keep 0 hm [11] [] _ _ rfl rfl rfl
        · have h := iteF hb4 h
          refine AOps_q 19 _ rfl rfl rfl (QOp_move _ _ rfl rfl) ?_
          refine AOps_q 20 _ rfl rfl rfl (QOp_fieldAddr_pv _ _ _ _ _ 0 _ _ rfl Try.underlying26 rfl _ Try.sizeOf2 rfl rfl) ?_
          refine AOps_q 21 _ rfl rfl rfl (QOp_load_pv _ _ _ _ _ rfl Try.isAgg2 rfl rfl) ?_
          obtain ⟨r5, hr5, h⟩ := bindO h
          refine AOps_call [] 22 _ _ _ _ _ _ _ _ _ _ rfl rfl rfl rfl rfl rfl rfl Try.call110 rfl (nodupB_sound _ rfl) rfl rfl rfl (spec_l01All_ac k p2 p0.p _ hr5) ?_
          rintro _ _ ⟨rfl, rfl⟩
          refine ⟨(fun _ h => nomatch h), (allc (trivial) (fun _ h => nomatch h)), AOps_as 22 (v' := bV r5) (H' := []) rfl rfl ?_⟩
          refine AOps_q 23 _ rfl rfl rfl (QOp_not _ _ _ rfl rfl) ?_
          refine AOps_q 24 _ rfl rfl rfl (QOp_pick_f _ _ _ _ rfl rfl rfl) ?_
          refine AOps_q 11 _ rfl rfl rfl (QOp_assign _ _ rfl rfl) ?_
          refine AOps_nil ?_
          cases h
          exact Weak_keep 0 hm [11] [] _ _ rfl rfl rfl
      intro E' H' hw
      refine ACode_weak hw ?_
      have h := hks6
      refine ACode_cond _ rfl (fun hb7 => ?_) (fun hb7 => ?_)
      · have h := iteT hb7 h
        refine ACode_seq (ACode_region ?_)
        refine AOps_q 6 _ rfl rfl rfl (QOp_assign _ _ rfl rfl) ?_
        refine AOps_nil ?_
        refine ACode_ret ?_
        cases h
        have h := hks8
        cases h
        exact ⟨_, _, fun r a w h => ⟨r, h⟩, _, _, [], _, (.cons (ResV_tmp _ _ rfl) .nil), rfl, rfl, rfl, rfl, rfl⟩
      · have h := iteF hb7 h
        refine ACode_skip ?_
        cases h
        exact ⟨_, rfl, Weak_keep 0 hm [] [] _ _ rfl rfl rfl⟩
  rintro E' H' ⟨s8, rfl, hw⟩
  refine ACode_weak hw ?_
  have h := hks8
  refine ACode_seq (ACode_region ?_)
  refine AOps_q 6 _ rfl rfl rfl (QOp_assign _ _ rfl rfl) ?_
  refine AOps_nil ?_
  refine ACode_ret ?_
  cases h
  exact ⟨_, _, fun r a w h => ⟨r, h⟩, _, _, [], _, (.cons (ResV_tmp _ _ rfl) .nil), rfl, rfl, rfl, rfl, rfl⟩

-- loop.example/g01362/spec.l01Around
def spec_l01Around_l0 (p0 : Col) (p1 : Int) (p2 : Int) : Nat → Int → Int → Option (Int)
  | 0, _, _ => none
  | k0 + 1, x1, x2 => (if decide (x2 < p0.p) then (((if !decide (x2 = p1) then (spec_l01At p0 p1 x2).bind fun r5 => some (decide (r5 = p2)) else some false) : Option (Bool)).bind fun s6 => (if s6 then (if 0 ≤ IntKind.u64.wrap x2 then some (bOr .i64 x1 (bShl .i64 1 (IntKind.u64.wrap x2))) else none) else some x1) : Option (Int)).bind fun s9 => spec_l01Around_l0 p0 p1 p2 k0 s9 (w64 (x2 + 1)) else some x1)
def spec_l01Around (k : Nat) (p0 : Col) (p1 : Int) (p2 : Int) : Option (Int) :=
  (spec_l01Around_l0 p0 p1 p2 k 0 0 : Option (Int)).bind fun s10 => some s10
set_option maxRecDepth 100000 in
theorem spec_l01Around_ac (k : Nat) (p0 : Col) (p1 : Int) (p2 : Int) (r : Int) (h : spec_l01Around k p0 p1 p2 = some r) : AC Try.prog 88 [.d (.agg (colD p0)), iV p1, iV p2] [] (fun res H' => res = [iV r] ∧ H' = []) := by
  refine AC_of_body true Try.func88 rfl Try.ntmps88 (rvs := [.tmp 6]) rfl rfl (fun G hG => ?_)
  have hm : G.H.length = 0 := by rw [hG]; rfl
  have hz : zeroG G.H = true := by rw [hG]; rfl
  unfold spec_l01Around at h
  refine ACode_seq (ACode_region ?_)
  refine AOps_boxI 3 _ _ (.agg (colD p0)) (colD p0) rfl (colD_one _) rfl rfl rfl rfl rfl ?_
  refine AOps_q 6 _ rfl rfl rfl (QOp_assign _ _ rfl rfl) ?_
  refine AOps_nil ?_
  refine ACode_seq (ACode_region ?_)
  refine AOps_q 7 _ rfl rfl rfl (QOp_assign _ _ rfl rfl) ?_
  refine AOps_nil ?_
  obtain ⟨s10, hss10, hks10⟩ := bindO h
  clear h
  refine ACode_seqJ (fun E' H' => Weak 32 G E' H' [(7, iV s10)] []) ?_ ?_
  · have h := hss10
    clear hss10
    refine ACode_seq (ACode_region ?_)
    refine AOps_q 8 _ rfl rfl rfl (QOp_assign _ _ rfl rfl) ?_
    refine AOps_nil ?_
    refine ACode_block ?_
    refine ACode_loopW (fun k0 E H => ∃ (x1 : Int) (x2 : Int), E = [(1, iV p1), (2, iV p2), (3, .d (.pv (colD p0) 0)), (7, iV x1), (8, iV x2)] ∧ H = [] ∧ spec_l01Around_l0 p0 p1 p2 k0 x1 x2 = some s10) k _ _ (Weak_keep 0 hm [1, 2, 3, 7, 8] [] _ _ rfl rfl rfl) ⟨_, _, rfl, rfl, h⟩ ?_
    clear h
    rintro k0 E H ⟨x1, x2, rfl, rfl, h⟩
    cases k0 with
    | zero => cases (show (none : Option (Int)) = some _ from h)
    | succ k0 =>
      rw [spec_l01Around_l0] at h
      refine ACode_seq ?_
      refine ACode_seq (ACode_region ?_)
      refine AOps_q 9 _ rfl rfl rfl (QOp_move _ _ rfl rfl) ?_
      refine AOps_q 10 _ rfl rfl rfl (QOp_fieldAddr_pv _ _ _ _ _ 0 _ _ rfl Try.underlying26 rfl _ Try.sizeOf2 rfl rfl) ?_
      refine AOps_q 11 _ rfl rfl rfl (QOp_load_pv _ _ _ _ _ rfl Try.isAgg2 rfl rfl) ?_
      refine AOps_q 12 _ rfl rfl rfl (QOp_lss _ _ _ _ _ _ _ rfl rfl rfl) ?_
      refine AOps_nil ?_
      refine ACode_cond _ rfl (fun hb3 => ?_) (fun hb3 => ?_)
      · have h := iteT hb3 h
        refine ACode_skip ?_
        obtain ⟨s9, hss9, hks9⟩ := bindO h
        clear h
        refine ACode_seqJ (fun E' H' => Weak 32 G E' H' [(1, iV p1), (2, iV p2), (3, .d (.pv (colD p0) 0)), (7, iV s9), (8, iV x2)] []) ?_ ?_
        · have h := hss9
          clear hss9
          refine ACode_block ?_
          obtain ⟨s6, hss6, hks6⟩ := bindO h
          clear h
          refine ACode_seqJ (fun E' H' => Weak 32 G E' H' [(1, iV p1), (2, iV p2), (3, .d (.pv (colD p0) 0)), (7, iV x1), (8, iV x2), (25, bV s6)] []) ?_ ?_
          · have h := hss6
            clear hss6
            refine (ACode_region ?_)
            refine AOps_q 15 _ rfl rfl rfl (QOp_move _ _ rfl rfl) ?_
            refine AOps_q 16 _ rfl rfl rfl (QOp_move _ _ rfl rfl) ?_
            refine AOps_q 17 _ rfl rfl rfl (QOp_neq _ _ _ _ _ _ _ rfl rfl rfl) ?_
            refine AOps_q 18 _ rfl rfl rfl (QOp_move _ _ rfl rfl) ?_
            refine AOps_case 18 _ rfl (fun hb4 => ?_) (fun hb4 => ?_)
            · have h := iteT hb4 h
              refine AOps_q 19 _ rfl rfl rfl (QOp_loadN_pv _ _ _ _ _ _ rfl Try.isAgg26 Try.sizeOf26 rfl (colD_all _) (colD_length _)) ?_
              refine AOps_q 20 _ rfl rfl rfl (QOp_move _ _ rfl rfl) ?_
              refine AOps_q 21 _ rfl rfl rfl (QOp_move _ _ rfl rfl) ?_
              obtain ⟨r5, hr5, h⟩ := bindO h
              refine AOps_call [] 22 _ _ _ _ _ _ _ _ _ _ rfl rfl rfl rfl rfl rfl rfl Try.call54 rfl (nodupB_sound _ rfl) rfl rfl rfl (spec_l01At_ac p0 p1 x2 _ hr5) ?_
              rintro _ _ ⟨rfl, rfl⟩
              refine ⟨(fun _ h => nomatch h), (allc (trivial) (fun _ h => nomatch h)), AOps_as 22 (v' := iV r5) (H' := []) rfl rfl ?_⟩
              refine AOps_q 23 _ rfl rfl rfl (QOp_move _ _ rfl rfl) ?_
              refine AOps_q 24 _ rfl rfl rfl (QOp_eql _ _ _ _ _ _ _ rfl rfl rfl) ?_
              refine AOps_q 25 _ rfl rfl rfl (QOp_pick_t _ _ _ _ rfl rfl rfl) ?_
              refine AOps_nil ?_
              cases h
              exact Weak_keep 0 hm [1, 2, 3, 7, 8, 25] [] _ _ rfl rfl rfl
            · have h := iteF hb4 h
              refine AOps_skip 19 rfl rfl rfl ?_
              refine AOps_skip 20 rfl rfl rfl ?_
              refine AOps_skip 21 rfl rfl rfl ?_
              refine AOps_skip 22 rfl rfl rfl ?_
              refine AOps_skip 23 rfl rfl rfl ?_
              refine AOps_skip 24 rfl rfl rfl ?_
              refine AOps_q 25 _ rfl rfl rfl (QOp_pick_f _ _ _ _ rfl rfl rfl) ?_
              refine AOps_nil ?_
              cases h
              exact Weak_keep 0 hm [1, 2, 3, 7, 8, 25] [] _ _ rfl rfl rfl
          intro E' H' hw
          refine ACode_weak hw ?_
          have h := hks6
          refine ACode_cond _ rfl (fun hb7 => ?_) (fun hb7 => ?_)
          · have h := iteT hb7 h
            refine (ACode_region ?_)
            refine AOps_q 26 _ rfl rfl rfl (QOp_move _ _ rfl rfl) ?_
            refine AOps_q 27 _ rfl rfl rfl (QOp_move _ _ rfl rfl) ?_
            refine AOps_q 28 _ rfl rfl rfl (QOp_conv _ _ _ _ _ _ rfl rfl Try.underlying85 rfl) ?_
            obtain ⟨hc8, h⟩ := guardO h
            refine AOps_q 29 _ rfl rfl rfl (QOp_shl _ _ _ _ _ _ _ _ hc8 rfl rfl rfl) ?_
            refine AOps_q 30 _ rfl rfl rfl (QOp_or _ _ _ _ _ _ _ rfl rfl rfl) ?_
            refine AOps_q 7 _ rfl rfl rfl (QOp_assign _ _ rfl rfl) ?_
            refine AOps_nil ?_
            cases h
            exact Weak_keep 0 hm [1, 2, 3, 7, 8] [] _ _ rfl rfl rfl
          · have h := iteF hb7 h
            refine ACode_skip ?_
            cases h
            exact Weak_keep 0 hm [1, 2, 3, 7, 8] [] _ _ rfl rfl rfl
        intro E' H' hw
        refine ACode_weak hw ?_
        have h := hks9
        refine (ACode_region ?_)
        refine AOps_q 13 _ rfl rfl rfl (QOp_move _ _ rfl rfl) ?_
        refine AOps_q 14 _ rfl rfl rfl (QOp_add _ _ _ _ _ _ _ rfl rfl rfl) ?_
        refine AOps_q 8 _ rfl rfl rfl (QOp_assign _ _ rfl rfl) ?_
        refine AOps_nil ?_
        exact ⟨k0, _, _, Nat.lt_succ_self _, Weak_keep 0 hm [1, 2, 3, 7, 8] [] _ _ rfl rfl rfl, _, _, rfl, rfl, h⟩
      · have h := iteF hb3 h
        refine ACode_exit ?_
        cases h
        exact Weak_keep 0 hm [7] [] _ _ rfl rfl rfl
  intro E' H' hw
  refine ACode_weak hw ?_
  have h := hks10
  refine ACode_seq (ACode_region ?_)
  refine AOps_q 31 _ rfl rfl rfl (QOp_move _ _ rfl rfl) ?_
  refine AOps_q 6 _ rfl rfl rfl (QOp_assign _ _ rfl rfl) ?_
  refine AOps_nil ?_
  refine ACode_ret ?_
  cases h
  exact ⟨_, _, fun r a w h => ⟨r, h⟩, _, _, [], _, (.cons (ResV_tmp _ _ rfl) .nil), rfl, rfl, rfl, rfl, rfl⟩

-- loop.example/g01362/spec.l02Rows
def spec_l02Rows_l0 (k : Nat) (p0 : Col) (p1 : Int) : Nat → Int → (List Int) → Option (List Int)
  | 0, _, _ => none
  | k0 + 1, x1, x2 => (if decide (x1 < p0.p) then (spec_l01Around k p0 x1 p1).bind fun r4 => (if x2.length + ([r4]).length ≤ 1099511627776 then spec_l02Rows_l0 k p0 p1 k0 (w64 (x1 + 1)) (x2 ++ ([r4])) else none) else some x2)
def spec_l02Rows (k : Nat) (p0 : Col) (p1 : Int) : Option (List Int) :=
  (spec_l02Rows_l0 k p0 p1 k 0 ([] : List Int) : Option (List Int)).bind fun s6 => some s6
set_option maxRecDepth 100000 in
theorem spec_l02Rows_ac (k : Nat) (p0 : Col) (p1 : Int) (r : List Int) (h : spec_l02Rows k p0 p1 = some r) : AC Try.prog 101 [.d (.agg (colD p0)), iV p1] [] (fun res H' => res = [.vec 0 0] ∧ H' = [.vec 0 (intsD r)]) := by
  refine AC_of_body true Try.func101 rfl Try.ntmps101 (rvs := [.tmp 4]) rfl rfl (fun G hG => ?_)
  have hm : G.H.length = 0 := by rw [hG]; rfl
  have hz : zeroG G.H = true := by rw [hG]; rfl
  unfold spec_l02Rows at h
  refine ACode_seq (ACode_region ?_)
  refine AOps_boxI 2 _ _ (.agg (colD p0)) (colD p0) rfl (colD_one _) rfl rfl rfl rfl rfl ?_
  refine AOps_q 4 _ rfl rfl rfl (QOp_assign _ _ rfl rfl) ?_
  refine AOps_nil ?_
  refine ACode_seq (ACode_region ?_)
  refine AOps_buildSlice 7 _ _ _ [] (intsD ([] : List Int)) _ rfl rfl rfl rfl rfl (by decide) Try.underlying29 Try.sizeOf2 (zero_of Try.typeInfo2 rfl) rfl rfl (intsD_one _) ?_
  refine AOps_q 5 _ rfl rfl rfl (QOp_assign _ _ rfl rfl) ?_
  refine AOps_nil ?_
  obtain ⟨s6, hss6, hks6⟩ := bindO h
  clear h
  refine ACode_seqJ (fun E' H' => Weak 22 G E' H' [(5, .vec 0 0)] [.vec 0 (intsD s6)]) ?_ ?_
  · have h := hss6
    clear hss6
    refine ACode_seq (ACode_region ?_)
    refine AOps_q 6 _ rfl rfl rfl (QOp_assign _ _ rfl rfl) ?_
    refine AOps_nil ?_
    refine ACode_block ?_
    refine ACode_loopW (fun k0 E H => ∃ (x1 : Int) (x2 : List Int), E = [(1, iV p1), (2, .d (.pv (colD p0) 0)), (5, .vec 0 0), (6, iV x1)] ∧ H = [.vec 0 (intsD x2)] ∧ spec_l02Rows_l0 k p0 p1 k0 x1 x2 = some s6) k _ _ (Weak_keep 0 hm [1, 2, 5, 6] [0] _ _ rfl rfl rfl) ⟨_, _, rfl, rfl, h⟩ ?_
    clear h
    rintro k0 E H ⟨x1, x2, rfl, rfl, h⟩
    cases k0 with
    | zero => cases (show (none : Option (List Int)) = some _ from h)
    | succ k0 =>
      rw [spec_l02Rows_l0] at h
      refine ACode_seq ?_
      refine ACode_seq (ACode_region ?_)
      refine AOps_q 8 _ rfl rfl rfl (QOp_move _ _ rfl rfl) ?_
      refine AOps_q 9 _ rfl rfl rfl (QOp_fieldAddr_pv _ _ _ _ _ 0 _ _ rfl Try.underlying26 rfl _ Try.sizeOf2 rfl rfl) ?_
      refine AOps_q 10 _ rfl rfl rfl (QOp_load_pv _ _ _ _ _ rfl Try.isAgg2 rfl rfl) ?_
      refine AOps_q 11 _ rfl rfl rfl (QOp_lss _ _ _ _ _ _ _ rfl rfl rfl) ?_
      refine AOps_nil ?_
      refine ACode_cond _ rfl (fun hb3 => ?_) (fun hb3 => ?_)
      · have h := iteT hb3 h
        refine ACode_skip ?_
        refine ACode_seq ?_
        refine ACode_block ?_
        refine (ACode_region ?_)
        refine AOps_q 14 _ rfl rfl rfl (QOp_move _ _ rfl rfl) ?_
        refine AOps_q 15 _ rfl rfl rfl (QOp_loadN_pv _ _ _ _ _ _ rfl Try.isAgg26 Try.sizeOf26 rfl (colD_all _) (colD_length _)) ?_
        refine AOps_q 16 _ rfl rfl rfl (QOp_move _ _ rfl rfl) ?_
        refine AOps_q 17 _ rfl rfl rfl (QOp_move _ _ rfl rfl) ?_
        obtain ⟨r4, hr4, h⟩ := bindO h
        refine AOps_call [] 18 _ _ _ _ _ _ _ _ _ _ rfl rfl rfl rfl rfl rfl rfl Try.call88 rfl (nodupB_sound _ rfl) rfl rfl rfl (spec_l01Around_ac k p0 x1 p1 _ hr4) ?_
        rintro _ _ ⟨rfl, rfl⟩
        refine ⟨(fun _ h => nomatch h), (allc (trivial) (fun _ h => nomatch h)), AOps_as 18 (v' := iV r4) (H' := [.vec 0 (intsD x2)]) rfl rfl ?_⟩
        refine AOps_buildSlice 19 _ _ _ [_] (intsD ([r4])) _ rfl rfl rfl rfl rfl (by decide) Try.underlying29 Try.sizeOf2 (zero_of Try.typeInfo2 rfl) rfl rfl (intsD_one _) ?_
        obtain ⟨hc5, h⟩ := guardO h
        refine AOps_append 20 _ _ _ _ _ _ _ _ _ _ _ _ rfl rfl rfl rfl rfl rfl rfl Try.underlying29 Try.type2 rfl rfl rfl (by decide) rfl rfl rfl rfl (intsD_one _) (by rw [intsD_length, intsD_length]; exact hc5) ?_
        rw [intsD_app]
        refine AOps_q 5 _ rfl rfl rfl (QOp_assign _ _ rfl rfl) ?_
        refine AOps_nil ?_
        refine (ACode_region ?_)
        refine AOps_q 12 _ rfl rfl rfl (QOp_move _ _ rfl rfl) ?_
        refine AOps_q 13 _ rfl rfl rfl (QOp_add _ _ _ _ _ _ _ rfl rfl rfl) ?_
        refine AOps_q 6 _ rfl rfl rfl (QOp_assign _ _ rfl rfl) ?_
        refine AOps_nil ?_
        exact ⟨k0, _, _, Nat.lt_succ_self _, Weak_trans (Weak_keep 0 hm [1, 2, 5, 6] [0] _ _ rfl rfl rfl) (Weak_reset 0 hm hz [1, 2, 5, 6] _ _ rfl rfl), _, _, rfl, rfl, h⟩
      · have h := iteF hb3 h
        refine ACode_exit ?_
        cases h
        exact Weak_keep 0 hm [5] [0] _ _ rfl rfl rfl
  intro E' H' hw
  refine ACode_weak hw ?_
  have h := hks6
  refine ACode_seq (ACode_region ?_)
  refine AOps_q 21 _ rfl rfl rfl (QOp_move _ _ rfl rfl) ?_
  refine AOps_q 4 _ rfl rfl rfl (QOp_assign _ _ rfl rfl) ?_
  refine AOps_nil ?_
  refine ACode_ret ?_
  cases h
  exact ⟨_, _, Weak_reset 0 hm hz [4] _ _ rfl rfl, _, _, [0], _, (.cons (ResV_tmp _ _ rfl) .nil), rfl, rfl, rfl, rfl, rfl⟩

-- loop.example/g01362/spec.l04Component
def spec_l04Component_l1 (p0 : List Int) (x2 : Int) : Nat → Int → Int → Option (Int)
  | 0, _, _ => none
  | k1 + 1, x5, x6 => (if decide (x6 < (p0.length : Int)) then ((if 0 ≤ IntKind.u64.wrap x6 then (if decide (bAnd .i64 (bShr .i64 x2 (IntKind.u64.wrap x6)) 1 = 1) then (if 0 ≤ x6 ∧ x6 < (p0.length : Int) then some (bOr .i64 x5 (p0.getD x6.toNat 0)) else none) else some x5) else none) : Option (Int)).bind fun s11 => spec_l04Component_l1 p0 x2 k1 s11 (w64 (x6 + 1)) else some x5)
def spec_l04Component_l0 (k : Nat) (p0 : List Int) : Nat → Int → Bool → Option (Int)
  | 0, _, _ => none
  | k0 + 1, x2, x3 => (if x3 then ((spec_l04Component_l1 p0 x2 k x2 0 : Option (Int)).bind fun s12 => some (s12, !decide (s12 = x2)) : Option (Int × Bool)).bind fun s13 => spec_l04Component_l0 k p0 k0 s13.1 s13.2 else some x2)
def spec_l04Component (k : Nat) (p0 : List Int) (p1 : Int) : Option (Int) :=
  (if 0 ≤ IntKind.u64.wrap p1 then (spec_l04Component_l0 k p0 k (bShl .i64 1 (IntKind.u64.wrap p1)) true : Option (Int)).bind fun s14 => some s14 else none)
set_option maxRecDepth 100000 in
theorem spec_l04Component_ac (k : Nat) (p0 : List Int) (p1 : Int) (r : Int) (h : spec_l04Component k p0 p1 = some r) : AC Try.prog 102 [.d (.sl none (intsD p0)), iV p1] [] (fun res H' => res = [iV r] ∧ H' = []) := by
  refine AC_of_body true Try.func102 rfl Try.ntmps102 (rvs := [.tmp 4]) rfl rfl (fun G hG => ?_)
  have hm : G.H.length = 0 := by rw [hG]; rfl
  have hz : zeroG G.H = true := by rw [hG]; rfl
  unfold spec_l04Component at h
  refine ACode_seq (ACode_region ?_)
  refine AOps_q 4 _ rfl rfl rfl (QOp_assign _ _ rfl rfl) ?_
  refine AOps_nil ?_
  refine ACode_seq (ACode_region ?_)
  refine AOps_q 9 _ rfl rfl rfl (QOp_move _ _ rfl rfl) ?_
  refine AOps_q 10 _ rfl rfl rfl (QOp_conv _ _ _ _ _ _ rfl rfl Try.underlying85 rfl) ?_
  obtain ⟨hc1, h⟩ := guardO h
  refine AOps_q 11 _ rfl rfl rfl (QOp_shl _ _ _ _ _ _ _ _ hc1 rfl rfl rfl) ?_
  refine AOps_q 5 _ rfl rfl rfl (QOp_assign _ _ rfl rfl) ?_
  refine AOps_nil ?_
  obtain ⟨s14, hss14, hks14⟩ := bindO h
  clear h
  refine ACode_seqJ (fun E' H' => Weak 37 G E' H' [(5, iV s14)] []) ?_ ?_
  · have h := hss14
    clear hss14
    refine ACode_seq (ACode_region ?_)
    refine AOps_q 6 _ rfl rfl rfl (QOp_assign _ _ rfl rfl) ?_
    refine AOps_nil ?_
    refine ACode_block ?_
    refine ACode_loopW (fun k0 E H => ∃ (x2 : Int) (x3 : Bool), E = [(0, .d (.sl none (intsD p0))), (5, iV x2), (6, bV x3)] ∧ H = [] ∧ spec_l04Component_l0 k p0 k0 x2 x3 = some s14) k _ _ (Weak_keep 0 hm [0, 5, 6] [] _ _ rfl rfl rfl) ⟨_, _, rfl, rfl, h⟩ ?_
    clear h
    rintro k0 E H ⟨x2, x3, rfl, rfl, h⟩
    cases k0 with
    | zero => cases (show (none : Option (Int)) = some _ from h)
    | succ k0 =>
      rw [spec_l04Component_l0] at h
      refine ACode_seq ?_
      refine ACode_seq (ACode_region ?_)
      refine AOps_q 12 _ rfl rfl rfl (QOp_move _ _ rfl rfl) ?_
      refine AOps_nil ?_
      refine ACode_cond _ rfl (fun hb4 => ?_) (fun hb4 => ?_)
      · have h := iteT hb4 h
        refine ACode_skip ?_
        obtain ⟨s13, hss13, hks13⟩ := bindO h
        clear h
        refine ACode_tailJ (fun E' H' => Weak 37 G E' H' [(0, .d (.sl none (intsD p0))), (5, iV s13.1), (6, bV s13.2)] []) ?_ ?_
        · have h := hss13
          clear hss13
          refine ACode_block ?_
          refine ACode_seq (ACode_region ?_)
          refine AOps_q 13 _ rfl rfl rfl (QOp_move _ _ rfl rfl) ?_
          refine AOps_q 7 _ rfl rfl rfl (QOp_assign _ _ rfl rfl) ?_
          refine AOps_nil ?_
          obtain ⟨s12, hss12, hks12⟩ := bindO h
          clear h
          refine ACode_seqJ (fun E' H' => Weak 37 G E' H' [(0, .d (.sl none (intsD p0))), (5, iV x2), (7, iV s12)] []) ?_ ?_
          · have h := hss12
            clear hss12
            refine ACode_seq (ACode_region ?_)
            refine AOps_q 8 _ rfl rfl rfl (QOp_assign _ _ rfl rfl) ?_
            refine AOps_nil ?_
            refine ACode_block ?_
            refine ACode_loopW (fun k1 E H => ∃ (x5 : Int) (x6 : Int), E = [(0, .d (.sl none (intsD p0))), (5, iV x2), (7, iV x5), (8, iV x6)] ∧ H = [] ∧ spec_l04Component_l1 p0 x2 k1 x5 x6 = some s12) k _ _ (Weak_keep 0 hm [0, 5, 7, 8] [] _ _ rfl rfl rfl) ⟨_, _, rfl, rfl, h⟩ ?_
            clear h
            rintro k1 E H ⟨x5, x6, rfl, rfl, h⟩
            cases k1 with
            | zero => cases (show (none : Option (Int)) = some _ from h)
            | succ k1 =>
              rw [spec_l04Component_l1] at h
              refine ACode_seq ?_
              refine ACode_seq (ACode_region ?_)
              refine AOps_q 14 _ rfl rfl rfl (QOp_move _ _ rfl rfl) ?_
              refine AOps_q 15 _ rfl rfl rfl (QOp_move _ _ rfl rfl) ?_
              refine AOps_q 16 _ rfl rfl rfl (QOp_len_sl _ _ _ _ _ _ _ (intsD_length _) rfl rfl rfl rfl Try.underlying29 rfl) ?_
              refine AOps_q 17 _ rfl rfl rfl (QOp_lss _ _ _ _ _ _ _ rfl rfl rfl) ?_
              refine AOps_nil ?_
              refine ACode_cond _ rfl (fun hb7 => ?_) (fun hb7 => ?_)
              · have h := iteT hb7 h
                refine ACode_skip ?_
                obtain ⟨s11, hss11, hks11⟩ := bindO h
                clear h
                refine ACode_seqJ (fun E' H' => Weak 37 G E' H' [(0, .d (.sl none (intsD p0))), (5, iV x2), (7, iV s11), (8, iV x6)] []) ?_ ?_
                · have h := hss11
                  clear hss11
                  refine ACode_block ?_
                  refine ACode_seq (ACode_region ?_)
                  refine AOps_q 20 _ rfl rfl rfl (QOp_move _ _ rfl rfl) ?_
                  refine AOps_q 21 _ rfl rfl rfl (QOp_move _ _ rfl rfl) ?_
                  refine AOps_q 22 _ rfl rfl rfl (QOp_conv _ _ _ _ _ _ rfl rfl Try.underlying85 rfl) ?_
                  obtain ⟨hc8, h⟩ := guardO h
                  refine AOps_q 23 _ rfl rfl rfl (QOp_shr _ _ _ _ _ _ _ _ hc8 rfl rfl rfl) ?_
                  refine AOps_q 24 _ rfl rfl rfl (QOp_and _ _ _ _ _ _ _ rfl rfl rfl) ?_
                  refine AOps_q 25 _ rfl rfl rfl (QOp_eql _ _ _ _ _ _ _ rfl rfl rfl) ?_
                  refine AOps_nil ?_
                  refine ACode_cond _ rfl (fun hb9 => ?_) (fun hb9 => ?_)
                  · have h := iteT hb9 h
                    refine (ACode_region ?_)
                    refine AOps_q 26 _ rfl rfl rfl (QOp_move _ _ rfl rfl) ?_
                    refine AOps_q 27 _ rfl rfl rfl (QOp_move _ _ rfl rfl) ?_
                    refine AOps_q 28 _ rfl rfl rfl (QOp_move _ _ rfl rfl) ?_
                    obtain ⟨hc10, h⟩ := guardO h
                    refine AOps_q 29 _ rfl rfl rfl (QOp_indexAddr_sl _ _ _ _ _ _ _ _ rfl Try.underlying29 Try.sizeOf2 hc10.1 (by rw [intsD_length]; exact hc10.2) rfl rfl) ?_
                    refine AOps_q 30 _ rfl rfl rfl (QOp_load_pv _ _ _ _ _ rfl Try.isAgg2 rfl (intsD_get _ _ 0 (by omega))) ?_
                    refine AOps_q 31 _ rfl rfl rfl (QOp_or _ _ _ _ _ _ _ rfl rfl rfl) ?_
                    refine AOps_q 7 _ rfl rfl rfl (QOp_assign _ _ rfl rfl) ?_
                    refine AOps_nil ?_
                    cases h
                    exact Weak_keep 0 hm [0, 5, 7, 8] [] _ _ rfl rfl rfl
                  · have h := iteF hb9 h
                    refine ACode_skip ?_
                    cases h
                    exact Weak_keep 0 hm [0, 5, 7, 8] [] _ _ rfl rfl rfl
                intro E' H' hw
                refine ACode_weak hw ?_
                have h := hks11
                refine (ACode_region ?_)
                refine AOps_q 18 _ rfl rfl rfl (QOp_move _ _ rfl rfl) ?_
                refine AOps_q 19 _ rfl rfl rfl (QOp_add _ _ _ _ _ _ _ rfl rfl rfl) ?_
                refine AOps_q 8 _ rfl rfl rfl (QOp_assign _ _ rfl rfl) ?_
                refine AOps_nil ?_
                exact ⟨k1, _, _, Nat.lt_succ_self _, Weak_keep 0 hm [0, 5, 7, 8] [] _ _ rfl rfl rfl, _, _, rfl, rfl, h⟩
              · have h := iteF hb7 h
                refine ACode_exit ?_
                cases h
                exact Weak_keep 0 hm [0, 5, 7] [] _ _ rfl rfl rfl
          intro E' H' hw
          refine ACode_weak hw ?_
          have h := hks12
          refine ACode_seq (ACode_region ?_)
          refine AOps_q 32 _ rfl rfl rfl (QOp_move _ _ rfl rfl) ?_
          refine AOps_q 33 _ rfl rfl rfl (QOp_move _ _ rfl rfl) ?_
          refine AOps_q 34 _ rfl rfl rfl (QOp_neq _ _ _ _ _ _ _ rfl rfl rfl) ?_
          refine AOps_q 6 _ rfl rfl rfl (QOp_assign _ _ rfl rfl) ?_
          refine AOps_nil ?_
          refine (ACode_region ?_)
          refine AOps_q 35 _ rfl rfl rfl (QOp_move _ _ rfl rfl) ?_
          refine AOps_q 5 _ rfl rfl rfl (QOp_assign _ _ rfl rfl) ?_
          refine AOps_nil ?_
          cases h
          exact Weak_keep 0 hm [0, 5, 6] [] _ _ rfl rfl rfl
        intro E' H' hw
        refine ATail_weak hw ?_
        have h := hks13
        refine ATail_end ?_
        exact ⟨k0, _, _, Nat.lt_succ_self _, Weak_keep 0 hm [0, 5, 6] [] _ _ rfl rfl rfl, _, _, rfl, rfl, h⟩
      · have h := iteF hb4 h
        refine ACode_exit ?_
        cases h
        exact Weak_keep 0 hm [5] [] _ _ rfl rfl rfl
  intro E' H' hw
  refine ACode_weak hw ?_
  have h := hks14
  refine ACode_seq (ACode_region ?_)
  refine AOps_q 36 _ rfl rfl rfl (QOp_move _ _ rfl rfl) ?_
  refine AOps_q 4 _ rfl rfl rfl (QOp_assign _ _ rfl rfl) ?_
  refine AOps_nil ?_
  refine ACode_ret ?_
  cases h
  exact ⟨_, _, fun r a w h => ⟨r, h⟩, _, _, [], _, (.cons (ResV_tmp _ _ rfl) .nil), rfl, rfl, rfl, rfl, rfl⟩

-- loop.example/g01362/spec.l01Points
def spec_l01Points_l0 (p0 : Int) : Nat → Int → (List Int) → Option (List Int)
  | 0, _, _ => none
  | k0 + 1, x1, x2 => (if decide (x1 < 62) then ((if 0 ≤ IntKind.u64.wrap x1 then (if decide (bAnd .i64 (bShr .i64 p0 (IntKind.u64.wrap x1)) 1 = 1) then (if x2.length + ([x1]).length ≤ 1099511627776 then some (x2 ++ ([x1])) else none) else some x2) else none) : Option (List Int)).bind fun s7 => spec_l01Points_l0 p0 k0 (w64 (x1 + 1)) s7 else some x2)
def spec_l01Points (k : Nat) (p0 : Int) : Option (List Int) :=
  (spec_l01Points_l0 p0 k 0 ([] : List Int) : Option (List Int)).bind fun s8 => some s8
set_option maxRecDepth 100000 in
theorem spec_l01Points_ac (k : Nat) (p0 : Int) (r : List Int) (h : spec_l01Points k p0 = some r) : AC Try.prog 103 [iV p0] [] (fun res H' => res = [.vec 0 0] ∧ H' = [.vec 0 (intsD r)]) := by
  refine AC_of_body true Try.func103 rfl Try.ntmps103 (rvs := [.tmp 2]) rfl rfl (fun G hG => ?_)
  have hm : G.H.length = 0 := by rw [hG]; rfl
  have hz : zeroG G.H = true := by rw [hG]; rfl
  unfold spec_l01Points at h
  refine ACode_seq (ACode_region ?_)
  refine AOps_q 2 _ rfl rfl rfl (QOp_assign _ _ rfl rfl) ?_
  refine AOps_nil ?_
  refine ACode_seq (ACode_region ?_)
  refine AOps_buildSlice 5 _ _ _ [] (intsD ([] : List Int)) _ rfl rfl rfl rfl rfl (by decide) Try.underlying29 Try.sizeOf2 (zero_of Try.typeInfo2 rfl) rfl rfl (intsD_one _) ?_
  refine AOps_q 3 _ rfl rfl rfl (QOp_assign _ _ rfl rfl) ?_
  refine AOps_nil ?_
  obtain ⟨s8, hss8, hks8⟩ := bindO h
  clear h
  refine ACode_seqJ (fun E' H' => Weak 21 G E' H' [(3, .vec 0 0)] [.vec 0 (intsD s8)]) ?_ ?_
  · have h := hss8
    clear hss8
    refine ACode_seq (ACode_region ?_)
    refine AOps_q 4 _ rfl rfl rfl (QOp_assign _ _ rfl rfl) ?_
    refine AOps_nil ?_
    refine ACode_block ?_
    refine ACode_loopW (fun k0 E H => ∃ (x1 : Int) (x2 : List Int), E = [(0, iV p0), (3, .vec 0 0), (4, iV x1)] ∧ H = [.vec 0 (intsD x2)] ∧ spec_l01Points_l0 p0 k0 x1 x2 = some s8) k _ _ (Weak_keep 0 hm [0, 3, 4] [0] _ _ rfl rfl rfl) ⟨_, _, rfl, rfl, h⟩ ?_
    clear h
    rintro k0 E H ⟨x1, x2, rfl, rfl, h⟩
    cases k0 with
    | zero => cases (show (none : Option (List Int)) = some _ from h)
    | succ k0 =>
      rw [spec_l01Points_l0] at h
      refine ACode_seq ?_
      refine ACode_seq (ACode_region ?_)
      refine AOps_q 6 _ rfl rfl rfl (QOp_move _ _ rfl rfl) ?_
      refine AOps_q 7 _ rfl rfl rfl (QOp_lss _ _ _ _ _ _ _ rfl rfl rfl) ?_
      refine AOps_nil ?_
      refine ACode_cond _ rfl (fun hb3 => ?_) (fun hb3 => ?_)
      · have h := iteT hb3 h
        refine ACode_skip ?_
        obtain ⟨s7, hss7, hks7⟩ := bindO h
        clear h
        refine ACode_seqJ (fun E' H' => Weak 21 G E' H' [(0, iV p0), (3, .vec 0 0), (4, iV x1)] [.vec 0 (intsD s7)]) ?_ ?_
        · have h := hss7
          clear hss7
          refine ACode_block ?_
          refine ACode_seq (ACode_region ?_)
          refine AOps_q 10 _ rfl rfl rfl (QOp_move _ _ rfl rfl) ?_
          refine AOps_q 11 _ rfl rfl rfl (QOp_move _ _ rfl rfl) ?_
          refine AOps_q 12 _ rfl rfl rfl (QOp_conv _ _ _ _ _ _ rfl rfl Try.underlying85 rfl) ?_
          obtain ⟨hc4, h⟩ := guardO h
          refine AOps_q 13 _ rfl rfl rfl (QOp_shr _ _ _ _ _ _ _ _ hc4 rfl rfl rfl) ?_
          refine AOps_q 14 _ rfl rfl rfl (QOp_and _ _ _ _ _ _ _ rfl rfl rfl) ?_
          refine AOps_q 15 _ rfl rfl rfl (QOp_eql _ _ _ _ _ _ _ rfl rfl rfl) ?_
          refine AOps_nil ?_
          refine ACode_cond _ rfl (fun hb5 => ?_) (fun hb5 => ?_)
          · have h := iteT hb5 h
            refine (ACode_region ?_)
            refine AOps_q 16 _ rfl rfl rfl (QOp_move _ _ rfl rfl) ?_
            refine AOps_q 17 _ rfl rfl rfl (QOp_move _ _ rfl rfl) ?_
            refine AOps_buildSlice 18 _ _ _ [_] (intsD ([x1])) _ rfl rfl rfl rfl rfl (by decide) Try.underlying29 Try.sizeOf2 (zero_of Try.typeInfo2 rfl) rfl rfl (intsD_one _) ?_
            obtain ⟨hc6, h⟩ := guardO h
            refine AOps_append 19 _ _ _ _ _ _ _ _ _ _ _ _ rfl rfl rfl rfl rfl rfl rfl Try.underlying29 Try.type2 rfl rfl rfl (by decide) rfl rfl rfl rfl (intsD_one _) (by rw [intsD_length, intsD_length]; exact hc6) ?_
            rw [intsD_app]
            refine AOps_q 3 _ rfl rfl rfl (QOp_assign _ _ rfl rfl) ?_
            refine AOps_nil ?_
            cases h
            exact Weak_trans (Weak_keep 0 hm [0, 3, 4] [0] _ _ rfl rfl rfl) (Weak_reset 0 hm hz [0, 3, 4] _ _ rfl rfl)
          · have h := iteF hb5 h
            refine ACode_skip ?_
            cases h
            exact Weak_keep 0 hm [0, 3, 4] [0] _ _ rfl rfl rfl
        intro E' H' hw
        refine ACode_weak hw ?_
        have h := hks7
        refine (ACode_region ?_)
        refine AOps_q 8 _ rfl rfl rfl (QOp_move _ _ rfl rfl) ?_
        refine AOps_q 9 _ rfl rfl rfl (QOp_add _ _ _ _ _ _ _ rfl rfl rfl) ?_
        refine AOps_q 4 _ rfl rfl rfl (QOp_assign _ _ rfl rfl) ?_
        refine AOps_nil ?_
        exact ⟨k0, _, _, Nat.lt_succ_self _, Weak_keep 0 hm [0, 3, 4] [0] _ _ rfl rfl rfl, _, _, rfl, rfl, h⟩
      · have h := iteF hb3 h
        refine ACode_exit ?_
        cases h
        exact Weak_keep 0 hm [3] [0] _ _ rfl rfl rfl
  intro E' H' hw
  refine ACode_weak hw ?_
  have h := hks8
  refine ACode_seq (ACode_region ?_)
  refine AOps_q 20 _ rfl rfl rfl (QOp_move _ _ rfl rfl) ?_
  refine AOps_q 2 _ rfl rfl rfl (QOp_assign _ _ rfl rfl) ?_
  refine AOps_nil ?_
  refine ACode_ret ?_
  cases h
  exact ⟨_, _, Weak_reset 0 hm hz [2] _ _ rfl rfl, _, _, [0], _, (.cons (ResV_tmp _ _ rfl) .nil), rfl, rfl, rfl, rfl, rfl⟩

-- loop.example/g01362/spec.ComponentsOf
def spec_ComponentsOf_l0 (k : Nat) (p0 : Col) (r3 : List Int) : Nat → Int → Int → (List (List Int)) → Option (List (List Int))
  | 0, _, _, _ => none
  | k0 + 1, x4, x5, x6 => (if decide (x5 < p0.p) then ((if 0 ≤ IntKind.u64.wrap x5 then (if decide (bAnd .i64 (bShr .i64 x4 (IntKind.u64.wrap x5)) 1 = 0) then (spec_l04Component k r3 x5).bind fun r10 => (spec_l01Points k r10).bind fun r11 => (if x6.length + ([r11]).length ≤ 1099511627776 then some (bOr .i64 x4 r10, (x6 ++ ([r11]))) else none) else some (x4, x6)) else none) : Option (Int × List (List Int))).bind fun s13 => spec_ComponentsOf_l0 k p0 r3 k0 s13.1 (w64 (x5 + 1)) s13.2 else some x6)
def spec_ComponentsOf (k : Nat) (p0 : Col) (p1 : Int) : Option (List (List Int) × Int) :=
  (spec_l01Given k p0 p1 ([])).bind fun r1 => (if !decide (r1 = 0) then some ([], r1) else (spec_l02Rows k p0 p1).bind fun r3 => (spec_ComponentsOf_l0 k p0 r3 k 0 0 ([] : List (List Int)) : Option (List (List Int))).bind fun s14 => some (s14, 0))
set_option maxRecDepth 100000 in
theorem spec_ComponentsOf_ac (k : Nat) (p0 : Col) (p1 : Int) (r : List (List Int) × Int) (h : spec_ComponentsOf k p0 p1 = some r) : AC Try.prog 38 [.d (.agg (colD p0)), iV p1] [] (fun res H' => res = [.d (.sl none (rowsD r.1)), iV r.2] ∧ H' = []) := by
  refine AC_of_body true Try.func38 rfl Try.ntmps38 (rvs := [.tmp 4, .tmp 5]) rfl rfl (fun G hG => ?_)
  have hm : G.H.length = 0 := by rw [hG]; rfl
  have hz : zeroG G.H = true := by rw [hG]; rfl
  unfold spec_ComponentsOf at h
  refine ACode_seq (ACode_region ?_)
  refine AOps_boxI 2 _ _ (.agg (colD p0)) (colD p0) rfl (colD_one _) rfl rfl rfl rfl rfl ?_
  refine AOps_q 4 _ rfl rfl rfl (QOp_assign _ _ rfl rfl) ?_
  refine AOps_q 5 _ rfl rfl rfl (QOp_assign _ _ rfl rfl) ?_
  refine AOps_nil ?_
  refine ACode_seq ?_
  refine ACode_seq (ACode_region ?_)
  refine AOps_q 12 _ rfl rfl rfl (QOp_loadN_pv _ _ _ _ _ _ rfl Try.isAgg26 Try.sizeOf26 rfl (colD_all _) (colD_length _)) ?_
  refine AOps_q 13 _ rfl rfl rfl (QOp_move _ _ rfl rfl) ?_
  obtain ⟨r1, hr1, h⟩ := bindO h
  refine AOps_call [] 14 _ _ _ _ _ _ _ _ _ _ rfl rfl rfl rfl rfl rfl rfl Try.call52 rfl (nodupB_sound _ rfl) rfl rfl rfl (spec_l01Given_ac k p0 p1 ([]) _ hr1) ?_
  rintro _ _ ⟨rfl, rfl⟩
  refine ⟨(fun _ h => nomatch h), (allc (trivial) (fun _ h => nomatch h)), AOps_as 14 (v' := iV r1) (H' := []) rfl rfl ?_⟩
  refine AOps_q 6 _ rfl rfl rfl (QOp_assign _ _ rfl rfl) ?_
  refine AOps_nil ?_
  refine ACode_seq (ACode_region ?_)
  refine AOps_q 15 _ rfl rfl rfl (QOp_move _ _ rfl rfl) ?_
  refine AOps_q 16 _ rfl rfl rfl (QOp_neq _ _ _ _ _ _ _ rfl rfl rfl) ?_
  refine AOps_nil ?_
  refine ACode_cond _ rfl (fun hb2 => ?_) (fun hb2 => ?_)
  · have h := iteT hb2 h
    refine ACode_seq (ACode_region ?_)
    refine AOps_q 17 _ rfl rfl rfl (QOp_move _ _ rfl rfl) ?_
    refine AOps_q 4 _ rfl rfl rfl (QOp_assign _ _ rfl rfl) ?_
    refine AOps_q 5 _ rfl rfl rfl (QOp_assign _ _ rfl rfl) ?_
    refine AOps_nil ?_
    refine ACode_ret ?_
    cases h
    exact ⟨_, _, fun r a w h => ⟨r, h⟩, _, _, [], _, (.cons (ResV_tmp _ _ rfl) (.cons (ResV_tmp _ _ rfl) .nil)), rfl, rfl, rfl, rfl, rfl⟩
  · have h := iteF hb2 h
    refine ACode_skip ?_
    refine ACode_seq (ACode_region ?_)
    refine AOps_q 18 _ rfl rfl rfl (QOp_loadN_pv _ _ _ _ _ _ rfl Try.isAgg26 Try.sizeOf26 rfl (colD_all _) (colD_length _)) ?_
    refine AOps_q 19 _ rfl rfl rfl (QOp_move _ _ rfl rfl) ?_
    obtain ⟨r3, hr3, h⟩ := bindO h
    refine AOps_call [] 20 _ _ _ _ _ _ _ _ _ _ rfl rfl rfl rfl rfl rfl rfl Try.call101 rfl (nodupB_sound _ rfl) rfl rfl rfl (spec_l02Rows_ac k p0 p1 _ hr3) ?_
    rintro _ _ ⟨rfl, rfl⟩
    refine ⟨(allc (fun _ _ => trivial) (fun _ h => nomatch h)), (allc (trivial) (fun _ h => nomatch h)), AOps_as 20 (v' := .vec 0 0) (H' := [.vec 0 (intsD r3)]) rfl rfl ?_⟩
    refine AOps_buildSlice 21 _ _ _ [] (rowsD ([] : List (List Int))) _ rfl rfl rfl rfl rfl (by decide) Try.underlying46 Try.sizeOf29 (zero_of Try.typeInfo29 rfl) rfl rfl (rowsD_one _) ?_
    refine AOps_q 7 _ rfl rfl rfl (QOp_assign _ _ rfl rfl) ?_
    refine AOps_q 8 _ rfl rfl rfl (QOp_assign _ _ rfl rfl) ?_
    refine AOps_q 9 _ rfl rfl rfl (QOp_assign _ _ rfl rfl) ?_
    refine AOps_nil ?_
    obtain ⟨s14, hss14, hks14⟩ := bindO h
    clear h
    refine ACode_seqJ (fun E' H' => Weak 46 G E' H' [(9, .vec 0 0)] [.vec 0 (rowsD s14)]) ?_ ?_
    · have h := hss14
      clear hss14
      refine ACode_seq (ACode_region ?_)
      refine AOps_q 10 _ rfl rfl rfl (QOp_assign _ _ rfl rfl) ?_
      refine AOps_nil ?_
      refine ACode_block ?_
      refine ACode_loopW (fun k0 E H => ∃ (x4 : Int) (x5 : Int) (x6 : List (List Int)), E = [(2, .d (.pv (colD p0) 0)), (7, .vec 0 0), (8, iV x4), (9, .vec 1 0), (10, iV x5)] ∧ H = [.vec 0 (intsD r3), .vec 0 (rowsD x6)] ∧ spec_ComponentsOf_l0 k p0 r3 k0 x4 x5 x6 = some s14) k _ _ (Weak_keep 0 hm [2, 7, 8, 9, 10] [0, 1] _ _ rfl rfl rfl) ⟨_, _, _, rfl, rfl, h⟩ ?_
      clear h
      rintro k0 E H ⟨x4, x5, x6, rfl, rfl, h⟩
      cases k0 with
      | zero => cases (show (none : Option (List (List Int))) = some _ from h)
      | succ k0 =>
        rw [spec_ComponentsOf_l0] at h
        refine ACode_seq ?_
        refine ACode_seq (ACode_region ?_)
        refine AOps_q 22 _ rfl rfl rfl (QOp_move _ _ rfl rfl) ?_
        refine AOps_q 23 _ rfl rfl rfl (QOp_fieldAddr_pv _ _ _ _ _ 0 _ _ rfl Try.underlying26 rfl _ Try.sizeOf2 rfl rfl) ?_
        refine AOps_q 24 _ rfl rfl rfl (QOp_load_pv _ _ _ _ _ rfl Try.isAgg2 rfl rfl) ?_
        refine AOps_q 25 _ rfl rfl rfl (QOp_lss _ _ _ _ _ _ _ rfl rfl rfl) ?_
        refine AOps_nil ?_
        refine ACode_cond _ rfl (fun hb7 => ?_) (fun hb7 => ?_)
        · have h := iteT hb7 h
          refine ACode_skip ?_
          obtain ⟨s13, hss13, hks13⟩ := bindO h
          clear h
          refine ACode_seqJ (fun E' H' => Weak 46 G E' H' [(2, .d (.pv (colD p0) 0)), (7, .vec 0 0), (8, iV s13.1), (9, .vec 1 0), (10, iV x5)] [.vec 0 (intsD r3), .vec 0 (rowsD s13.2)]) ?_ ?_
          · have h := hss13
            clear hss13
            refine ACode_block ?_
            refine ACode_seq (ACode_region ?_)
            refine AOps_q 28 _ rfl rfl rfl (QOp_move _ _ rfl rfl) ?_
            refine AOps_q 29 _ rfl rfl rfl (QOp_move _ _ rfl rfl) ?_
            refine AOps_q 30 _ rfl rfl rfl (QOp_conv _ _ _ _ _ _ rfl rfl Try.underlying85 rfl) ?_
            obtain ⟨hc8, h⟩ := guardO h
            refine AOps_q 31 _ rfl rfl rfl (QOp_shr _ _ _ _ _ _ _ _ hc8 rfl rfl rfl) ?_
            refine AOps_q 32 _ rfl rfl rfl (QOp_and _ _ _ _ _ _ _ rfl rfl rfl) ?_
            refine AOps_q 33 _ rfl rfl rfl (QOp_eql _ _ _ _ _ _ _ rfl rfl rfl) ?_
            refine AOps_nil ?_
            refine ACode_cond _ rfl (fun hb9 => ?_) (fun hb9 => ?_)
            · have h := iteT hb9 h
              refine ACode_seq (ACode_region ?_)
              refine AOps_q 34 _ rfl rfl rfl (QOp_move _ _ rfl rfl) ?_
              refine AOps_q 35 _ rfl rfl rfl (QOp_move _ _ rfl rfl) ?_
              obtain ⟨r10, hr10, h⟩ := bindO h
              refine AOps_callL [] 36 _ _ _ _ _ _ _ _ _ _ rfl rfl rfl rfl rfl rfl rfl Try.call102 rfl (nodupB_sound _ rfl) rfl rfl rfl (spec_l04Component_ac k r3 x5 _ hr10) ?_
              rintro _ _ ⟨rfl, rfl⟩
              refine ⟨(fun _ h => nomatch h), (allc (flat_s _) (fun _ h => nomatch h)), AOps_as 36 (v' := iV r10) (H' := [.vec 0 (intsD r3), .vec 0 (rowsD x6)]) rfl rfl ?_⟩
              refine AOps_q 11 _ rfl rfl rfl (QOp_assign _ _ rfl rfl) ?_
              refine AOps_nil ?_
              refine ACode_seq (ACode_region ?_)
              refine AOps_q 37 _ rfl rfl rfl (QOp_move _ _ rfl rfl) ?_
              refine AOps_q 38 _ rfl rfl rfl (QOp_move _ _ rfl rfl) ?_
              refine AOps_q 39 _ rfl rfl rfl (QOp_or _ _ _ _ _ _ _ rfl rfl rfl) ?_
              refine AOps_q 8 _ rfl rfl rfl (QOp_assign _ _ rfl rfl) ?_
              refine AOps_nil ?_
              refine (ACode_region ?_)
              refine AOps_q 40 _ rfl rfl rfl (QOp_move _ _ rfl rfl) ?_
              refine AOps_q 41 _ rfl rfl rfl (QOp_move _ _ rfl rfl) ?_
              obtain ⟨r11, hr11, h⟩ := bindO h
              refine AOps_call [] 42 _ _ _ _ _ _ _ _ _ _ rfl rfl rfl rfl rfl rfl rfl Try.call103 rfl (nodupB_sound _ rfl) rfl rfl rfl (spec_l01Points_ac k r10 _ hr11) ?_
              rintro _ _ ⟨rfl, rfl⟩
              refine ⟨(allc (fun _ _ => trivial) (fun _ h => nomatch h)), (allc (trivial) (fun _ h => nomatch h)), AOps_as 42 (v' := .vec 2 0) (H' := [.vec 0 (intsD r3), .vec 0 (rowsD x6), .vec 0 (intsD r11)]) rfl rfl ?_⟩
              refine AOps_freeze 42 2 0 _ rfl rfl ?_
              refine AOps_buildSlice 43 _ _ _ [_] (rowsD ([r11])) _ rfl rfl rfl rfl rfl (by decide) Try.underlying46 Try.sizeOf29 (zero_of Try.typeInfo29 rfl) rfl rfl (rowsD_one _) ?_
              obtain ⟨hc12, h⟩ := guardO h
              refine AOps_append 44 _ _ _ _ _ _ _ _ _ _ _ _ rfl rfl rfl rfl rfl rfl rfl Try.underlying46 Try.type29 rfl rfl rfl (by decide) rfl rfl rfl rfl (rowsD_one _) (by rw [rowsD_length, rowsD_length]; exact hc12) ?_
              rw [rowsD_app]
              refine AOps_q 9 _ rfl rfl rfl (QOp_assign _ _ rfl rfl) ?_
              refine AOps_nil ?_
              cases h
              exact Weak_trans (Weak_keep 0 hm [2, 7, 8, 9, 10] [0, 1] _ _ rfl rfl rfl) (Weak_reset 0 hm hz [2, 7, 8, 9, 10] _ _ rfl rfl)
            · have h := iteF hb9 h
              refine ACode_skip ?_
              cases h
              exact Weak_keep 0 hm [2, 7, 8, 9, 10] [0, 1] _ _ rfl rfl rfl
          intro E' H' hw
          refine ACode_weak hw ?_
          have h := hks13
          refine (ACode_region ?_)
          refine AOps_q 26 _ rfl rfl rfl (QOp_move _ _ rfl rfl) ?_
          refine AOps_q 27 _ rfl rfl rfl (QOp_add _ _ _ _ _ _ _ rfl rfl rfl) ?_
          refine AOps_q 10 _ rfl rfl rfl (QOp_assign _ _ rfl rfl) ?_
          refine AOps_nil ?_
          exact ⟨k0, _, _, Nat.lt_succ_self _, Weak_keep 0 hm [2, 7, 8, 9, 10] [0, 1] _ _ rfl rfl rfl, _, _, _, rfl, rfl, h⟩
        · have h := iteF hb7 h
          refine ACode_exit ?_
          cases h
          exact Weak_keep 0 hm [9] [1] _ _ rfl rfl rfl
    intro E' H' hw
    refine ACode_weak hw ?_
    have h := hks14
    refine ACode_seq (ACode_region ?_)
    refine AOps_q 45 _ rfl rfl rfl (QOp_move _ _ rfl rfl) ?_
    refine AOps_q 4 _ rfl rfl rfl (QOp_assign _ _ rfl rfl) ?_
    refine AOps_q 5 _ rfl rfl rfl (QOp_assign _ _ rfl rfl) ?_
    refine AOps_nil ?_
    refine ACode_ret ?_
    cases h
    exact ⟨_, _, fun r a w h => ⟨r, h⟩, _, _, [], _, (.cons (ResV_tmp _ _ rfl) (.cons (ResV_tmp _ _ rfl) .nil)), rfl, rfl, rfl, rfl, rfl⟩

-- loop.example/g01362/laws.likeInts
def laws_likeInts_l0 (p0 : List Int) (p1 : List Int) : Nat → Int → Option (Sum (Unit) (Bool))
  | 0, _ => none
  | k0 + 1, x2 => (if decide (x2 < (p0.length : Int)) then (if 0 ≤ x2 ∧ x2 < (p0.length : Int) then (if 0 ≤ x2 ∧ x2 < (p1.length : Int) then (if !decide ((p0.getD x2.toNat 0) = (p1.getD x2.toNat 0)) then some (.inr false) else laws_likeInts_l0 p0 p1 k0 (w64 (x2 + 1))) else none) else none) else some (.inl ()))
def laws_likeInts (k : Nat) (p0 : List Int) (p1 : List Int) : Option (Bool) :=
  (if !decide ((p0.length : Int) = (p1.length : Int)) then some false else (laws_likeInts_l0 p0 p1 k 0 : Option (Sum (Unit) (Bool))).bind fun os7 => (match os7 with | .inl s7 => some true | .inr rr => some rr))
set_option maxRecDepth 100000 in
theorem laws_likeInts_ac (k : Nat) (p0 : List Int) (p1 : List Int) (r : Bool) (h : laws_likeInts k p0 p1 = some r) : AC Try.prog 10 [.d (.sl none (intsD p0)), .d (.sl none (intsD p1))] [] (fun res H' => res = [bV r] ∧ H' = []) := by
  refine AC_of_body true Try.func10 rfl Try.ntmps10 (rvs := [.tmp 4]) rfl rfl (fun G hG => ?_)
  have hm : G.H.length = 0 := by rw [hG]; rfl
  have hz : zeroG G.H = true := by rw [hG]; rfl
  unfold laws_likeInts at h
  refine ACode_seq (ACode_region ?_)
  refine AOps_q 4 _ rfl rfl rfl (QOp_assign _ _ rfl rfl) ?_
  refine AOps_nil ?_
  refine ACode_seq ?_
  refine ACode_seq (ACode_region ?_)
  refine AOps_q 6 _ rfl rfl rfl (QOp_move _ _ rfl rfl) ?_
  refine AOps_q 7 _ rfl rfl rfl (QOp_len_sl _ _ _ _ _ _ _ (intsD_length _) rfl rfl rfl rfl Try.underlying29 rfl) ?_
  refine AOps_q 8 _ rfl rfl rfl (QOp_move _ _ rfl rfl) ?_
  refine AOps_q 9 _ rfl rfl rfl (QOp_len_sl _ _ _ _ _ _ _ (intsD_length _) rfl rfl rfl rfl Try.underlying29 rfl) ?_
  refine AOps_q 10 _ rfl rfl rfl (QOp_neq _ _ _ _ _ _ _ rfl rfl rfl) ?_
  refine AOps_nil ?_
  refine ACode_cond _ rfl (fun hb1 => ?_) (fun hb1 => ?_)
  · have h := iteT hb1 h
    refine ACode_seq (ACode_region ?_)
    refine AOps_q 4 _ rfl rfl rfl (QOp_assign _ _ rfl rfl) ?_
    refine AOps_nil ?_
    refine ACode_ret ?_
    cases h
    exact ⟨_, _, fun r a w h => ⟨r, h⟩, _, _, [], _, (.cons (ResV_tmp _ _ rfl) .nil), rfl, rfl, rfl, rfl, rfl⟩
  · have h := iteF hb1 h
    refine ACode_skip ?_
    obtain ⟨os7, hss7, hks7⟩ := bindO h
    clear h
    refine ACode_seqJ (fun E' H' => ∃ s7 : Unit, os7 = .inl s7 ∧ Weak 26 G E' H' [] []) ?_ ?_
    · have h := hss7
      clear hss7
      refine ACode_seq (ACode_region ?_)
      refine AOps_q 5 _ rfl rfl rfl (QOp_assign _ _ rfl rfl) ?_
      refine AOps_nil ?_
      refine ACode_block ?_
      refine ACode_loopW (fun k0 E H => ∃ (x2 : Int), E = [(0, .d (.sl none (intsD p0))), (1, .d (.sl none (intsD p1))), (5, iV x2)] ∧ H = [] ∧ laws_likeInts_l0 p0 p1 k0 x2 = some os7) k _ _ (Weak_keep 0 hm [0, 1, 5] [] _ _ rfl rfl rfl) ⟨_, rfl, rfl, h⟩ ?_
      clear h
      rintro k0 E H ⟨x2, rfl, rfl, h⟩
      cases k0 with
      | zero => cases (show (none : Option (Sum (Unit) (Bool))) = some _ from h)
      | succ k0 =>
        rw [laws_likeInts_l0] at h
        refine ACode_seq ?_
        refine ACode_seq (ACode_region ?_)
        refine AOps_q 11 _ rfl rfl rfl (QOp_move _ _ rfl rfl) ?_
        refine AOps_q 12 _ rfl rfl rfl (QOp_move _ _ rfl rfl) ?_
        refine AOps_q 13 _ rfl rfl rfl (QOp_len_sl _ _ _ _ _ _ _ (intsD_length _) rfl rfl rfl rfl Try.underlying29 rfl) ?_
        refine AOps_q 14 _ rfl rfl rfl (QOp_lss _ _ _ _ _ _ _ rfl rfl rfl) ?_
        refine AOps_nil ?_
        refine ACode_cond _ rfl (fun hb3 => ?_) (fun hb3 => ?_)
        · have h := iteT hb3 h
          refine ACode_skip ?_
          refine ACode_seq ?_
          refine ACode_block ?_
          refine ACode_seq (ACode_quiet mixed (by kernel_rfl) ?_)
          refine AQ_q 17 _ rfl rfl rfl (QOp_move _ _ rfl rfl) ?_
          refine AQ_q 18 _ rfl rfl rfl (QOp_move _ _ rfl rfl) ?_
          obtain ⟨hc4, h⟩ := guardO h
          refine AQ_q 19 _ rfl rfl rfl (QOp_indexAddr_sl _ _ _ _ _ _ _ _ rfl Try.underlying29 Try.sizeOf2 hc4.1 (by rw [intsD_length]; exact hc4.2) rfl rfl) ?_
          refine AQ_q 20 _ rfl rfl rfl (QOp_load_pv _ _ _ _ _ rfl Try.isAgg2 rfl (intsD_get _ _ 0 (by omega))) ?_
          refine AQ_q 21 _ rfl rfl rfl (QOp_move _ _ rfl rfl) ?_
          refine AQ_q 22 _ rfl rfl rfl (QOp_move _ _ rfl rfl) ?_
          obtain ⟨hc5, h⟩ := guardO h
          refine AQ_q 23 _ rfl rfl rfl (QOp_indexAddr_sl _ _ _ _ _ _ _ _ rfl Try.underlying29 Try.sizeOf2 hc5.1 (by rw [intsD_length]; exact hc5.2) rfl rfl) ?_
          refine AQ_q 24 _ rfl rfl rfl (QOp_load_pv _ _ _ _ _ rfl Try.isAgg2 rfl (intsD_get _ _ 0 (by omega))) ?_
          refine AQ_q 25 _ rfl rfl rfl (QOp_neq _ _ _ _ _ _ _ rfl rfl rfl) ?_
          refine AQ_nil ?_
          refine ACode_cond _ rfl (fun hb6 => ?_) (fun hb6 => ?_)
          · have h := iteT hb6 h
            refine ACode_seq (ACode_region ?_)
            refine AOps_q 4 _ rfl rfl rfl (QOp_assign _ _ rfl rfl) ?_
            refine AOps_nil ?_
            refine ACode_ret ?_
            cases h
            have h := hks7
            cases h
            exact ⟨_, _, fun r a w h => ⟨r, h⟩, _, _, [], _, (.cons (ResV_tmp _ _ rfl) .nil), rfl, rfl, rfl, rfl, rfl⟩
          · have h := iteF hb6 h
            refine ACode_skip ?_
            refine (ACode_region ?_)
            refine AOps_q 15 _ rfl rfl rfl (QOp_move _ _ rfl rfl) ?_
            refine AOps_q 16 _ rfl rfl rfl (QOp_add _ _ _ _ _ _ _ rfl rfl rfl) ?_
            refine AOps_q 5 _ rfl rfl rfl (QOp_assign _ _ rfl rfl) ?_
            refine AOps_nil ?_
            exact ⟨k0, _, _, Nat.lt_succ_self _, Weak_keep 0 hm [0, 1, 5] [] _ _ rfl rfl rfl, _, rfl, rfl, h⟩
        · have h := iteF hb3 h
          refine ACode_exit ?_
          cases h
          exact ⟨_, rfl, Weak_keep 0 hm [] [] _ _ rfl rfl rfl⟩
    rintro E' H' ⟨s7, rfl, hw⟩
    refine ACode_weak hw ?_
    have h := hks7
    refine ACode_seq (ACode_region ?_)
    refine AOps_q 4 _ rfl rfl rfl (QOp_assign _ _ rfl rfl) ?_
    refine AOps_nil ?_
    refine ACode_ret ?_
    cases h
    exact ⟨_, _, fun r a w h => ⟨r, h⟩, _, _, [], _, (.cons (ResV_tmp _ _ rfl) .nil), rfl, rfl, rfl, rfl, rfl⟩

end Go.Proofs.Ytfpcopidcagdaaa
