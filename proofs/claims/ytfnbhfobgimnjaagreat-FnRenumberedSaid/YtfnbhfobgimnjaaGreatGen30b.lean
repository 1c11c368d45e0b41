/- Plain functions of the program and that the program computes them: printed by the own tool gen.py. No conditions. -/
import Derived.Test.YtfnbhfobgimnjaaGreatGen30a
set_option linter.unusedVariables false
set_option linter.unusedSimpArgs false
namespace Go.Proofs.YtfnbhfobgimnjaaGreat
open Go Go.RowKit Ab

-- loop.example/g01362/spec.l06Two
def spec_l06Two (k : Nat) (p0 : List UInt8) : Option (Col × Col) :=
 (spec_l01From k p0).bind fun r1 => (spec_l06Draw k r1).bind fun r2 => (spec_l01Is k r2.1).bind fun r3 => (if !r3 then (spec_l01Small k r2.2).bind fun r5 => some (r2.1, r5.1) else (spec_l01DrawOrder k r2.2 r2.1.p).bind fun r6 => (spec_l01Renamed k r2.1 r6.1).bind fun r7 => ((spec_l01Next r6.2 6).bind fun r8 => (if decide (r8.1 = 0) then (spec_l01DrawOrder k r8.2 r2.1.k).bind fun r10 => (spec_l01Turned k r7 r10.1).bind fun r11 => some (r10.2, r11) else (if decide (r8.1 = 1) then (spec_l06Draw k r8.2).bind fun r13 => some (r13.2, r13.1) else (if decide (r8.1 = 2) then (if decide (1 < r2.1.p) then (spec_l01DrawOrder k r8.2 r2.1.p).bind fun r16 => (if 0 ≤ (0 : Int) ∧ (0 : Int) < (r16.1.length : Int) then (if 0 ≤ (1 : Int) ∧ (1 : Int) < (r16.1.length : Int) then (spec_l01Next r16.2 r2.1.k).bind fun r19 => (spec_l01With r7 (r16.1.getD (0 : Int).toNat 0) (r16.1.getD (1 : Int).toNat 0) r19.1).bind fun r20 => some (r19.2, r20) else none) else none) else some (r8.2, r7)) else some (r8.2, r7)))) : Option (Src × Col)).bind fun s21 => (spec_l01Bad s21.1 s21.2).bind fun r22 => some (r2.1, r22.1))
set_option maxRecDepth 100000 in
theorem spec_l06Two_ac (k : Nat) (p0 : List UInt8) (r : Col × Col) (h : spec_l06Two k p0 = some r) : AC Tryz.prog 35 [.d (.sl none (bysD p0))] [] (fun res H' => res = [.d (.agg (colD r.1)), .d (.agg (colD r.2))] ∧ H' = []) := by
 refine AC_of_body true Tryz.func35 rfl Tryz.ntmps35 (rvs := [.cell 2 26, .cell 3 26]) rfl rfl (fun G hG => ?_)
 have hm : G.H.length = 0 := by rw [hG]; rfl
 have hz : zeroG G.H = true := by rw [hG]; rfl
 unfold spec_l06Two at h
 refine kR ?_
 refine AOps_alloc 2 _ _ (colD Col.zero) (zero_of Tryz.typeInfo26 rfl) (by rfl) rfl rfl rfl rfl ?_
 refine AOps_alloc 3 _ _ (colD Col.zero) (zero_of Tryz.typeInfo26 rfl) (by rfl) rfl rfl rfl rfl ?_
 refine AOps_nil ?_
 refine kR ?_
 refine kM 1 rfl ?_
 obtain ⟨r1, hr1, h⟩ := bindO h
 refine kC [] 9 (.ptr 2 0) [.box (colD Col.zero), .box (colD Col.zero), .box (srcD r1)] rfl Tryz.call43 rfl rfl (spec_l01From_ac k p0 _ hr1) rfl ?_
 refine kN 1 rfl ?_
 refine kR ?_
 refine kM 1 rfl ?_
 obtain ⟨r2, hr2, h⟩ := bindO h
 refine kC [2] 11 (.d (.agg (colD r2.1))) [.box (colD Col.zero), .box (colD Col.zero), .box (srcD r2.2)] rfl Tryz.call44 rfl rfl (spec_l06Draw_ac k r1 _ hr2) rfl ?_
 refine AOps_alloc 5 _ _ (colD Col.zero) (zero_of Tryz.typeInfo26 rfl) (by rfl) rfl rfl rfl rfl ?_
 refine AOps_store _ _ _ _ _ _ (colD _) _ _ rfl rfl rfl rfl rfl rfl rfl (colD_one _) (by rw [colD_length]; exact Tryz.sizeOf26) (by rw [colD_length, colD_length]; decide) (colD_whole _ _) ?_
 refine AOps_nil ?_
 refine ACode_seq ?_
 refine kR ?_
 refine AOps_q 12 _ rfl rfl rfl (QOp_loadN_ptr _ _ _ _ _ _ _ rfl Tryz.isAgg26 Tryz.sizeOf26 rfl rfl (colD_all _) (colD_length _)) ?_
 obtain ⟨r3, hr3, h⟩ := bindO h
 refine kC [] 13 (bV r3) [.box (colD Col.zero), .box (colD Col.zero), .box (srcD r2.2), .box (colD r2.1)] rfl Tryz.call38 rfl rfl (spec_l01Is_ac k r2.1 _ hr3) rfl ?_
 refine AOps_q 14 _ rfl rfl rfl (QOp_not _ _ _ rfl rfl) ?_
 refine AOps_nil ?_
 refine kI h rfl (fun h _ => ?_) (fun h _ => ?_)
 ·obtain ⟨r5, hr5, h⟩ := bindO h
  refine ACode_seq (ACode_reg [(2, .ptr 0 0), (3, .ptr 1 0)] [.box (colD r2.1), .box (colD r5.1)] ?_ ?_)
  ·refine ACode_anyU mixed ?_
   refine AU_cut 2 #[true, true, true, false, false] [(2, .ptr 0 0), (3, .ptr 1 0), (15, .d (.agg (colD r2.1))), (17, .d (.agg (colD r5.1)))] [.box (colD Col.zero), .box (colD Col.zero)] ?_ (fun hS0 => ?_)
   ·refine AU_one 3 (by kernel_rfl) rfl rfl ?_
    refine AOps_store _ _ _ _ _ _ (colD _) _ _ rfl rfl rfl rfl rfl rfl rfl (colD_one _) (by rw [colD_length]; exact Tryz.sizeOf26) (by rw [colD_length, colD_length]; decide) (colD_whole _ _) ?_
    refine AOps_nil ?_
    refine AU_one 4 (by kernel_rfl) rfl rfl ?_
    refine AOps_store _ _ _ _ _ _ (colD _) _ _ rfl rfl rfl rfl rfl rfl rfl (colD_one _) (by rw [colD_length]; exact Tryz.sizeOf26) (by rw [colD_length, colD_length]; decide) (colD_whole _ _) ?_
    refine AOps_nil ?_
    refine AU_done (by kernel_rfl) ?_
    exact ⟨rfl, Weak_keep 0 hm [2, 3] [0, 1] _ _ rfl rfl rfl⟩
   refine AU_u 1 16 _ rfl (by kernel_rfl) rfl rfl rfl (UOp_move _ _ rfl rfl) ?_
   refine AU_all [0, 2] (by kernel_rfl) rfl (allc ?_ (allc ?_ (fun _ h => nomatch h)))
   ·refine US_of 0 rfl rfl ?_
    refine AOps_q 15 _ rfl rfl rfl (QOp_loadN_ptr _ _ _ _ _ _ _ rfl Tryz.isAgg26 Tryz.sizeOf26 rfl rfl (colD_all _) (colD_length _)) ?_
    refine AOps_nil ?_
    refine AU_one 2 (by kernel_rfl) rfl rfl ?_
    refine kC [2] 17 (.d (.agg (colD r5.1))) [.box (colD Col.zero), .box (colD Col.zero), .box (srcD r5.2), .box (colD r2.1)] rfl Tryz.call61 rfl rfl (spec_l01Small_ac k r2.2 _ hr5) rfl ?_
    refine AOps_nil ?_
    exact AU_to (by kernel_rfl) hS0 (Weak_keep 0 hm [2, 3, 15, 17] [0, 1] _ _ rfl rfl rfl)
   refine US_of 2 rfl rfl ?_
   refine kC [2] 17 (.d (.agg (colD r5.1))) [.box (colD Col.zero), .box (colD Col.zero), .box (srcD r5.2), .box (colD r2.1)] rfl Tryz.call61 rfl rfl (spec_l01Small_ac k r2.2 _ hr5) rfl ?_
   refine AOps_nil ?_
   refine AU_one 0 (by kernel_rfl) rfl rfl ?_
   refine AOps_q 15 _ rfl rfl rfl (QOp_loadN_ptr _ _ _ _ _ _ _ rfl Tryz.isAgg26 Tryz.sizeOf26 rfl rfl (colD_all _) (colD_length _)) ?_
   refine AOps_nil ?_
   exact AU_to (by kernel_rfl) hS0 (Weak_keep 0 hm [2, 3, 15, 17] [0, 1] _ _ rfl rfl rfl)
  refine ACode_ret ?_
  cases h
  exact ⟨_, _, fun r a w h => ⟨r, h⟩, _, _, [], _, (.cons (ResV_agg _ _ _ _ _ _ Tryz.isAgg26 Tryz.sizeOf26 rfl rfl (colD_take _) (colD_length _)) (.cons (ResV_agg _ _ _ _ _ _ Tryz.isAgg26 Tryz.sizeOf26 rfl rfl (colD_take _) (colD_length _)) .nil)), rfl, rfl, rfl, rfl, rfl⟩
 refine ACode_skip ?_
 obtain ⟨r6, hr6, h⟩ := bindO h
 obtain ⟨r7, hr7, h⟩ := bindO h
 refine ACode_seq (ACode_reg [(2, .ptr 0 0), (3, .ptr 1 0), (4, .ptr 2 0), (5, .ptr 3 0), (6, .ptr 4 0)] [.box (colD Col.zero), .box (colD Col.zero), .box (srcD r6.2), .box (colD r2.1), .box (colD r7)] ?_ ?_)
 ·refine ACode_anyU mixed ?_
  refine AU_cut 1 #[true, true, true, true, true, true, true, false] [(2, .ptr 0 0), (3, .ptr 1 0), (4, .ptr 2 0), (5, .ptr 3 0), (6, .ptr 4 0), (23, .d (.agg (colD r7)))] [.box (colD Col.zero), .box (colD Col.zero), .box (srcD r6.2), .box (colD r2.1), .box (colD Col.zero)] ?_ (fun hS0 => ?_)
  ·refine AU_one 7 (by kernel_rfl) rfl rfl ?_
   refine AOps_store _ _ _ _ _ _ (colD _) _ _ rfl rfl rfl rfl rfl rfl rfl (colD_one _) (by rw [colD_length]; exact Tryz.sizeOf26) (by rw [colD_length, colD_length]; decide) (colD_whole _ _) ?_
   refine AOps_nil ?_
   refine AU_done (by kernel_rfl) ?_
   exact ⟨rfl, Weak_keep 0 hm [2, 3, 4, 5, 6] [0, 1, 2, 3, 4] _ _ rfl rfl rfl⟩
  refine AU_cut 2 #[true, true, true, true, true, false, true, false] [(2, .ptr 0 0), (3, .ptr 1 0), (4, .ptr 2 0), (5, .ptr 3 0), (6, .ptr 4 0), (18, .d (.agg (colD r2.1))), (22, .vec 5 0)] [.box (colD Col.zero), .box (colD Col.zero), .box (srcD r6.2), .box (colD r2.1), .box (colD Col.zero), .vec 0 (intsD r6.1)] ?_ (fun hS1 => ?_)
  ·refine AU_one 5 (by kernel_rfl) rfl rfl ?_
   refine AOps_callL [] 23 _ _ _ _ _ _ _ _ _ _ rfl rfl rfl rfl rfl rfl rfl Tryz.call47 rfl (nodupB_sound _ rfl) rfl rfl rfl (spec_l01Renamed_ac k r2.1 r6.1 _ hr7) ?_
   rintro _ _ ⟨rfl, rfl⟩
   refine ⟨(fun _ h => nomatch h), (allc (flat_agg (colD_flat _)) (fun _ h => nomatch h)), AOps_as 23 (v' := .d (.agg (colD r7))) (H' := [.box (colD Col.zero), .box (colD Col.zero), .box (srcD r6.2), .box (colD r2.1), .box (colD Col.zero), .vec 0 (intsD r6.1)]) rfl rfl ?_⟩
   refine AOps_nil ?_
   exact AU_to (by kernel_rfl) hS0 (Weak_keep 0 hm [2, 3, 4, 5, 6, 23] [0, 1, 2, 3, 4] _ _ rfl rfl rfl)
  refine AU_cut 3 #[true, true, true, true, true, false, false, false] [(2, .ptr 0 0), (3, .ptr 1 0), (4, .ptr 2 0), (5, .ptr 3 0), (18, .d (.agg (colD r2.1))), (22, .vec 4 0)] [.box (colD Col.zero), .box (colD Col.zero), .box (srcD r6.2), .box (colD r2.1), .vec 0 (intsD r6.1)] ?_ (fun hS2 => ?_)
  ·refine AU_all [5, 6] (by kernel_rfl) rfl (allc ?_ (allc ?_ (fun _ h => nomatch h)))
   ·refine US_of 5 rfl rfl ?_
    refine AOps_callL [] 23 _ _ _ _ _ _ _ _ _ _ rfl rfl rfl rfl rfl rfl rfl Tryz.call47 rfl (nodupB_sound _ rfl) rfl rfl rfl (spec_l01Renamed_ac k r2.1 r6.1 _ hr7) ?_
    rintro _ _ ⟨rfl, rfl⟩
    refine ⟨(fun _ h => nomatch h), (allc (flat_agg (colD_flat _)) (fun _ h => nomatch h)), AOps_as 23 (v' := .d (.agg (colD r7))) (H' := [.box (colD Col.zero), .box (colD Col.zero), .box (srcD r6.2), .box (colD r2.1), .vec 0 (intsD r6.1)]) rfl rfl ?_⟩
    refine AOps_nil ?_
    refine AU_one 6 (by kernel_rfl) rfl rfl ?_
    refine AOps_alloc 6 _ _ (colD Col.zero) (zero_of Tryz.typeInfo26 rfl) (by rfl) rfl rfl rfl rfl ?_
    refine AOps_nil ?_
    exact AU_to (by kernel_rfl) hS0 (Weak_keep 0 hm [2, 3, 4, 5, 6, 23] [0, 1, 2, 3, 5] _ _ rfl rfl rfl)
   refine US_of 6 rfl rfl ?_
   refine AOps_alloc 6 _ _ (colD Col.zero) (zero_of Tryz.typeInfo26 rfl) (by rfl) rfl rfl rfl rfl ?_
   refine AOps_nil ?_
   exact AU_to (by kernel_rfl) hS1 (Weak_keep 0 hm [2, 3, 4, 5, 6, 18, 22] [0, 1, 2, 3, 5, 4] _ _ rfl rfl rfl)
  refine AU_cut 3 #[true, true, true, true, false, false, true, false] [(2, .ptr 0 0), (3, .ptr 1 0), (4, .ptr 2 0), (5, .ptr 3 0), (6, .ptr 4 0), (18, .d (.agg (colD r2.1))), (19, .ptr 2 0), (21, iV r2.1.p)] [.box (colD Col.zero), .box (colD Col.zero), .box (srcD r2.2), .box (colD r2.1), .box (colD Col.zero)] ?_ (fun hS3 => ?_)
  ·refine AU_one 4 (by kernel_rfl) rfl rfl ?_
   refine kC [2] 22 (.vec 5 0) [.box (colD Col.zero), .box (colD Col.zero), .box (srcD r6.2), .box (colD r2.1), .box (colD Col.zero), .vec 0 (intsD r6.1)] rfl Tryz.call45 rfl rfl (spec_l01DrawOrder_ac k r2.2 r2.1.p _ hr6) rfl ?_
   refine AOps_nil ?_
   exact AU_to (by kernel_rfl) hS1 (Weak_keep 0 hm [2, 3, 4, 5, 6, 18, 22] [0, 1, 2, 3, 4, 5] _ _ rfl rfl rfl)
  refine AU_cut 3 #[false, true, true, true, true, false, true, false] [(2, .ptr 0 0), (3, .ptr 1 0), (4, .ptr 2 0), (5, .ptr 3 0), (6, .ptr 4 0), (22, .vec 5 0)] [.box (colD Col.zero), .box (colD Col.zero), .box (srcD r6.2), .box (colD r2.1), .box (colD Col.zero), .vec 0 (intsD r6.1)] ?_ (fun hS4 => ?_)
  ·refine AU_one 0 (by kernel_rfl) rfl rfl ?_
   refine AOps_q 18 _ rfl rfl rfl (QOp_loadN_ptr _ _ _ _ _ _ _ rfl Tryz.isAgg26 Tryz.sizeOf26 rfl rfl (colD_all _) (colD_length _)) ?_
   refine AOps_nil ?_
   exact AU_to (by kernel_rfl) hS1 (Weak_keep 0 hm [2, 3, 4, 5, 6, 18, 22] [0, 1, 2, 3, 4, 5] _ _ rfl rfl rfl)
  refine AU_cut 4 #[true, true, true, true, false, false, false, false] [(2, .ptr 0 0), (3, .ptr 1 0), (4, .ptr 2 0), (5, .ptr 3 0), (18, .d (.agg (colD r2.1))), (19, .ptr 2 0), (21, iV r2.1.p)] [.box (colD Col.zero), .box (colD Col.zero), .box (srcD r2.2), .box (colD r2.1)] ?_ (fun hS5 => ?_)
  ·refine AU_all [4, 6] (by kernel_rfl) rfl (allc ?_ (allc ?_ (fun _ h => nomatch h)))
   ·refine US_of 4 rfl rfl ?_
    refine kC [2] 22 (.vec 4 0) [.box (colD Col.zero), .box (colD Col.zero), .box (srcD r6.2), .box (colD r2.1), .vec 0 (intsD r6.1)] rfl Tryz.call45 rfl rfl (spec_l01DrawOrder_ac k r2.2 r2.1.p _ hr6) rfl ?_
    refine AOps_nil ?_
    exact AU_to (by kernel_rfl) hS2 (Weak_keep 0 hm [2, 3, 4, 5, 18, 22] [0, 1, 2, 3, 4] _ _ rfl rfl rfl)
   refine US_of 6 rfl rfl ?_
   refine AOps_alloc 6 _ _ (colD Col.zero) (zero_of Tryz.typeInfo26 rfl) (by rfl) rfl rfl rfl rfl ?_
   refine AOps_nil ?_
   exact AU_to (by kernel_rfl) hS3 (Weak_keep 0 hm [2, 3, 4, 5, 6, 18, 19, 21] [0, 1, 2, 3, 4] _ _ rfl rfl rfl)
  refine AU_cut 4 #[true, true, true, false, false, false, true, false] [(2, .ptr 0 0), (3, .ptr 1 0), (4, .ptr 2 0), (5, .ptr 3 0), (6, .ptr 4 0), (18, .d (.agg (colD r2.1))), (19, .ptr 2 0), (20, .ptr 3 0)] [.box (colD Col.zero), .box (colD Col.zero), .box (srcD r2.2), .box (colD r2.1), .box (colD Col.zero)] ?_ (fun hS6 => ?_)
  ·refine AU_one 3 (by kernel_rfl) rfl rfl ?_
   refine AOps_q 21 _ rfl rfl rfl (QOp_load_ptr _ _ _ _ _ _ rfl Tryz.isAgg2 rfl rfl rfl) ?_
   refine AOps_nil ?_
   exact AU_to (by kernel_rfl) hS3 (Weak_keep 0 hm [2, 3, 4, 5, 6, 18, 19, 21] [0, 1, 2, 3, 4] _ _ rfl rfl rfl)
  refine AU_cut 4 #[false, true, true, true, false, false, true, false] [(2, .ptr 0 0), (3, .ptr 1 0), (4, .ptr 2 0), (5, .ptr 3 0), (6, .ptr 4 0), (19, .ptr 2 0), (21, iV r2.1.p)] [.box (colD Col.zero), .box (colD Col.zero), .box (srcD r2.2), .box (colD r2.1), .box (colD Col.zero)] ?_ (fun hS7 => ?_)
  ·refine AU_all [0, 4] (by kernel_rfl) rfl (allc ?_ (allc ?_ (fun _ h => nomatch h)))
   ·refine US_of 0 rfl rfl ?_
    refine AOps_q 18 _ rfl rfl rfl (QOp_loadN_ptr _ _ _ _ _ _ _ rfl Tryz.isAgg26 Tryz.sizeOf26 rfl rfl (colD_all _) (colD_length _)) ?_
    refine AOps_nil ?_
    exact AU_to (by kernel_rfl) hS3 (Weak_keep 0 hm [2, 3, 4, 5, 6, 18, 19, 21] [0, 1, 2, 3, 4] _ _ rfl rfl rfl)
   refine US_of 4 rfl rfl ?_
   refine kC [2] 22 (.vec 5 0) [.box (colD Col.zero), .box (colD Col.zero), .box (srcD r6.2), .box (colD r2.1), .box (colD Col.zero), .vec 0 (intsD r6.1)] rfl Tryz.call45 rfl rfl (spec_l01DrawOrder_ac k r2.2 r2.1.p _ hr6) rfl ?_
   refine AOps_nil ?_
   exact AU_to (by kernel_rfl) hS4 (Weak_keep 0 hm [2, 3, 4, 5, 6, 22] [0, 1, 2, 3, 4, 5] _ _ rfl rfl rfl)
  refine AU_u 1 19 _ rfl (by kernel_rfl) rfl rfl rfl (UOp_move _ _ rfl rfl) ?_
  refine AU_u 2 20 _ rfl (by kernel_rfl) rfl rfl rfl (UOp_fieldAddr_ptr _ _ _ _ _ _ 0 _ _ rfl Tryz.underlying26 rfl _ Tryz.sizeOf2 rfl rfl rfl rfl) ?_
  refine AU_all [0, 3, 6] (by kernel_rfl) rfl (allc ?_ (allc ?_ (allc ?_ (fun _ h => nomatch h))))
  ·refine US_of 0 rfl rfl ?_
   refine AOps_q 18 _ rfl rfl rfl (QOp_loadN_ptr _ _ _ _ _ _ _ rfl Tryz.isAgg26 Tryz.sizeOf26 rfl rfl (colD_all _) (colD_length _)) ?_
   refine AOps_nil ?_
   refine AU_all [3, 6] (by kernel_rfl) rfl (allc ?_ (allc ?_ (fun _ h => nomatch h)))
   ·refine US_of 3 rfl rfl ?_
    refine AOps_q 21 _ rfl rfl rfl (QOp_load_ptr _ _ _ _ _ _ rfl Tryz.isAgg2 rfl rfl rfl) ?_
    refine AOps_nil ?_
    exact AU_to (by kernel_rfl) hS5 (Weak_keep 0 hm [2, 3, 4, 5, 18, 19, 21] [0, 1, 2, 3] _ _ rfl rfl rfl)
   refine US_of 6 rfl rfl ?_
   refine AOps_alloc 6 _ _ (colD Col.zero) (zero_of Tryz.typeInfo26 rfl) (by rfl) rfl rfl rfl rfl ?_
   refine AOps_nil ?_
   exact AU_to (by kernel_rfl) hS6 (Weak_keep 0 hm [2, 3, 4, 5, 6, 18, 19, 20] [0, 1, 2, 3, 4] _ _ rfl rfl rfl)
  ·refine US_of 3 rfl rfl ?_
   refine AOps_q 21 _ rfl rfl rfl (QOp_load_ptr _ _ _ _ _ _ rfl Tryz.isAgg2 rfl rfl rfl) ?_
   refine AOps_nil ?_
   refine AU_all [0, 4, 6] (by kernel_rfl) rfl (allc ?_ (allc ?_ (allc ?_ (fun _ h => nomatch h))))
   ·refine US_of 0 rfl rfl ?_
    refine AOps_q 18 _ rfl rfl rfl (QOp_loadN_ptr _ _ _ _ _ _ _ rfl Tryz.isAgg26 Tryz.sizeOf26 rfl rfl (colD_all _) (colD_length _)) ?_
    refine AOps_nil ?_
    exact AU_to (by kernel_rfl) hS5 (Weak_keep 0 hm [2, 3, 4, 5, 18, 19, 21] [0, 1, 2, 3] _ _ rfl rfl rfl)
   ·refine US_of 4 rfl rfl ?_
    refine kC [2] 22 (.vec 4 0) [.box (colD Col.zero), .box (colD Col.zero), .box (srcD r6.2), .box (colD r2.1), .vec 0 (intsD r6.1)] rfl Tryz.call45 rfl rfl (spec_l01DrawOrder_ac k r2.2 r2.1.p _ hr6) rfl ?_
    refine AOps_nil ?_
    refine AU_all [0, 6] (by kernel_rfl) rfl (allc ?_ (allc ?_ (fun _ h => nomatch h)))
    ·refine US_of 0 rfl rfl ?_
     refine AOps_q 18 _ rfl rfl rfl (QOp_loadN_ptr _ _ _ _ _ _ _ rfl Tryz.isAgg26 Tryz.sizeOf26 rfl rfl (colD_all _) (colD_length _)) ?_
     refine AOps_nil ?_
     exact AU_to (by kernel_rfl) hS2 (Weak_keep 0 hm [2, 3, 4, 5, 18, 22] [0, 1, 2, 3, 4] _ _ rfl rfl rfl)
    refine US_of 6 rfl rfl ?_
    refine AOps_alloc 6 _ _ (colD Col.zero) (zero_of Tryz.typeInfo26 rfl) (by rfl) rfl rfl rfl rfl ?_
    refine AOps_nil ?_
    exact AU_to (by kernel_rfl) hS4 (Weak_keep 0 hm [2, 3, 4, 5, 6, 22] [0, 1, 2, 3, 5, 4] _ _ rfl rfl rfl)
   refine US_of 6 rfl rfl ?_
   refine AOps_alloc 6 _ _ (colD Col.zero) (zero_of Tryz.typeInfo26 rfl) (by rfl) rfl rfl rfl rfl ?_
   refine AOps_nil ?_
   exact AU_to (by kernel_rfl) hS7 (Weak_keep 0 hm [2, 3, 4, 5, 6, 19, 21] [0, 1, 2, 3, 4] _ _ rfl rfl rfl)
  refine US_of 6 rfl rfl ?_
  refine AOps_alloc 6 _ _ (colD Col.zero) (zero_of Tryz.typeInfo26 rfl) (by rfl) rfl rfl rfl rfl ?_
  refine AOps_nil ?_
  refine AU_all [0, 3] (by kernel_rfl) rfl (allc ?_ (allc ?_ (fun _ h => nomatch h)))
  ·refine US_of 0 rfl rfl ?_
   refine AOps_q 18 _ rfl rfl rfl (QOp_loadN_ptr _ _ _ _ _ _ _ rfl Tryz.isAgg26 Tryz.sizeOf26 rfl rfl (colD_all _) (colD_length _)) ?_
   refine AOps_nil ?_
   exact AU_to (by kernel_rfl) hS6 (Weak_keep 0 hm [2, 3, 4, 5, 6, 18, 19, 20] [0, 1, 2, 3, 4] _ _ rfl rfl rfl)
  refine US_of 3 rfl rfl ?_
  refine AOps_q 21 _ rfl rfl rfl (QOp_load_ptr _ _ _ _ _ _ rfl Tryz.isAgg2 rfl rfl rfl) ?_
  refine AOps_nil ?_
  exact AU_to (by kernel_rfl) hS7 (Weak_keep 0 hm [2, 3, 4, 5, 6, 19, 21] [0, 1, 2, 3, 4] _ _ rfl rfl rfl)
 refine kB (fun s21 => [(2, .ptr 0 0), (3, .ptr 1 0), (4, .ptr 2 0), (5, .ptr 3 0), (6, .ptr 4 0)]) (fun s21 => [.box (colD Col.zero), .box (colD Col.zero), .box (srcD s21.1), .box (colD r2.1), .box (colD s21.2)]) h (fun s21 h => ?_) (fun s21 h => ?_)
 ·refine kR ?_
  refine kM 1 rfl ?_
  obtain ⟨r8, hr8, h⟩ := bindO h
  refine kC [2] 25 (iV r8.1) [.box (colD Col.zero), .box (colD Col.zero), .box (srcD r8.2), .box (colD r2.1), .box (colD r7)] rfl Tryz.call46 rfl rfl (spec_l01Next_ac r6.2 6 _ hr8) rfl ?_
  refine AOps_nil ?_
  refine ACode_block ?_
  refine kR ?_
  refine AOps_q 27 _ rfl rfl rfl (QOp_eql _ _ _ _ _ _ _ rfl rfl rfl) ?_
  refine kN 1 rfl ?_
  refine kI h rfl (fun h _ => ?_) (fun h _ => ?_)
  ·obtain ⟨r10, hr10, h⟩ := bindO h
   obtain ⟨r11, hr11, h⟩ := bindO h
   refine ACode_reg [(2, .ptr 0 0), (3, .ptr 1 0), (4, .ptr 2 0), (5, .ptr 3 0), (6, .ptr 4 0)] [.box (colD Col.zero), .box (colD Col.zero), .box (srcD r10.2), .box (colD r2.1), .box (colD r11)] ?_ ?_
   ·refine ACode_anyU mixed ?_
    refine AU_cut 2 #[true, true, true, true, true, false, false] [(2, .ptr 0 0), (3, .ptr 1 0), (4, .ptr 2 0), (5, .ptr 3 0), (6, .ptr 4 0), (28, .d (.agg (colD r7))), (32, .vec 5 0)] [.box (colD Col.zero), .box (colD Col.zero), .box (srcD r10.2), .box (colD r2.1), .box (colD r7), .vec 0 (intsD r10.1)] ?_ (fun hS0 => ?_)
    ·refine AU_one 5 (by kernel_rfl) rfl rfl ?_
     refine AOps_callL [] 33 _ _ _ _ _ _ _ _ _ _ rfl rfl rfl rfl rfl rfl rfl Tryz.call42 rfl (nodupB_sound _ rfl) rfl rfl rfl (spec_l01Turned_ac k r7 r10.1 _ hr11) ?_
     rintro _ _ ⟨rfl, rfl⟩
     refine ⟨(fun _ h => nomatch h), (allc (flat_agg (colD_flat _)) (fun _ h => nomatch h)), AOps_as 33 (v' := .d (.agg (colD r11))) (H' := [.box (colD Col.zero), .box (colD Col.zero), .box (srcD r10.2), .box (colD r2.1), .box (colD r7), .vec 0 (intsD r10.1)]) rfl rfl ?_⟩
     refine AOps_nil ?_
     refine AU_one 6 (by kernel_rfl) rfl rfl ?_
     refine AOps_store _ _ _ _ _ _ (colD _) _ _ rfl rfl rfl rfl rfl rfl rfl (colD_one _) (by rw [colD_length]; exact Tryz.sizeOf26) (by rw [colD_length, colD_length]; decide) (colD_whole _ _) ?_
     refine AOps_nil ?_
     refine AU_done (by kernel_rfl) ?_
     exact ⟨rfl, Weak_keep 0 hm [2, 3, 4, 5, 6] [0, 1, 2, 3, 4] _ _ rfl rfl rfl⟩
    refine AU_cut 3 #[true, true, true, true, false, false, false] [(2, .ptr 0 0), (3, .ptr 1 0), (4, .ptr 2 0), (5, .ptr 3 0), (6, .ptr 4 0), (28, .d (.agg (colD r7))), (29, .ptr 2 0), (31, iV r2.1.k)] [.box (colD Col.zero), .box (colD Col.zero), .box (srcD r8.2), .box (colD r2.1), .box (colD r7)] ?_ (fun hS1 => ?_)
    ·refine AU_one 4 (by kernel_rfl) rfl rfl ?_
     refine kC [2] 32 (.vec 5 0) [.box (colD Col.zero), .box (colD Col.zero), .box (srcD r10.2), .box (colD r2.1), .box (colD r7), .vec 0 (intsD r10.1)] rfl Tryz.call45 rfl rfl (spec_l01DrawOrder_ac k r8.2 r2.1.k _ hr10) rfl ?_
     refine AOps_nil ?_
     exact AU_to (by kernel_rfl) hS0 (Weak_keep 0 hm [2, 3, 4, 5, 6, 28, 32] [0, 1, 2, 3, 4, 5] _ _ rfl rfl rfl)
    refine AU_u 1 29 _ rfl (by kernel_rfl) rfl rfl rfl (UOp_move _ _ rfl rfl) ?_
    refine AU_u 2 30 _ rfl (by kernel_rfl) rfl rfl rfl (UOp_fieldAddr_ptr _ _ _ _ _ _ 1 _ _ rfl Tryz.underlying26 rfl _ Tryz.sizeOf2 rfl rfl rfl rfl) ?_
    refine AU_all [0, 3] (by kernel_rfl) rfl (allc ?_ (allc ?_ (fun _ h => nomatch h)))
    ·refine US_of 0 rfl rfl ?_
     refine AOps_q 28 _ rfl rfl rfl (QOp_loadN_ptr _ _ _ _ _ _ _ rfl Tryz.isAgg26 Tryz.sizeOf26 rfl rfl (colD_all _) (colD_length _)) ?_
     refine AOps_nil ?_
     refine AU_one 3 (by kernel_rfl) rfl rfl ?_
     refine AOps_q 31 _ rfl rfl rfl (QOp_load_ptr _ _ _ _ _ _ rfl Tryz.isAgg2 rfl rfl rfl) ?_
     refine AOps_nil ?_
     exact AU_to (by kernel_rfl) hS1 (Weak_keep 0 hm [2, 3, 4, 5, 6, 28, 29, 31] [0, 1, 2, 3, 4] _ _ rfl rfl rfl)
    refine US_of 3 rfl rfl ?_
    refine AOps_q 31 _ rfl rfl rfl (QOp_load_ptr _ _ _ _ _ _ rfl Tryz.isAgg2 rfl rfl rfl) ?_
    refine AOps_nil ?_
    refine AU_all [0, 4] (by kernel_rfl) rfl (allc ?_ (allc ?_ (fun _ h => nomatch h)))
    ·refine US_of 0 rfl rfl ?_
     refine AOps_q 28 _ rfl rfl rfl (QOp_loadN_ptr _ _ _ _ _ _ _ rfl Tryz.isAgg26 Tryz.sizeOf26 rfl rfl (colD_all _) (colD_length _)) ?_
     refine AOps_nil ?_
     exact AU_to (by kernel_rfl) hS1 (Weak_keep 0 hm [2, 3, 4, 5, 6, 28, 29, 31] [0, 1, 2, 3, 4] _ _ rfl rfl rfl)
    refine US_of 4 rfl rfl ?_
    refine kC [2] 32 (.vec 5 0) [.box (colD Col.zero), .box (colD Col.zero), .box (srcD r10.2), .box (colD r2.1), .box (colD r7), .vec 0 (intsD r10.1)] rfl Tryz.call45 rfl rfl (spec_l01DrawOrder_ac k r8.2 r2.1.k _ hr10) rfl ?_
    refine AOps_nil ?_
    refine AU_one 0 (by kernel_rfl) rfl rfl ?_
    refine AOps_q 28 _ rfl rfl rfl (QOp_loadN_ptr _ _ _ _ _ _ _ rfl Tryz.isAgg26 Tryz.sizeOf26 rfl rfl (colD_all _) (colD_length _)) ?_
    refine AOps_nil ?_
    exact AU_to (by kernel_rfl) hS0 (Weak_keep 0 hm [2, 3, 4, 5, 6, 28, 32] [0, 1, 2, 3, 4, 5] _ _ rfl rfl rfl)
   cases h
   exact Weak_keep 0 hm [2, 3, 4, 5, 6] [0, 1, 2, 3, 4] _ _ rfl rfl rfl
  refine kR ?_
  refine AOps_q 35 _ rfl rfl rfl (QOp_eql _ _ _ _ _ _ _ rfl rfl rfl) ?_
  refine kN 1 rfl ?_
  refine kI h rfl (fun h _ => ?_) (fun h _ => ?_)
  ·refine (ACode_region ?_)
   refine kM 1 rfl ?_
   obtain ⟨r13, hr13, h⟩ := bindO h
   refine kC [2] 37 (.d (.agg (colD r13.1))) [.box (colD Col.zero), .box (colD Col.zero), .box (srcD r13.2), .box (colD r2.1), .box (colD r7)] rfl Tryz.call44 rfl rfl (spec_l06Draw_ac k r8.2 _ hr13) rfl ?_
   refine AOps_store _ _ _ _ _ _ (colD _) _ _ rfl rfl rfl rfl rfl rfl rfl (colD_one _) (by rw [colD_length]; exact Tryz.sizeOf26) (by rw [colD_length, colD_length]; decide) (colD_whole _ _) ?_
   refine AOps_nil ?_
   cases h
   exact Weak_keep 0 hm [2, 3, 4, 5, 6] [0, 1, 2, 3, 4] _ _ rfl rfl rfl
  refine kR ?_
  refine AOps_q 39 _ rfl rfl rfl (QOp_eql _ _ _ _ _ _ _ rfl rfl rfl) ?_
  refine kN 1 rfl ?_
  refine kI h rfl (fun h _ => ?_) (fun h _ => ?_)
  ·refine kR ?_
   refine AOps_q 40 _ rfl rfl rfl (QOp_fieldAddr_ptr _ _ _ _ _ _ 0 _ _ rfl Tryz.underlying26 rfl _ Tryz.sizeOf2 rfl rfl rfl rfl) ?_
   refine AOps_q 41 _ rfl rfl rfl (QOp_load_ptr _ _ _ _ _ _ rfl Tryz.isAgg2 rfl rfl rfl) ?_
   refine AOps_q 42 _ rfl rfl rfl (QOp_gtr _ _ _ _ _ _ _ rfl rfl rfl) ?_
   refine AOps_nil ?_
   refine kI h rfl (fun h _ => ?_) (fun h _ => ?_)
   ·refine kR ?_
    refine kM 1 rfl ?_
    refine AOps_q 44 _ rfl rfl rfl (QOp_fieldAddr_ptr _ _ _ _ _ _ 0 _ _ rfl Tryz.underlying26 rfl _ Tryz.sizeOf2 rfl rfl rfl rfl) ?_
    refine AOps_q 45 _ rfl rfl rfl (QOp_load_ptr _ _ _ _ _ _ rfl Tryz.isAgg2 rfl rfl rfl) ?_
    obtain ⟨r16, hr16, h⟩ := bindO h
    refine kC [2] 46 (.vec 5 0) [.box (colD Col.zero), .box (colD Col.zero), .box (srcD r16.2), .box (colD r2.1), .box (colD r7), .vec 0 (intsD r16.1)] rfl Tryz.call45 rfl rfl (spec_l01DrawOrder_ac k r8.2 r2.1.p _ hr16) rfl ?_
    refine kN 1 rfl ?_
    obtain ⟨hc17, h⟩ := guardO h
    obtain ⟨hc18, h⟩ := guardO h
    obtain ⟨r19, hr19, h⟩ := bindO h
    obtain ⟨r20, hr20, h⟩ := bindO h
    refine ACode_reg [(2, .ptr 0 0), (3, .ptr 1 0), (4, .ptr 2 0), (5, .ptr 3 0), (6, .ptr 4 0)] [.box (colD Col.zero), .box (colD Col.zero), .box (srcD r19.2), .box (colD r2.1), .box (colD r20)] ?_ ?_
    ·refine ACode_anyU mixed ?_
     refine AU_cut 2 #[true, true, true, true, true, true, true, true, true, true, true, false, false] [(2, .ptr 0 0), (3, .ptr 1 0), (4, .ptr 2 0), (5, .ptr 3 0), (6, .ptr 4 0), (47, .d (.agg (colD r7))), (50, iV (r16.1.getD (0 : Int).toNat 0)), (53, iV (r16.1.getD (1 : Int).toNat 0)), (57, iV r19.1)] [.box (colD Col.zero), .box (colD Col.zero), .box (srcD r19.2), .box (colD r2.1), .box (colD r7)] ?_ (fun hS0 => ?_)
     ·refine AU_one 11 (by kernel_rfl) rfl rfl ?_
      refine kC [] 58 (.d (.agg (colD r20))) [.box (colD Col.zero), .box (colD Col.zero), .box (srcD r19.2), .box (colD r2.1), .box (colD r7)] rfl Tryz.call79 rfl rfl (spec_l01With_ac r7 (r16.1.getD (0 : Int).toNat 0) (r16.1.getD (1 : Int).toNat 0) r19.1 _ hr20) rfl ?_
      refine AOps_nil ?_
      refine AU_one 12 (by kernel_rfl) rfl rfl ?_
      refine AOps_store _ _ _ _ _ _ (colD _) _ _ rfl rfl rfl rfl rfl rfl rfl (colD_one _) (by rw [colD_length]; exact Tryz.sizeOf26) (by rw [colD_length, colD_length]; decide) (colD_whole _ _) ?_
      refine AOps_nil ?_
      refine AU_done (by kernel_rfl) ?_
      exact ⟨rfl, Weak_keep 0 hm [2, 3, 4, 5, 6] [0, 1, 2, 3, 4] _ _ rfl rfl rfl⟩
     refine AU_cut 3 #[true, true, true, true, true, true, true, true, true, true, false, false, false] [(2, .ptr 0 0), (3, .ptr 1 0), (4, .ptr 2 0), (5, .ptr 3 0), (6, .ptr 4 0), (47, .d (.agg (colD r7))), (50, iV (r16.1.getD (0 : Int).toNat 0)), (53, iV (r16.1.getD (1 : Int).toNat 0)), (54, .ptr 2 0), (56, iV r2.1.k)] [.box (colD Col.zero), .box (colD Col.zero), .box (srcD r16.2), .box (colD r2.1), .box (colD r7)] ?_ (fun hS1 => ?_)
     ·refine AU_one 10 (by kernel_rfl) rfl rfl ?_
      refine kC [2] 57 (iV r19.1) [.box (colD Col.zero), .box (colD Col.zero), .box (srcD r19.2), .box (colD r2.1), .box (colD r7)] rfl Tryz.call46 rfl rfl (spec_l01Next_ac r16.2 r2.1.k _ hr19) rfl ?_
      refine AOps_nil ?_
      exact AU_to (by kernel_rfl) hS0 (Weak_keep 0 hm [2, 3, 4, 5, 6, 47, 50, 53, 57] [0, 1, 2, 3, 4] _ _ rfl rfl rfl)
     refine AU_cut 3 #[false, true, true, true, true, true, true, true, true, true, true, false, false] [(2, .ptr 0 0), (3, .ptr 1 0), (4, .ptr 2 0), (5, .ptr 3 0), (6, .ptr 4 0), (50, iV (r16.1.getD (0 : Int).toNat 0)), (53, iV (r16.1.getD (1 : Int).toNat 0)), (57, iV r19.1)] [.box (colD Col.zero), .box (colD Col.zero), .box (srcD r19.2), .box (colD r2.1), .box (colD r7)] ?_ (fun hS2 => ?_)
     ·refine AU_one 0 (by kernel_rfl) rfl rfl ?_
      refine AOps_q 47 _ rfl rfl rfl (QOp_loadN_ptr _ _ _ _ _ _ _ rfl Tryz.isAgg26 Tryz.sizeOf26 rfl rfl (colD_all _) (colD_length _)) ?_
      refine AOps_nil ?_
      exact AU_to (by kernel_rfl) hS0 (Weak_keep 0 hm [2, 3, 4, 5, 6, 47, 50, 53, 57] [0, 1, 2, 3, 4] _ _ rfl rfl rfl)
     refine AU_cut 4 #[true, true, true, true, true, true, true, true, true, false, false, false, false] [(2, .ptr 0 0), (3, .ptr 1 0), (4, .ptr 2 0), (5, .ptr 3 0), (6, .ptr 4 0), (47, .d (.agg (colD r7))), (50, iV (r16.1.getD (0 : Int).toNat 0)), (53, iV (r16.1.getD (1 : Int).toNat 0)), (54, .ptr 2 0), (55, .ptr 3 1)] [.box (colD Col.zero), .box (colD Col.zero), .box (srcD r16.2), .box (colD r2.1), .box (colD r7)] ?_ (fun hS3 => ?_)
     ·refine AU_one 9 (by kernel_rfl) rfl rfl ?_
      refine AOps_q 56 _ rfl rfl rfl (QOp_load_ptr _ _ _ _ _ _ rfl Tryz.isAgg2 rfl rfl rfl) ?_
      refine AOps_nil ?_
      exact AU_to (by kernel_rfl) hS1 (Weak_keep 0 hm [2, 3, 4, 5, 6, 47, 50, 53, 54, 56] [0, 1, 2, 3, 4] _ _ rfl rfl rfl)
     refine AU_cut 4 #[false, true, true, true, true, true, true, true, true, true, false, false, false] [(2, .ptr 0 0), (3, .ptr 1 0), (4, .ptr 2 0), (5, .ptr 3 0), (6, .ptr 4 0), (50, iV (r16.1.getD (0 : Int).toNat 0)), (53, iV (r16.1.getD (1 : Int).toNat 0)), (54, .ptr 2 0), (56, iV r2.1.k)] [.box (colD Col.zero), .box (colD Col.zero), .box (srcD r16.2), .box (colD r2.1), .box (colD r7)] ?_ (fun hS4 => ?_)
     ·refine AU_all [0, 10] (by kernel_rfl) rfl (allc ?_ (allc ?_ (fun _ h => nomatch h)))
      ·refine US_of 0 rfl rfl ?_
       refine AOps_q 47 _ rfl rfl rfl (QOp_loadN_ptr _ _ _ _ _ _ _ rfl Tryz.isAgg26 Tryz.sizeOf26 rfl rfl (colD_all _) (colD_length _)) ?_
       refine AOps_nil ?_
       exact AU_to (by kernel_rfl) hS1 (Weak_keep 0 hm [2, 3, 4, 5, 6, 47, 50, 53, 54, 56] [0, 1, 2, 3, 4] _ _ rfl rfl rfl)
      refine US_of 10 rfl rfl ?_
      refine kC [2] 57 (iV r19.1) [.box (colD Col.zero), .box (colD Col.zero), .box (srcD r19.2), .box (colD r2.1), .box (colD r7)] rfl Tryz.call46 rfl rfl (spec_l01Next_ac r16.2 r2.1.k _ hr19) rfl ?_
      refine AOps_nil ?_
      exact AU_to (by kernel_rfl) hS2 (Weak_keep 0 hm [2, 3, 4, 5, 6, 50, 53, 57] [0, 1, 2, 3, 4] _ _ rfl rfl rfl)
     refine AU_cut 5 #[false, true, true, true, true, true, true, true, true, false, false, false, false] [(2, .ptr 0 0), (3, .ptr 1 0), (4, .ptr 2 0), (5, .ptr 3 0), (6, .ptr 4 0), (50, iV (r16.1.getD (0 : Int).toNat 0)), (53, iV (r16.1.getD (1 : Int).toNat 0)), (54, .ptr 2 0), (55, .ptr 3 1)] [.box (colD Col.zero), .box (colD Col.zero), .box (srcD r16.2), .box (colD r2.1), .box (colD r7)] ?_ (fun hS5 => ?_)
     ·refine AU_all [0, 9] (by kernel_rfl) rfl (allc ?_ (allc ?_ (fun _ h => nomatch h)))
      ·refine US_of 0 rfl rfl ?_
       refine AOps_q 47 _ rfl rfl rfl (QOp_loadN_ptr _ _ _ _ _ _ _ rfl Tryz.isAgg26 Tryz.sizeOf26 rfl rfl (colD_all _) (colD_length _)) ?_
       refine AOps_nil ?_
       exact AU_to (by kernel_rfl) hS3 (Weak_keep 0 hm [2, 3, 4, 5, 6, 47, 50, 53, 54, 55] [0, 1, 2, 3, 4] _ _ rfl rfl rfl)
      refine US_of 9 rfl rfl ?_
      refine AOps_q 56 _ rfl rfl rfl (QOp_load_ptr _ _ _ _ _ _ rfl Tryz.isAgg2 rfl rfl rfl) ?_
      refine AOps_nil ?_
      exact AU_to (by kernel_rfl) hS4 (Weak_keep 0 hm [2, 3, 4, 5, 6, 50, 53, 54, 56] [0, 1, 2, 3, 4] _ _ rfl rfl rfl)
     refine AU_u 1 48 _ rfl (by kernel_rfl) rfl rfl rfl (UOp_move _ _ rfl rfl) ?_
     refine AU_u 2 49 _ rfl (by kernel_rfl) rfl rfl rfl (UOp_indexAddr_vec _ _ _ _ _ _ _ _ _ rfl Tryz.underlying29 Tryz.sizeOf2 hc17.1 (by rw [intsD_length]; exact hc17.2) rfl rfl rfl) ?_
     refine AU_u 4 51 _ rfl (by kernel_rfl) rfl rfl rfl (UOp_move _ _ rfl rfl) ?_
     refine AU_u 5 52 _ rfl (by kernel_rfl) rfl rfl rfl (UOp_indexAddr_vec _ _ _ _ _ _ _ _ _ rfl Tryz.underlying29 Tryz.sizeOf2 hc18.1 (by rw [intsD_length]; exact hc18.2) rfl rfl rfl) ?_
     refine AU_u 7 54 _ rfl (by kernel_rfl) rfl rfl rfl (UOp_move _ _ rfl rfl) ?_
     refine AU_u 8 55 _ rfl (by kernel_rfl) rfl rfl rfl (UOp_fieldAddr_ptr _ _ _ _ _ _ 1 _ _ rfl Tryz.underlying26 rfl _ Tryz.sizeOf2 rfl rfl rfl rfl) ?_
     refine AU_all [0, 3, 6, 9] (by kernel_rfl) rfl (allc ?_ (allc ?_ (allc ?_ (allc ?_ (fun _ h => nomatch h)))))
     ·refine US_of 0 rfl rfl ?_
      refine AOps_q 47 _ rfl rfl rfl (QOp_loadN_ptr _ _ _ _ _ _ _ rfl Tryz.isAgg26 Tryz.sizeOf26 rfl rfl (colD_all _) (colD_length _)) ?_
      refine AOps_nil ?_
      refine AU_all [3, 6, 9] (by kernel_rfl) rfl (allc ?_ (allc ?_ (allc ?_ (fun _ h => nomatch h))))
      ·refine US_of 3 rfl rfl ?_
       refine AOps_q 50 _ rfl rfl rfl (QOp_load_eptr _ _ _ _ _ _ _ rfl Tryz.isAgg2 rfl rfl (intsD_get _ _ 0 (by omega))) ?_
       refine AOps_nil ?_
       refine AU_all [6, 9] (by kernel_rfl) rfl (allc ?_ (allc ?_ (fun _ h => nomatch h)))
       ·refine US_of 6 rfl rfl ?_
        refine AOps_q 53 _ rfl rfl rfl (QOp_load_eptr _ _ _ _ _ _ _ rfl Tryz.isAgg2 rfl rfl (intsD_get _ _ 0 (by omega))) ?_
        refine AOps_nil ?_
        exact AU_to (by kernel_rfl) hS3 (Weak_keep 0 hm [2, 3, 4, 5, 6, 47, 50, 53, 54, 55] [0, 1, 2, 3, 4] _ _ rfl rfl rfl)
       refine US_of 9 rfl rfl ?_
       refine AOps_q 56 _ rfl rfl rfl (QOp_load_ptr _ _ _ _ _ _ rfl Tryz.isAgg2 rfl rfl rfl) ?_
       refine AOps_nil ?_
       refine AU_all [6, 10] (by kernel_rfl) rfl (allc ?_ (allc ?_ (fun _ h => nomatch h)))
       ·refine US_of 6 rfl rfl ?_
        refine AOps_q 53 _ rfl rfl rfl (QOp_load_eptr _ _ _ _ _ _ _ rfl Tryz.isAgg2 rfl rfl (intsD_get _ _ 0 (by omega))) ?_
        refine AOps_nil ?_
        exact AU_to (by kernel_rfl) hS1 (Weak_keep 0 hm [2, 3, 4, 5, 6, 47, 50, 53, 54, 56] [0, 1, 2, 3, 4] _ _ rfl rfl rfl)
       refine US_of 10 rfl rfl ?_
       refine kC [2] 57 (iV r19.1) [.box (colD Col.zero), .box (colD Col.zero), .box (srcD r19.2), .box (colD r2.1), .box (colD r7), .vec 0 (intsD r16.1)] rfl Tryz.call46 rfl rfl (spec_l01Next_ac r16.2 r2.1.k _ hr19) rfl ?_
       refine AOps_nil ?_
       refine AU_one 6 (by kernel_rfl) rfl rfl ?_
       refine AOps_q 53 _ rfl rfl rfl (QOp_load_eptr _ _ _ _ _ _ _ rfl Tryz.isAgg2 rfl rfl (intsD_get _ _ 0 (by omega))) ?_
       refine AOps_nil ?_
       exact AU_to (by kernel_rfl) hS0 (Weak_keep 0 hm [2, 3, 4, 5, 6, 47, 50, 53, 57] [0, 1, 2, 3, 4] _ _ rfl rfl rfl)
      ·refine US_of 6 rfl rfl ?_
       refine AOps_q 53 _ rfl rfl rfl (QOp_load_eptr _ _ _ _ _ _ _ rfl Tryz.isAgg2 rfl rfl (intsD_get _ _ 0 (by omega))) ?_
       refine AOps_nil ?_
       refine AU_all [3, 9] (by kernel_rfl) rfl (allc ?_ (allc ?_ (fun _ h => nomatch h)))
       ·refine US_of 3 rfl rfl ?_
        refine AOps_q 50 _ rfl rfl rfl (QOp_load_eptr _ _ _ _ _ _ _ rfl Tryz.isAgg2 rfl rfl (intsD_get _ _ 0 (by omega))) ?_
        refine AOps_nil ?_
        exact AU_to (by kernel_rfl) hS3 (Weak_keep 0 hm [2, 3, 4, 5, 6, 47, 50, 53, 54, 55] [0, 1, 2, 3, 4] _ _ rfl rfl rfl)
       refine US_of 9 rfl rfl ?_
       refine AOps_q 56 _ rfl rfl rfl (QOp_load_ptr _ _ _ _ _ _ rfl Tryz.isAgg2 rfl rfl rfl) ?_
       refine AOps_nil ?_
       refine AU_all [3, 10] (by kernel_rfl) rfl (allc ?_ (allc ?_ (fun _ h => nomatch h)))
       ·refine US_of 3 rfl rfl ?_
        refine AOps_q 50 _ rfl rfl rfl (QOp_load_eptr _ _ _ _ _ _ _ rfl Tryz.isAgg2 rfl rfl (intsD_get _ _ 0 (by omega))) ?_
        refine AOps_nil ?_
        exact AU_to (by kernel_rfl) hS1 (Weak_keep 0 hm [2, 3, 4, 5, 6, 47, 50, 53, 54, 56] [0, 1, 2, 3, 4] _ _ rfl rfl rfl)
       refine US_of 10 rfl rfl ?_
       refine kC [2] 57 (iV r19.1) [.box (colD Col.zero), .box (colD Col.zero), .box (srcD r19.2), .box (colD r2.1), .box (colD r7), .vec 0 (intsD r16.1)] rfl Tryz.call46 rfl rfl (spec_l01Next_ac r16.2 r2.1.k _ hr19) rfl ?_
       refine AOps_nil ?_
       refine AU_one 3 (by kernel_rfl) rfl rfl ?_
       refine AOps_q 50 _ rfl rfl rfl (QOp_load_eptr _ _ _ _ _ _ _ rfl Tryz.isAgg2 rfl rfl (intsD_get _ _ 0 (by omega))) ?_
       refine AOps_nil ?_
       exact AU_to (by kernel_rfl) hS0 (Weak_keep 0 hm [2, 3, 4, 5, 6, 47, 50, 53, 57] [0, 1, 2, 3, 4] _ _ rfl rfl rfl)
      refine US_of 9 rfl rfl ?_
      refine AOps_q 56 _ rfl rfl rfl (QOp_load_ptr _ _ _ _ _ _ rfl Tryz.isAgg2 rfl rfl rfl) ?_
      refine AOps_nil ?_
      refine AU_all [3, 6, 10] (by kernel_rfl) rfl (allc ?_ (allc ?_ (allc ?_ (fun _ h => nomatch h))))
      ·refine US_of 3 rfl rfl ?_
       refine AOps_q 50 _ rfl rfl rfl (QOp_load_eptr _ _ _ _ _ _ _ rfl Tryz.isAgg2 rfl rfl (intsD_get _ _ 0 (by omega))) ?_
       refine AOps_nil ?_
       refine AU_all [6, 10] (by kernel_rfl) rfl (allc ?_ (allc ?_ (fun _ h => nomatch h)))
       ·refine US_of 6 rfl rfl ?_
        refine AOps_q 53 _ rfl rfl rfl (QOp_load_eptr _ _ _ _ _ _ _ rfl Tryz.isAgg2 rfl rfl (intsD_get _ _ 0 (by omega))) ?_
        refine AOps_nil ?_
        exact AU_to (by kernel_rfl) hS1 (Weak_keep 0 hm [2, 3, 4, 5, 6, 47, 50, 53, 54, 56] [0, 1, 2, 3, 4] _ _ rfl rfl rfl)
       refine US_of 10 rfl rfl ?_
       refine kC [2] 57 (iV r19.1) [.box (colD Col.zero), .box (colD Col.zero), .box (srcD r19.2), .box (colD r2.1), .box (colD r7), .vec 0 (intsD r16.1)] rfl Tryz.call46 rfl rfl (spec_l01Next_ac r16.2 r2.1.k _ hr19) rfl ?_
       refine AOps_nil ?_
       refine AU_one 6 (by kernel_rfl) rfl rfl ?_
       refine AOps_q 53 _ rfl rfl rfl (QOp_load_eptr _ _ _ _ _ _ _ rfl Tryz.isAgg2 rfl rfl (intsD_get _ _ 0 (by omega))) ?_
       refine AOps_nil ?_
       exact AU_to (by kernel_rfl) hS0 (Weak_keep 0 hm [2, 3, 4, 5, 6, 47, 50, 53, 57] [0, 1, 2, 3, 4] _ _ rfl rfl rfl)
      ·refine US_of 6 rfl rfl ?_
       refine AOps_q 53 _ rfl rfl rfl (QOp_load_eptr _ _ _ _ _ _ _ rfl Tryz.isAgg2 rfl rfl (intsD_get _ _ 0 (by omega))) ?_
       refine AOps_nil ?_
       refine AU_all [3, 10] (by kernel_rfl) rfl (allc ?_ (allc ?_ (fun _ h => nomatch h)))
       ·refine US_of 3 rfl rfl ?_
        refine AOps_q 50 _ rfl rfl rfl (QOp_load_eptr _ _ _ _ _ _ _ rfl Tryz.isAgg2 rfl rfl (intsD_get _ _ 0 (by omega))) ?_
        refine AOps_nil ?_
        exact AU_to (by kernel_rfl) hS1 (Weak_keep 0 hm [2, 3, 4, 5, 6, 47, 50, 53, 54, 56] [0, 1, 2, 3, 4] _ _ rfl rfl rfl)
       refine US_of 10 rfl rfl ?_
       refine kC [2] 57 (iV r19.1) [.box (colD Col.zero), .box (colD Col.zero), .box (srcD r19.2), .box (colD r2.1), .box (colD r7), .vec 0 (intsD r16.1)] rfl Tryz.call46 rfl rfl (spec_l01Next_ac r16.2 r2.1.k _ hr19) rfl ?_
       refine AOps_nil ?_
       refine AU_one 3 (by kernel_rfl) rfl rfl ?_
       refine AOps_q 50 _ rfl rfl rfl (QOp_load_eptr _ _ _ _ _ _ _ rfl Tryz.isAgg2 rfl rfl (intsD_get _ _ 0 (by omega))) ?_
       refine AOps_nil ?_
       exact AU_to (by kernel_rfl) hS0 (Weak_keep 0 hm [2, 3, 4, 5, 6, 47, 50, 53, 57] [0, 1, 2, 3, 4] _ _ rfl rfl rfl)
      refine US_of 10 rfl rfl ?_
      refine kC [2] 57 (iV r19.1) [.box (colD Col.zero), .box (colD Col.zero), .box (srcD r19.2), .box (colD r2.1), .box (colD r7), .vec 0 (intsD r16.1)] rfl Tryz.call46 rfl rfl (spec_l01Next_ac r16.2 r2.1.k _ hr19) rfl ?_
      refine AOps_nil ?_
      refine AU_all [3, 6] (by kernel_rfl) rfl (allc ?_ (allc ?_ (fun _ h => nomatch h)))
      ·refine US_of 3 rfl rfl ?_
       refine AOps_q 50 _ rfl rfl rfl (QOp_load_eptr _ _ _ _ _ _ _ rfl Tryz.isAgg2 rfl rfl (intsD_get _ _ 0 (by omega))) ?_
       refine AOps_nil ?_
       refine AU_one 6 (by kernel_rfl) rfl rfl ?_
       refine AOps_q 53 _ rfl rfl rfl (QOp_load_eptr _ _ _ _ _ _ _ rfl Tryz.isAgg2 rfl rfl (intsD_get _ _ 0 (by omega))) ?_
       refine AOps_nil ?_
       exact AU_to (by kernel_rfl) hS0 (Weak_keep 0 hm [2, 3, 4, 5, 6, 47, 50, 53, 57] [0, 1, 2, 3, 4] _ _ rfl rfl rfl)
      refine US_of 6 rfl rfl ?_
      refine AOps_q 53 _ rfl rfl rfl (QOp_load_eptr _ _ _ _ _ _ _ rfl Tryz.isAgg2 rfl rfl (intsD_get _ _ 0 (by omega))) ?_
      refine AOps_nil ?_
      refine AU_one 3 (by kernel_rfl) rfl rfl ?_
      refine AOps_q 50 _ rfl rfl rfl (QOp_load_eptr _ _ _ _ _ _ _ rfl Tryz.isAgg2 rfl rfl (intsD_get _ _ 0 (by omega))) ?_
      refine AOps_nil ?_
      exact AU_to (by kernel_rfl) hS0 (Weak_keep 0 hm [2, 3, 4, 5, 6, 47, 50, 53, 57] [0, 1, 2, 3, 4] _ _ rfl rfl rfl)
     ·refine US_of 3 rfl rfl ?_
      refine AOps_q 50 _ rfl rfl rfl (QOp_load_eptr _ _ _ _ _ _ _ rfl Tryz.isAgg2 rfl rfl (intsD_get _ _ 0 (by omega))) ?_
      refine AOps_nil ?_
      refine AU_all [0, 6, 9] (by kernel_rfl) rfl (allc ?_ (allc ?_ (allc ?_ (fun _ h => nomatch h))))
      ·refine US_of 0 rfl rfl ?_
       refine AOps_q 47 _ rfl rfl rfl (QOp_loadN_ptr _ _ _ _ _ _ _ rfl Tryz.isAgg26 Tryz.sizeOf26 rfl rfl (colD_all _) (colD_length _)) ?_
       refine AOps_nil ?_
       refine AU_all [6, 9] (by kernel_rfl) rfl (allc ?_ (allc ?_ (fun _ h => nomatch h)))
       ·refine US_of 6 rfl rfl ?_
        refine AOps_q 53 _ rfl rfl rfl (QOp_load_eptr _ _ _ _ _ _ _ rfl Tryz.isAgg2 rfl rfl (intsD_get _ _ 0 (by omega))) ?_
        refine AOps_nil ?_
        exact AU_to (by kernel_rfl) hS3 (Weak_keep 0 hm [2, 3, 4, 5, 6, 47, 50, 53, 54, 55] [0, 1, 2, 3, 4] _ _ rfl rfl rfl)
       refine US_of 9 rfl rfl ?_
       refine AOps_q 56 _ rfl rfl rfl (QOp_load_ptr _ _ _ _ _ _ rfl Tryz.isAgg2 rfl rfl rfl) ?_
       refine AOps_nil ?_
       refine AU_all [6, 10] (by kernel_rfl) rfl (allc ?_ (allc ?_ (fun _ h => nomatch h)))
       ·refine US_of 6 rfl rfl ?_
        refine AOps_q 53 _ rfl rfl rfl (QOp_load_eptr _ _ _ _ _ _ _ rfl Tryz.isAgg2 rfl rfl (intsD_get _ _ 0 (by omega))) ?_
        refine AOps_nil ?_
        exact AU_to (by kernel_rfl) hS1 (Weak_keep 0 hm [2, 3, 4, 5, 6, 47, 50, 53, 54, 56] [0, 1, 2, 3, 4] _ _ rfl rfl rfl)
       refine US_of 10 rfl rfl ?_
       refine kC [2] 57 (iV r19.1) [.box (colD Col.zero), .box (colD Col.zero), .box (srcD r19.2), .box (colD r2.1), .box (colD r7), .vec 0 (intsD r16.1)] rfl Tryz.call46 rfl rfl (spec_l01Next_ac r16.2 r2.1.k _ hr19) rfl ?_
       refine AOps_nil ?_
       refine AU_one 6 (by kernel_rfl) rfl rfl ?_
       refine AOps_q 53 _ rfl rfl rfl (QOp_load_eptr _ _ _ _ _ _ _ rfl Tryz.isAgg2 rfl rfl (intsD_get _ _ 0 (by omega))) ?_
       refine AOps_nil ?_
       exact AU_to (by kernel_rfl) hS0 (Weak_keep 0 hm [2, 3, 4, 5, 6, 47, 50, 53, 57] [0, 1, 2, 3, 4] _ _ rfl rfl rfl)
      ·refine US_of 6 rfl rfl ?_
       refine AOps_q 53 _ rfl rfl rfl (QOp_load_eptr _ _ _ _ _ _ _ rfl Tryz.isAgg2 rfl rfl (intsD_get _ _ 0 (by omega))) ?_
       refine AOps_nil ?_
       exact AU_to (by kernel_rfl) hS5 (Weak_keep 0 hm [2, 3, 4, 5, 6, 50, 53, 54, 55] [0, 1, 2, 3, 4] _ _ rfl rfl rfl)
      refine US_of 9 rfl rfl ?_
      refine AOps_q 56 _ rfl rfl rfl (QOp_load_ptr _ _ _ _ _ _ rfl Tryz.isAgg2 rfl rfl rfl) ?_
      refine AOps_nil ?_
      refine AU_all [0, 6, 10] (by kernel_rfl) rfl (allc ?_ (allc ?_ (allc ?_ (fun _ h => nomatch h))))
      ·refine US_of 0 rfl rfl ?_
       refine AOps_q 47 _ rfl rfl rfl (QOp_loadN_ptr _ _ _ _ _ _ _ rfl Tryz.isAgg26 Tryz.sizeOf26 rfl rfl (colD_all _) (colD_length _)) ?_
       refine AOps_nil ?_
       refine AU_all [6, 10] (by kernel_rfl) rfl (allc ?_ (allc ?_ (fun _ h => nomatch h)))
       ·refine US_of 6 rfl rfl ?_
        refine AOps_q 53 _ rfl rfl rfl (QOp_load_eptr _ _ _ _ _ _ _ rfl Tryz.isAgg2 rfl rfl (intsD_get _ _ 0 (by omega))) ?_
        refine AOps_nil ?_
        exact AU_to (by kernel_rfl) hS1 (Weak_keep 0 hm [2, 3, 4, 5, 6, 47, 50, 53, 54, 56] [0, 1, 2, 3, 4] _ _ rfl rfl rfl)
       refine US_of 10 rfl rfl ?_
       refine kC [2] 57 (iV r19.1) [.box (colD Col.zero), .box (colD Col.zero), .box (srcD r19.2), .box (colD r2.1), .box (colD r7), .vec 0 (intsD r16.1)] rfl Tryz.call46 rfl rfl (spec_l01Next_ac r16.2 r2.1.k _ hr19) rfl ?_
       refine AOps_nil ?_
       refine AU_one 6 (by kernel_rfl) rfl rfl ?_
       refine AOps_q 53 _ rfl rfl rfl (QOp_load_eptr _ _ _ _ _ _ _ rfl Tryz.isAgg2 rfl rfl (intsD_get _ _ 0 (by omega))) ?_
       refine AOps_nil ?_
       exact AU_to (by kernel_rfl) hS0 (Weak_keep 0 hm [2, 3, 4, 5, 6, 47, 50, 53, 57] [0, 1, 2, 3, 4] _ _ rfl rfl rfl)
      ·refine US_of 6 rfl rfl ?_
       refine AOps_q 53 _ rfl rfl rfl (QOp_load_eptr _ _ _ _ _ _ _ rfl Tryz.isAgg2 rfl rfl (intsD_get _ _ 0 (by omega))) ?_
       refine AOps_nil ?_
       exact AU_to (by kernel_rfl) hS4 (Weak_keep 0 hm [2, 3, 4, 5, 6, 50, 53, 54, 56] [0, 1, 2, 3, 4] _ _ rfl rfl rfl)
      refine US_of 10 rfl rfl ?_
      refine kC [2] 57 (iV r19.1) [.box (colD Col.zero), .box (colD Col.zero), .box (srcD r19.2), .box (colD r2.1), .box (colD r7), .vec 0 (intsD r16.1)] rfl Tryz.call46 rfl rfl (spec_l01Next_ac r16.2 r2.1.k _ hr19) rfl ?_
      refine AOps_nil ?_
      refine AU_all [0, 6] (by kernel_rfl) rfl (allc ?_ (allc ?_ (fun _ h => nomatch h)))
      ·refine US_of 0 rfl rfl ?_
       refine AOps_q 47 _ rfl rfl rfl (QOp_loadN_ptr _ _ _ _ _ _ _ rfl Tryz.isAgg26 Tryz.sizeOf26 rfl rfl (colD_all _) (colD_length _)) ?_
       refine AOps_nil ?_
       refine AU_one 6 (by kernel_rfl) rfl rfl ?_
       refine AOps_q 53 _ rfl rfl rfl (QOp_load_eptr _ _ _ _ _ _ _ rfl Tryz.isAgg2 rfl rfl (intsD_get _ _ 0 (by omega))) ?_
       refine AOps_nil ?_
       exact AU_to (by kernel_rfl) hS0 (Weak_keep 0 hm [2, 3, 4, 5, 6, 47, 50, 53, 57] [0, 1, 2, 3, 4] _ _ rfl rfl rfl)
      refine US_of 6 rfl rfl ?_
      refine AOps_q 53 _ rfl rfl rfl (QOp_load_eptr _ _ _ _ _ _ _ rfl Tryz.isAgg2 rfl rfl (intsD_get _ _ 0 (by omega))) ?_
      refine AOps_nil ?_
      exact AU_to (by kernel_rfl) hS2 (Weak_keep 0 hm [2, 3, 4, 5, 6, 50, 53, 57] [0, 1, 2, 3, 4] _ _ rfl rfl rfl)
     ·refine US_of 6 rfl rfl ?_
      refine AOps_q 53 _ rfl rfl rfl (QOp_load_eptr _ _ _ _ _ _ _ rfl Tryz.isAgg2 rfl rfl (intsD_get _ _ 0 (by omega))) ?_
      refine AOps_nil ?_
      refine AU_all [0, 3, 9] (by kernel_rfl) rfl (allc ?_ (allc ?_ (allc ?_ (fun _ h => nomatch h))))
      ·refine US_of 0 rfl rfl ?_
       refine AOps_q 47 _ rfl rfl rfl (QOp_loadN_ptr _ _ _ _ _ _ _ rfl Tryz.isAgg26 Tryz.sizeOf26 rfl rfl (colD_all _) (colD_length _)) ?_
       refine AOps_nil ?_
       refine AU_all [3, 9] (by kernel_rfl) rfl (allc ?_ (allc ?_ (fun _ h => nomatch h)))
       ·refine US_of 3 rfl rfl ?_
        refine AOps_q 50 _ rfl rfl rfl (QOp_load_eptr _ _ _ _ _ _ _ rfl Tryz.isAgg2 rfl rfl (intsD_get _ _ 0 (by omega))) ?_
        refine AOps_nil ?_
        exact AU_to (by kernel_rfl) hS3 (Weak_keep 0 hm [2, 3, 4, 5, 6, 47, 50, 53, 54, 55] [0, 1, 2, 3, 4] _ _ rfl rfl rfl)
       refine US_of 9 rfl rfl ?_
       refine AOps_q 56 _ rfl rfl rfl (QOp_load_ptr _ _ _ _ _ _ rfl Tryz.isAgg2 rfl rfl rfl) ?_
       refine AOps_nil ?_
       refine AU_all [3, 10] (by kernel_rfl) rfl (allc ?_ (allc ?_ (fun _ h => nomatch h)))
       ·refine US_of 3 rfl rfl ?_
        refine AOps_q 50 _ rfl rfl rfl (QOp_load_eptr _ _ _ _ _ _ _ rfl Tryz.isAgg2 rfl rfl (intsD_get _ _ 0 (by omega))) ?_
        refine AOps_nil ?_
        exact AU_to (by kernel_rfl) hS1 (Weak_keep 0 hm [2, 3, 4, 5, 6, 47, 50, 53, 54, 56] [0, 1, 2, 3, 4] _ _ rfl rfl rfl)
       refine US_of 10 rfl rfl ?_
       refine kC [2] 57 (iV r19.1) [.box (colD Col.zero), .box (colD Col.zero), .box (srcD r19.2), .box (colD r2.1), .box (colD r7), .vec 0 (intsD r16.1)] rfl Tryz.call46 rfl rfl (spec_l01Next_ac r16.2 r2.1.k _ hr19) rfl ?_
       refine AOps_nil ?_
       refine AU_one 3 (by kernel_rfl) rfl rfl ?_
       refine AOps_q 50 _ rfl rfl rfl (QOp_load_eptr _ _ _ _ _ _ _ rfl Tryz.isAgg2 rfl rfl (intsD_get _ _ 0 (by omega))) ?_
       refine AOps_nil ?_
       exact AU_to (by kernel_rfl) hS0 (Weak_keep 0 hm [2, 3, 4, 5, 6, 47, 50, 53, 57] [0, 1, 2, 3, 4] _ _ rfl rfl rfl)
      ·refine US_of 3 rfl rfl ?_
       refine AOps_q 50 _ rfl rfl rfl (QOp_load_eptr _ _ _ _ _ _ _ rfl Tryz.isAgg2 rfl rfl (intsD_get _ _ 0 (by omega))) ?_
       refine AOps_nil ?_
       exact AU_to (by kernel_rfl) hS5 (Weak_keep 0 hm [2, 3, 4, 5, 6, 50, 53, 54, 55] [0, 1, 2, 3, 4] _ _ rfl rfl rfl)
      refine US_of 9 rfl rfl ?_
      refine AOps_q 56 _ rfl rfl rfl (QOp_load_ptr _ _ _ _ _ _ rfl Tryz.isAgg2 rfl rfl rfl) ?_
      refine AOps_nil ?_
      refine AU_all [0, 3, 10] (by kernel_rfl) rfl (allc ?_ (allc ?_ (allc ?_ (fun _ h => nomatch h))))
      ·refine US_of 0 rfl rfl ?_
       refine AOps_q 47 _ rfl rfl rfl (QOp_loadN_ptr _ _ _ _ _ _ _ rfl Tryz.isAgg26 Tryz.sizeOf26 rfl rfl (colD_all _) (colD_length _)) ?_
       refine AOps_nil ?_
       refine AU_all [3, 10] (by kernel_rfl) rfl (allc ?_ (allc ?_ (fun _ h => nomatch h)))
       ·refine US_of 3 rfl rfl ?_
        refine AOps_q 50 _ rfl rfl rfl (QOp_load_eptr _ _ _ _ _ _ _ rfl Tryz.isAgg2 rfl rfl (intsD_get _ _ 0 (by omega))) ?_
        refine AOps_nil ?_
        exact AU_to (by kernel_rfl) hS1 (Weak_keep 0 hm [2, 3, 4, 5, 6, 47, 50, 53, 54, 56] [0, 1, 2, 3, 4] _ _ rfl rfl rfl)
       refine US_of 10 rfl rfl ?_
       refine kC [2] 57 (iV r19.1) [.box (colD Col.zero), .box (colD Col.zero), .box (srcD r19.2), .box (colD r2.1), .box (colD r7), .vec 0 (intsD r16.1)] rfl Tryz.call46 rfl rfl (spec_l01Next_ac r16.2 r2.1.k _ hr19) rfl ?_
       refine AOps_nil ?_
       refine AU_one 3 (by kernel_rfl) rfl rfl ?_
       refine AOps_q 50 _ rfl rfl rfl (QOp_load_eptr _ _ _ _ _ _ _ rfl Tryz.isAgg2 rfl rfl (intsD_get _ _ 0 (by omega))) ?_
       refine AOps_nil ?_
       exact AU_to (by kernel_rfl) hS0 (Weak_keep 0 hm [2, 3, 4, 5, 6, 47, 50, 53, 57] [0, 1, 2, 3, 4] _ _ rfl rfl rfl)
      ·refine US_of 3 rfl rfl ?_
       refine AOps_q 50 _ rfl rfl rfl (QOp_load_eptr _ _ _ _ _ _ _ rfl Tryz.isAgg2 rfl rfl (intsD_get _ _ 0 (by omega))) ?_
       refine AOps_nil ?_
       exact AU_to (by kernel_rfl) hS4 (Weak_keep 0 hm [2, 3, 4, 5, 6, 50, 53, 54, 56] [0, 1, 2, 3, 4] _ _ rfl rfl rfl)
      refine US_of 10 rfl rfl ?_
      refine kC [2] 57 (iV r19.1) [.box (colD Col.zero), .box (colD Col.zero), .box (srcD r19.2), .box (colD r2.1), .box (colD r7), .vec 0 (intsD r16.1)] rfl Tryz.call46 rfl rfl (spec_l01Next_ac r16.2 r2.1.k _ hr19) rfl ?_
      refine AOps_nil ?_
      refine AU_all [0, 3] (by kernel_rfl) rfl (allc ?_ (allc ?_ (fun _ h => nomatch h)))
      ·refine US_of 0 rfl rfl ?_
       refine AOps_q 47 _ rfl rfl rfl (QOp_loadN_ptr _ _ _ _ _ _ _ rfl Tryz.isAgg26 Tryz.sizeOf26 rfl rfl (colD_all _) (colD_length _)) ?_
       refine AOps_nil ?_
       refine AU_one 3 (by kernel_rfl) rfl rfl ?_
       refine AOps_q 50 _ rfl rfl rfl (QOp_load_eptr _ _ _ _ _ _ _ rfl Tryz.isAgg2 rfl rfl (intsD_get _ _ 0 (by omega))) ?_
       refine AOps_nil ?_
       exact AU_to (by kernel_rfl) hS0 (Weak_keep 0 hm [2, 3, 4, 5, 6, 47, 50, 53, 57] [0, 1, 2, 3, 4] _ _ rfl rfl rfl)
      refine US_of 3 rfl rfl ?_
      refine AOps_q 50 _ rfl rfl rfl (QOp_load_eptr _ _ _ _ _ _ _ rfl Tryz.isAgg2 rfl rfl (intsD_get _ _ 0 (by omega))) ?_
      refine AOps_nil ?_
      exact AU_to (by kernel_rfl) hS2 (Weak_keep 0 hm [2, 3, 4, 5, 6, 50, 53, 57] [0, 1, 2, 3, 4] _ _ rfl rfl rfl)
     refine US_of 9 rfl rfl ?_
     refine AOps_q 56 _ rfl rfl rfl (QOp_load_ptr _ _ _ _ _ _ rfl Tryz.isAgg2 rfl rfl rfl) ?_
     refine AOps_nil ?_
     refine AU_all [0, 3, 6, 10] (by kernel_rfl) rfl (allc ?_ (allc ?_ (allc ?_ (allc ?_ (fun _ h => nomatch h)))))
     ·refine US_of 0 rfl rfl ?_
      refine AOps_q 47 _ rfl rfl rfl (QOp_loadN_ptr _ _ _ _ _ _ _ rfl Tryz.isAgg26 Tryz.sizeOf26 rfl rfl (colD_all _) (colD_length _)) ?_
      refine AOps_nil ?_
      refine AU_all [3, 6, 10] (by kernel_rfl) rfl (allc ?_ (allc ?_ (allc ?_ (fun _ h => nomatch h))))
      ·refine US_of 3 rfl rfl ?_
       refine AOps_q 50 _ rfl rfl rfl (QOp_load_eptr _ _ _ _ _ _ _ rfl Tryz.isAgg2 rfl rfl (intsD_get _ _ 0 (by omega))) ?_
       refine AOps_nil ?_
       refine AU_all [6, 10] (by kernel_rfl) rfl (allc ?_ (allc ?_ (fun _ h => nomatch h)))
       ·refine US_of 6 rfl rfl ?_
        refine AOps_q 53 _ rfl rfl rfl (QOp_load_eptr _ _ _ _ _ _ _ rfl Tryz.isAgg2 rfl rfl (intsD_get _ _ 0 (by omega))) ?_
        refine AOps_nil ?_
        exact AU_to (by kernel_rfl) hS1 (Weak_keep 0 hm [2, 3, 4, 5, 6, 47, 50, 53, 54, 56] [0, 1, 2, 3, 4] _ _ rfl rfl rfl)
       refine US_of 10 rfl rfl ?_
       refine kC [2] 57 (iV r19.1) [.box (colD Col.zero), .box (colD Col.zero), .box (srcD r19.2), .box (colD r2.1), .box (colD r7), .vec 0 (intsD r16.1)] rfl Tryz.call46 rfl rfl (spec_l01Next_ac r16.2 r2.1.k _ hr19) rfl ?_
       refine AOps_nil ?_
       refine AU_one 6 (by kernel_rfl) rfl rfl ?_
       refine AOps_q 53 _ rfl rfl rfl (QOp_load_eptr _ _ _ _ _ _ _ rfl Tryz.isAgg2 rfl rfl (intsD_get _ _ 0 (by omega))) ?_
       refine AOps_nil ?_
       exact AU_to (by kernel_rfl) hS0 (Weak_keep 0 hm [2, 3, 4, 5, 6, 47, 50, 53, 57] [0, 1, 2, 3, 4] _ _ rfl rfl rfl)
      ·refine US_of 6 rfl rfl ?_
       refine AOps_q 53 _ rfl rfl rfl (QOp_load_eptr _ _ _ _ _ _ _ rfl Tryz.isAgg2 rfl rfl (intsD_get _ _ 0 (by omega))) ?_
       refine AOps_nil ?_
       refine AU_all [3, 10] (by kernel_rfl) rfl (allc ?_ (allc ?_ (fun _ h => nomatch h)))
       ·refine US_of 3 rfl rfl ?_
        refine AOps_q 50 _ rfl rfl rfl (QOp_load_eptr _ _ _ _ _ _ _ rfl Tryz.isAgg2 rfl rfl (intsD_get _ _ 0 (by omega))) ?_
        refine AOps_nil ?_
        exact AU_to (by kernel_rfl) hS1 (Weak_keep 0 hm [2, 3, 4, 5, 6, 47, 50, 53, 54, 56] [0, 1, 2, 3, 4] _ _ rfl rfl rfl)
       refine US_of 10 rfl rfl ?_
       refine kC [2] 57 (iV r19.1) [.box (colD Col.zero), .box (colD Col.zero), .box (srcD r19.2), .box (colD r2.1), .box (colD r7), .vec 0 (intsD r16.1)] rfl Tryz.call46 rfl rfl (spec_l01Next_ac r16.2 r2.1.k _ hr19) rfl ?_
       refine AOps_nil ?_
       refine AU_one 3 (by kernel_rfl) rfl rfl ?_
       refine AOps_q 50 _ rfl rfl rfl (QOp_load_eptr _ _ _ _ _ _ _ rfl Tryz.isAgg2 rfl rfl (intsD_get _ _ 0 (by omega))) ?_
       refine AOps_nil ?_
       exact AU_to (by kernel_rfl) hS0 (Weak_keep 0 hm [2, 3, 4, 5, 6, 47, 50, 53, 57] [0, 1, 2, 3, 4] _ _ rfl rfl rfl)
      refine US_of 10 rfl rfl ?_
      refine kC [2] 57 (iV r19.1) [.box (colD Col.zero), .box (colD Col.zero), .box (srcD r19.2), .box (colD r2.1), .box (colD r7), .vec 0 (intsD r16.1)] rfl Tryz.call46 rfl rfl (spec_l01Next_ac r16.2 r2.1.k _ hr19) rfl ?_
      refine AOps_nil ?_
      refine AU_all [3, 6] (by kernel_rfl) rfl (allc ?_ (allc ?_ (fun _ h => nomatch h)))
      ·refine US_of 3 rfl rfl ?_
       refine AOps_q 50 _ rfl rfl rfl (QOp_load_eptr _ _ _ _ _ _ _ rfl Tryz.isAgg2 rfl rfl (intsD_get _ _ 0 (by omega))) ?_
       refine AOps_nil ?_
       refine AU_one 6 (by kernel_rfl) rfl rfl ?_
       refine AOps_q 53 _ rfl rfl rfl (QOp_load_eptr _ _ _ _ _ _ _ rfl Tryz.isAgg2 rfl rfl (intsD_get _ _ 0 (by omega))) ?_
       refine AOps_nil ?_
       exact AU_to (by kernel_rfl) hS0 (Weak_keep 0 hm [2, 3, 4, 5, 6, 47, 50, 53, 57] [0, 1, 2, 3, 4] _ _ rfl rfl rfl)
      refine US_of 6 rfl rfl ?_
      refine AOps_q 53 _ rfl rfl rfl (QOp_load_eptr _ _ _ _ _ _ _ rfl Tryz.isAgg2 rfl rfl (intsD_get _ _ 0 (by omega))) ?_
      refine AOps_nil ?_
      refine AU_one 3 (by kernel_rfl) rfl rfl ?_
      refine AOps_q 50 _ rfl rfl rfl (QOp_load_eptr _ _ _ _ _ _ _ rfl Tryz.isAgg2 rfl rfl (intsD_get _ _ 0 (by omega))) ?_
      refine AOps_nil ?_
      exact AU_to (by kernel_rfl) hS0 (Weak_keep 0 hm [2, 3, 4, 5, 6, 47, 50, 53, 57] [0, 1, 2, 3, 4] _ _ rfl rfl rfl)
     ·refine US_of 3 rfl rfl ?_
      refine AOps_q 50 _ rfl rfl rfl (QOp_load_eptr _ _ _ _ _ _ _ rfl Tryz.isAgg2 rfl rfl (intsD_get _ _ 0 (by omega))) ?_
      refine AOps_nil ?_
      refine AU_all [0, 6, 10] (by kernel_rfl) rfl (allc ?_ (allc ?_ (allc ?_ (fun _ h => nomatch h))))
      ·refine US_of 0 rfl rfl ?_
       refine AOps_q 47 _ rfl rfl rfl (QOp_loadN_ptr _ _ _ _ _ _ _ rfl Tryz.isAgg26 Tryz.sizeOf26 rfl rfl (colD_all _) (colD_length _)) ?_
       refine AOps_nil ?_
       refine AU_all [6, 10] (by kernel_rfl) rfl (allc ?_ (allc ?_ (fun _ h => nomatch h)))
       ·refine US_of 6 rfl rfl ?_
        refine AOps_q 53 _ rfl rfl rfl (QOp_load_eptr _ _ _ _ _ _ _ rfl Tryz.isAgg2 rfl rfl (intsD_get _ _ 0 (by omega))) ?_
        refine AOps_nil ?_
        exact AU_to (by kernel_rfl) hS1 (Weak_keep 0 hm [2, 3, 4, 5, 6, 47, 50, 53, 54, 56] [0, 1, 2, 3, 4] _ _ rfl rfl rfl)
       refine US_of 10 rfl rfl ?_
       refine kC [2] 57 (iV r19.1) [.box (colD Col.zero), .box (colD Col.zero), .box (srcD r19.2), .box (colD r2.1), .box (colD r7), .vec 0 (intsD r16.1)] rfl Tryz.call46 rfl rfl (spec_l01Next_ac r16.2 r2.1.k _ hr19) rfl ?_
       refine AOps_nil ?_
       refine AU_one 6 (by kernel_rfl) rfl rfl ?_
       refine AOps_q 53 _ rfl rfl rfl (QOp_load_eptr _ _ _ _ _ _ _ rfl Tryz.isAgg2 rfl rfl (intsD_get _ _ 0 (by omega))) ?_
       refine AOps_nil ?_
       exact AU_to (by kernel_rfl) hS0 (Weak_keep 0 hm [2, 3, 4, 5, 6, 47, 50, 53, 57] [0, 1, 2, 3, 4] _ _ rfl rfl rfl)
      ·refine US_of 6 rfl rfl ?_
       refine AOps_q 53 _ rfl rfl rfl (QOp_load_eptr _ _ _ _ _ _ _ rfl Tryz.isAgg2 rfl rfl (intsD_get _ _ 0 (by omega))) ?_
       refine AOps_nil ?_
       exact AU_to (by kernel_rfl) hS4 (Weak_keep 0 hm [2, 3, 4, 5, 6, 50, 53, 54, 56] [0, 1, 2, 3, 4] _ _ rfl rfl rfl)
      refine US_of 10 rfl rfl ?_
      refine kC [2] 57 (iV r19.1) [.box (colD Col.zero), .box (colD Col.zero), .box (srcD r19.2), .box (colD r2.1), .box (colD r7), .vec 0 (intsD r16.1)] rfl Tryz.call46 rfl rfl (spec_l01Next_ac r16.2 r2.1.k _ hr19) rfl ?_
      refine AOps_nil ?_
      refine AU_all [0, 6] (by kernel_rfl) rfl (allc ?_ (allc ?_ (fun _ h => nomatch h)))
      ·refine US_of 0 rfl rfl ?_
       refine AOps_q 47 _ rfl rfl rfl (QOp_loadN_ptr _ _ _ _ _ _ _ rfl Tryz.isAgg26 Tryz.sizeOf26 rfl rfl (colD_all _) (colD_length _)) ?_
       refine AOps_nil ?_
       refine AU_one 6 (by kernel_rfl) rfl rfl ?_
       refine AOps_q 53 _ rfl rfl rfl (QOp_load_eptr _ _ _ _ _ _ _ rfl Tryz.isAgg2 rfl rfl (intsD_get _ _ 0 (by omega))) ?_
       refine AOps_nil ?_
       exact AU_to (by kernel_rfl) hS0 (Weak_keep 0 hm [2, 3, 4, 5, 6, 47, 50, 53, 57] [0, 1, 2, 3, 4] _ _ rfl rfl rfl)
      refine US_of 6 rfl rfl ?_
      refine AOps_q 53 _ rfl rfl rfl (QOp_load_eptr _ _ _ _ _ _ _ rfl Tryz.isAgg2 rfl rfl (intsD_get _ _ 0 (by omega))) ?_
      refine AOps_nil ?_
      exact AU_to (by kernel_rfl) hS2 (Weak_keep 0 hm [2, 3, 4, 5, 6, 50, 53, 57] [0, 1, 2, 3, 4] _ _ rfl rfl rfl)
     ·refine US_of 6 rfl rfl ?_
      refine AOps_q 53 _ rfl rfl rfl (QOp_load_eptr _ _ _ _ _ _ _ rfl Tryz.isAgg2 rfl rfl (intsD_get _ _ 0 (by omega))) ?_
      refine AOps_nil ?_
      refine AU_all [0, 3, 10] (by kernel_rfl) rfl (allc ?_ (allc ?_ (allc ?_ (fun _ h => nomatch h))))
      ·refine US_of 0 rfl rfl ?_
       refine AOps_q 47 _ rfl rfl rfl (QOp_loadN_ptr _ _ _ _ _ _ _ rfl Tryz.isAgg26 Tryz.sizeOf26 rfl rfl (colD_all _) (colD_length _)) ?_
       refine AOps_nil ?_
       refine AU_all [3, 10] (by kernel_rfl) rfl (allc ?_ (allc ?_ (fun _ h => nomatch h)))
       ·refine US_of 3 rfl rfl ?_
        refine AOps_q 50 _ rfl rfl rfl (QOp_load_eptr _ _ _ _ _ _ _ rfl Tryz.isAgg2 rfl rfl (intsD_get _ _ 0 (by omega))) ?_
        refine AOps_nil ?_
        exact AU_to (by kernel_rfl) hS1 (Weak_keep 0 hm [2, 3, 4, 5, 6, 47, 50, 53, 54, 56] [0, 1, 2, 3, 4] _ _ rfl rfl rfl)
       refine US_of 10 rfl rfl ?_
       refine kC [2] 57 (iV r19.1) [.box (colD Col.zero), .box (colD Col.zero), .box (srcD r19.2), .box (colD r2.1), .box (colD r7), .vec 0 (intsD r16.1)] rfl Tryz.call46 rfl rfl (spec_l01Next_ac r16.2 r2.1.k _ hr19) rfl ?_
       refine AOps_nil ?_
       refine AU_one 3 (by kernel_rfl) rfl rfl ?_
       refine AOps_q 50 _ rfl rfl rfl (QOp_load_eptr _ _ _ _ _ _ _ rfl Tryz.isAgg2 rfl rfl (intsD_get _ _ 0 (by omega))) ?_
       refine AOps_nil ?_
       exact AU_to (by kernel_rfl) hS0 (Weak_keep 0 hm [2, 3, 4, 5, 6, 47, 50, 53, 57] [0, 1, 2, 3, 4] _ _ rfl rfl rfl)
      ·refine US_of 3 rfl rfl ?_
       refine AOps_q 50 _ rfl rfl rfl (QOp_load_eptr _ _ _ _ _ _ _ rfl Tryz.isAgg2 rfl rfl (intsD_get _ _ 0 (by omega))) ?_
       refine AOps_nil ?_
       exact AU_to (by kernel_rfl) hS4 (Weak_keep 0 hm [2, 3, 4, 5, 6, 50, 53, 54, 56] [0, 1, 2, 3, 4] _ _ rfl rfl rfl)
      refine US_of 10 rfl rfl ?_
      refine kC [2] 57 (iV r19.1) [.box (colD Col.zero), .box (colD Col.zero), .box (srcD r19.2), .box (colD r2.1), .box (colD r7), .vec 0 (intsD r16.1)] rfl Tryz.call46 rfl rfl (spec_l01Next_ac r16.2 r2.1.k _ hr19) rfl ?_
      refine AOps_nil ?_
      refine AU_all [0, 3] (by kernel_rfl) rfl (allc ?_ (allc ?_ (fun _ h => nomatch h)))
      ·refine US_of 0 rfl rfl ?_
       refine AOps_q 47 _ rfl rfl rfl (QOp_loadN_ptr _ _ _ _ _ _ _ rfl Tryz.isAgg26 Tryz.sizeOf26 rfl rfl (colD_all _) (colD_length _)) ?_
       refine AOps_nil ?_
       refine AU_one 3 (by kernel_rfl) rfl rfl ?_
       refine AOps_q 50 _ rfl rfl rfl (QOp_load_eptr _ _ _ _ _ _ _ rfl Tryz.isAgg2 rfl rfl (intsD_get _ _ 0 (by omega))) ?_
       refine AOps_nil ?_
       exact AU_to (by kernel_rfl) hS0 (Weak_keep 0 hm [2, 3, 4, 5, 6, 47, 50, 53, 57] [0, 1, 2, 3, 4] _ _ rfl rfl rfl)
      refine US_of 3 rfl rfl ?_
      refine AOps_q 50 _ rfl rfl rfl (QOp_load_eptr _ _ _ _ _ _ _ rfl Tryz.isAgg2 rfl rfl (intsD_get _ _ 0 (by omega))) ?_
      refine AOps_nil ?_
      exact AU_to (by kernel_rfl) hS2 (Weak_keep 0 hm [2, 3, 4, 5, 6, 50, 53, 57] [0, 1, 2, 3, 4] _ _ rfl rfl rfl)
     refine US_of 10 rfl rfl ?_
     refine kC [2] 57 (iV r19.1) [.box (colD Col.zero), .box (colD Col.zero), .box (srcD r19.2), .box (colD r2.1), .box (colD r7), .vec 0 (intsD r16.1)] rfl Tryz.call46 rfl rfl (spec_l01Next_ac r16.2 r2.1.k _ hr19) rfl ?_
     refine AOps_nil ?_
     refine AU_all [0, 3, 6] (by kernel_rfl) rfl (allc ?_ (allc ?_ (allc ?_ (fun _ h => nomatch h))))
     ·refine US_of 0 rfl rfl ?_
      refine AOps_q 47 _ rfl rfl rfl (QOp_loadN_ptr _ _ _ _ _ _ _ rfl Tryz.isAgg26 Tryz.sizeOf26 rfl rfl (colD_all _) (colD_length _)) ?_
      refine AOps_nil ?_
      refine AU_all [3, 6] (by kernel_rfl) rfl (allc ?_ (allc ?_ (fun _ h => nomatch h)))
      ·refine US_of 3 rfl rfl ?_
       refine AOps_q 50 _ rfl rfl rfl (QOp_load_eptr _ _ _ _ _ _ _ rfl Tryz.isAgg2 rfl rfl (intsD_get _ _ 0 (by omega))) ?_
       refine AOps_nil ?_
       refine AU_one 6 (by kernel_rfl) rfl rfl ?_
       refine AOps_q 53 _ rfl rfl rfl (QOp_load_eptr _ _ _ _ _ _ _ rfl Tryz.isAgg2 rfl rfl (intsD_get _ _ 0 (by omega))) ?_
       refine AOps_nil ?_
       exact AU_to (by kernel_rfl) hS0 (Weak_keep 0 hm [2, 3, 4, 5, 6, 47, 50, 53, 57] [0, 1, 2, 3, 4] _ _ rfl rfl rfl)
      refine US_of 6 rfl rfl ?_
      refine AOps_q 53 _ rfl rfl rfl (QOp_load_eptr _ _ _ _ _ _ _ rfl Tryz.isAgg2 rfl rfl (intsD_get _ _ 0 (by omega))) ?_
      refine AOps_nil ?_
      refine AU_one 3 (by kernel_rfl) rfl rfl ?_
      refine AOps_q 50 _ rfl rfl rfl (QOp_load_eptr _ _ _ _ _ _ _ rfl Tryz.isAgg2 rfl rfl (intsD_get _ _ 0 (by omega))) ?_
      refine AOps_nil ?_
      exact AU_to (by kernel_rfl) hS0 (Weak_keep 0 hm [2, 3, 4, 5, 6, 47, 50, 53, 57] [0, 1, 2, 3, 4] _ _ rfl rfl rfl)
     ·refine US_of 3 rfl rfl ?_
      refine AOps_q 50 _ rfl rfl rfl (QOp_load_eptr _ _ _ _ _ _ _ rfl Tryz.isAgg2 rfl rfl (intsD_get _ _ 0 (by omega))) ?_
      refine AOps_nil ?_
      refine AU_all [0, 6] (by kernel_rfl) rfl (allc ?_ (allc ?_ (fun _ h => nomatch h)))
      ·refine US_of 0 rfl rfl ?_
       refine AOps_q 47 _ rfl rfl rfl (QOp_loadN_ptr _ _ _ _ _ _ _ rfl Tryz.isAgg26 Tryz.sizeOf26 rfl rfl (colD_all _) (colD_length _)) ?_
       refine AOps_nil ?_
       refine AU_one 6 (by kernel_rfl) rfl rfl ?_
       refine AOps_q 53 _ rfl rfl rfl (QOp_load_eptr _ _ _ _ _ _ _ rfl Tryz.isAgg2 rfl rfl (intsD_get _ _ 0 (by omega))) ?_
       refine AOps_nil ?_
       exact AU_to (by kernel_rfl) hS0 (Weak_keep 0 hm [2, 3, 4, 5, 6, 47, 50, 53, 57] [0, 1, 2, 3, 4] _ _ rfl rfl rfl)
      refine US_of 6 rfl rfl ?_
      refine AOps_q 53 _ rfl rfl rfl (QOp_load_eptr _ _ _ _ _ _ _ rfl Tryz.isAgg2 rfl rfl (intsD_get _ _ 0 (by omega))) ?_
      refine AOps_nil ?_
      exact AU_to (by kernel_rfl) hS2 (Weak_keep 0 hm [2, 3, 4, 5, 6, 50, 53, 57] [0, 1, 2, 3, 4] _ _ rfl rfl rfl)
     refine US_of 6 rfl rfl ?_
     refine AOps_q 53 _ rfl rfl rfl (QOp_load_eptr _ _ _ _ _ _ _ rfl Tryz.isAgg2 rfl rfl (intsD_get _ _ 0 (by omega))) ?_
     refine AOps_nil ?_
     refine AU_all [0, 3] (by kernel_rfl) rfl (allc ?_ (allc ?_ (fun _ h => nomatch h)))
     ·refine US_of 0 rfl rfl ?_
      refine AOps_q 47 _ rfl rfl rfl (QOp_loadN_ptr _ _ _ _ _ _ _ rfl Tryz.isAgg26 Tryz.sizeOf26 rfl rfl (colD_all _) (colD_length _)) ?_
      refine AOps_nil ?_
      refine AU_one 3 (by kernel_rfl) rfl rfl ?_
      refine AOps_q 50 _ rfl rfl rfl (QOp_load_eptr _ _ _ _ _ _ _ rfl Tryz.isAgg2 rfl rfl (intsD_get _ _ 0 (by omega))) ?_
      refine AOps_nil ?_
      exact AU_to (by kernel_rfl) hS0 (Weak_keep 0 hm [2, 3, 4, 5, 6, 47, 50, 53, 57] [0, 1, 2, 3, 4] _ _ rfl rfl rfl)
     refine US_of 3 rfl rfl ?_
     refine AOps_q 50 _ rfl rfl rfl (QOp_load_eptr _ _ _ _ _ _ _ rfl Tryz.isAgg2 rfl rfl (intsD_get _ _ 0 (by omega))) ?_
     refine AOps_nil ?_
     exact AU_to (by kernel_rfl) hS2 (Weak_keep 0 hm [2, 3, 4, 5, 6, 50, 53, 57] [0, 1, 2, 3, 4] _ _ rfl rfl rfl)
    cases h
    exact Weak_keep 0 hm [2, 3, 4, 5, 6] [0, 1, 2, 3, 4] _ _ rfl rfl rfl
   refine ACode_skip ?_
   cases h
   exact Weak_keep 0 hm [2, 3, 4, 5, 6] [0, 1, 2, 3, 4] _ _ rfl rfl rfl
  refine ACode_skip ?_
  cases h
  exact Weak_keep 0 hm [2, 3, 4, 5, 6] [0, 1, 2, 3, 4] _ _ rfl rfl rfl
 obtain ⟨r22, hr22, h⟩ := bindO h
 refine ACode_seq (ACode_reg [(2, .ptr 0 0), (3, .ptr 1 0)] [.box (colD r2.1), .box (colD r22.1)] ?_ ?_)
 ·refine ACode_anyU mixed ?_
  refine AU_cut 2 #[true, true, true, true, false, false] [(2, .ptr 0 0), (3, .ptr 1 0), (59, .d (.agg (colD r2.1))), (62, .d (.agg (colD r22.1)))] [.box (colD Col.zero), .box (colD Col.zero)] ?_ (fun hS0 => ?_)
  ·refine AU_one 4 (by kernel_rfl) rfl rfl ?_
   refine AOps_store _ _ _ _ _ _ (colD _) _ _ rfl rfl rfl rfl rfl rfl rfl (colD_one _) (by rw [colD_length]; exact Tryz.sizeOf26) (by rw [colD_length, colD_length]; decide) (colD_whole _ _) ?_
   refine AOps_nil ?_
   refine AU_one 5 (by kernel_rfl) rfl rfl ?_
   refine AOps_store _ _ _ _ _ _ (colD _) _ _ rfl rfl rfl rfl rfl rfl rfl (colD_one _) (by rw [colD_length]; exact Tryz.sizeOf26) (by rw [colD_length, colD_length]; decide) (colD_whole _ _) ?_
   refine AOps_nil ?_
   refine AU_done (by kernel_rfl) ?_
   exact ⟨rfl, Weak_keep 0 hm [2, 3] [0, 1] _ _ rfl rfl rfl⟩
  refine AU_cut 3 #[true, true, true, false, false, false] [(2, .ptr 0 0), (3, .ptr 1 0), (59, .d (.agg (colD r2.1))), (60, .ptr 2 0), (61, .d (.agg (colD s21.2)))] [.box (colD Col.zero), .box (colD Col.zero), .box (srcD s21.1)] ?_ (fun hS1 => ?_)
  ·refine AU_one 3 (by kernel_rfl) rfl rfl ?_
   refine kC [2] 62 (.d (.agg (colD r22.1))) [.box (colD Col.zero), .box (colD Col.zero), .box (srcD r22.2)] rfl Tryz.call60 rfl rfl (spec_l01Bad_ac s21.1 s21.2 _ hr22) rfl ?_
   refine AOps_nil ?_
   exact AU_to (by kernel_rfl) hS0 (Weak_keep 0 hm [2, 3, 59, 62] [0, 1] _ _ rfl rfl rfl)
  refine AU_u 1 60 _ rfl (by kernel_rfl) rfl rfl rfl (UOp_move _ _ rfl rfl) ?_
  refine AU_all [0, 2] (by kernel_rfl) rfl (allc ?_ (allc ?_ (fun _ h => nomatch h)))
  ·refine US_of 0 rfl rfl ?_
   refine AOps_q 59 _ rfl rfl rfl (QOp_loadN_ptr _ _ _ _ _ _ _ rfl Tryz.isAgg26 Tryz.sizeOf26 rfl rfl (colD_all _) (colD_length _)) ?_
   refine AOps_nil ?_
   refine AU_one 2 (by kernel_rfl) rfl rfl ?_
   refine AOps_q 61 _ rfl rfl rfl (QOp_loadN_ptr _ _ _ _ _ _ _ rfl Tryz.isAgg26 Tryz.sizeOf26 rfl rfl (colD_all _) (colD_length _)) ?_
   refine AOps_nil ?_
   exact AU_to (by kernel_rfl) hS1 (Weak_keep 0 hm [2, 3, 59, 60, 61] [0, 1, 2] _ _ rfl rfl rfl)
  refine US_of 2 rfl rfl ?_
  refine AOps_q 61 _ rfl rfl rfl (QOp_loadN_ptr _ _ _ _ _ _ _ rfl Tryz.isAgg26 Tryz.sizeOf26 rfl rfl (colD_all _) (colD_length _)) ?_
  refine AOps_nil ?_
  refine AU_all [0, 3] (by kernel_rfl) rfl (allc ?_ (allc ?_ (fun _ h => nomatch h)))
  ·refine US_of 0 rfl rfl ?_
   refine AOps_q 59 _ rfl rfl rfl (QOp_loadN_ptr _ _ _ _ _ _ _ rfl Tryz.isAgg26 Tryz.sizeOf26 rfl rfl (colD_all _) (colD_length _)) ?_
   refine AOps_nil ?_
   exact AU_to (by kernel_rfl) hS1 (Weak_keep 0 hm [2, 3, 59, 60, 61] [0, 1, 2] _ _ rfl rfl rfl)
  refine US_of 3 rfl rfl ?_
  refine kC [2] 62 (.d (.agg (colD r22.1))) [.box (colD Col.zero), .box (colD Col.zero), .box (srcD r22.2), .box (colD r2.1), .box (colD s21.2)] rfl Tryz.call60 rfl rfl (spec_l01Bad_ac s21.1 s21.2 _ hr22) rfl ?_
  refine AOps_nil ?_
  refine AU_one 0 (by kernel_rfl) rfl rfl ?_
  refine AOps_q 59 _ rfl rfl rfl (QOp_loadN_ptr _ _ _ _ _ _ _ rfl Tryz.isAgg26 Tryz.sizeOf26 rfl rfl (colD_all _) (colD_length _)) ?_
  refine AOps_nil ?_
  exact AU_to (by kernel_rfl) hS0 (Weak_keep 0 hm [2, 3, 59, 62] [0, 1] _ _ rfl rfl rfl)
 refine ACode_ret ?_
 cases h
 exact ⟨_, _, fun r a w h => ⟨r, h⟩, _, _, [], _, (.cons (ResV_agg _ _ _ _ _ _ Tryz.isAgg26 Tryz.sizeOf26 rfl rfl (colD_take _) (colD_length _)) (.cons (ResV_agg _ _ _ _ _ _ Tryz.isAgg26 Tryz.sizeOf26 rfl rfl (colD_take _) (colD_length _)) .nil)), rfl, rfl, rfl, rfl, rfl⟩

-- loop.example/g01362/spec.DrawFindRenumbering
def spec_DrawFindRenumbering (k : Nat) (p0 : List UInt8) : Option (Col × Col) :=
 (spec_l06Two k p0).bind fun r1 => some (r1.1, r1.2)
set_option maxRecDepth 100000 in
theorem spec_DrawFindRenumbering_ac (k : Nat) (p0 : List UInt8) (r : Col × Col) (h : spec_DrawFindRenumbering k p0 = some r) : AC Tryz.prog 6 [.d (.sl none (bysD p0))] [] (fun res H' => res = [.d (.agg (colD r.1)), .d (.agg (colD r.2))] ∧ H' = []) := by
 refine AC_of_body true Tryz.func6 rfl Tryz.ntmps6 (rvs := [.cell 2 26, .cell 3 26]) rfl rfl (fun G hG => ?_)
 have hm : G.H.length = 0 := by rw [hG]; rfl
 have hz : zeroG G.H = true := by rw [hG]; rfl
 unfold spec_DrawFindRenumbering at h
 refine kR ?_
 refine AOps_alloc 2 _ _ (colD Col.zero) (zero_of Tryz.typeInfo26 rfl) (by rfl) rfl rfl rfl rfl ?_
 refine AOps_alloc 3 _ _ (colD Col.zero) (zero_of Tryz.typeInfo26 rfl) (by rfl) rfl rfl rfl rfl ?_
 refine AOps_nil ?_
 refine kR ?_
 refine kM 1 rfl ?_
 obtain ⟨r1, hr1, h⟩ := bindO h
 refine kC [] 5 (.tup [.d (.agg (colD r1.1)), .d (.agg (colD r1.2))]) [.box (colD Col.zero), .box (colD Col.zero)] rfl Tryz.call35 rfl rfl (spec_l06Two_ac k p0 _ hr1) rfl ?_
 refine kM 2 rfl ?_
 refine AOps_store _ _ _ _ _ _ (colD _) _ _ rfl rfl rfl rfl rfl rfl rfl (colD_one _) (by rw [colD_length]; exact Tryz.sizeOf26) (by rw [colD_length, colD_length]; decide) (colD_whole _ _) ?_
 refine AOps_store _ _ _ _ _ _ (colD _) _ _ rfl rfl rfl rfl rfl rfl rfl (colD_one _) (by rw [colD_length]; exact Tryz.sizeOf26) (by rw [colD_length, colD_length]; decide) (colD_whole _ _) ?_
 refine AOps_nil ?_
 refine ACode_ret ?_
 cases h
 exact ⟨_, _, fun r a w h => ⟨r, h⟩, _, _, [], _, (.cons (ResV_agg _ _ _ _ _ _ Tryz.isAgg26 Tryz.sizeOf26 rfl rfl (colD_take _) (colD_length _)) (.cons (ResV_agg _ _ _ _ _ _ Tryz.isAgg26 Tryz.sizeOf26 rfl rfl (colD_take _) (colD_length _)) .nil)), rfl, rfl, rfl, rfl, rfl⟩

-- loop.example/g01362/impl.in
def impl_in (p0 : Int) (p1 : Int) (p2 : Int) : Bool :=
 letO (if decide (p1 ≤ p0) then decide (p0 ≤ p2) else false) fun (s2 : Bool) => s2
set_option maxRecDepth 100000 in
theorem impl_in_ac (p0 : Int) (p1 : Int) (p2 : Int) : AC Tryz.prog 73 [iV p0, iV p1, iV p2] [] (fun res H' => res = [bV (impl_in p0 p1 p2)] ∧ H' = []) := by
 refine AC_of_body true Tryz.func73 rfl Tryz.ntmps73 (rvs := [.tmp 6]) rfl rfl (fun G hG => ?_)
 have hm : G.H.length = 0 := by rw [hG]; rfl
 have hz : zeroG G.H = true := by rw [hG]; rfl
 obtain ⟨r, h⟩ : ∃ r, impl_in p0 p1 p2 = r := ⟨_, rfl⟩
 rw [h]
 unfold impl_in at h
 refine kR ?_
 refine kN 1 rfl ?_
 refine kL (fun s2 => [(6, bV s2)]) (fun s2 => []) h (fun s2 h => ?_) (fun s2 h => ?_)
 ·refine (ACode_region ?_)
  refine kM 2 rfl ?_
  refine AOps_q 9 _ rfl rfl rfl (QOp_geq _ _ _ _ _ _ _ rfl rfl rfl) ?_
  refine kM 1 rfl ?_
  refine AOps_case 10 _ rfl (fun hb1 => ?_) (fun hb1 => ?_)
  ·have h := iteT hb1 h
   refine kM 2 rfl ?_
   refine AOps_q 13 _ rfl rfl rfl (QOp_leq _ _ _ _ _ _ _ rfl rfl rfl) ?_
   refine kN 2 rfl ?_
   cases h
   exact Weak_keep 0 hm [6] [] _ _ rfl rfl rfl
  have h := iteF hb1 h
  refine AOps_skip 11 rfl rfl rfl ?_
  refine AOps_skip 12 rfl rfl rfl ?_
  refine AOps_skip 13 rfl rfl rfl ?_
  refine kN 2 rfl ?_
  cases h
  exact Weak_keep 0 hm [6] [] _ _ rfl rfl rfl
 refine ACode_ret ?_
 cases h
 exact ⟨_, _, fun r a w h => ⟨r, h⟩, _, _, [], _, (.cons (ResV_tmp _ _ rfl) .nil), rfl, rfl, rfl, rfl, rfl⟩

-- (*loop.example/g01362/impl.Colouring).edges
def impl_Colouring_edges (p0 : Col) : Int :=
 w64 ((w64 (p0.p * (w64 (p0.p - 1)))).tdiv 2)
set_option maxRecDepth 100000 in
theorem impl_Colouring_edges_ac (p0 : Col) : AC Tryz.prog 80 [.d (.pv (colD p0) 0)] [] (fun res H' => res = [iV (impl_Colouring_edges p0)] ∧ H' = []) := by
 refine AC_of_body true Tryz.func80 rfl Tryz.ntmps80 (rvs := [.tmp 2]) rfl rfl (fun G hG => ?_)
 have hm : G.H.length = 0 := by rw [hG]; rfl
 have hz : zeroG G.H = true := by rw [hG]; rfl
 obtain ⟨r, h⟩ : ∃ r, impl_Colouring_edges p0 = r := ⟨_, rfl⟩
 rw [h]
 unfold impl_Colouring_edges at h
 refine kR ?_
 refine kN 1 rfl ?_
 refine ACode_seq (ACode_quiet mixed (by kernel_rfl) ?_)
 refine kQ 1 rfl ?_
 refine AQ_q 4 _ rfl rfl rfl (QOp_nilCheck_pv _ _ _ rfl rfl) ?_
 refine AQ_q 5 _ rfl rfl rfl (QOp_fieldAddr_pv _ _ _ _ _ 0 _ _ rfl Tryz.underlying26 rfl _ Tryz.sizeOf2 rfl rfl) ?_
 refine AQ_q 6 _ rfl rfl rfl (QOp_load_pv _ _ _ _ _ rfl Tryz.isAgg2 rfl rfl) ?_
 refine kQ 1 rfl ?_
 refine AQ_q 8 _ rfl rfl rfl (QOp_nilCheck_pv _ _ _ rfl rfl) ?_
 refine AQ_q 9 _ rfl rfl rfl (QOp_fieldAddr_pv _ _ _ _ _ 0 _ _ rfl Tryz.underlying26 rfl _ Tryz.sizeOf2 rfl rfl) ?_
 refine AQ_q 10 _ rfl rfl rfl (QOp_load_pv _ _ _ _ _ rfl Tryz.isAgg2 rfl rfl) ?_
 refine AQ_q 11 _ rfl rfl rfl (QOp_sub _ _ _ _ _ _ _ rfl rfl rfl) ?_
 refine AQ_q 12 _ rfl rfl rfl (QOp_mul _ _ _ _ _ _ _ rfl rfl rfl) ?_
 refine AQ_q 13 _ rfl rfl rfl (QOp_quo _ _ _ _ _ _ _ (by decide) rfl rfl rfl) ?_
 refine kQ 1 rfl ?_
 refine AQ_nil ?_
 refine ACode_ret ?_
 cases h
 exact ⟨_, _, fun r a w h => ⟨r, h⟩, _, _, [], _, (.cons (ResV_tmp _ _ rfl) .nil), rfl, rfl, rfl, rfl, rfl⟩

-- (*loop.example/g01362/impl.Colouring).isColouring
def impl_Colouring_isColouring_l0 (k : Nat) (p0 : Col) : Nat → Int → Option (Sum (Unit) (Bool))
 | 0, _ => none
 | k0 + 1, x7 => (if decide (x7 < 136) then ((if 0 ≤ x7 ∧ x7 < 136 then letO (if decide (p0.k ≤ ((p0.e.get x7.toNat).toNat : Int)) then true else (if decide ((impl_Colouring_edges p0) ≤ x7) then !decide (((p0.e.get x7.toNat).toNat : Int) = 0) else false)) fun (s13 : Bool) => (if s13 then (some (.inr false)).bind fun rr => some (.inr rr) else some (.inl ())) else none) : Option (Sum (Unit) (Sum (Unit) (Bool)))).bind fun os15 => (match os15 with | .inl s15 => impl_Colouring_isColouring_l0 k p0 k0 (w64 (x7 + 1)) | .inr rr => some rr) else some (.inl ()))
def impl_Colouring_isColouring (k : Nat) (p0 : Col) : Option (Bool) :=
 (letO (if !(impl_in p0.p 1 17) then true else !(impl_in p0.k 1 4)) fun (s4 : Bool) => (if s4 then some (.inr false) else some (.inl ())) : Option (Sum (Unit) (Bool))).bind fun os6 => (match os6 with | .inl s6 => (impl_Colouring_isColouring_l0 k p0 k 0 : Option (Sum (Unit) (Bool))).bind fun os16 => (match os16 with | .inl s16 => some true | .inr rr => some rr) | .inr rr => some rr)
set_option maxRecDepth 100000 in
theorem impl_Colouring_isColouring_ac (k : Nat) (p0 : Col) (r : Bool) (h : impl_Colouring_isColouring k p0 = some r) : AC Tryz.prog 36 [.d (.pv (colD p0) 0)] [] (fun res H' => res = [bV r] ∧ H' = []) := by
 refine AC_of_body true Tryz.func36 rfl Tryz.ntmps36 (rvs := [.tmp 2]) rfl rfl (fun G hG => ?_)
 have hm : G.H.length = 0 := by rw [hG]; rfl
 have hz : zeroG G.H = true := by rw [hG]; rfl
 unfold impl_Colouring_isColouring at h
 refine kR ?_
 refine kN 1 rfl ?_
 refine kO (fun s6 => [(0, .d (.pv (colD p0) 0))]) (fun s6 => []) h (fun os6 h hks6 => ?_) (fun s6 h => ?_)
 ·refine kL (fun s4 => [(0, .d (.pv (colD p0) 0)), (18, bV s4)]) (fun s4 => []) h (fun s4 h => ?_) (fun s4 h => ?_)
  ·refine (ACode_region ?_)
   refine kM 1 rfl ?_
   refine AOps_q 6 _ rfl rfl rfl (QOp_nilCheck_pv _ _ _ rfl rfl) ?_
   refine AOps_q 7 _ rfl rfl rfl (QOp_fieldAddr_pv _ _ _ _ _ 0 _ _ rfl Tryz.underlying26 rfl _ Tryz.sizeOf2 rfl rfl) ?_
   refine AOps_q 8 _ rfl rfl rfl (QOp_load_pv _ _ _ _ _ rfl Tryz.isAgg2 rfl rfl) ?_
   refine kC [] 9 (bV (impl_in p0.p 1 17)) [] rfl Tryz.call73 rfl rfl (impl_in_ac p0.p 1 17) rfl ?_
   refine AOps_q 10 _ rfl rfl rfl (QOp_not _ _ _ rfl rfl) ?_
   refine kM 1 rfl ?_
   refine AOps_case 11 _ rfl (fun hb2 => ?_) (fun hb2 => ?_)
   ·have h := iteT hb2 h
    refine AOps_skip 12 rfl rfl rfl ?_
    refine AOps_skip 13 rfl rfl rfl ?_
    refine AOps_skip 14 rfl rfl rfl ?_
    refine AOps_skip 15 rfl rfl rfl ?_
    refine AOps_skip 16 rfl rfl rfl ?_
    refine AOps_skip 17 rfl rfl rfl ?_
    refine kN 1 rfl ?_
    cases h
    exact Weak_keep 0 hm [0, 18] [] _ _ rfl rfl rfl
   have h := iteF hb2 h
   refine kM 1 rfl ?_
   refine AOps_q 13 _ rfl rfl rfl (QOp_nilCheck_pv _ _ _ rfl rfl) ?_
   refine AOps_q 14 _ rfl rfl rfl (QOp_fieldAddr_pv _ _ _ _ _ 1 _ _ rfl Tryz.underlying26 rfl _ Tryz.sizeOf2 rfl rfl) ?_
   refine AOps_q 15 _ rfl rfl rfl (QOp_load_pv _ _ _ _ _ rfl Tryz.isAgg2 rfl rfl) ?_
   refine kC [] 16 (bV (impl_in p0.k 1 4)) [] rfl Tryz.call73 rfl rfl (impl_in_ac p0.k 1 4) rfl ?_
   refine AOps_q 17 _ rfl rfl rfl (QOp_not _ _ _ rfl rfl) ?_
   refine kN 1 rfl ?_
   cases h
   exact Weak_keep 0 hm [0, 18] [] _ _ rfl rfl rfl
  refine kI h rfl (fun h _ => ?_) (fun h _ => ?_)
  ·refine kR ?_
   refine kN 1 rfl ?_
   refine ACode_ret ?_
   cases h
   have h := hks6
   cases h
   exact ⟨_, _, fun r a w h => ⟨r, h⟩, _, _, [], _, (.cons (ResV_tmp _ _ rfl) .nil), rfl, rfl, rfl, rfl, rfl⟩
  refine ACode_skip ?_
  cases h
  exact ⟨_, rfl, Weak_keep 0 hm [0] [] _ _ rfl rfl rfl⟩
 refine kO (fun s16 => []) (fun s16 => []) h (fun os16 h hks16 => ?_) (fun s16 h => ?_)
 ·refine kR ?_
  refine kM 1 rfl ?_
  refine AOps_q 20 _ rfl rfl rfl (QOp_nilCheck_pv _ _ _ rfl rfl) ?_
  refine AOps_q 21 _ rfl rfl rfl (QOp_fieldAddr_pv _ _ _ _ _ 2 _ _ rfl Tryz.underlying26 rfl _ Tryz.sizeOf24 rfl rfl) ?_
  refine AOps_q 22 _ rfl rfl rfl (QOp_loadN_pv _ _ _ _ _ _ rfl Tryz.isAgg24 Tryz.sizeOf24 rfl (colD_edges _) (byD_length _)) ?_
  refine kN 1 rfl ?_
  refine ACode_block ?_
  refine ACode_loopW (fun k0 E H => ∃ (x7 : Int), E = [(0, .d (.pv (colD p0) 0)), (22, .d (.agg (byD p0.e))), (23, iV x7)] ∧ H = [] ∧ impl_Colouring_isColouring_l0 k p0 k0 x7 = some os16) k _ _ (Weak_keep 0 hm [0, 22, 23] [] _ _ rfl rfl rfl) ⟨_, rfl, rfl, h⟩ ?_
  clear h
  rintro k0 E H ⟨x7, rfl, rfl, h⟩
  cases k0 with
  | zero => cases (show (none : Option (Sum (Unit) (Bool))) = some _ from h)
  | succ k0 =>
   rw [impl_Colouring_isColouring_l0] at h
   refine kR ?_
   refine AOps_q 24 _ rfl rfl rfl (QOp_lss _ _ _ _ _ _ _ rfl rfl rfl) ?_
   refine AOps_nil ?_
   refine ACode_seq ?_
   refine kI h rfl (fun h _ => ?_) (fun h _ => ?_)
   ·refine ACode_skip ?_
    refine kO (fun s15 => [(0, .d (.pv (colD p0) 0)), (22, .d (.agg (byD p0.e))), (23, iV x7)]) (fun s15 => []) h (fun os15 h hks15 => ?_) (fun s15 h => ?_)
    ·refine ACode_block ?_
     refine kR ?_
     refine kM 1 rfl ?_
     obtain ⟨hc9, h⟩ := guardO h
     refine AOps_q 26 _ rfl rfl rfl (QOp_index_agg _ _ _ _ _ _ _ _ _ rfl Tryz.underlying24 Tryz.sizeOf5 Tryz.isAgg5 hc9.1 hc9.2 rfl rfl (byD_get _ _ (by omega))) ?_
     refine kN 2 rfl ?_
     refine kL (fun s13 => [(0, .d (.pv (colD p0) 0)), (22, .d (.agg (byD p0.e))), (23, iV x7), (43, bV s13)]) (fun s13 => []) h (fun s13 h => ?_) (fun s13 h => ?_)
     ·refine (ACode_region ?_)
      refine kM 1 rfl ?_
      refine AOps_q 28 _ rfl rfl rfl (QOp_fromByte _ _ _ _ _ rfl rfl Tryz.underlying2 wrap_i64_byte rfl) ?_
      refine kM 1 rfl ?_
      refine AOps_q 30 _ rfl rfl rfl (QOp_nilCheck_pv _ _ _ rfl rfl) ?_
      refine AOps_q 31 _ rfl rfl rfl (QOp_fieldAddr_pv _ _ _ _ _ 1 _ _ rfl Tryz.underlying26 rfl _ Tryz.sizeOf2 rfl rfl) ?_
      refine AOps_q 32 _ rfl rfl rfl (QOp_load_pv _ _ _ _ _ rfl Tryz.isAgg2 rfl rfl) ?_
      refine AOps_q 33 _ rfl rfl rfl (QOp_geq _ _ _ _ _ _ _ rfl rfl rfl) ?_
      refine kM 1 rfl ?_
      refine AOps_case 34 _ rfl (fun hb10 => ?_) (fun hb10 => ?_)
      ·have h := iteT hb10 h
       refine AOps_skip 35 rfl rfl rfl ?_
       refine AOps_skip 36 rfl rfl rfl ?_
       refine AOps_skip 37 rfl rfl rfl ?_
       refine AOps_skip 38 rfl rfl rfl ?_
       refine AOps_skip 39 rfl rfl rfl ?_
       refine AOps_skip 40 rfl rfl rfl ?_
       refine AOps_skip 41 rfl rfl rfl ?_
       refine AOps_skip 42 rfl rfl rfl ?_
       refine kN 1 rfl ?_
       cases h
       exact Weak_keep 0 hm [0, 22, 23, 43] [] _ _ rfl rfl rfl
      have h := iteF hb10 h
      refine kM 2 rfl ?_
      refine kC [] 37 (iV (impl_Colouring_edges p0)) [] rfl Tryz.call80 rfl rfl (impl_Colouring_edges_ac p0) rfl ?_
      refine AOps_q 38 _ rfl rfl rfl (QOp_geq _ _ _ _ _ _ _ rfl rfl rfl) ?_
      refine kM 1 rfl ?_
      refine AOps_case 39 _ rfl (fun hb12 => ?_) (fun hb12 => ?_)
      ·have h := iteT hb12 h
       refine kM 1 rfl ?_
       refine AOps_q 41 _ rfl rfl rfl (QOp_neq _ _ _ _ _ _ _ rfl rfl rfl) ?_
       refine kN 2 rfl ?_
       cases h
       exact Weak_keep 0 hm [0, 22, 23, 43] [] _ _ rfl rfl rfl
      have h := iteF hb12 h
      refine AOps_skip 40 rfl rfl rfl ?_
      refine AOps_skip 41 rfl rfl rfl ?_
      refine kN 2 rfl ?_
      cases h
      exact Weak_keep 0 hm [0, 22, 23, 43] [] _ _ rfl rfl rfl
     refine kI h rfl (fun h _ => ?_) (fun h _ => ?_)
     ·refine kR ?_
      refine kN 1 rfl ?_
      refine ACode_ret ?_
      obtain ⟨rr, hz17, h2⟩ := bindO h
      obtain rfl := Option.some.inj h2
      obtain rfl := Option.some.inj (show some rr = some _ from hks15)
      have h := hz17
      cases h
      have h := hks16
      cases h
      exact ⟨_, _, fun r a w h => ⟨r, h⟩, _, _, [], _, (.cons (ResV_tmp _ _ rfl) .nil), rfl, rfl, rfl, rfl, rfl⟩
     refine ACode_skip ?_
     cases h
     exact ⟨_, rfl, Weak_keep 0 hm [0, 22, 23] [] _ _ rfl rfl rfl⟩
    refine (ACode_region ?_)
    refine AOps_q 44 _ rfl rfl rfl (QOp_add _ _ _ _ _ _ _ rfl rfl rfl) ?_
    refine kN 1 rfl ?_
    exact ⟨k0, _, _, Nat.lt_succ_self _, Weak_keep 0 hm [0, 22, 23] [] _ _ rfl rfl rfl, _, rfl, rfl, h⟩
   refine ACode_exit ?_
   cases h
   exact ⟨_, rfl, Weak_keep 0 hm [] [] _ _ rfl rfl rfl⟩
 refine kR ?_
 refine kN 1 rfl ?_
 refine ACode_ret ?_
 cases h
 exact ⟨_, _, fun r a w h => ⟨r, h⟩, _, _, [], _, (.cons (ResV_tmp _ _ rfl) .nil), rfl, rfl, rfl, rfl, rfl⟩

-- (*loop.example/g01362/impl.Colouring).that
def impl_Colouring_that_l0 (p0 : Col) (p1 : Int → Option (Bool)) : Nat → Int → (List Int) → Option (List Int)
 | 0, _, _ => none
 | k0 + 1, x1, x2 => (if decide (x1 < p0.p) then ((p1 x1).bind fun r4 => (if r4 then (if x2.length + ([x1]).length ≤ 1099511627776 then some (x2 ++ ([x1])) else none) else some x2) : Option (List Int)).bind fun s7 => impl_Colouring_that_l0 p0 p1 k0 (w64 (x1 + 1)) s7 else some x2)
def impl_Colouring_that (k : Nat) (p0 : Col) (p1 : Int → Option (Bool)) : Option (List Int) :=
 (impl_Colouring_that_l0 p0 p1 k 0 ([] : List Int) : Option (List Int)).bind fun s8 => some s8
set_option maxRecDepth 100000 in
theorem impl_Colouring_that_ac (k : Nat) (p0 : Col) (p1 : Int → Option (Bool)) (g_p1 : FuncId) (c_p1 : List D) (hg_p1 : ∀ args w, (callFunc g_p1 args).run Tryz.prog w = .ok (.enter g_p1 args) w) (hf_p1 : ∀ (a0 : Int) (r : Bool), p1 a0 = some r → AC Tryz.prog g_p1 ([iV a0] ++ c_p1.map AV.d) [] (fun res H' => res = [bV r] ∧ H' = [])) (r : List Int) (h : impl_Colouring_that k p0 p1 = some r) : AC Tryz.prog 104 [.d (.pv (colD p0) 0), .d (.clo g_p1 c_p1)] [] (fun res H' => res = [.vec 0 0] ∧ H' = [.vec 0 (intsD r)]) := by
 refine AC_of_body true Tryz.func104 rfl Tryz.ntmps104 (rvs := [.tmp 4]) rfl rfl (fun G hG => ?_)
 have hm : G.H.length = 0 := by rw [hG]; rfl
 have hz : zeroG G.H = true := by rw [hG]; rfl
 unfold impl_Colouring_that at h
 refine kR ?_
 refine kN 1 rfl ?_
 refine kR ?_
 refine AOps_buildSlice 7 _ _ _ [] (intsD ([] : List Int)) _ rfl rfl rfl rfl rfl (by decide) Tryz.underlying29 Tryz.sizeOf2 (zero_of Tryz.typeInfo2 rfl) rfl rfl (intsD_one _) ?_
 refine kN 1 rfl ?_
 refine kB (fun s8 => [(5, .vec 0 0)]) (fun s8 => [.vec 0 (intsD s8)]) h (fun s8 h => ?_) (fun s8 h => ?_)
 ·refine kR ?_
  refine kM 1 rfl ?_
  refine AOps_q 9 _ rfl rfl rfl (QOp_nilCheck_pv _ _ _ rfl rfl) ?_
  refine AOps_q 10 _ rfl rfl rfl (QOp_fieldAddr_pv _ _ _ _ _ 0 _ _ rfl Tryz.underlying26 rfl _ Tryz.sizeOf2 rfl rfl) ?_
  refine AOps_q 11 _ rfl rfl rfl (QOp_load_pv _ _ _ _ _ rfl Tryz.isAgg2 rfl rfl) ?_
  refine kN 1 rfl ?_
  refine ACode_block ?_
  refine ACode_loopW (fun k0 E H => ∃ (x1 : Int) (x2 : List Int), E = [(1, .d (.clo g_p1 c_p1)), (5, .vec 0 0), (11, iV p0.p), (12, iV x1)] ∧ H = [.vec 0 (intsD x2)] ∧ impl_Colouring_that_l0 p0 p1 k0 x1 x2 = some s8) k _ _ (Weak_keep 0 hm [1, 5, 11, 12] [0] _ _ rfl rfl rfl) ⟨_, _, rfl, rfl, h⟩ ?_
  clear h
  rintro k0 E H ⟨x1, x2, rfl, rfl, h⟩
  cases k0 with
  | zero => cases (show (none : Option (List Int)) = some _ from h)
  | succ k0 =>
   rw [impl_Colouring_that_l0] at h
   refine kR ?_
   refine AOps_q 13 _ rfl rfl rfl (QOp_lss _ _ _ _ _ _ _ rfl rfl rfl) ?_
   refine AOps_nil ?_
   refine ACode_seq ?_
   refine kI h rfl (fun h _ => ?_) (fun h _ => ?_)
   ·refine ACode_skip ?_
    refine kB (fun s7 => [(1, .d (.clo g_p1 c_p1)), (5, .vec 0 0), (11, iV p0.p), (12, iV x1)]) (fun s7 => [.vec 0 (intsD s7)]) h (fun s7 h => ?_) (fun s7 h => ?_)
    ·refine ACode_block ?_
     refine kR ?_
     refine kN 2 rfl ?_
     refine kR ?_
     refine kM 2 rfl ?_
     obtain ⟨r4, hr4, h⟩ := bindO h
     refine kC [] 17 (bV r4) [.vec 0 (intsD x2)] rfl hg_p1 rfl (viewA_mapD _) (hf_p1 x1 _ hr4) rfl ?_
     refine AOps_nil ?_
     refine kI h rfl (fun h _ => ?_) (fun h _ => ?_)
     ·refine (ACode_region ?_)
      refine kM 2 rfl ?_
      refine AOps_buildSlice 20 _ _ _ [_] (intsD ([x1])) _ rfl rfl rfl rfl rfl (by decide) Tryz.underlying29 Tryz.sizeOf2 (zero_of Tryz.typeInfo2 rfl) rfl rfl (intsD_one _) ?_
      obtain ⟨hc6, h⟩ := guardO h
      refine AOps_append 21 _ _ _ _ _ _ _ _ _ _ _ _ rfl rfl rfl rfl rfl rfl rfl Tryz.underlying29 Tryz.type2 rfl rfl rfl (by decide) rfl rfl rfl rfl (intsD_one _) (by rw [intsD_length, intsD_length]; exact hc6) ?_
      rw [intsD_app]
      refine kN 1 rfl ?_
      cases h
      exact Weak_trans (Weak_keep 0 hm [1, 5, 11, 12] [0] _ _ rfl rfl rfl) (Weak_reset 0 hm hz [1, 5, 11, 12] _ _ rfl rfl)
     refine ACode_skip ?_
     cases h
     exact Weak_keep 0 hm [1, 5, 11, 12] [0] _ _ rfl rfl rfl
    refine (ACode_region ?_)
    refine AOps_q 22 _ rfl rfl rfl (QOp_add _ _ _ _ _ _ _ rfl rfl rfl) ?_
    refine kN 1 rfl ?_
    exact ⟨k0, _, _, Nat.lt_succ_self _, Weak_keep 0 hm [1, 5, 11, 12] [0] _ _ rfl rfl rfl, _, _, rfl, rfl, h⟩
   refine ACode_exit ?_
   cases h
   exact Weak_keep 0 hm [5] [0] _ _ rfl rfl rfl
 refine kR ?_
 refine kN 2 rfl ?_
 refine ACode_ret ?_
 cases h
 exact ⟨_, _, Weak_reset 0 hm hz [4] _ _ rfl rfl, _, _, [0], _, (.cons (ResV_tmp _ _ rfl) .nil), rfl, rfl, rfl, rfl, rfl⟩

-- (*loop.example/g01362/impl.Colouring).points$1
def impl_Colouring_points_c1 (p0 : Int) : Bool :=
 true
set_option maxRecDepth 100000 in
theorem impl_Colouring_points_c1_ac (p0 : Int) : AC Tryz.prog 122 [iV p0] [] (fun res H' => res = [bV (impl_Colouring_points_c1 p0)] ∧ H' = []) := by
 refine AC_of_body true Tryz.func122 rfl Tryz.ntmps122 (rvs := [.tmp 2]) rfl rfl (fun G hG => ?_)
 have hm : G.H.length = 0 := by rw [hG]; rfl
 have hz : zeroG G.H = true := by rw [hG]; rfl
 obtain ⟨r, h⟩ : ∃ r, impl_Colouring_points_c1 p0 = r := ⟨_, rfl⟩
 rw [h]
 unfold impl_Colouring_points_c1 at h
 refine kR ?_
 refine kN 1 rfl ?_
 refine kR ?_
 refine kN 1 rfl ?_
 refine ACode_ret ?_
 cases h
 exact ⟨_, _, fun r a w h => ⟨r, h⟩, _, _, [], _, (.cons (ResV_tmp _ _ rfl) .nil), rfl, rfl, rfl, rfl, rfl⟩

-- (*loop.example/g01362/impl.Colouring).points
def impl_Colouring_points (k : Nat) (p0 : Col) : Option (List Int) :=
 (impl_Colouring_that k p0 (fun a0 => some (impl_Colouring_points_c1 a0))).bind fun r1 => some r1
set_option maxRecDepth 100000 in
theorem impl_Colouring_points_ac (k : Nat) (p0 : Col) (r : List Int) (h : impl_Colouring_points k p0 = some r) : AC Tryz.prog 108 [.d (.pv (colD p0) 0)] [] (fun res H' => res = [.vec 0 0] ∧ H' = [.vec 0 (intsD r)]) := by
 refine AC_of_body true Tryz.func108 rfl Tryz.ntmps108 (rvs := [.tmp 2]) rfl rfl (fun G hG => ?_)
 have hm : G.H.length = 0 := by rw [hG]; rfl
 have hz : zeroG G.H = true := by rw [hG]; rfl
 unfold impl_Colouring_points at h
 refine kR ?_
 refine kN 1 rfl ?_
 refine kR ?_
 refine kM 1 rfl ?_
 obtain ⟨r1, hr1, h⟩ := bindO h
 refine kC [] 4 (.vec 0 0) [.vec 0 (intsD r1)] rfl Tryz.call104 rfl rfl (impl_Colouring_that_ac k p0 (fun a0 => some (impl_Colouring_points_c1 a0)) 122 ([]) Tryz.call122 (fun a0 r h => by cases h; exact impl_Colouring_points_c1_ac a0) _ hr1) rfl ?_
 refine kN 1 rfl ?_
 refine ACode_ret ?_
 cases h
 exact ⟨_, _, Weak_reset 0 hm hz [2] _ _ rfl rfl, _, _, [0], _, (.cons (ResV_tmp _ _ rfl) .nil), rfl, rfl, rfl, rfl, rfl⟩

-- loop.example/g01362/impl.number
def impl_number (p0 : Int) (p1 : Int) : Int :=
 w64 ((w64 ((w64 ((if p0 < p1 then p1 else p0) * (w64 ((if p0 < p1 then p1 else p0) - 1)))).tdiv 2)) + (if p1 < p0 then p1 else p0))
set_option maxRecDepth 100000 in
theorem impl_number_ac (p0 : Int) (p1 : Int) : AC Tryz.prog 109 [iV p0, iV p1] [] (fun res H' => res = [iV (impl_number p0 p1)] ∧ H' = []) := by
 refine AC_of_body true Tryz.func109 rfl Tryz.ntmps109 (rvs := [.tmp 4]) rfl rfl (fun G hG => ?_)
 have hm : G.H.length = 0 := by rw [hG]; rfl
 have hz : zeroG G.H = true := by rw [hG]; rfl
 obtain ⟨r, h⟩ : ∃ r, impl_number p0 p1 = r := ⟨_, rfl⟩
 rw [h]
 unfold impl_number at h
 refine kR ?_
 refine kN 1 rfl ?_
 refine kR ?_
 refine kM 2 rfl ?_
 refine AOps_q 7 _ rfl rfl rfl (QOp_min _ _ _ _ _ _ rfl rfl rfl rfl rfl) ?_
 refine kM 2 rfl ?_
 refine AOps_q 10 _ rfl rfl rfl (QOp_max _ _ _ _ _ _ rfl rfl rfl rfl rfl) ?_
 refine kN 2 rfl ?_
 refine kR ?_
 refine kM 2 rfl ?_
 refine AOps_q 13 _ rfl rfl rfl (QOp_sub _ _ _ _ _ _ _ rfl rfl rfl) ?_
 refine AOps_q 14 _ rfl rfl rfl (QOp_mul _ _ _ _ _ _ _ rfl rfl rfl) ?_
 refine AOps_q 15 _ rfl rfl rfl (QOp_quo _ _ _ _ _ _ _ (by decide) rfl rfl rfl) ?_
 refine kM 1 rfl ?_
 refine AOps_q 17 _ rfl rfl rfl (QOp_add _ _ _ _ _ _ _ rfl rfl rfl) ?_
 refine kN 1 rfl ?_
 refine ACode_ret ?_
 cases h
 exact ⟨_, _, fun r a w h => ⟨r, h⟩, _, _, [], _, (.cons (ResV_tmp _ _ rfl) .nil), rfl, rfl, rfl, rfl, rfl⟩

-- (*loop.example/g01362/impl.Colouring).at
def impl_Colouring_at (p0 : Col) (p1 : Int) (p2 : Int) : Option (Int) :=
 (if 0 ≤ (impl_number p1 p2) ∧ (impl_number p1 p2) < 136 then some ((p0.get ((impl_number p1 p2).toNat)).toNat : Int) else none)
set_option maxRecDepth 100000 in
theorem impl_Colouring_at_ac (p0 : Col) (p1 : Int) (p2 : Int) (r : Int) (h : impl_Colouring_at p0 p1 p2 = some r) : AC Tryz.prog 95 [.d (.pv (colD p0) 0), iV p1, iV p2] [] (fun res H' => res = [iV r] ∧ H' = []) := by
 refine AC_of_body true Tryz.func95 rfl Tryz.ntmps95 (rvs := [.tmp 6]) rfl rfl (fun G hG => ?_)
 have hm : G.H.length = 0 := by rw [hG]; rfl
 have hz : zeroG G.H = true := by rw [hG]; rfl
 unfold impl_Colouring_at at h
 refine kR ?_
 refine kN 1 rfl ?_
 refine ACode_seq (ACode_quiet mixed (by kernel_rfl) ?_)
 refine kQ 3 rfl ?_
 refine AQ_call 10 _ _ _ _ _ _ _ _ _ rfl rfl rfl rfl rfl rfl rfl Tryz.call109 rfl rfl rfl (impl_number_ac p1 p2) ?_
 refine AQ_q 11 _ rfl rfl rfl (QOp_nilCheck_pv _ _ _ rfl rfl) ?_
 refine AQ_q 12 _ rfl rfl rfl (QOp_fieldAddr_pv _ _ _ _ _ 2 _ _ rfl Tryz.underlying26 rfl _ Tryz.sizeOf24 rfl rfl) ?_
 obtain ⟨hc2, h⟩ := guardO h
 refine AQ_q 13 _ rfl rfl rfl (QOp_indexAddrA_pv _ _ _ _ _ _ _ _ _ rfl Tryz.underlying24 Tryz.sizeOf5 hc2.1 hc2.2 rfl rfl) ?_
 refine AQ_q 14 _ rfl rfl rfl (QOp_load_pv _ _ _ _ _ rfl Tryz.isAgg5 rfl (colD_get _ _ (by omega))) ?_
 refine AQ_q 15 _ rfl rfl rfl (QOp_fromByte _ _ _ _ _ rfl rfl Tryz.underlying2 wrap_i64_byte rfl) ?_
 refine kQ 1 rfl ?_
 refine AQ_nil ?_
 refine ACode_ret ?_
 cases h
 exact ⟨_, _, fun r a w h => ⟨r, h⟩, _, _, [], _, (.cons (ResV_tmp _ _ rfl) .nil), rfl, rfl, rfl, rfl, rfl⟩

-- (*loop.example/g01362/impl.Colouring).degreesAt
def impl_Colouring_degreesAt_l0 (p0 : Col) (p1 : Int) : Nat → Int → (List Int) → Option (List Int)
 | 0, _, _ => none
 | k0 + 1, x2, x3 => (if decide (x2 < p0.p) then ((if !decide (x2 = p1) then (impl_Colouring_at p0 p1 x2).bind fun r6 => (if 0 ≤ r6 ∧ r6 < (x3.length : Int) then (if 0 ≤ r6 ∧ r6 < (x3.length : Int) then some (x3.set r6.toNat (w64 ((x3.getD r6.toNat 0) + 1))) else none) else none) else some x3) : Option (List Int)).bind fun s9 => impl_Colouring_degreesAt_l0 p0 p1 k0 (w64 (x2 + 1)) s9 else some x3)
def impl_Colouring_degreesAt (k : Nat) (p0 : Col) (p1 : Int) : Option (List Int) :=
 (if 0 ≤ p0.k ∧ p0.k ≤ p0.k ∧ p0.k ≤ 1099511627776 then (impl_Colouring_degreesAt_l0 p0 p1 k 0 (List.replicate p0.k.toNat (0 : Int)) : Option (List Int)).bind fun s10 => some s10 else none)
set_option maxRecDepth 100000 in
theorem impl_Colouring_degreesAt_ac (k : Nat) (p0 : Col) (p1 : Int) (r : List Int) (h : impl_Colouring_degreesAt k p0 p1 = some r) : AC Tryz.prog 121 [.d (.pv (colD p0) 0), iV p1] [] (fun res H' => res = [.vec 0 0] ∧ H' = [.vec 0 (intsD r)]) := by
 refine AC_of_body true Tryz.func121 rfl Tryz.ntmps121 (rvs := [.tmp 4]) rfl rfl (fun G hG => ?_)
 have hm : G.H.length = 0 := by rw [hG]; rfl
 have hz : zeroG G.H = true := by rw [hG]; rfl
 unfold impl_Colouring_degreesAt at h
 refine kR ?_
 refine kN 1 rfl ?_
 refine kR ?_
 refine kM 1 rfl ?_
 refine AOps_q 8 _ rfl rfl rfl (QOp_nilCheck_pv _ _ _ rfl rfl) ?_
 refine AOps_q 9 _ rfl rfl rfl (QOp_fieldAddr_pv _ _ _ _ _ 1 _ _ rfl Tryz.underlying26 rfl _ Tryz.sizeOf2 rfl rfl) ?_
 refine AOps_q 10 _ rfl rfl rfl (QOp_load_pv _ _ _ _ _ rfl Tryz.isAgg2 rfl rfl) ?_
 obtain ⟨hc1, h⟩ := guardO h
 refine AOps_makeSliceG intsD iD 0 (intsD_rep · _) 11 _ _ _ _ _ _ p0.k p0.k _ (.int .i64 0) rfl rfl rfl rfl rfl rfl Tryz.underlying29 Tryz.type2 rfl rfl (by decide) rfl rfl hc1.1 hc1.2.1 hc1.2.2 ?_
 refine kN 1 rfl ?_
 refine kB (fun s10 => [(5, .vec 0 0)]) (fun s10 => [.vec 0 (intsD s10)]) h (fun s10 h => ?_) (fun s10 h => ?_)
 ·refine kR ?_
  refine kM 1 rfl ?_
  refine AOps_q 13 _ rfl rfl rfl (QOp_nilCheck_pv _ _ _ rfl rfl) ?_
  refine AOps_q 14 _ rfl rfl rfl (QOp_fieldAddr_pv _ _ _ _ _ 0 _ _ rfl Tryz.underlying26 rfl _ Tryz.sizeOf2 rfl rfl) ?_
  refine AOps_q 15 _ rfl rfl rfl (QOp_load_pv _ _ _ _ _ rfl Tryz.isAgg2 rfl rfl) ?_
  refine kN 1 rfl ?_
  refine ACode_block ?_
  refine ACode_loopW (fun k0 E H => ∃ (x2 : Int) (x3 : List Int), E = [(0, .d (.pv (colD p0) 0)), (1, iV p1), (5, .vec 0 0), (15, iV p0.p), (16, iV x2)] ∧ H = [.vec 0 (intsD x3)] ∧ impl_Colouring_degreesAt_l0 p0 p1 k0 x2 x3 = some s10) k _ _ (Weak_keep 0 hm [0, 1, 5, 15, 16] [0] _ _ rfl rfl rfl) ⟨_, _, rfl, rfl, h⟩ ?_
  clear h
  rintro k0 E H ⟨x2, x3, rfl, rfl, h⟩
  cases k0 with
  | zero => cases (show (none : Option (List Int)) = some _ from h)
  | succ k0 =>
   rw [impl_Colouring_degreesAt_l0] at h
   refine kR ?_
   refine AOps_q 17 _ rfl rfl rfl (QOp_lss _ _ _ _ _ _ _ rfl rfl rfl) ?_
   refine AOps_nil ?_
   refine ACode_seq ?_
   refine kI h rfl (fun h _ => ?_) (fun h _ => ?_)
   ·refine ACode_skip ?_
    refine kB (fun s9 => [(0, .d (.pv (colD p0) 0)), (1, iV p1), (5, .vec 0 0), (15, iV p0.p), (16, iV x2)]) (fun s9 => [.vec 0 (intsD s9)]) h (fun s9 h => ?_) (fun s9 h => ?_)
    ·refine ACode_block ?_
     refine kR ?_
     refine kN 2 rfl ?_
     refine kR ?_
     refine kM 2 rfl ?_
     refine AOps_q 21 _ rfl rfl rfl (QOp_neq _ _ _ _ _ _ _ rfl rfl rfl) ?_
     refine AOps_nil ?_
     refine kI h rfl (fun h _ => ?_) (fun h _ => ?_)
     ·refine (ACode_region ?_)
      refine kM 4 rfl ?_
      obtain ⟨r6, hr6, h⟩ := bindO h
      refine kC [] 26 (iV r6) [.vec 0 (intsD x3)] rfl Tryz.call95 rfl rfl (impl_Colouring_at_ac p0 p1 x2 _ hr6) rfl ?_
      obtain ⟨hc7, h⟩ := guardO h
      refine AOps_q 27 _ rfl rfl rfl (QOp_indexAddr_vec _ _ _ _ _ _ _ _ _ rfl Tryz.underlying29 Tryz.sizeOf2 hc7.1 (by rw [intsD_length]; exact hc7.2) rfl rfl rfl) ?_
      refine AOps_q 28 _ rfl rfl rfl (QOp_load_eptr _ _ _ _ _ _ _ rfl Tryz.isAgg2 rfl rfl (intsD_get _ _ 0 (by omega))) ?_
      refine AOps_q 29 _ rfl rfl rfl (QOp_add _ _ _ _ _ _ _ rfl rfl rfl) ?_
      obtain ⟨hc8, h⟩ := guardO h
      refine AOps_q 30 _ rfl rfl rfl (QOp_indexAddr_vec _ _ _ _ _ _ _ _ _ rfl Tryz.underlying29 Tryz.sizeOf2 hc8.1 (by rw [intsD_length]; exact hc8.2) rfl rfl rfl) ?_
      refine AOps_store_eptr _ _ _ _ _ _ (intsD x3) _ rfl rfl rfl rfl rfl rfl rfl Tryz.sizeOf2 (by rw [intsD_length]; omega) ?_
      rw [intsD_set]
      refine AOps_nil ?_
      cases h
      exact Weak_keep 0 hm [0, 1, 5, 15, 16] [0] _ _ rfl rfl rfl
     refine ACode_skip ?_
     cases h
     exact Weak_keep 0 hm [0, 1, 5, 15, 16] [0] _ _ rfl rfl rfl
    refine (ACode_region ?_)
    refine AOps_q 31 _ rfl rfl rfl (QOp_add _ _ _ _ _ _ _ rfl rfl rfl) ?_
    refine kN 1 rfl ?_
    exact ⟨k0, _, _, Nat.lt_succ_self _, Weak_keep 0 hm [0, 1, 5, 15, 16] [0] _ _ rfl rfl rfl, _, _, rfl, rfl, h⟩
   refine ACode_exit ?_
   cases h
   exact Weak_keep 0 hm [5] [0] _ _ rfl rfl rfl
 refine kR ?_
 refine kN 2 rfl ?_
 refine ACode_ret ?_
 cases h
 exact ⟨_, _, Weak_reset 0 hm hz [4] _ _ rfl rfl, _, _, [0], _, (.cons (ResV_tmp _ _ rfl) .nil), rfl, rfl, rfl, rfl, rfl⟩

-- slices.Equal[[]int64,int64]
def slices_Equal_l0 (p0 : List Int) (p1 : List Int) : Nat → Int → Option (Sum (Unit) (Bool))
 | 0, _ => none
 | k0 + 1, x2 => (if decide (x2 < (p0.length : Int)) then (if 0 ≤ x2 ∧ x2 < (p0.length : Int) then (if 0 ≤ x2 ∧ x2 < (p1.length : Int) then (if !decide ((p0.getD x2.toNat 0) = (p1.getD x2.toNat 0)) then some (.inr false) else slices_Equal_l0 p0 p1 k0 (w64 (x2 + 1))) else none) else none) else some (.inl ()))
def slices_Equal (k : Nat) (p0 : List Int) (p1 : List Int) : Option (Bool) :=
 (if !decide ((p0.length : Int) = (p1.length : Int)) then some false else (slices_Equal_l0 p0 p1 k 0 : Option (Sum (Unit) (Bool))).bind fun os7 => (match os7 with | .inl s7 => some true | .inr rr => some rr))
set_option maxRecDepth 100000 in
theorem slices_Equal_ac (k : Nat) (p0 : List Int) (p1 : List Int) (r : Bool) (h : slices_Equal k p0 p1 = some r) : AC Tryz.prog 120 [.d (.sl none (intsD p0)), .d (.sl none (intsD p1))] [] (fun res H' => res = [bV r] ∧ H' = []) := by
 refine AC_of_body true Tryz.func120 rfl Tryz.ntmps120 (rvs := [.tmp 4]) rfl rfl (fun G hG => ?_)
 have hm : G.H.length = 0 := by rw [hG]; rfl
 have hz : zeroG G.H = true := by rw [hG]; rfl
 unfold slices_Equal at h
 refine kR ?_
 refine kN 1 rfl ?_
 refine ACode_seq ?_
 refine kR ?_
 refine kM 1 rfl ?_
 refine AOps_q 7 _ rfl rfl rfl (QOp_len_sl _ _ _ _ _ _ _ (intsD_length _) rfl rfl rfl rfl Tryz.underlying29 rfl) ?_
 refine kM 1 rfl ?_
 refine AOps_q 9 _ rfl rfl rfl (QOp_len_sl _ _ _ _ _ _ _ (intsD_length _) rfl rfl rfl rfl Tryz.underlying29 rfl) ?_
 refine AOps_q 10 _ rfl rfl rfl (QOp_neq _ _ _ _ _ _ _ rfl rfl rfl) ?_
 refine AOps_nil ?_
 refine kI h rfl (fun h _ => ?_) (fun h _ => ?_)
 ·refine kR ?_
  refine kN 1 rfl ?_
  refine ACode_ret ?_
  cases h
  exact ⟨_, _, fun r a w h => ⟨r, h⟩, _, _, [], _, (.cons (ResV_tmp _ _ rfl) .nil), rfl, rfl, rfl, rfl, rfl⟩
 refine ACode_skip ?_
 refine kO (fun s7 => []) (fun s7 => []) h (fun os7 h hks7 => ?_) (fun s7 h => ?_)
 ·refine kR ?_
  refine kM 1 rfl ?_
  refine AOps_q 12 _ rfl rfl rfl (QOp_len_sl _ _ _ _ _ _ _ (intsD_length _) rfl rfl rfl rfl Tryz.underlying29 rfl) ?_
  refine kN 1 rfl ?_
  refine ACode_block ?_
  refine ACode_loopW (fun k0 E H => ∃ (x2 : Int), E = [(0, .d (.sl none (intsD p0))), (1, .d (.sl none (intsD p1))), (12, iV (p0.length : Int)), (13, iV x2)] ∧ H = [] ∧ slices_Equal_l0 p0 p1 k0 x2 = some os7) k _ _ (Weak_keep 0 hm [0, 1, 12, 13] [] _ _ rfl rfl rfl) ⟨_, rfl, rfl, h⟩ ?_
  clear h
  rintro k0 E H ⟨x2, rfl, rfl, h⟩
  cases k0 with
  | zero => cases (show (none : Option (Sum (Unit) (Bool))) = some _ from h)
  | succ k0 =>
   rw [slices_Equal_l0] at h
   refine kR ?_
   refine AOps_q 14 _ rfl rfl rfl (QOp_lss _ _ _ _ _ _ _ rfl rfl rfl) ?_
   refine AOps_nil ?_
   refine ACode_seq ?_
   refine kI h rfl (fun h _ => ?_) (fun h _ => ?_)
   ·refine ACode_skip ?_
    refine ACode_seq ?_
    refine ACode_block ?_
    refine kR ?_
    refine kN 2 rfl ?_
    refine ACode_seq (ACode_quiet mixed (by kernel_rfl) ?_)
    refine kQ 2 rfl ?_
    obtain ⟨hc4, h⟩ := guardO h
    refine AQ_q 18 _ rfl rfl rfl (QOp_indexAddr_sl _ _ _ _ _ _ _ _ rfl Tryz.underlying29 Tryz.sizeOf2 hc4.1 (by rw [intsD_length]; exact hc4.2) rfl rfl) ?_
    refine AQ_q 19 _ rfl rfl rfl (QOp_load_pv _ _ _ _ _ rfl Tryz.isAgg2 rfl (intsD_get _ _ 0 (by omega))) ?_
    refine kQ 2 rfl ?_
    obtain ⟨hc5, h⟩ := guardO h
    refine AQ_q 22 _ rfl rfl rfl (QOp_indexAddr_sl _ _ _ _ _ _ _ _ rfl Tryz.underlying29 Tryz.sizeOf2 hc5.1 (by rw [intsD_length]; exact hc5.2) rfl rfl) ?_
    refine AQ_q 23 _ rfl rfl rfl (QOp_load_pv _ _ _ _ _ rfl Tryz.isAgg2 rfl (intsD_get _ _ 0 (by omega))) ?_
    refine AQ_q 24 _ rfl rfl rfl (QOp_neq _ _ _ _ _ _ _ rfl rfl rfl) ?_
    refine AQ_nil ?_
    refine kI h rfl (fun h _ => ?_) (fun h _ => ?_)
    ·refine kR ?_
     refine kN 1 rfl ?_
     refine ACode_ret ?_
     cases h
     have h := hks7
     cases h
     exact ⟨_, _, fun r a w h => ⟨r, h⟩, _, _, [], _, (.cons (ResV_tmp _ _ rfl) .nil), rfl, rfl, rfl, rfl, rfl⟩
    refine ACode_skip ?_
    refine (ACode_region ?_)
    refine AOps_q 25 _ rfl rfl rfl (QOp_add _ _ _ _ _ _ _ rfl rfl rfl) ?_
    refine kN 1 rfl ?_
    exact ⟨k0, _, _, Nat.lt_succ_self _, Weak_keep 0 hm [0, 1, 12, 13] [] _ _ rfl rfl rfl, _, rfl, rfl, h⟩
   refine ACode_exit ?_
   cases h
   exact ⟨_, rfl, Weak_keep 0 hm [] [] _ _ rfl rfl rfl⟩
 refine kR ?_
 refine kN 1 rfl ?_
 refine ACode_ret ?_
 cases h
 exact ⟨_, _, fun r a w h => ⟨r, h⟩, _, _, [], _, (.cons (ResV_tmp _ _ rfl) .nil), rfl, rfl, rfl, rfl, rfl⟩

-- loop.example/g01362/impl.newTracer
def impl_newTracer_l1 (k : Nat) (p0 : Col) (p1 : Col) (x5 : Int) : Nat → Int → Tra → Option (Tra)
 | 0, _, _ => none
 | k1 + 1, x8, x9 => (if decide (x8 < p1.p) then (if 0 ≤ x5 ∧ x5 < 17 then (impl_Colouring_degreesAt k p0 x5).bind fun r12 => (impl_Colouring_degreesAt k p1 x8).bind fun r13 => (slices_Equal k r12 r13).bind fun r14 => (if 0 ≤ x8 ∧ x8 < 17 then impl_newTracer_l1 k p0 p1 x5 k1 (w64 (x8 + 1)) (x9.set (x5.toNat * 17 + x8.toNat) r14) else none) else none) else some x9)
def impl_newTracer_l0 (k : Nat) (p0 : Col) (p1 : Col) : Nat → Int → Tra → Option (Tra)
 | 0, _, _ => none
 | k0 + 1, x5, x6 => (if decide (x5 < p0.p) then (impl_newTracer_l1 k p0 p1 x5 k 0 x6 : Option (Tra)).bind fun s16 => impl_newTracer_l0 k p0 p1 k0 (w64 (x5 + 1)) s16 else some x6)
def impl_newTracer (k : Nat) (p0 : Col) (p1 : Col) (p2 : List Int) : Option (Option Tra) :=
 (letO (if !decide (p0.p = p1.p) then true else !decide (p0.k = p1.k)) fun (s2 : Bool) => (if s2 then some (.inr none) else some (.inl ())) : Option (Sum (Unit) (Option Tra))).bind fun os4 => (match os4 with | .inl s4 => (impl_newTracer_l0 k p0 p1 k 0 (⟨p0, p1, p2, S17.zero⟩ : Tra) : Option (Tra)).bind fun s17 => some (some s17) | .inr rr => some rr)
set_option maxRecDepth 100000 in
theorem impl_newTracer_ac (k : Nat) (p0 : Col) (p1 : Col) (p2 : List Int) (r : Option Tra) (h : impl_newTracer k p0 p1 p2 = some r) : AC Tryz.prog 103 [.d (.pv (colD p0) 0), .d (.pv (colD p1) 0), .d (.sl none (intsD p2))] [] (fun res H' => res = [.d (traP r)] ∧ H' = []) := by
 refine AC_of_body true Tryz.func103 rfl Tryz.ntmps103 (rvs := [.tmp 6]) rfl rfl (fun G hG => ?_)
 have hm : G.H.length = 0 := by rw [hG]; rfl
 have hz : zeroG G.H = true := by rw [hG]; rfl
 unfold impl_newTracer at h
 refine kR ?_
 refine kN 1 rfl ?_
 refine kO (fun s4 => [(0, .d (.pv (colD p0) 0)), (1, .d (.pv (colD p1) 0)), (2, .d (.sl none (intsD p2)))]) (fun s4 => []) h (fun os4 h hks4 => ?_) (fun s4 h => ?_)
 ·refine kL (fun s2 => [(0, .d (.pv (colD p0) 0)), (1, .d (.pv (colD p1) 0)), (2, .d (.sl none (intsD p2))), (29, bV s2)]) (fun s2 => []) h (fun s2 h => ?_) (fun s2 h => ?_)
  ·refine (ACode_quiet mixed (by kernel_rfl) ?_)
   refine kQ 1 rfl ?_
   refine AQ_q 11 _ rfl rfl rfl (QOp_nilCheck_pv _ _ _ rfl rfl) ?_
   refine AQ_q 12 _ rfl rfl rfl (QOp_fieldAddr_pv _ _ _ _ _ 0 _ _ rfl Tryz.underlying26 rfl _ Tryz.sizeOf2 rfl rfl) ?_
   refine AQ_q 13 _ rfl rfl rfl (QOp_load_pv _ _ _ _ _ rfl Tryz.isAgg2 rfl rfl) ?_
   refine kQ 1 rfl ?_
   refine AQ_q 15 _ rfl rfl rfl (QOp_nilCheck_pv _ _ _ rfl rfl) ?_
   refine AQ_q 16 _ rfl rfl rfl (QOp_fieldAddr_pv _ _ _ _ _ 0 _ _ rfl Tryz.underlying26 rfl _ Tryz.sizeOf2 rfl rfl) ?_
   refine AQ_q 17 _ rfl rfl rfl (QOp_load_pv _ _ _ _ _ rfl Tryz.isAgg2 rfl rfl) ?_
   refine AQ_q 18 _ rfl rfl rfl (QOp_neq _ _ _ _ _ _ _ rfl rfl rfl) ?_
   refine kQ 1 rfl ?_
   refine AQ_case 19 _ rfl (fun hb1 => ?_) (fun hb1 => ?_)
   ·have h := iteT hb1 h
    refine AQ_skip 20 rfl rfl rfl ?_
    refine AQ_skip 21 rfl rfl rfl ?_
    refine AQ_skip 22 rfl rfl rfl ?_
    refine AQ_skip 23 rfl rfl rfl ?_
    refine AQ_skip 24 rfl rfl rfl ?_
    refine AQ_skip 25 rfl rfl rfl ?_
    refine AQ_skip 26 rfl rfl rfl ?_
    refine AQ_skip 27 rfl rfl rfl ?_
    refine AQ_skip 28 rfl rfl rfl ?_
    refine kQ 1 rfl ?_
    refine AQ_nil ?_
    cases h
    exact Weak_keep 0 hm [0, 1, 2, 29] [] _ _ rfl rfl rfl
   have h := iteF hb1 h
   refine kQ 1 rfl ?_
   refine AQ_q 21 _ rfl rfl rfl (QOp_nilCheck_pv _ _ _ rfl rfl) ?_
   refine AQ_q 22 _ rfl rfl rfl (QOp_fieldAddr_pv _ _ _ _ _ 1 _ _ rfl Tryz.underlying26 rfl _ Tryz.sizeOf2 rfl rfl) ?_
   refine AQ_q 23 _ rfl rfl rfl (QOp_load_pv _ _ _ _ _ rfl Tryz.isAgg2 rfl rfl) ?_
   refine kQ 1 rfl ?_
   refine AQ_q 25 _ rfl rfl rfl (QOp_nilCheck_pv _ _ _ rfl rfl) ?_
   refine AQ_q 26 _ rfl rfl rfl (QOp_fieldAddr_pv _ _ _ _ _ 1 _ _ rfl Tryz.underlying26 rfl _ Tryz.sizeOf2 rfl rfl) ?_
   refine AQ_q 27 _ rfl rfl rfl (QOp_load_pv _ _ _ _ _ rfl Tryz.isAgg2 rfl rfl) ?_
   refine AQ_q 28 _ rfl rfl rfl (QOp_neq _ _ _ _ _ _ _ rfl rfl rfl) ?_
   refine kQ 1 rfl ?_
   refine AQ_nil ?_
   cases h
   exact Weak_keep 0 hm [0, 1, 2, 29] [] _ _ rfl rfl rfl
  refine kI h rfl (fun h _ => ?_) (fun h _ => ?_)
  ·refine kR ?_
   refine kN 1 rfl ?_
   refine ACode_ret ?_
   cases h
   have h := hks4
   cases h
   exact ⟨_, _, fun r a w h => ⟨r, h⟩, _, _, [], _, (.cons (ResV_tmp _ _ rfl) .nil), rfl, rfl, rfl, rfl, rfl⟩
  refine ACode_skip ?_
  cases h
  exact ⟨_, rfl, Weak_keep 0 hm [0, 1, 2] [] _ _ rfl rfl rfl⟩
 refine kR ?_
 refine kM 3 rfl ?_
 refine AOps_q 33 _ rfl rfl rfl (QOp_build _ _ [_, _, _] [0, 1, 2] [.pv (colD p0) 0, .pv (colD p1) 0, .sl none (intsD p2)] _ traZ (traD (⟨p0, p1, p2, S17.zero⟩ : Tra)) [(0, 1), (1, 1), (2, 1), (3, 289)] rfl rfl Tryz.underlying123 (zero_of Tryz.typeInfo123 rfl) (fun w => by simp [Tryz.sizeOf57, Tryz.sizeOf57, Tryz.sizeOf29, Tryz.sizeOf121]) rfl (by rfl) (by rfl) (allc (ok1 rfl) (allc (ok1 rfl) (allc (ok1 rfl) (fun _ h => nomatch h))))) ?_
 refine AOps_boxM 34 _ _ (.agg (traD (⟨p0, p1, p2, S17.zero⟩ : Tra))) (traD (⟨p0, p1, p2, S17.zero⟩ : Tra)) rfl (traD_one _) rfl rfl rfl rfl rfl ?_
 refine kN 1 rfl ?_
 refine kB (fun s17 => [(7, .ptr 0 0)]) (fun s17 => [.box (traD s17)]) h (fun s17 h => ?_) (fun s17 h => ?_)
 ·refine kR ?_
  refine kM 1 rfl ?_
  refine AOps_q 36 _ rfl rfl rfl (QOp_nilCheck_pv _ _ _ rfl rfl) ?_
  refine AOps_q 37 _ rfl rfl rfl (QOp_fieldAddr_pv _ _ _ _ _ 0 _ _ rfl Tryz.underlying26 rfl _ Tryz.sizeOf2 rfl rfl) ?_
  refine AOps_q 38 _ rfl rfl rfl (QOp_load_pv _ _ _ _ _ rfl Tryz.isAgg2 rfl rfl) ?_
  refine kN 1 rfl ?_
  refine ACode_block ?_
  refine ACode_loopW (fun k0 E H => ∃ (x5 : Int) (x6 : Tra), E = [(0, .d (.pv (colD p0) 0)), (1, .d (.pv (colD p1) 0)), (7, .ptr 0 0), (38, iV p0.p), (39, iV x5)] ∧ H = [.box (traD x6)] ∧ impl_newTracer_l0 k p0 p1 k0 x5 x6 = some s17) k _ _ (Weak_keep 0 hm [0, 1, 7, 38, 39] [0] _ _ rfl rfl rfl) ⟨_, _, rfl, rfl, h⟩ ?_
  clear h
  rintro k0 E H ⟨x5, x6, rfl, rfl, h⟩
  cases k0 with
  | zero => cases (show (none : Option (Tra)) = some _ from h)
  | succ k0 =>
   rw [impl_newTracer_l0] at h
   refine kR ?_
   refine AOps_q 40 _ rfl rfl rfl (QOp_lss _ _ _ _ _ _ _ rfl rfl rfl) ?_
   refine AOps_nil ?_
   refine ACode_seq ?_
   refine kI h rfl (fun h _ => ?_) (fun h _ => ?_)
   ·refine ACode_skip ?_
    refine kB (fun s16 => [(0, .d (.pv (colD p0) 0)), (1, .d (.pv (colD p1) 0)), (7, .ptr 0 0), (38, iV p0.p), (39, iV x5)]) (fun s16 => [.box (traD s16)]) h (fun s16 h => ?_) (fun s16 h => ?_)
    ·refine ACode_block ?_
     refine kR ?_
     refine kN 2 rfl ?_
     refine kR ?_
     refine kM 1 rfl ?_
     refine AOps_q 43 _ rfl rfl rfl (QOp_nilCheck_pv _ _ _ rfl rfl) ?_
     refine AOps_q 44 _ rfl rfl rfl (QOp_fieldAddr_pv _ _ _ _ _ 0 _ _ rfl Tryz.underlying26 rfl _ Tryz.sizeOf2 rfl rfl) ?_
     refine AOps_q 45 _ rfl rfl rfl (QOp_load_pv _ _ _ _ _ rfl Tryz.isAgg2 rfl rfl) ?_
     refine kN 1 rfl ?_
     refine ACode_block ?_
     refine ACode_loopW (fun k1 E H => ∃ (x8 : Int) (x9 : Tra), E = [(0, .d (.pv (colD p0) 0)), (1, .d (.pv (colD p1) 0)), (7, .ptr 0 0), (8, iV x5), (38, iV p0.p), (39, iV x5), (45, iV p1.p), (46, iV x8)] ∧ H = [.box (traD x9)] ∧ impl_newTracer_l1 k p0 p1 x5 k1 x8 x9 = some s16) k _ _ (Weak_keep 0 hm [0, 1, 7, 8, 38, 39, 45, 46] [0] _ _ rfl rfl rfl) ⟨_, _, rfl, rfl, h⟩ ?_
     clear h
     rintro k1 E H ⟨x8, x9, rfl, rfl, h⟩
     cases k1 with
     | zero => cases (show (none : Option (Tra)) = some _ from h)
     | succ k1 =>
      rw [impl_newTracer_l1] at h
      refine kR ?_
      refine AOps_q 47 _ rfl rfl rfl (QOp_lss _ _ _ _ _ _ _ rfl rfl rfl) ?_
      refine AOps_nil ?_
      refine ACode_seq ?_
      refine kI h rfl (fun h _ => ?_) (fun h _ => ?_)
      ·refine ACode_skip ?_
       refine ACode_seq ?_
       refine ACode_block ?_
       refine kR ?_
       refine kN 2 rfl ?_
       refine ACode_anyU mixed ?_
       refine AU_u 0 49 _ rfl (by kernel_rfl) rfl rfl rfl (UOp_move _ _ rfl rfl) ?_
       refine AU_u 1 50 _ rfl (by kernel_rfl) rfl rfl rfl (UOp_move _ _ rfl rfl) ?_
       refine AU_u 2 51 _ rfl (by kernel_rfl) rfl rfl rfl (UOp_move _ _ rfl rfl) ?_
       refine AU_u 3 52 _ rfl (by kernel_rfl) rfl rfl rfl (UOp_move _ _ rfl rfl) ?_
       refine AU_u 4 53 _ rfl (by kernel_rfl) rfl rfl rfl (UOp_move _ _ rfl rfl) ?_
       refine AU_u 6 55 _ rfl (by kernel_rfl) rfl rfl rfl (UOp_move _ _ rfl rfl) ?_
       refine AU_u 7 56 _ rfl (by kernel_rfl) rfl rfl rfl (UOp_move _ _ rfl rfl) ?_
       refine AU_u 10 59 _ rfl (by kernel_rfl) rfl rfl rfl (UOp_nilCheck_ptr _ _ _ _ rfl rfl rfl rfl) ?_
       refine AU_u 11 60 _ rfl (by kernel_rfl) rfl rfl rfl (UOp_fieldAddr_ptr _ _ _ _ _ _ 3 _ _ rfl Tryz.underlying123 rfl _ Tryz.sizeOf121 rfl rfl rfl rfl) ?_
       obtain ⟨hc11, h⟩ := guardO h
       refine AU_u 12 61 _ rfl (by kernel_rfl) rfl rfl rfl (UOp_indexAddrM_ptr _ _ _ _ _ _ _ _ _ _ _ rfl Tryz.underlying121 Tryz.sizeOf120 hc11.1 hc11.2 rfl rfl rfl rfl) ?_
       refine AU_all [5] (by kernel_rfl) rfl (allc ?_ (fun _ h => nomatch h))
       refine US_of 5 rfl rfl ?_
       obtain ⟨r12, hr12, h⟩ := bindO h
       refine kC [] 54 (.vec 1 0) [.box (traD x9), .vec 0 (intsD r12)] rfl Tryz.call121 rfl rfl (impl_Colouring_degreesAt_ac k p0 x5 _ hr12) rfl ?_
       refine AOps_nil ?_
       refine AU_all [8] (by kernel_rfl) rfl (allc ?_ (fun _ h => nomatch h))
       refine US_of 8 rfl rfl ?_
       obtain ⟨r13, hr13, h⟩ := bindO h
       refine kC [] 57 (.vec 2 0) [.box (traD x9), .vec 0 (intsD r12), .vec 0 (intsD r13)] rfl Tryz.call121 rfl rfl (impl_Colouring_degreesAt_ac k p1 x8 _ hr13) rfl ?_
       refine AOps_nil ?_
       refine AU_all [9] (by kernel_rfl) rfl (allc ?_ (fun _ h => nomatch h))
       refine US_of 9 rfl rfl ?_
       obtain ⟨r14, hr14, h⟩ := bindO h
       refine AOps_callL [] 58 _ _ _ _ _ _ _ _ _ _ rfl rfl rfl rfl rfl rfl rfl Tryz.call120 rfl (nodupB_sound _ rfl) rfl rfl rfl (slices_Equal_ac k r12 r13 _ hr14) ?_
       rintro _ _ ⟨rfl, rfl⟩
       refine ⟨(fun _ h => nomatch h), (allc (flat_s _) (fun _ h => nomatch h)), AOps_as 58 (v' := bV r14) (H' := [.box (traD x9), .vec 0 (intsD r12), .vec 0 (intsD r13)]) rfl rfl ?_⟩
       refine AOps_nil ?_
       obtain ⟨hc15, h⟩ := guardO h
       refine AU_u 13 62 _ rfl (by kernel_rfl) rfl rfl rfl (UOp_indexAddrA_ptr _ _ _ _ _ _ _ _ _ _ rfl Tryz.underlying120 Tryz.sizeOf4 hc15.1 hc15.2 rfl rfl rfl rfl) ?_
       refine AU_all [14] (by kernel_rfl) rfl (allc ?_ (fun _ h => nomatch h))
       refine US_of 14 rfl rfl ?_
       refine AOps_store1 _ _ _ _ _ _ (traD (x9.set (x5.toNat * 17 + x8.toNat) r14)) _ rfl rfl rfl rfl rfl rfl rfl Tryz.sizeOf4 (by rw [traD_length]; omega) (traD_set x9 (x5.toNat * 17) x8.toNat r14) ?_
       refine AOps_nil ?_
       refine AU_done (by kernel_rfl) ?_
       refine (ACode_region ?_)
       refine AOps_q 63 _ rfl rfl rfl (QOp_add _ _ _ _ _ _ _ rfl rfl rfl) ?_
       refine kN 1 rfl ?_
       exact ⟨k1, _, _, Nat.lt_succ_self _, Weak_keep 0 hm [0, 1, 7, 8, 38, 39, 45, 46] [0] _ _ rfl rfl rfl, _, _, rfl, rfl, h⟩
      refine ACode_exit ?_
      cases h
      exact Weak_keep 0 hm [0, 1, 7, 38, 39] [0] _ _ rfl rfl rfl
    refine (ACode_region ?_)
    refine AOps_q 64 _ rfl rfl rfl (QOp_add _ _ _ _ _ _ _ rfl rfl rfl) ?_
    refine kN 1 rfl ?_
    exact ⟨k0, _, _, Nat.lt_succ_self _, Weak_keep 0 hm [0, 1, 7, 38, 39] [0] _ _ rfl rfl rfl, _, _, rfl, rfl, h⟩
   refine ACode_exit ?_
   cases h
   exact Weak_keep 0 hm [7] [0] _ _ rfl rfl rfl
 refine kR ?_
 refine kN 2 rfl ?_
 refine ACode_ret ?_
 cases h
 exact ⟨_, _, Weak_frzB 0 [(6, .d (.pv (traD s17) 0))] _ rfl (allc ⟨_, rfl, rfl⟩ (fun _ h => nomatch h)), _, _, [], _, (.cons (ResV_tmp _ _ rfl) .nil), rfl, rfl, rfl, rfl, rfl⟩

-- (*loop.example/g01362/impl.Colouring).renumbering$1
def impl_Colouring_renumbering_c1 (p0 : List Int) (p0n : Nat) (p1 : List Int) : Option (Bool × List Int × List Int) :=
 (if ((p0.drop 0).take p0n).isEmpty then none else (cloneA ((p0.drop 0).take p0n)).bind fun r3 => some (false, p0, r3))
set_option maxRecDepth 100000 in
theorem impl_Colouring_renumbering_c1_ac (p0 : List Int) (p0n : Nat) (p1 : List Int) (r : Bool × List Int × List Int) (h : impl_Colouring_renumbering_c1 p0 p0n p1 = some r) : AC Tryz.prog 81 [.part 0 0 0 p0n, .ptr 1 0] [.vec 0 (intsD p0), .ref (.vec 2 0), .vec 0 (intsD p1)] (fun res H' => res = [bV r.1] ∧ H' = [.vec 0 (intsD r.2.1), .ref (.vec 2 1), .vec 1 (intsD r.2.2)]) := by
 refine AC_of_body true Tryz.func81 rfl Tryz.ntmps81 (rvs := [.tmp 3]) rfl rfl (fun G hG => ?_)
 have hm : G.H.length = 3 := by rw [hG]; rfl
 have hz : zeroG G.H = true := by rw [hG]; rfl
 refine ACode_weak (Weak_bump 1 2 _ rfl rfl _ rfl) ?_
 unfold impl_Colouring_renumbering_c1 at h
 refine kR ?_
 refine kN 1 rfl ?_
 refine kR ?_
 refine kM 1 rfl ?_
 refine bsplit (((p0.drop 0).take p0n).isEmpty) (fun hb1 => ?_) (fun hb1 => ?_)
 ·have h := iteT hb1 h
  cases h
 have h := iteF hb1 h
 obtain ⟨r3, hr3, h⟩ := bindO h
 refine AOps_callL [] 5 _ _ _ _ _ _ _ _ _ _ rfl rfl rfl rfl rfl rfl rfl Tryz.call82 rfl (nodupB_sound _ rfl) rfl rfl rfl (by have q := cloneA_ac ((p0.drop 0).take p0n) _ hb1 hr3; simp only [intsD_dt] at q; exact q) ?_
 rintro _ _ ⟨rfl, rfl⟩
 refine ⟨(allc (intsD_flat _) (fun _ h => nomatch h)), (allc (trivial) (fun _ h => nomatch h)), AOps_as 5 (v' := .vec 3 0) (H' := [.vec 0 (intsD p0), .ref (.vec 2 1), .vec 1 (intsD p1), .vec 0 (intsD r3)]) rfl rfl ?_⟩
 refine AOps_storeR 1 _ _ _ _ _ rfl rfl rfl rfl rfl rfl rfl rfl Tryz.sizeOf29 (fun r a w hr => vec_one hr rfl rfl rfl) ?_
 refine AOps_weak (Weak_move 1 2 3 _ _ _ _ rfl rfl rfl rfl _ rfl) ?_
 refine AOps_nil ?_
 refine kR ?_
 refine kN 1 rfl ?_
 refine ACode_ret ?_
 cases h
 exact ⟨_, _, Weak_reset 3 hm hz [3] _ _ rfl rfl, _, _, [], _, (.cons (ResV_tmp _ _ rfl) .nil), rfl, rfl, rfl, rfl, rfl⟩

-- (*loop.example/g01362/impl.tracer).all
def impl_tracer_all_on_renumbering_c1_l1 (p0 : Tra) (p1n : Nat) (x4 : Int) (x5 : List Int) : Nat → Bool → Int → Option (Bool)
 | 0, _, _ => none
 | k1 + 1, x11, x12 => (if decide (x12 < ((p1n : Nat) : Int)) then ((if 0 ≤ x12 ∧ x12 < ((p1n : Nat) : Int) ∧ 0 + p1n ≤ x5.length then ((if decide ((x5.getD (0 + x12.toNat) 0) = x4) then some true else (if 0 ≤ x12 ∧ x12 < (p0.o.length : Int) then (impl_Colouring_at p0.x (p0.o.getD x12.toNat 0) (p0.o.getD ((p1n : Nat) : Int).toNat 0)).bind fun r17 => (impl_Colouring_at p0.y (x5.getD (0 + x12.toNat) 0) x4).bind fun r18 => some (!decide (r17 = r18)) else none)) : Option (Bool)).bind fun s19 => (if s19 then (some false).bind fun rr => some (.inr rr) else some (.inl ())) else none) : Option (Sum (Unit) (Bool))).bind fun os21 => (match os21 with | .inl s21 => impl_tracer_all_on_renumbering_c1_l1 p0 p1n x4 x5 k1 x11 (w64 (x12 + 1)) | .inr rr => some rr) else some x11)
def impl_tracer_all_on_renumbering_c1_l0 (k : Nat) (self : Tra → (List Int) → Nat → (List Int) → Option (Bool × List Int × List Int)) (p0 : Tra) (p1n : Nat) : Nat → Int → (List Int) → (List Int) → Option (Sum (List Int × List Int) (Bool × List Int × List Int))
 | 0, _, _, _ => none
 | k0 + 1, x4, x5, x6 => (if decide (x4 < p0.y.p) then ((if 0 ≤ (p0.o.getD ((p1n : Nat) : Int).toNat 0) ∧ (p0.o.getD ((p1n : Nat) : Int).toNat 0) < 17 then (if 0 ≤ x4 ∧ x4 < 17 then (if !(p0.get ((p0.o.getD ((p1n : Nat) : Int).toNat 0).toNat * 17 + x4.toNat)) then some (.inl (x5, x6)) else (impl_tracer_all_on_renumbering_c1_l1 p0 p1n x4 x5 k true 0 : Option (Bool)).bind fun s22 => ((if s22 then (if 0 + p1n + ([x4]).length ≤ x5.length ∧ 1 ≤ ([x4]).length then (self p0 (splicedL x5 (0 + p1n) (([x4]).length) ([x4])) (p1n + ([x4]).length) x6).bind fun r25 => some (!r25.1, r25.2.1, r25.2.2) else none) else some (false, x5, x6)) : Option (Bool × List Int × List Int)).bind fun s26 => (if s26.1 then (some (.inr (false, s26.2.1, s26.2.2))).bind fun rr => some (.inr rr) else some (.inl (s26.2.1, s26.2.2)))) else none) else none) : Option (Sum (List Int × List Int) (Sum (List Int × List Int) (Bool × List Int × List Int)))).bind fun os28 => (match os28 with | .inl s28 => impl_tracer_all_on_renumbering_c1_l0 k self p0 p1n k0 (w64 (x4 + 1)) s28.1 s28.2 | .inr rr => some rr) else some (.inl (x5, x6)))
def impl_tracer_all_on_renumbering_c1_body (self : Tra → (List Int) → Nat → (List Int) → Option (Bool × List Int × List Int)) (k : Nat) (p0 : Tra) (p1 : List Int) (p1n : Nat) (p2_0 : List Int) : Option (Bool × List Int × List Int) :=
 (if decide (((p1n : Nat) : Int) = (p0.o.length : Int)) then (impl_Colouring_renumbering_c1 p1 p1n p2_0).bind fun r2 => some (r2.1, r2.2.1, r2.2.2) else (if 0 ≤ ((p1n : Nat) : Int) ∧ ((p1n : Nat) : Int) < (p0.o.length : Int) then (impl_tracer_all_on_renumbering_c1_l0 k self p0 p1n k 0 p1 p2_0 : Option (Sum (List Int × List Int) (Bool × List Int × List Int))).bind fun os29 => (match os29 with | .inl s29 => some (true, s29.1, s29.2) | .inr rr => some rr) else none))
def impl_tracer_all_on_renumbering_c1 : Nat → Tra → (List Int) → Nat → (List Int) → Option (Bool × List Int × List Int)
 | 0, _, _, _, _ => none
 | k + 1, p0, p1, p1n, p2_0 => impl_tracer_all_on_renumbering_c1_body (impl_tracer_all_on_renumbering_c1 k) k p0 p1 p1n p2_0
set_option maxRecDepth 100000 in
theorem impl_tracer_all_on_renumbering_c1_ac (k : Nat) (p0 : Tra) (p1 : List Int) (p1n : Nat) (p2_0 : List Int) (r : Bool × List Int × List Int) (h : impl_tracer_all_on_renumbering_c1 k p0 p1 p1n p2_0 = some r) : AC Tryz.prog 106 [.d (.pv (traD p0) 0), .part 0 0 0 p1n, .clo 81 [.ptr 1 0]] [.vec 0 (intsD p1), .ref (.vec 2 0), .vec 0 (intsD p2_0)] (fun res H' => res = [bV r.1] ∧ H' = [.vec 0 (intsD r.2.1), .ref (.vec 2 1), .vec 1 (intsD r.2.2)]) := by
 induction k generalizing p0 p1 p1n p2_0 r with
 | zero => simp [impl_tracer_all_on_renumbering_c1] at h
 | succ k ih =>
  rw [impl_tracer_all_on_renumbering_c1] at h
  obtain ⟨self, hself, hk⟩ : ∃ self : Tra → (List Int) → Nat → (List Int) → Option (Bool × List Int × List Int), (∀ (p0 : Tra) (p1 : List Int) (p1n : Nat) (p2_0 : List Int) (r : Bool × List Int × List Int), self p0 p1 p1n p2_0 = some r → AC Tryz.prog 106 [.d (.pv (traD p0) 0), .part 0 0 0 p1n, .clo 81 [.ptr 1 0]] [.vec 0 (intsD p1), .ref (.vec 2 0), .vec 0 (intsD p2_0)] (fun res H' => res = [bV r.1] ∧ H' = [.vec 0 (intsD r.2.1), .ref (.vec 2 1), .vec 1 (intsD r.2.2)])) ∧ impl_tracer_all_on_renumbering_c1 k = self := ⟨impl_tracer_all_on_renumbering_c1 k, fun p0 p1 p1n p2_0 r h => ih p0 p1 p1n p2_0 r h, rfl⟩
  rw [hk] at h
  clear ih hk
  refine AC_of_body true Tryz.func106 rfl Tryz.ntmps106 (rvs := [.tmp 6]) rfl rfl (fun G hG => ?_)
  have hm : G.H.length = 3 := by rw [hG]; rfl
  have hz : zeroG G.H = true := by rw [hG]; rfl
  refine ACode_weak (Weak_bump 1 2 _ rfl rfl _ rfl) ?_
  unfold impl_tracer_all_on_renumbering_c1_body at h
  refine kR ?_
  refine kN 1 rfl ?_
  refine kR ?_
  refine kM 1 rfl ?_
  refine AOps_q 14 _ rfl rfl rfl (QOp_len_part _ _ _ _ _ _ _ _ _ _ rfl rfl rfl rfl Tryz.underlying29 rfl rfl rfl) ?_
  refine kN 1 rfl ?_
  refine ACode_seq ?_
  refine kR ?_
  refine kM 2 rfl ?_
  refine AOps_q 17 _ rfl rfl rfl (QOp_nilCheck_pv _ _ _ rfl rfl) ?_
  refine AOps_q 18 _ rfl rfl rfl (QOp_fieldAddr_pv _ _ _ _ _ 2 _ _ rfl Tryz.underlying123 rfl _ Tryz.sizeOf29 rfl rfl) ?_
  refine AOps_q 19 _ rfl rfl rfl (QOp_load_pv _ _ _ _ _ rfl Tryz.isAgg29 rfl rfl) ?_
  refine AOps_q 20 _ rfl rfl rfl (QOp_len_sl _ _ _ _ _ _ _ (intsD_length _) rfl rfl rfl rfl Tryz.underlying29 rfl) ?_
  refine AOps_q 21 _ rfl rfl rfl (QOp_eql _ _ _ _ _ _ _ rfl rfl rfl) ?_
  refine AOps_nil ?_
  refine kI h rfl (fun h _ => ?_) (fun h _ => ?_)
  ·refine kR ?_
   refine kM 2 rfl ?_
   obtain ⟨r2, hr2, h⟩ := bindO h
   refine kC [0, 1, 2] 24 (bV r2.1) [.vec 0 (intsD r2.2.1), .ref (.vec 2 2), .vec 2 (intsD r2.2.2)] rfl Tryz.call81 rfl rfl (impl_Colouring_renumbering_c1_ac p1 p1n p2_0 _ hr2) rfl ?_
   refine kN 1 rfl ?_
   refine ACode_ret ?_
   cases h
   exact ⟨_, _, Weak_reset 3 hm hz [6] _ _ rfl rfl, _, _, [], _, (.cons (ResV_tmp _ _ rfl) .nil), rfl, rfl, rfl, rfl, rfl⟩
  refine ACode_skip ?_
  refine kR ?_
  refine kM 1 rfl ?_
  refine AOps_q 26 _ rfl rfl rfl (QOp_nilCheck_pv _ _ _ rfl rfl) ?_
  refine AOps_q 27 _ rfl rfl rfl (QOp_fieldAddr_pv _ _ _ _ _ 2 _ _ rfl Tryz.underlying123 rfl _ Tryz.sizeOf29 rfl rfl) ?_
  refine AOps_q 28 _ rfl rfl rfl (QOp_load_pv _ _ _ _ _ rfl Tryz.isAgg29 rfl rfl) ?_
  refine kM 1 rfl ?_
  obtain ⟨hc3, h⟩ := guardO h
  refine AOps_q 30 _ rfl rfl rfl (QOp_indexAddr_sl _ _ _ _ _ _ _ _ rfl Tryz.underlying29 Tryz.sizeOf2 hc3.1 (by rw [intsD_length]; exact hc3.2) rfl rfl) ?_
  refine AOps_q 31 _ rfl rfl rfl (QOp_load_pv _ _ _ _ _ rfl Tryz.isAgg2 rfl (intsD_get _ _ 0 (by omega))) ?_
  refine kN 1 rfl ?_
  refine kO (fun s29 => []) (fun s29 => [.vec 0 (intsD s29.1), .ref (.vec 2 1), .vec 1 (intsD s29.2)]) h (fun os29 h hks29 => ?_) (fun s29 h => ?_)
  ·refine kR ?_
   refine kM 1 rfl ?_
   refine AOps_q 33 _ rfl rfl rfl (QOp_nilCheck_pv _ _ _ rfl rfl) ?_
   refine AOps_q 34 _ rfl rfl rfl (QOp_fieldAddr_pv _ _ _ _ _ 1 _ _ rfl Tryz.underlying123 rfl _ Tryz.sizeOf57 rfl rfl) ?_
   refine AOps_q 35 _ rfl rfl rfl (QOp_load_pv _ _ _ _ _ rfl Tryz.isAgg57 rfl rfl) ?_
   refine AOps_q 36 _ rfl rfl rfl (QOp_nilCheck_pv _ _ _ rfl rfl) ?_
   refine AOps_q 37 _ rfl rfl rfl (QOp_fieldAddr_pv _ _ _ _ _ 0 _ _ rfl Tryz.underlying26 rfl _ Tryz.sizeOf2 rfl rfl) ?_
   refine AOps_q 38 _ rfl rfl rfl (QOp_load_pv _ _ _ _ _ rfl Tryz.isAgg2 rfl rfl) ?_
   refine kN 1 rfl ?_
   refine ACode_block ?_
   refine ACode_loopW (fun k0 E H => ∃ (x4 : Int) (x5 : List Int) (x6 : List Int), E = [(0, .d (.pv (traD p0) 0)), (1, .part 0 0 0 p1n), (2, .clo 81 [.ptr 1 0]), (8, iV (p0.o.getD ((p1n : Nat) : Int).toNat 0)), (38, iV p0.y.p), (39, iV x4)] ∧ H = [.vec 0 (intsD x5), .ref (.vec 2 1), .vec 1 (intsD x6)] ∧ impl_tracer_all_on_renumbering_c1_l0 k self p0 p1n k0 x4 x5 x6 = some os29) k _ _ (Weak_keep 3 hm [0, 1, 2, 8, 38, 39] [] _ _ rfl rfl rfl) ⟨_, _, _, rfl, rfl, h⟩ ?_
   clear h
   rintro k0 E H ⟨x4, x5, x6, rfl, rfl, h⟩
   cases k0 with
   | zero => cases (show (none : Option (Sum (List Int × List Int) (Bool × List Int × List Int))) = some _ from h)
   | succ k0 =>
    rw [impl_tracer_all_on_renumbering_c1_l0] at h
    refine kR ?_
    refine AOps_q 40 _ rfl rfl rfl (QOp_lss _ _ _ _ _ _ _ rfl rfl rfl) ?_
    refine AOps_nil ?_
    refine ACode_seq ?_
    refine kI h rfl (fun h _ => ?_) (fun h _ => ?_)
    ·refine ACode_skip ?_
     refine kO (fun s28 => [(0, .d (.pv (traD p0) 0)), (1, .part 0 0 0 p1n), (2, .clo 81 [.ptr 1 0]), (8, iV (p0.o.getD ((p1n : Nat) : Int).toNat 0)), (38, iV p0.y.p), (39, iV x4)]) (fun s28 => [.vec 0 (intsD s28.1), .ref (.vec 2 1), .vec 1 (intsD s28.2)]) h (fun os28 h hks28 => ?_) (fun s28 h => ?_)
     ·refine ACode_block ?_
      refine kR ?_
      refine kN 2 rfl ?_
      refine ACode_seq ?_
      refine kR ?_
      refine kM 3 rfl ?_
      refine AOps_q 45 _ rfl rfl rfl (QOp_nilCheck_pv _ _ _ rfl rfl) ?_
      refine AOps_q 46 _ rfl rfl rfl (QOp_fieldAddr_pv _ _ _ _ _ 3 _ _ rfl Tryz.underlying123 rfl _ Tryz.sizeOf121 rfl rfl) ?_
      obtain ⟨hc8, h⟩ := guardO h
      refine AOps_q 47 _ rfl rfl rfl (QOp_indexAddrM_pv _ _ _ _ _ _ _ _ _ _ rfl Tryz.underlying121 Tryz.sizeOf120 hc8.1 hc8.2 rfl rfl) ?_
      obtain ⟨hc9, h⟩ := guardO h
      refine AOps_q 48 _ rfl rfl rfl (QOp_indexAddrA_pv _ _ _ _ _ _ _ _ _ rfl Tryz.underlying120 Tryz.sizeOf4 hc9.1 hc9.2 rfl rfl) ?_
      refine AOps_q 49 _ rfl rfl rfl (QOp_load_pv _ _ _ _ _ rfl Tryz.isAgg4 rfl (traD_get2 _ _ _ (by omega))) ?_
      refine AOps_q 50 _ rfl rfl rfl (QOp_not _ _ _ rfl rfl) ?_
      refine AOps_nil ?_
      refine kI h rfl (fun h _ => ?_) (fun h _ => ?_)
      ·refine ACode_exit ?_
       cases h
       exact ⟨_, rfl, Weak_keep 3 hm [0, 1, 2, 8, 38, 39] [] _ _ rfl rfl rfl⟩
      refine ACode_skip ?_
      refine kR ?_
      refine kN 1 rfl ?_
      refine kB (fun s22 => [(0, .d (.pv (traD p0) 0)), (1, .part 0 0 0 p1n), (2, .clo 81 [.ptr 1 0]), (8, iV (p0.o.getD ((p1n : Nat) : Int).toNat 0)), (9, iV x4), (10, bV s22), (38, iV p0.y.p), (39, iV x4)]) (fun s22 => [.vec 0 (intsD x5), .ref (.vec 2 1), .vec 1 (intsD x6)]) h (fun s22 h => ?_) (fun s22 h => ?_)
      ·refine kR ?_
       refine kM 1 rfl ?_
       refine AOps_q 52 _ rfl rfl rfl (QOp_len_part _ _ _ _ _ _ _ _ _ _ rfl rfl rfl rfl Tryz.underlying29 rfl rfl rfl) ?_
       refine kN 1 rfl ?_
       refine ACode_block ?_
       refine ACode_loopW (fun k1 E H => ∃ (x11 : Bool) (x12 : Int), E = [(0, .d (.pv (traD p0) 0)), (1, .part 0 0 0 p1n), (2, .clo 81 [.ptr 1 0]), (8, iV (p0.o.getD ((p1n : Nat) : Int).toNat 0)), (9, iV x4), (10, bV x11), (38, iV p0.y.p), (39, iV x4), (51, .part 0 0 0 p1n), (52, iV ((p1n : Nat) : Int)), (53, iV x12)] ∧ H = [.vec 0 (intsD x5), .ref (.vec 2 1), .vec 1 (intsD x6)] ∧ impl_tracer_all_on_renumbering_c1_l1 p0 p1n x4 x5 k1 x11 x12 = some s22) k _ _ (Weak_keep 3 hm [0, 1, 2, 8, 9, 10, 38, 39, 51, 52, 53] [] _ _ rfl rfl rfl) ⟨_, _, rfl, rfl, h⟩ ?_
       clear h
       rintro k1 E H ⟨x11, x12, rfl, rfl, h⟩
       cases k1 with
       | zero => cases (show (none : Option (Bool)) = some _ from h)
       | succ k1 =>
        rw [impl_tracer_all_on_renumbering_c1_l1] at h
        refine kR ?_
        refine AOps_q 54 _ rfl rfl rfl (QOp_lss _ _ _ _ _ _ _ rfl rfl rfl) ?_
        refine AOps_nil ?_
        refine ACode_seq ?_
        refine kI h rfl (fun h _ => ?_) (fun h _ => ?_)
        ·refine ACode_skip ?_
         refine kO (fun s21 => [(0, .d (.pv (traD p0) 0)), (1, .part 0 0 0 p1n), (2, .clo 81 [.ptr 1 0]), (8, iV (p0.o.getD ((p1n : Nat) : Int).toNat 0)), (9, iV x4), (10, bV x11), (38, iV p0.y.p), (39, iV x4), (51, .part 0 0 0 p1n), (52, iV ((p1n : Nat) : Int)), (53, iV x12)]) (fun s21 => [.vec 0 (intsD x5), .ref (.vec 2 1), .vec 1 (intsD x6)]) h (fun os21 h hks21 => ?_) (fun s21 h => ?_)
         ·refine ACode_block ?_
          refine kR ?_
          refine kM 1 rfl ?_
          obtain ⟨hc14, h⟩ := guardO h
          refine AOps_q 56 _ rfl rfl rfl (QOp_indexAddr_part _ _ _ _ _ _ _ _ _ _ _ _ rfl Tryz.underlying29 Tryz.sizeOf2 hc14.1 hc14.2.1 rfl rfl rfl rfl) ?_
          refine AOps_q 57 _ rfl rfl rfl (QOp_load_eptr _ _ _ _ _ _ _ rfl Tryz.isAgg2 rfl rfl (intsD_get _ _ 0 (by omega))) ?_
          refine kN 2 rfl ?_
          refine kB (fun s19 => [(0, .d (.pv (traD p0) 0)), (1, .part 0 0 0 p1n), (2, .clo 81 [.ptr 1 0]), (8, iV (p0.o.getD ((p1n : Nat) : Int).toNat 0)), (9, iV x4), (10, bV x11), (38, iV p0.y.p), (39, iV x4), (51, .part 0 0 0 p1n), (52, iV ((p1n : Nat) : Int)), (53, iV x12), (83, bV s19)]) (fun s19 => [.vec 0 (intsD x5), .ref (.vec 2 1), .vec 1 (intsD x6)]) h (fun s19 h => ?_) (fun s19 h => ?_)
          ·refine (ACode_quiet mixed (by kernel_rfl) ?_)
           refine kQ 2 rfl ?_
           refine AQ_q 60 _ rfl rfl rfl (QOp_eql _ _ _ _ _ _ _ rfl rfl rfl) ?_
           refine kQ 1 rfl ?_
           refine AQ_case 61 _ rfl (fun hb15 => ?_) (fun hb15 => ?_)
           ·have h := iteT hb15 h
            refine AQ_skip 62 rfl rfl rfl ?_
            refine AQ_skip 63 rfl rfl rfl ?_
            refine AQ_skip 64 rfl rfl rfl ?_
            refine AQ_skip 65 rfl rfl rfl ?_
            refine AQ_skip 66 rfl rfl rfl ?_
            refine AQ_skip 67 rfl rfl rfl ?_
            refine AQ_skip 68 rfl rfl rfl ?_
            refine AQ_skip 69 rfl rfl rfl ?_
            refine AQ_skip 70 rfl rfl rfl ?_
            refine AQ_skip 71 rfl rfl rfl ?_
            refine AQ_skip 72 rfl rfl rfl ?_
            refine AQ_skip 73 rfl rfl rfl ?_
            refine AQ_skip 74 rfl rfl rfl ?_
            refine AQ_skip 75 rfl rfl rfl ?_
            refine AQ_skip 76 rfl rfl rfl ?_
            refine AQ_skip 77 rfl rfl rfl ?_
            refine AQ_skip 78 rfl rfl rfl ?_
            refine AQ_skip 79 rfl rfl rfl ?_
            refine AQ_skip 80 rfl rfl rfl ?_
            refine AQ_skip 81 rfl rfl rfl ?_
            refine AQ_skip 82 rfl rfl rfl ?_
            refine kQ 1 rfl ?_
            refine AQ_nil ?_
            cases h
            exact Weak_keep 3 hm [0, 1, 2, 8, 9, 10, 38, 39, 51, 52, 53, 83] [] _ _ rfl rfl rfl
           have h := iteF hb15 h
           refine kQ 1 rfl ?_
           refine AQ_q 63 _ rfl rfl rfl (QOp_nilCheck_pv _ _ _ rfl rfl) ?_
           refine AQ_q 64 _ rfl rfl rfl (QOp_fieldAddr_pv _ _ _ _ _ 0 _ _ rfl Tryz.underlying123 rfl _ Tryz.sizeOf57 rfl rfl) ?_
           refine AQ_q 65 _ rfl rfl rfl (QOp_load_pv _ _ _ _ _ rfl Tryz.isAgg57 rfl rfl) ?_
           refine kQ 1 rfl ?_
           refine AQ_q 67 _ rfl rfl rfl (QOp_nilCheck_pv _ _ _ rfl rfl) ?_
           refine AQ_q 68 _ rfl rfl rfl (QOp_fieldAddr_pv _ _ _ _ _ 2 _ _ rfl Tryz.underlying123 rfl _ Tryz.sizeOf29 rfl rfl) ?_
           refine AQ_q 69 _ rfl rfl rfl (QOp_load_pv _ _ _ _ _ rfl Tryz.isAgg29 rfl rfl) ?_
           refine kQ 1 rfl ?_
           obtain ⟨hc16, h⟩ := guardO h
           refine AQ_q 71 _ rfl rfl rfl (QOp_indexAddr_sl _ _ _ _ _ _ _ _ rfl Tryz.underlying29 Tryz.sizeOf2 hc16.1 (by rw [intsD_length]; exact hc16.2) rfl rfl) ?_
           refine AQ_q 72 _ rfl rfl rfl (QOp_load_pv _ _ _ _ _ rfl Tryz.isAgg2 rfl (intsD_get _ _ 0 (by omega))) ?_
           refine kQ 1 rfl ?_
           obtain ⟨r17, hr17, h⟩ := bindO h
           refine AQ_call 74 _ _ _ _ _ _ _ _ _ rfl rfl rfl rfl rfl rfl rfl Tryz.call95 rfl rfl rfl (impl_Colouring_at_ac p0.x (p0.o.getD x12.toNat 0) (p0.o.getD ((p1n : Nat) : Int).toNat 0) _ hr17) ?_
           refine kQ 1 rfl ?_
           refine AQ_q 76 _ rfl rfl rfl (QOp_nilCheck_pv _ _ _ rfl rfl) ?_
           refine AQ_q 77 _ rfl rfl rfl (QOp_fieldAddr_pv _ _ _ _ _ 1 _ _ rfl Tryz.underlying123 rfl _ Tryz.sizeOf57 rfl rfl) ?_
           refine AQ_q 78 _ rfl rfl rfl (QOp_load_pv _ _ _ _ _ rfl Tryz.isAgg57 rfl rfl) ?_
           refine kQ 2 rfl ?_
           obtain ⟨r18, hr18, h⟩ := bindO h
           refine AQ_call 81 _ _ _ _ _ _ _ _ _ rfl rfl rfl rfl rfl rfl rfl Tryz.call95 rfl rfl rfl (impl_Colouring_at_ac p0.y (x5.getD (0 + x12.toNat) 0) x4 _ hr18) ?_
           refine AQ_q 82 _ rfl rfl rfl (QOp_neq _ _ _ _ _ _ _ rfl rfl rfl) ?_
           refine kQ 1 rfl ?_
           refine AQ_nil ?_
           cases h
           exact Weak_keep 3 hm [0, 1, 2, 8, 9, 10, 38, 39, 51, 52, 53, 83] [] _ _ rfl rfl rfl
          refine kI h rfl (fun h _ => ?_) (fun h _ => ?_)
          ·refine kR ?_
           refine kN 1 rfl ?_
           refine ACode_exit ?_
           obtain ⟨rr, hz30, h2⟩ := bindO h
           obtain rfl := Option.some.inj h2
           obtain rfl := Option.some.inj (show some rr = some _ from hks21)
           have h := hz30
           cases h
           exact Weak_keep 3 hm [0, 1, 2, 8, 9, 10, 38, 39] [] _ _ rfl rfl rfl
          refine ACode_skip ?_
          cases h
          exact ⟨_, rfl, Weak_keep 3 hm [0, 1, 2, 8, 9, 10, 38, 39, 51, 52, 53] [] _ _ rfl rfl rfl⟩
         refine (ACode_region ?_)
         refine AOps_q 84 _ rfl rfl rfl (QOp_add _ _ _ _ _ _ _ rfl rfl rfl) ?_
         refine kN 1 rfl ?_
         exact ⟨k1, _, _, Nat.lt_succ_self _, Weak_keep 3 hm [0, 1, 2, 8, 9, 10, 38, 39, 51, 52, 53] [] _ _ rfl rfl rfl, _, _, rfl, rfl, h⟩
        refine ACode_exit ?_
        cases h
        exact Weak_keep 3 hm [0, 1, 2, 8, 9, 10, 38, 39] [] _ _ rfl rfl rfl
      refine kB (fun s26 => [(0, .d (.pv (traD p0) 0)), (1, .part 0 0 0 p1n), (2, .clo 81 [.ptr 1 0]), (8, iV (p0.o.getD ((p1n : Nat) : Int).toNat 0)), (38, iV p0.y.p), (39, iV x4), (95, bV s26.1)]) (fun s26 => [.vec 0 (intsD s26.2.1), .ref (.vec 2 1), .vec 1 (intsD s26.2.2)]) h (fun s26 h => ?_) (fun s26 h => ?_)
      ·refine (ACode_region ?_)
       refine kM 2 rfl ?_
       refine AOps_case 86 _ rfl (fun hb23 => ?_) (fun hb23 => ?_)
       ·have h := iteT hb23 h
        refine kM 3 rfl ?_
        refine AOps_buildSlice 90 _ _ _ [_] (intsD ([x4])) _ rfl rfl rfl rfl rfl (by decide) Tryz.underlying29 Tryz.sizeOf2 (zero_of Tryz.typeInfo2 rfl) rfl rfl (intsD_one _) ?_
        obtain ⟨hc24, h⟩ := guardO h
        refine AOps_append_part 91 _ _ _ _ _ 0 0 0 p1n (p1n + ([x4]).length) _ (intsD x5) (intsD ([x4])) _ rfl rfl rfl rfl rfl rfl rfl Tryz.underlying29 Tryz.type2 rfl rfl rfl rfl rfl (intsD_one _) (by rw [intsD_length]; exact hc24.2) (by rw [intsD_length, intsD_length]; exact hc24.1) (by rw [intsD_length]) ?_
        rw [intsD_length, intsD_spl]
        refine kM 1 rfl ?_
        obtain ⟨r25, hr25, h⟩ := bindO h
        refine kC [0, 1, 2] 93 (bV r25.1) [.vec 0 (intsD r25.2.1), .ref (.vec 2 2), .vec 2 (intsD r25.2.2), .vec 0 (intsD ([x4]))] rfl Tryz.call106 rfl rfl (hself p0 (splicedL x5 (0 + p1n) (([x4]).length) ([x4])) (p1n + ([x4]).length) x6 _ hr25) rfl ?_
        refine AOps_q 94 _ rfl rfl rfl (QOp_not _ _ _ rfl rfl) ?_
        refine kN 1 rfl ?_
        cases h
        exact Weak_trans (Weak_keep 3 hm [0, 1, 2, 8, 38, 39, 95] [] _ _ rfl rfl rfl) (Weak_reset 3 hm hz [0, 1, 2, 8, 38, 39, 95] _ _ rfl rfl)
       have h := iteF hb23 h
       refine AOps_skip 87 rfl rfl rfl ?_
       refine AOps_skip 88 rfl rfl rfl ?_
       refine AOps_skip 89 rfl rfl rfl ?_
       refine AOps_skip 90 rfl rfl rfl ?_
       refine AOps_skip 91 rfl rfl rfl ?_
       refine AOps_skip 92 rfl rfl rfl ?_
       refine AOps_skip 93 rfl rfl rfl ?_
       refine AOps_skip 94 rfl rfl rfl ?_
       refine kN 1 rfl ?_
       cases h
       exact Weak_keep 3 hm [0, 1, 2, 8, 38, 39, 95] [] _ _ rfl rfl rfl
      refine kI h rfl (fun h _ => ?_) (fun h _ => ?_)
      ·refine kR ?_
       refine kN 1 rfl ?_
       refine ACode_ret ?_
       obtain ⟨rr, hz31, h2⟩ := bindO h
       obtain rfl := Option.some.inj h2
       obtain rfl := Option.some.inj (show some rr = some _ from hks28)
       have h := hz31
       cases h
       have h := hks29
       cases h
       exact ⟨_, _, fun r a w h => ⟨r, h⟩, _, _, [], _, (.cons (ResV_tmp _ _ rfl) .nil), rfl, rfl, rfl, rfl, rfl⟩
      refine ACode_skip ?_
      cases h
      exact ⟨_, rfl, Weak_keep 3 hm [0, 1, 2, 8, 38, 39] [] _ _ rfl rfl rfl⟩
     refine (ACode_region ?_)
     refine AOps_q 96 _ rfl rfl rfl (QOp_add _ _ _ _ _ _ _ rfl rfl rfl) ?_
     refine kN 1 rfl ?_
     exact ⟨k0, _, _, Nat.lt_succ_self _, Weak_keep 3 hm [0, 1, 2, 8, 38, 39] [] _ _ rfl rfl rfl, _, _, _, rfl, rfl, h⟩
    refine ACode_exit ?_
    cases h
    exact ⟨_, rfl, Weak_keep 3 hm [] [] _ _ rfl rfl rfl⟩
  refine kR ?_
  refine kN 1 rfl ?_
  refine ACode_ret ?_
  cases h
  exact ⟨_, _, fun r a w h => ⟨r, h⟩, _, _, [], _, (.cons (ResV_tmp _ _ rfl) .nil), rfl, rfl, rfl, rfl, rfl⟩

-- (*loop.example/g01362/impl.Colouring).leading
def impl_Colouring_leading_on_renumbering_c1 (k : Nat) (p0 : Col) (p1 : Col) (p2_0 : List Int) : Option (Bool × List Int) :=
 (impl_Colouring_points k p0).bind fun r1 => (impl_newTracer k p0 p1 r1).bind fun r2 => (match r2 with | none => letO () fun (s5 : Unit) => some (true, p2_0) | some l3 => ((impl_tracer_all_on_renumbering_c1 k l3 (List.replicate 17 (0 : Int)) 0 p2_0).bind fun r7 => some (r7.1, r7.2.2) : Option (Bool × List Int)).bind fun s8 => some (s8.1, s8.2))
set_option maxRecDepth 100000 in
theorem impl_Colouring_leading_on_renumbering_c1_ac (k : Nat) (p0 : Col) (p1 : Col) (p2_0 : List Int) (r : Bool × List Int) (h : impl_Colouring_leading_on_renumbering_c1 k p0 p1 p2_0 = some r) : AC Tryz.prog 69 [.d (.pv (colD p0) 0), .d (.pv (colD p1) 0), .clo 81 [.ptr 0 0]] [.ref (.vec 1 0), .vec 0 (intsD p2_0)] (fun res H' => res = [bV r.1] ∧ H' = [.ref (.vec 1 1), .vec 1 (intsD r.2)]) := by
 refine AC_of_body true Tryz.func69 rfl Tryz.ntmps69 (rvs := [.tmp 6]) rfl rfl (fun G hG => ?_)
 have hm : G.H.length = 2 := by rw [hG]; rfl
 have hz : zeroG G.H = true := by rw [hG]; rfl
 refine ACode_weak (Weak_bump 0 1 _ rfl rfl _ rfl) ?_
 unfold impl_Colouring_leading_on_renumbering_c1 at h
 refine kR ?_
 refine kN 1 rfl ?_
 refine kR ?_
 refine kM 3 rfl ?_
 obtain ⟨r1, hr1, h⟩ := bindO h
 refine kC [] 11 (.vec 2 0) [.ref (.vec 1 1), .vec 1 (intsD p2_0), .vec 0 (intsD r1)] rfl Tryz.call108 rfl rfl (impl_Colouring_points_ac k p0 _ hr1) rfl ?_
 refine AOps_freezeL [11] 2 0 _ (allc (rfl) (fun _ h => nomatch h)) rfl ?_
 obtain ⟨r2, hr2, h⟩ := bindO h
 refine AOps_call [] 12 _ _ _ _ _ _ _ _ _ _ rfl rfl rfl rfl rfl rfl rfl Tryz.call103 rfl (nodupB_sound _ rfl) rfl rfl rfl (impl_newTracer_ac k p0 p1 r1 _ hr2) ?_
 revert h
 cases hx4 : r2 with
 | none =>
  intro h
  rintro _ _ ⟨rfl, rfl⟩
  refine ⟨(fun _ h => nomatch h), (allc (trivial) (fun _ h => nomatch h)), AOps_as 12 (v' := .d (.s (.pointer none))) (H' := [.ref (.vec 1 1), .vec 1 (intsD p2_0), .gone]) rfl rfl ?_⟩
  refine kN 1 rfl ?_
  refine kL (fun s5 => [(6, bV true)]) (fun s5 => [.ref (.vec 1 1), .vec 1 (intsD p2_0)]) h (fun s5 h => ?_) (fun s5 h => ?_)
  ·refine (ACode_region ?_)
   refine kM 1 rfl ?_
   refine AOps_q 14 _ rfl rfl rfl (QOp_pnil _ _ _ _ _ rfl rfl rfl Tryz.underlying116) ?_
   refine kM 1 rfl ?_
   refine AOps_skip 16 rfl rfl rfl ?_
   refine AOps_skip 17 rfl rfl rfl ?_
   refine AOps_skip 18 rfl rfl rfl ?_
   refine AOps_skip 19 rfl rfl rfl ?_
   refine kN 2 rfl ?_
   cases h
   exact Weak_keep 2 hm [6] [] _ _ rfl rfl rfl
  refine ACode_ret ?_
  cases h
  exact ⟨_, _, fun r a w h => ⟨r, h⟩, _, _, [], _, (.cons (ResV_tmp _ _ rfl) .nil), rfl, rfl, rfl, rfl, rfl⟩
 | some l3 =>
  intro h
  rintro _ _ ⟨rfl, rfl⟩
  refine ⟨(fun _ h => nomatch h), (allc (trivial) (fun _ h => nomatch h)), AOps_as 12 (v' := .d (.pv (traD l3) 0)) (H' := [.ref (.vec 1 1), .vec 1 (intsD p2_0), .gone]) rfl rfl ?_⟩
  refine kN 1 rfl ?_
  refine kB (fun s8 => [(6, bV s8.1)]) (fun s8 => [.ref (.vec 1 1), .vec 1 (intsD s8.2)]) h (fun s8 h => ?_) (fun s8 h => ?_)
  ·refine (ACode_region ?_)
   refine kM 1 rfl ?_
   refine AOps_q 14 _ rfl rfl rfl (QOp_pvnil _ _ _ _ _ _ _ rfl rfl rfl Tryz.underlying116) ?_
   refine kM 2 rfl ?_
   refine AOps_makeBufG intsD iD 0 (intsD_rep · _) 17 _ _ _ _ _ _ 17 _ (.int .i64 0) rfl rfl rfl rfl rfl rfl Tryz.underlying29 Tryz.type2 rfl rfl (by decide) rfl rfl (by decide) ?_
   refine kM 1 rfl ?_
   obtain ⟨r7, hr7, h⟩ := bindO h
   refine kC [3, 0, 1] 19 (bV r7.1) [.ref (.vec 1 2), .vec 2 (intsD r7.2.2), .gone, .vec 0 (intsD r7.2.1)] rfl Tryz.call106 rfl rfl (impl_tracer_all_on_renumbering_c1_ac k l3 (List.replicate 17 (0 : Int)) 0 p2_0 _ hr7) rfl ?_
   refine kN 2 rfl ?_
   cases h
   exact Weak_trans (Weak_keep 2 hm [6] [] _ _ rfl rfl rfl) (Weak_reset 2 hm hz [6] _ _ rfl rfl)
  refine ACode_ret ?_
  cases h
  exact ⟨_, _, fun r a w h => ⟨r, h⟩, _, _, [], _, (.cons (ResV_tmp _ _ rfl) .nil), rfl, rfl, rfl, rfl, rfl⟩

-- (*loop.example/g01362/impl.Colouring).renumbering
def impl_Colouring_renumbering (k : Nat) (p0 : Col) (p1 : Col) : Option (List Int × Bool) :=
 (impl_Colouring_leading_on_renumbering_c1 k p0 p1 ([] : List Int)).bind fun r1 => some (r1.2, !r1.1)
set_option maxRecDepth 100000 in
theorem impl_Colouring_renumbering_ac (k : Nat) (p0 : Col) (p1 : Col) (r : List Int × Bool) (h : impl_Colouring_renumbering k p0 p1 = some r) : AC Tryz.prog 37 [.d (.pv (colD p0) 0), .d (.pv (colD p1) 0)] [] (fun res H' => res = [.vec 0 0, bV r.2] ∧ H' = [.vec 0 (intsD r.1)]) := by
 refine AC_of_body true Tryz.func37 rfl Tryz.ntmps37 (rvs := [.tmp 4, .tmp 5]) rfl rfl (fun G hG => ?_)
 have hm : G.H.length = 0 := by rw [hG]; rfl
 have hz : zeroG G.H = true := by rw [hG]; rfl
 unfold impl_Colouring_renumbering at h
 refine kR ?_
 refine kN 2 rfl ?_
 refine kR ?_
 refine AOps_buildSlice 8 _ _ _ [] (intsD ([] : List Int)) _ rfl rfl rfl rfl rfl (by decide) Tryz.underlying29 Tryz.sizeOf2 (zero_of Tryz.typeInfo2 rfl) rfl rfl (intsD_one _) ?_
 refine AOps_alloc 6 _ _ ([.sl (some true) []]) (zero_of Tryz.typeInfo29 rfl) (by rfl) rfl rfl rfl rfl ?_
 refine AOps_storeR 1 _ _ _ _ _ rfl rfl rfl rfl rfl rfl rfl rfl Tryz.sizeOf29 (fun r a w hr => vec_one hr rfl rfl rfl) ?_
 refine AOps_nil ?_
 refine kR ?_
 refine kM 2 rfl ?_
 refine AOps_q 11 _ rfl rfl rfl (QOp_makeFunc _ _ _ rfl rfl) ?_
 obtain ⟨r1, hr1, h⟩ := bindO h
 refine kC [1, 0] 12 (bV r1.1) [.vec 1 (intsD r1.2), .ref (.vec 0 1)] rfl Tryz.call69 rfl rfl (impl_Colouring_leading_on_renumbering_c1_ac k p0 p1 ([] : List Int) _ hr1) rfl ?_
 refine kN 1 rfl ?_
 refine kR ?_
 refine AOps_q 13 _ rfl rfl rfl (QOp_load_ref _ _ _ _ rfl Tryz.isAgg29 rfl rfl) ?_
 refine kM 1 rfl ?_
 refine AOps_q 15 _ rfl rfl rfl (QOp_not _ _ _ rfl rfl) ?_
 refine kN 2 rfl ?_
 refine ACode_ret ?_
 cases h
 exact ⟨_, _, Weak_reset 0 hm hz [4, 5] _ _ rfl rfl, _, _, [0], _, (.cons (ResV_tmp _ _ rfl) (.cons (ResV_tmp _ _ rfl) .nil)), rfl, rfl, rfl, rfl, rfl⟩

-- loop.example/g01362/impl.FindRenumbering
def impl_FindRenumbering (k : Nat) (p0 : Col) (p1 : Col) : Option (Option (List Int) × Int) :=
 (((impl_Colouring_isColouring k p0).bind fun r1 => (if !r1 then some true else (impl_Colouring_isColouring k p1).bind fun r3 => some (!r3)) : Option (Bool)).bind fun s4 => (if s4 then some (.inr (none, 1)) else some (.inl ())) : Option (Sum (Unit) (Option (List Int) × Int))).bind fun os6 => (match os6 with | .inl s6 => (impl_Colouring_renumbering k p0 p1).bind fun r7 => (if !r7.2 then some (none, 4) else some (some r7.1, 0)) | .inr rr => some rr)
set_option maxRecDepth 100000 in
theorem impl_FindRenumbering_ac (k : Nat) (p0 : Col) (p1 : Col) (r : Option (List Int) × Int) (h : impl_FindRenumbering k p0 p1 = some r) : AC Tryz.prog 7 [.d (.agg (colD p0)), .d (.agg (colD p1))] [] (fun res H' => res = [ownA 0 (r.1.map intsD), iV r.2] ∧ H' = [] ++ ownH (r.1.map intsD)) := by
 refine AC_of_body false Tryz.func7 rfl Tryz.ntmps7 (rvs := [.tmp 4, .tmp 5]) rfl rfl (fun G hG => ?_)
 have hm : G.H.length = 0 := by rw [hG]; rfl
 have hz : zeroG G.H = true := by rw [hG]; rfl
 unfold impl_FindRenumbering at h
 refine kR ?_
 refine AOps_boxI 2 _ _ (.agg (colD p0)) (colD p0) rfl (colD_one _) rfl rfl rfl rfl rfl ?_
 refine AOps_boxI 3 _ _ (.agg (colD p1)) (colD p1) rfl (colD_one _) rfl rfl rfl rfl rfl ?_
 refine kN 2 rfl ?_
 refine kO (fun s6 => [(2, .d (.pv (colD p0) 0)), (3, .d (.pv (colD p1) 0))]) (fun s6 => []) h (fun os6 h hks6 => ?_) (fun s6 h => ?_)
 ·refine kB (fun s4 => [(2, .d (.pv (colD p0) 0)), (3, .d (.pv (colD p1) 0)), (13, bV s4)]) (fun s4 => []) h (fun s4 h => ?_) (fun s4 h => ?_)
  ·refine (ACode_region ?_)
   obtain ⟨r1, hr1, h⟩ := bindO h
   refine kC [] 8 (bV r1) [] rfl Tryz.call36 rfl rfl (impl_Colouring_isColouring_ac k p0 _ hr1) rfl ?_
   refine AOps_q 9 _ rfl rfl rfl (QOp_not _ _ _ rfl rfl) ?_
   refine kM 1 rfl ?_
   refine AOps_case 10 _ rfl (fun hb2 => ?_) (fun hb2 => ?_)
   ·have h := iteT hb2 h
    refine AOps_skip 11 rfl rfl rfl ?_
    refine AOps_skip 12 rfl rfl rfl ?_
    refine kN 1 rfl ?_
    cases h
    exact Weak_keep 0 hm [2, 3, 13] [] _ _ rfl rfl rfl
   have h := iteF hb2 h
   obtain ⟨r3, hr3, h⟩ := bindO h
   refine kC [] 11 (bV r3) [] rfl Tryz.call36 rfl rfl (impl_Colouring_isColouring_ac k p1 _ hr3) rfl ?_
   refine AOps_q 12 _ rfl rfl rfl (QOp_not _ _ _ rfl rfl) ?_
   refine kN 1 rfl ?_
   cases h
   exact Weak_keep 0 hm [2, 3, 13] [] _ _ rfl rfl rfl
  refine kI h rfl (fun h _ => ?_) (fun h _ => ?_)
  ·refine kR ?_
   refine kN 2 rfl ?_
   refine ACode_ret ?_
   cases h
   have h := hks6
   cases h
   exact ⟨_, _, fun r a w h => ⟨r, h⟩, _, _, [], _, (.cons (ResV_tmp _ _ rfl) (.cons (ResV_tmp _ _ rfl) .nil)), rfl, rfl, rfl, rfl, rfl⟩
  refine ACode_skip ?_
  cases h
  exact ⟨_, rfl, Weak_keep 0 hm [2, 3] [] _ _ rfl rfl rfl⟩
 refine kR ?_
 obtain ⟨r7, hr7, h⟩ := bindO h
 refine kC [] 15 (.tup [.vec 0 0, bV r7.2]) [.vec 0 (intsD r7.1)] rfl Tryz.call37 rfl rfl (impl_Colouring_renumbering_ac k p0 p1 _ hr7) rfl ?_
 refine kN 5 rfl ?_
 refine ACode_seq ?_
 refine kR ?_
 refine kM 1 rfl ?_
 refine AOps_q 19 _ rfl rfl rfl (QOp_not _ _ _ rfl rfl) ?_
 refine AOps_nil ?_
 refine kI h rfl (fun h _ => ?_) (fun h _ => ?_)
 ·refine kR ?_
  refine kN 2 rfl ?_
  refine ACode_ret ?_
  cases h
  exact ⟨_, _, fun r a w h => ⟨r, h⟩, _, _, [], _, (.cons (ResV_tmp _ _ rfl) (.cons (ResV_tmp _ _ rfl) .nil)), rfl, rfl, rfl, rfl, rfl⟩
 refine ACode_skip ?_
 refine kR ?_
 refine kN 3 rfl ?_
 refine ACode_ret ?_
 cases h
 exact ⟨_, _, Weak_reset 0 hm hz [4, 5] _ _ rfl rfl, _, _, [0], _, (.cons (ResV_tmp _ _ rfl) (.cons (ResV_tmp _ _ rfl) .nil)), rfl, rfl, rfl, rfl, rfl⟩

-- loop.example/g01362/spec.l01Around
def spec_l01Around_l0 (p0 : Col) (p1 : Int) (p2 : Int) : Nat → Int → Int → Option (Int)
 | 0, _, _ => none
 | k0 + 1, x1, x2 => (if decide (x2 < p0.p) then (((if !decide (x2 = p1) then (spec_l01At p0 p1 x2).bind fun r5 => some (decide (r5 = p2)) else some false) : Option (Bool)).bind fun s6 => (if s6 then (if 0 ≤ IntKind.u64.wrap x2 then some (bOr .i64 x1 (bShl .i64 1 (IntKind.u64.wrap x2))) else none) else some x1) : Option (Int)).bind fun s9 => spec_l01Around_l0 p0 p1 p2 k0 s9 (w64 (x2 + 1)) else some x1)
def spec_l01Around (k : Nat) (p0 : Col) (p1 : Int) (p2 : Int) : Option (Int) :=
 (spec_l01Around_l0 p0 p1 p2 k 0 0 : Option (Int)).bind fun s10 => some s10
set_option maxRecDepth 100000 in
theorem spec_l01Around_ac (k : Nat) (p0 : Col) (p1 : Int) (p2 : Int) (r : Int) (h : spec_l01Around k p0 p1 p2 = some r) : AC Tryz.prog 111 [.d (.agg (colD p0)), iV p1, iV p2] [] (fun res H' => res = [iV r] ∧ H' = []) := by
 refine AC_of_body true Tryz.func111 rfl Tryz.ntmps111 (rvs := [.tmp 6]) rfl rfl (fun G hG => ?_)
 have hm : G.H.length = 0 := by rw [hG]; rfl
 have hz : zeroG G.H = true := by rw [hG]; rfl
 unfold spec_l01Around at h
 refine kR ?_
 refine AOps_boxI 3 _ _ (.agg (colD p0)) (colD p0) rfl (colD_one _) rfl rfl rfl rfl rfl ?_
 refine kN 1 rfl ?_
 refine kR ?_
 refine kN 1 rfl ?_
 refine kB (fun s10 => [(7, iV s10)]) (fun s10 => []) h (fun s10 h => ?_) (fun s10 h => ?_)
 ·refine kR ?_
  refine kN 1 rfl ?_
  refine ACode_block ?_
  refine ACode_loopW (fun k0 E H => ∃ (x1 : Int) (x2 : Int), E = [(1, iV p1), (2, iV p2), (3, .d (.pv (colD p0) 0)), (7, iV x1), (8, iV x2)] ∧ H = [] ∧ spec_l01Around_l0 p0 p1 p2 k0 x1 x2 = some s10) k _ _ (Weak_keep 0 hm [1, 2, 3, 7, 8] [] _ _ rfl rfl rfl) ⟨_, _, rfl, rfl, h⟩ ?_
  clear h
  rintro k0 E H ⟨x1, x2, rfl, rfl, h⟩
  cases k0 with
  | zero => cases (show (none : Option (Int)) = some _ from h)
  | succ k0 =>
   rw [spec_l01Around_l0] at h
   refine ACode_seq ?_
   refine kR ?_
   refine kM 1 rfl ?_
   refine AOps_q 10 _ rfl rfl rfl (QOp_fieldAddr_pv _ _ _ _ _ 0 _ _ rfl Tryz.underlying26 rfl _ Tryz.sizeOf2 rfl rfl) ?_
   refine AOps_q 11 _ rfl rfl rfl (QOp_load_pv _ _ _ _ _ rfl Tryz.isAgg2 rfl rfl) ?_
   refine AOps_q 12 _ rfl rfl rfl (QOp_lss _ _ _ _ _ _ _ rfl rfl rfl) ?_
   refine AOps_nil ?_
   refine kI h rfl (fun h _ => ?_) (fun h _ => ?_)
   ·refine ACode_skip ?_
    refine kB (fun s9 => [(1, iV p1), (2, iV p2), (3, .d (.pv (colD p0) 0)), (7, iV s9), (8, iV x2)]) (fun s9 => []) h (fun s9 h => ?_) (fun s9 h => ?_)
    ·refine ACode_block ?_
     refine kB (fun s6 => [(1, iV p1), (2, iV p2), (3, .d (.pv (colD p0) 0)), (7, iV x1), (8, iV x2), (25, bV s6)]) (fun s6 => []) h (fun s6 h => ?_) (fun s6 h => ?_)
     ·refine (ACode_region ?_)
      refine kM 2 rfl ?_
      refine AOps_q 17 _ rfl rfl rfl (QOp_neq _ _ _ _ _ _ _ rfl rfl rfl) ?_
      refine kM 1 rfl ?_
      refine AOps_case 18 _ rfl (fun hb4 => ?_) (fun hb4 => ?_)
      ·have h := iteT hb4 h
       refine AOps_q 19 _ rfl rfl rfl (QOp_loadN_pv _ _ _ _ _ _ rfl Tryz.isAgg26 Tryz.sizeOf26 rfl (colD_all _) (colD_length _)) ?_
       refine kM 2 rfl ?_
       obtain ⟨r5, hr5, h⟩ := bindO h
       refine kC [] 22 (iV r5) [] rfl Tryz.call89 rfl rfl (spec_l01At_ac p0 p1 x2 _ hr5) rfl ?_
       refine kM 1 rfl ?_
       refine AOps_q 24 _ rfl rfl rfl (QOp_eql _ _ _ _ _ _ _ rfl rfl rfl) ?_
       refine kN 1 rfl ?_
       cases h
       exact Weak_keep 0 hm [1, 2, 3, 7, 8, 25] [] _ _ rfl rfl rfl
      have h := iteF hb4 h
      refine AOps_skip 19 rfl rfl rfl ?_
      refine AOps_skip 20 rfl rfl rfl ?_
      refine AOps_skip 21 rfl rfl rfl ?_
      refine AOps_skip 22 rfl rfl rfl ?_
      refine AOps_skip 23 rfl rfl rfl ?_
      refine AOps_skip 24 rfl rfl rfl ?_
      refine kN 1 rfl ?_
      cases h
      exact Weak_keep 0 hm [1, 2, 3, 7, 8, 25] [] _ _ rfl rfl rfl
     refine kI h rfl (fun h _ => ?_) (fun h _ => ?_)
     ·refine (ACode_region ?_)
      refine kM 2 rfl ?_
      refine AOps_q 28 _ rfl rfl rfl (QOp_conv _ _ _ _ _ _ rfl rfl Tryz.underlying97 rfl) ?_
      obtain ⟨hc8, h⟩ := guardO h
      refine AOps_q 29 _ rfl rfl rfl (QOp_shl _ _ _ _ _ _ _ _ hc8 rfl rfl rfl) ?_
      refine AOps_q 30 _ rfl rfl rfl (QOp_or _ _ _ _ _ _ _ rfl rfl rfl) ?_
      refine kN 1 rfl ?_
      cases h
      exact Weak_keep 0 hm [1, 2, 3, 7, 8] [] _ _ rfl rfl rfl
     refine ACode_skip ?_
     cases h
     exact Weak_keep 0 hm [1, 2, 3, 7, 8] [] _ _ rfl rfl rfl
    refine (ACode_region ?_)
    refine kM 1 rfl ?_
    refine AOps_q 14 _ rfl rfl rfl (QOp_add _ _ _ _ _ _ _ rfl rfl rfl) ?_
    refine kN 1 rfl ?_
    exact ⟨k0, _, _, Nat.lt_succ_self _, Weak_keep 0 hm [1, 2, 3, 7, 8] [] _ _ rfl rfl rfl, _, _, rfl, rfl, h⟩
   refine ACode_exit ?_
   cases h
   exact Weak_keep 0 hm [7] [] _ _ rfl rfl rfl
 refine kR ?_
 refine kN 2 rfl ?_
 refine ACode_ret ?_
 cases h
 exact ⟨_, _, fun r a w h => ⟨r, h⟩, _, _, [], _, (.cons (ResV_tmp _ _ rfl) .nil), rfl, rfl, rfl, rfl, rfl⟩

-- loop.example/g01362/spec.l01Ones
def spec_l01Ones_l0 : Nat → Int → Int → Option (Int)
 | 0, _, _ => none
 | k0 + 1, x1, x2 => (if decide (0 < x1) then spec_l01Ones_l0 k0 (w64 (x1.tdiv 2)) (w64 (x2 + (x1.tmod 2))) else some x2)
def spec_l01Ones (k : Nat) (p0 : Int) : Option (Int) :=
 (spec_l01Ones_l0 k p0 0 : Option (Int)).bind fun s4 => some s4
set_option maxRecDepth 100000 in
theorem spec_l01Ones_ac (k : Nat) (p0 : Int) (r : Int) (h : spec_l01Ones k p0 = some r) : AC Tryz.prog 110 [iV p0] [] (fun res H' => res = [iV r] ∧ H' = []) := by
 refine AC_of_body true Tryz.func110 rfl Tryz.ntmps110 (rvs := [.tmp 2]) rfl rfl (fun G hG => ?_)
 have hm : G.H.length = 0 := by rw [hG]; rfl
 have hz : zeroG G.H = true := by rw [hG]; rfl
 unfold spec_l01Ones at h
 refine kR ?_
 refine kN 1 rfl ?_
 refine kR ?_
 refine kN 1 rfl ?_
 refine kB (fun s4 => [(3, iV s4)]) (fun s4 => []) h (fun s4 h => ?_) (fun s4 h => ?_)
 ·refine ACode_block ?_
  refine ACode_loopW (fun k0 E H => ∃ (x1 : Int) (x2 : Int), E = [(0, iV x1), (3, iV x2)] ∧ H = [] ∧ spec_l01Ones_l0 k0 x1 x2 = some s4) k _ _ (Weak_keep 0 hm [0, 3] [] _ _ rfl rfl rfl) ⟨_, _, rfl, rfl, h⟩ ?_
  clear h
  rintro k0 E H ⟨x1, x2, rfl, rfl, h⟩
  cases k0 with
  | zero => cases (show (none : Option (Int)) = some _ from h)
  | succ k0 =>
   rw [spec_l01Ones_l0] at h
   refine ACode_seq ?_
   refine kR ?_
   refine kM 1 rfl ?_
   refine AOps_q 5 _ rfl rfl rfl (QOp_gtr _ _ _ _ _ _ _ rfl rfl rfl) ?_
   refine AOps_nil ?_
   refine kI h rfl (fun h _ => ?_) (fun h _ => ?_)
   ·refine ACode_skip ?_
    refine ACode_seq ?_
    refine ACode_block ?_
    refine (ACode_region ?_)
    refine kM 2 rfl ?_
    refine AOps_q 10 _ rfl rfl rfl (QOp_rem _ _ _ _ _ _ _ (by decide) rfl rfl rfl) ?_
    refine AOps_q 11 _ rfl rfl rfl (QOp_add _ _ _ _ _ _ _ rfl rfl rfl) ?_
    refine kN 1 rfl ?_
    refine (ACode_region ?_)
    refine kM 1 rfl ?_
    refine AOps_q 7 _ rfl rfl rfl (QOp_quo _ _ _ _ _ _ _ (by decide) rfl rfl rfl) ?_
    refine kN 1 rfl ?_
    exact ⟨k0, _, _, Nat.lt_succ_self _, Weak_keep 0 hm [0, 3] [] _ _ rfl rfl rfl, _, _, rfl, rfl, h⟩
   refine ACode_exit ?_
   cases h
   exact Weak_keep 0 hm [3] [] _ _ rfl rfl rfl
 refine kR ?_
 refine kN 2 rfl ?_
 refine ACode_ret ?_
 cases h
 exact ⟨_, _, fun r a w h => ⟨r, h⟩, _, _, [], _, (.cons (ResV_tmp _ _ rfl) .nil), rfl, rfl, rfl, rfl, rfl⟩

-- loop.example/g01362/spec.l06Types
def spec_l06Types_l1 (k : Nat) (p0 : Col) (x1 : Int) : Nat → Int → Int → Option (Int)
 | 0, _, _ => none
 | k1 + 1, x4, x5 => (if decide (x5 < p0.k) then (spec_l01Around k p0 x1 x5).bind fun r7 => (spec_l01Ones k r7).bind fun r8 => spec_l06Types_l1 k p0 x1 k1 (w64 ((w64 (x4 * 18)) + r8)) (w64 (x5 + 1)) else some x4)
def spec_l06Types_l0 (k : Nat) (p0 : Col) : Nat → Int → (List Int) → Option (List Int)
 | 0, _, _ => none
 | k0 + 1, x1, x2 => (if decide (x1 < p0.p) then ((spec_l06Types_l1 k p0 x1 k 0 0 : Option (Int)).bind fun s9 => (if x2.length + ([s9]).length ≤ 1099511627776 then some (x2 ++ ([s9])) else none) : Option (List Int)).bind fun s11 => spec_l06Types_l0 k p0 k0 (w64 (x1 + 1)) s11 else some x2)
def spec_l06Types (k : Nat) (p0 : Col) : Option (List Int) :=
 (spec_l06Types_l0 k p0 k 0 ([] : List Int) : Option (List Int)).bind fun s12 => some s12
set_option maxRecDepth 100000 in
theorem spec_l06Types_ac (k : Nat) (p0 : Col) (r : List Int) (h : spec_l06Types k p0 = some r) : AC Tryz.prog 83 [.d (.agg (colD p0))] [] (fun res H' => res = [.vec 0 0] ∧ H' = [.vec 0 (intsD r)]) := by
 refine AC_of_body true Tryz.func83 rfl Tryz.ntmps83 (rvs := [.tmp 2]) rfl rfl (fun G hG => ?_)
 have hm : G.H.length = 0 := by rw [hG]; rfl
 have hz : zeroG G.H = true := by rw [hG]; rfl
 unfold spec_l06Types at h
 refine kR ?_
 refine AOps_boxI 1 _ _ (.agg (colD p0)) (colD p0) rfl (colD_one _) rfl rfl rfl rfl rfl ?_
 refine kN 1 rfl ?_
 refine kR ?_
 refine AOps_buildSlice 7 _ _ _ [] (intsD ([] : List Int)) _ rfl rfl rfl rfl rfl (by decide) Tryz.underlying29 Tryz.sizeOf2 (zero_of Tryz.typeInfo2 rfl) rfl rfl (intsD_one _) ?_
 refine kN 1 rfl ?_
 refine kB (fun s12 => [(3, .vec 0 0)]) (fun s12 => [.vec 0 (intsD s12)]) h (fun s12 h => ?_) (fun s12 h => ?_)
 ·refine kR ?_
  refine kN 1 rfl ?_
  refine ACode_block ?_
  refine ACode_loopW (fun k0 E H => ∃ (x1 : Int) (x2 : List Int), E = [(1, .d (.pv (colD p0) 0)), (3, .vec 0 0), (4, iV x1)] ∧ H = [.vec 0 (intsD x2)] ∧ spec_l06Types_l0 k p0 k0 x1 x2 = some s12) k _ _ (Weak_keep 0 hm [1, 3, 4] [0] _ _ rfl rfl rfl) ⟨_, _, rfl, rfl, h⟩ ?_
  clear h
  rintro k0 E H ⟨x1, x2, rfl, rfl, h⟩
  cases k0 with
  | zero => cases (show (none : Option (List Int)) = some _ from h)
  | succ k0 =>
   rw [spec_l06Types_l0] at h
   refine ACode_seq ?_
   refine kR ?_
   refine kM 1 rfl ?_
   refine AOps_q 9 _ rfl rfl rfl (QOp_fieldAddr_pv _ _ _ _ _ 0 _ _ rfl Tryz.underlying26 rfl _ Tryz.sizeOf2 rfl rfl) ?_
   refine AOps_q 10 _ rfl rfl rfl (QOp_load_pv _ _ _ _ _ rfl Tryz.isAgg2 rfl rfl) ?_
   refine AOps_q 11 _ rfl rfl rfl (QOp_lss _ _ _ _ _ _ _ rfl rfl rfl) ?_
   refine AOps_nil ?_
   refine kI h rfl (fun h _ => ?_) (fun h _ => ?_)
   ·refine ACode_skip ?_
    refine kB (fun s11 => [(1, .d (.pv (colD p0) 0)), (3, .vec 0 0), (4, iV x1)]) (fun s11 => [.vec 0 (intsD s11)]) h (fun s11 h => ?_) (fun s11 h => ?_)
    ·refine ACode_block ?_
     refine kR ?_
     refine kN 1 rfl ?_
     refine kB (fun s9 => [(1, .d (.pv (colD p0) 0)), (3, .vec 0 0), (4, iV x1), (5, iV s9)]) (fun s9 => [.vec 0 (intsD x2)]) h (fun s9 h => ?_) (fun s9 h => ?_)
     ·refine kR ?_
      refine kN 1 rfl ?_
      refine ACode_block ?_
      refine ACode_loopW (fun k1 E H => ∃ (x4 : Int) (x5 : Int), E = [(1, .d (.pv (colD p0) 0)), (3, .vec 0 0), (4, iV x1), (5, iV x4), (6, iV x5)] ∧ H = [.vec 0 (intsD x2)] ∧ spec_l06Types_l1 k p0 x1 k1 x4 x5 = some s9) k _ _ (Weak_keep 0 hm [1, 3, 4, 5, 6] [0] _ _ rfl rfl rfl) ⟨_, _, rfl, rfl, h⟩ ?_
      clear h
      rintro k1 E H ⟨x4, x5, rfl, rfl, h⟩
      cases k1 with
      | zero => cases (show (none : Option (Int)) = some _ from h)
      | succ k1 =>
       rw [spec_l06Types_l1] at h
       refine ACode_seq ?_
       refine kR ?_
       refine kM 1 rfl ?_
       refine AOps_q 15 _ rfl rfl rfl (QOp_fieldAddr_pv _ _ _ _ _ 1 _ _ rfl Tryz.underlying26 rfl _ Tryz.sizeOf2 rfl rfl) ?_
       refine AOps_q 16 _ rfl rfl rfl (QOp_load_pv _ _ _ _ _ rfl Tryz.isAgg2 rfl rfl) ?_
       refine AOps_q 17 _ rfl rfl rfl (QOp_lss _ _ _ _ _ _ _ rfl rfl rfl) ?_
       refine AOps_nil ?_
       refine kI h rfl (fun h _ => ?_) (fun h _ => ?_)
       ·refine ACode_skip ?_
        refine ACode_seq ?_
        refine ACode_block ?_
        refine (ACode_region ?_)
        refine kM 1 rfl ?_
        refine AOps_q 21 _ rfl rfl rfl (QOp_mul _ _ _ _ _ _ _ rfl rfl rfl) ?_
        refine AOps_q 22 _ rfl rfl rfl (QOp_loadN_pv _ _ _ _ _ _ rfl Tryz.isAgg26 Tryz.sizeOf26 rfl (colD_all _) (colD_length _)) ?_
        refine kM 2 rfl ?_
        obtain ⟨r7, hr7, h⟩ := bindO h
        refine kC [] 25 (iV r7) [.vec 0 (intsD x2)] rfl Tryz.call111 rfl rfl (spec_l01Around_ac k p0 x1 x5 _ hr7) rfl ?_
        obtain ⟨r8, hr8, h⟩ := bindO h
        refine kC [] 26 (iV r8) [.vec 0 (intsD x2)] rfl Tryz.call110 rfl rfl (spec_l01Ones_ac k r7 _ hr8) rfl ?_
        refine AOps_q 27 _ rfl rfl rfl (QOp_add _ _ _ _ _ _ _ rfl rfl rfl) ?_
        refine kN 1 rfl ?_
        refine (ACode_region ?_)
        refine kM 1 rfl ?_
        refine AOps_q 19 _ rfl rfl rfl (QOp_add _ _ _ _ _ _ _ rfl rfl rfl) ?_
        refine kN 1 rfl ?_
        exact ⟨k1, _, _, Nat.lt_succ_self _, Weak_keep 0 hm [1, 3, 4, 5, 6] [0] _ _ rfl rfl rfl, _, _, rfl, rfl, h⟩
       refine ACode_exit ?_
       cases h
       exact Weak_keep 0 hm [1, 3, 4, 5] [0] _ _ rfl rfl rfl
     refine (ACode_region ?_)
     refine kM 2 rfl ?_
     refine AOps_buildSlice 30 _ _ _ [_] (intsD ([s9])) _ rfl rfl rfl rfl rfl (by decide) Tryz.underlying29 Tryz.sizeOf2 (zero_of Tryz.typeInfo2 rfl) rfl rfl (intsD_one _) ?_
     obtain ⟨hc10, h⟩ := guardO h
     refine AOps_append 31 _ _ _ _ _ _ _ _ _ _ _ _ rfl rfl rfl rfl rfl rfl rfl Tryz.underlying29 Tryz.type2 rfl rfl rfl (by decide) rfl rfl rfl rfl (intsD_one _) (by rw [intsD_length, intsD_length]; exact hc10) ?_
     rw [intsD_app]
     refine kN 1 rfl ?_
     cases h
     exact Weak_trans (Weak_keep 0 hm [1, 3, 4] [0] _ _ rfl rfl rfl) (Weak_reset 0 hm hz [1, 3, 4] _ _ rfl rfl)
    refine (ACode_region ?_)
    refine kM 1 rfl ?_
    refine AOps_q 13 _ rfl rfl rfl (QOp_add _ _ _ _ _ _ _ rfl rfl rfl) ?_
    refine kN 1 rfl ?_
    exact ⟨k0, _, _, Nat.lt_succ_self _, Weak_keep 0 hm [1, 3, 4] [0] _ _ rfl rfl rfl, _, _, rfl, rfl, h⟩
   refine ACode_exit ?_
   cases h
   exact Weak_keep 0 hm [3] [0] _ _ rfl rfl rfl
 refine kR ?_
 refine kN 2 rfl ?_
 refine ACode_ret ?_
 cases h
 exact ⟨_, _, Weak_reset 0 hm hz [2] _ _ rfl rfl, _, _, [0], _, (.cons (ResV_tmp _ _ rfl) .nil), rfl, rfl, rfl, rfl, rfl⟩

end Go.Proofs.YtfnbhfobgimnjaaGreat
