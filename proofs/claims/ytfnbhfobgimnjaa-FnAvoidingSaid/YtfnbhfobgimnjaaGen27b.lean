/- Plain functions of the program and that the program computes them: printed by the own tool gen.py. No conditions. -/
import Derived.Test.YtfnbhfobgimnjaaGen27a
set_option linter.unusedVariables false
set_option linter.unusedSimpArgs false
namespace Go.Proofs.Ytfnbhfobgimnjaa
open Go Go.RowKit Ab

-- loop.example/g01362/spec.l05First
def spec_l05First_l0 (k : Nat) (self : Col → Int → (List Int) → Option (Col × Bool)) (p0 : Col) (p1 : Int) (p2 : List Int) (r2 : List (List Int)) : Nat → Int → Col → Option (Sum (Col) (Col × Bool))
 | 0, _, _ => none
 | k0 + 1, x3, x4 => (if decide (x3 < (r2.length : Int)) then (if 0 ≤ x3 ∧ x3 < (r2.length : Int) then (spec_l01Put k p0 (r2.getD x3.toNat [])).bind fun r7 => (self r7 p1 p2).bind fun r8 => (if r8.2 then some (.inr (r8.1, true)) else spec_l05First_l0 k self p0 p1 p2 r2 k0 (w64 (x3 + 1)) x4) else none) else some (.inl x4))
def spec_l05First_body (self : Col → Int → (List Int) → Option (Col × Bool)) (k : Nat) (p0 : Col) (p1 : Int) (p2 : List Int) : Option (Col × Bool) :=
 (if decide (p0.p = p1) then some (p0, true) else (spec_l05All k p0 p2 1048576).bind fun r2 => (spec_l05First_l0 k self p0 p1 p2 r2 k 0 Col.zero : Option (Sum (Col) (Col × Bool))).bind fun os10 => (match os10 with | .inl s10 => some ((⟨0, 0, B136.zero⟩ : Col), false) | .inr rr => some rr))
def spec_l05First : Nat → Col → Int → (List Int) → Option (Col × Bool)
 | 0, _, _, _ => none
 | k + 1, p0, p1, p2 => spec_l05First_body (spec_l05First k) k p0 p1 p2
set_option maxRecDepth 100000 in
theorem spec_l05First_ac (k : Nat) (p0 : Col) (p1 : Int) (p2 : List Int) (r : Col × Bool) (h : spec_l05First k p0 p1 p2 = some r) : AC Try.prog 43 [.d (.agg (colD p0)), iV p1, .d (.sl none (intsD p2))] [] (fun res H' => res = [.d (.agg (colD r.1)), bV r.2] ∧ H' = []) := by
 induction k generalizing p0 p1 p2 r with
 | zero => simp [spec_l05First] at h
 | succ k ih =>
  rw [spec_l05First] at h
  obtain ⟨self, hself, hk⟩ : ∃ self : Col → Int → (List Int) → Option (Col × Bool), (∀ (p0 : Col) (p1 : Int) (p2 : List Int) (r : Col × Bool), self p0 p1 p2 = some r → AC Try.prog 43 [.d (.agg (colD p0)), iV p1, .d (.sl none (intsD p2))] [] (fun res H' => res = [.d (.agg (colD r.1)), bV r.2] ∧ H' = [])) ∧ spec_l05First k = self := ⟨spec_l05First k, fun p0 p1 p2 r h => ih p0 p1 p2 r h, rfl⟩
  rw [hk] at h
  clear ih hk
  refine AC_of_body true Try.func43 rfl Try.ntmps43 (rvs := [.cell 6 29, .tmp 7]) rfl rfl (fun G hG => ?_)
  have hm : G.H.length = 0 := by rw [hG]; rfl
  have hz : zeroG G.H = true := by rw [hG]; rfl
  unfold spec_l05First_body at h
  refine kR ?_
  refine AOps_boxI 3 _ _ (.agg (colD p0)) (colD p0) rfl (colD_one _) rfl rfl rfl rfl rfl ?_
  refine AOps_alloc 6 _ _ (colD Col.zero) (zero_of Try.typeInfo29 rfl) (by rfl) rfl rfl rfl rfl ?_
  refine kN 1 rfl ?_
  refine ACode_seq ?_
  refine kR ?_
  refine AOps_q 12 _ rfl rfl rfl (QOp_fieldAddr_pv _ _ _ _ _ 0 _ _ rfl Try.underlying29 rfl _ Try.sizeOf2 rfl rfl) ?_
  refine AOps_q 13 _ rfl rfl rfl (QOp_load_pv _ _ _ _ _ rfl Try.isAgg2 rfl rfl) ?_
  refine kM 1 rfl ?_
  refine AOps_q 15 _ rfl rfl rfl (QOp_eql _ _ _ _ _ _ _ rfl rfl rfl) ?_
  refine AOps_nil ?_
  refine kI h rfl (fun h _ => ?_) (fun h _ => ?_)
  ·refine kR ?_
   refine AOps_q 16 _ rfl rfl rfl (QOp_loadN_pv _ _ _ _ _ _ rfl Try.isAgg29 Try.sizeOf29 rfl (colD_all _) (colD_length _)) ?_
   refine AOps_store _ _ _ _ _ _ (colD _) _ _ rfl rfl rfl rfl rfl rfl rfl (colD_one _) (by rw [colD_length]; exact Try.sizeOf29) (by rw [colD_length, colD_length]; decide) (colD_whole _ _) ?_
   refine kN 1 rfl ?_
   refine ACode_ret ?_
   cases h
   exact ⟨_, _, fun r a w h => ⟨r, h⟩, _, _, [], _, (.cons (ResV_agg _ _ _ _ _ _ Try.isAgg29 Try.sizeOf29 rfl rfl (colD_take _) (colD_length _)) (.cons (ResV_tmp _ _ rfl) .nil)), rfl, rfl, rfl, rfl, rfl⟩
  refine ACode_skip ?_
  refine kR ?_
  refine AOps_q 17 _ rfl rfl rfl (QOp_loadN_pv _ _ _ _ _ _ rfl Try.isAgg29 Try.sizeOf29 rfl (colD_all _) (colD_length _)) ?_
  refine kM 1 rfl ?_
  obtain ⟨r2, hr2, h⟩ := bindO h
  refine kC [] 19 (.d (.sl none (rowsD r2))) [.box (colD Col.zero)] rfl Try.call94 rfl rfl (spec_l05All_ac k p0 p2 1048576 _ hr2) rfl ?_
  refine kN 1 rfl ?_
  refine kO (fun s10 => [(6, .ptr 0 0)]) (fun s10 => [.box (colD s10)]) h (fun os10 h hks10 => ?_) (fun s10 h => ?_)
  ·refine kR ?_
   refine kN 1 rfl ?_
   refine ACode_block ?_
   refine ACode_loopW (fun k0 E H => ∃ (x3 : Int) (x4 : Col), E = [(1, iV p1), (2, .d (.sl none (intsD p2))), (3, .d (.pv (colD p0) 0)), (6, .ptr 0 0), (8, .d (.sl none (rowsD r2))), (9, iV x3)] ∧ H = [.box (colD x4)] ∧ spec_l05First_l0 k self p0 p1 p2 r2 k0 x3 x4 = some os10) k _ _ (Weak_keep 0 hm [1, 2, 3, 6, 8, 9] [0] _ _ rfl rfl rfl) ⟨_, _, rfl, rfl, h⟩ ?_
   clear h
   rintro k0 E H ⟨x3, x4, rfl, rfl, h⟩
   cases k0 with
   | zero => cases (show (none : Option (Sum (Col) (Col × Bool))) = some _ from h)
   | succ k0 =>
    rw [spec_l05First_l0] at h
    refine ACode_seq ?_
    refine kR ?_
    refine kM 2 rfl ?_
    refine AOps_q 22 _ rfl rfl rfl (QOp_len_sl _ _ _ _ _ _ _ (rowsD_length _) rfl rfl rfl rfl Try.underlying41 rfl) ?_
    refine AOps_q 23 _ rfl rfl rfl (QOp_lss _ _ _ _ _ _ _ rfl rfl rfl) ?_
    refine AOps_nil ?_
    refine kI h rfl (fun h _ => ?_) (fun h _ => ?_)
    ·refine ACode_skip ?_
     refine ACode_seq ?_
     refine ACode_block ?_
     obtain ⟨hc6, h⟩ := guardO h
     obtain ⟨r7, hr7, h⟩ := bindO h
     obtain ⟨r8, hr8, h⟩ := bindO h
     refine ACode_seq (ACode_reg [(1, iV p1), (2, .d (.sl none (intsD p2))), (3, .d (.pv (colD p0) 0)), (6, .ptr 0 0), (8, .d (.sl none (rowsD r2))), (9, iV x3), (10, .ptr 1 0), (11, bV r8.2)] [.box (colD x4), .box (colD r8.1)] ?_ ?_)
     ·refine ACode_anyU mixed ?_
      refine AU_cut 2 #[true, true, true, true, true, true, true, true, true, true, true, true, true, false, false] [(1, iV p1), (2, .d (.sl none (intsD p2))), (3, .d (.pv (colD p0) 0)), (6, .ptr 0 0), (8, .d (.sl none (rowsD r2))), (9, iV x3), (10, .ptr 1 0), (36, .d (.agg (colD r8.1))), (37, bV r8.2)] [.box (colD x4), .box (colD Col.zero)] ?_ (fun hS0 => ?_)
      ·refine AU_one 13 (by kernel_rfl) rfl rfl ?_
       refine AOps_store _ _ _ _ _ _ (colD _) _ _ rfl rfl rfl rfl rfl rfl rfl (colD_one _) (by rw [colD_length]; exact Try.sizeOf29) (by rw [colD_length, colD_length]; decide) (colD_whole _ _) ?_
       refine AOps_nil ?_
       refine AU_u 14 11 _ rfl (by kernel_rfl) rfl rfl rfl (UOp_assign _ _ rfl rfl) ?_
       refine AU_done (by kernel_rfl) ?_
       exact ⟨rfl, Weak_keep 0 hm [1, 2, 3, 6, 8, 9, 10, 11] [0, 1] _ _ rfl rfl rfl⟩
      refine AU_cut 6 #[true, true, true, true, true, true, true, true, false, false, false, false, true, false, false] [(1, iV p1), (2, .d (.sl none (intsD p2))), (3, .d (.pv (colD p0) 0)), (6, .ptr 0 0), (8, .d (.sl none (rowsD r2))), (9, iV x3), (10, .ptr 1 0), (32, .d (.agg (colD r7))), (33, iV p1), (34, .d (.sl none (intsD p2)))] [.box (colD x4), .box (colD Col.zero)] ?_ (fun hS1 => ?_)
      ·refine AU_one 8 (by kernel_rfl) rfl rfl ?_
       refine kC [] 35 (.tup [.d (.agg (colD r8.1)), bV r8.2]) [.box (colD x4), .box (colD Col.zero)] rfl Try.call43 rfl rfl (hself r7 p1 p2 _ hr8) rfl ?_
       refine AOps_nil ?_
       refine AU_u 9 26 _ rfl (by kernel_rfl) rfl rfl rfl (UOp_move _ _ rfl rfl) ?_
       refine AU_u 10 36 _ rfl (by kernel_rfl) rfl rfl rfl (UOp_extract _ _ _ _ rfl rfl rfl) ?_
       refine AU_u 11 37 _ rfl (by kernel_rfl) rfl rfl rfl (UOp_extract _ _ _ _ rfl rfl rfl) ?_
       exact AU_to (by kernel_rfl) hS0 (Weak_keep 0 hm [1, 2, 3, 6, 8, 9, 10, 36, 37] [0, 1] _ _ rfl rfl rfl)
      refine AU_cut 7 #[true, true, true, true, true, false, true, true, false, false, false, false, true, false, false] [(1, iV p1), (2, .d (.sl none (intsD p2))), (3, .d (.pv (colD p0) 0)), (6, .ptr 0 0), (8, .d (.sl none (rowsD r2))), (9, iV x3), (10, .ptr 1 0), (27, .d (.agg (colD p0))), (31, .d (.sl none (intsD (r2.getD x3.toNat [])))), (33, iV p1), (34, .d (.sl none (intsD p2)))] [.box (colD x4), .box (colD Col.zero)] ?_ (fun hS2 => ?_)
      ·refine AU_one 5 (by kernel_rfl) rfl rfl ?_
       refine kC [] 32 (.d (.agg (colD r7))) [.box (colD x4), .box (colD Col.zero)] rfl Try.call95 rfl rfl (spec_l01Put_ac k p0 (r2.getD x3.toNat []) _ hr7) rfl ?_
       refine AOps_nil ?_
       exact AU_to (by kernel_rfl) hS1 (Weak_keep 0 hm [1, 2, 3, 6, 8, 9, 10, 32, 33, 34] [0, 1] _ _ rfl rfl rfl)
      refine AU_cut 8 #[true, true, true, true, true, false, true, true, false, false, false, false, false, false, false] [(1, iV p1), (2, .d (.sl none (intsD p2))), (3, .d (.pv (colD p0) 0)), (6, .ptr 0 0), (8, .d (.sl none (rowsD r2))), (9, iV x3), (27, .d (.agg (colD p0))), (31, .d (.sl none (intsD (r2.getD x3.toNat [])))), (33, iV p1), (34, .d (.sl none (intsD p2)))] [.box (colD x4)] ?_ (fun hS3 => ?_)
      ·refine AU_all [5, 12] (by kernel_rfl) rfl (allc ?_ (allc ?_ (fun _ h => nomatch h)))
       ·refine US_of 5 rfl rfl ?_
        refine kC [] 32 (.d (.agg (colD r7))) [.box (colD x4)] rfl Try.call95 rfl rfl (spec_l01Put_ac k p0 (r2.getD x3.toNat []) _ hr7) rfl ?_
        refine AOps_nil ?_
        refine AU_all [8, 12] (by kernel_rfl) rfl (allc ?_ (allc ?_ (fun _ h => nomatch h)))
        ·refine US_of 8 rfl rfl ?_
         refine kC [] 35 (.tup [.d (.agg (colD r8.1)), bV r8.2]) [.box (colD x4)] rfl Try.call43 rfl rfl (hself r7 p1 p2 _ hr8) rfl ?_
         refine AOps_nil ?_
         refine AU_u 9 26 _ rfl (by kernel_rfl) rfl rfl rfl (UOp_move _ _ rfl rfl) ?_
         refine AU_u 10 36 _ rfl (by kernel_rfl) rfl rfl rfl (UOp_extract _ _ _ _ rfl rfl rfl) ?_
         refine AU_u 11 37 _ rfl (by kernel_rfl) rfl rfl rfl (UOp_extract _ _ _ _ rfl rfl rfl) ?_
         refine AU_one 12 (by kernel_rfl) rfl rfl ?_
         refine AOps_alloc 10 _ _ (colD Col.zero) (zero_of Try.typeInfo29 rfl) (by rfl) rfl rfl rfl rfl ?_
         refine AOps_nil ?_
         exact AU_to (by kernel_rfl) hS0 (Weak_keep 0 hm [1, 2, 3, 6, 8, 9, 10, 36, 37] [0, 1] _ _ rfl rfl rfl)
        refine US_of 12 rfl rfl ?_
        refine AOps_alloc 10 _ _ (colD Col.zero) (zero_of Try.typeInfo29 rfl) (by rfl) rfl rfl rfl rfl ?_
        refine AOps_nil ?_
        exact AU_to (by kernel_rfl) hS1 (Weak_keep 0 hm [1, 2, 3, 6, 8, 9, 10, 32, 33, 34] [0, 1] _ _ rfl rfl rfl)
       refine US_of 12 rfl rfl ?_
       refine AOps_alloc 10 _ _ (colD Col.zero) (zero_of Try.typeInfo29 rfl) (by rfl) rfl rfl rfl rfl ?_
       refine AOps_nil ?_
       exact AU_to (by kernel_rfl) hS2 (Weak_keep 0 hm [1, 2, 3, 6, 8, 9, 10, 27, 31, 33, 34] [0, 1] _ _ rfl rfl rfl)
      refine AU_cut 8 #[true, true, true, true, false, false, true, true, false, false, false, false, true, false, false] [(1, iV p1), (2, .d (.sl none (intsD p2))), (3, .d (.pv (colD p0) 0)), (6, .ptr 0 0), (8, .d (.sl none (rowsD r2))), (9, iV x3), (10, .ptr 1 0), (27, .d (.agg (colD p0))), (30, .d (.pv (rowsD r2) x3.toNat)), (33, iV p1), (34, .d (.sl none (intsD p2)))] [.box (colD x4), .box (colD Col.zero)] ?_ (fun hS4 => ?_)
      ·refine AU_one 4 (by kernel_rfl) rfl rfl ?_
       refine AOps_q 31 _ rfl rfl rfl (QOp_load_pv _ _ _ _ _ rfl Try.isAgg24 rfl (rowsD_get _ _ [] (by omega))) ?_
       refine AOps_nil ?_
       exact AU_to (by kernel_rfl) hS2 (Weak_keep 0 hm [1, 2, 3, 6, 8, 9, 10, 27, 31, 33, 34] [0, 1] _ _ rfl rfl rfl)
      refine AU_cut 8 #[false, true, true, true, true, false, true, true, false, false, false, false, true, false, false] [(1, iV p1), (2, .d (.sl none (intsD p2))), (3, .d (.pv (colD p0) 0)), (6, .ptr 0 0), (8, .d (.sl none (rowsD r2))), (9, iV x3), (10, .ptr 1 0), (31, .d (.sl none (intsD (r2.getD x3.toNat [])))), (33, iV p1), (34, .d (.sl none (intsD p2)))] [.box (colD x4), .box (colD Col.zero)] ?_ (fun hS5 => ?_)
      ·refine AU_one 0 (by kernel_rfl) rfl rfl ?_
       refine AOps_q 27 _ rfl rfl rfl (QOp_loadN_pv _ _ _ _ _ _ rfl Try.isAgg29 Try.sizeOf29 rfl (colD_all _) (colD_length _)) ?_
       refine AOps_nil ?_
       exact AU_to (by kernel_rfl) hS2 (Weak_keep 0 hm [1, 2, 3, 6, 8, 9, 10, 27, 31, 33, 34] [0, 1] _ _ rfl rfl rfl)
      refine AU_u 1 28 _ rfl (by kernel_rfl) rfl rfl rfl (UOp_move _ _ rfl rfl) ?_
      refine AU_u 2 29 _ rfl (by kernel_rfl) rfl rfl rfl (UOp_move _ _ rfl rfl) ?_
      refine AU_u 3 30 _ rfl (by kernel_rfl) rfl rfl rfl (UOp_indexAddr_sl _ _ _ _ _ _ _ _ rfl Try.underlying41 Try.sizeOf24 hc6.1 (by rw [rowsD_length]; exact hc6.2) rfl rfl) ?_
      refine AU_u 6 33 _ rfl (by kernel_rfl) rfl rfl rfl (UOp_move _ _ rfl rfl) ?_
      refine AU_u 7 34 _ rfl (by kernel_rfl) rfl rfl rfl (UOp_move _ _ rfl rfl) ?_
      refine AU_all [0, 4, 12] (by kernel_rfl) rfl (allc ?_ (allc ?_ (allc ?_ (fun _ h => nomatch h))))
      ·refine US_of 0 rfl rfl ?_
       refine AOps_q 27 _ rfl rfl rfl (QOp_loadN_pv _ _ _ _ _ _ rfl Try.isAgg29 Try.sizeOf29 rfl (colD_all _) (colD_length _)) ?_
       refine AOps_nil ?_
       refine AU_all [4, 12] (by kernel_rfl) rfl (allc ?_ (allc ?_ (fun _ h => nomatch h)))
       ·refine US_of 4 rfl rfl ?_
        refine AOps_q 31 _ rfl rfl rfl (QOp_load_pv _ _ _ _ _ rfl Try.isAgg24 rfl (rowsD_get _ _ [] (by omega))) ?_
        refine AOps_nil ?_
        exact AU_to (by kernel_rfl) hS3 (Weak_keep 0 hm [1, 2, 3, 6, 8, 9, 27, 31, 33, 34] [0] _ _ rfl rfl rfl)
       refine US_of 12 rfl rfl ?_
       refine AOps_alloc 10 _ _ (colD Col.zero) (zero_of Try.typeInfo29 rfl) (by rfl) rfl rfl rfl rfl ?_
       refine AOps_nil ?_
       exact AU_to (by kernel_rfl) hS4 (Weak_keep 0 hm [1, 2, 3, 6, 8, 9, 10, 27, 30, 33, 34] [0, 1] _ _ rfl rfl rfl)
      ·refine US_of 4 rfl rfl ?_
       refine AOps_q 31 _ rfl rfl rfl (QOp_load_pv _ _ _ _ _ rfl Try.isAgg24 rfl (rowsD_get _ _ [] (by omega))) ?_
       refine AOps_nil ?_
       refine AU_all [0, 12] (by kernel_rfl) rfl (allc ?_ (allc ?_ (fun _ h => nomatch h)))
       ·refine US_of 0 rfl rfl ?_
        refine AOps_q 27 _ rfl rfl rfl (QOp_loadN_pv _ _ _ _ _ _ rfl Try.isAgg29 Try.sizeOf29 rfl (colD_all _) (colD_length _)) ?_
        refine AOps_nil ?_
        exact AU_to (by kernel_rfl) hS3 (Weak_keep 0 hm [1, 2, 3, 6, 8, 9, 27, 31, 33, 34] [0] _ _ rfl rfl rfl)
       refine US_of 12 rfl rfl ?_
       refine AOps_alloc 10 _ _ (colD Col.zero) (zero_of Try.typeInfo29 rfl) (by rfl) rfl rfl rfl rfl ?_
       refine AOps_nil ?_
       exact AU_to (by kernel_rfl) hS5 (Weak_keep 0 hm [1, 2, 3, 6, 8, 9, 10, 31, 33, 34] [0, 1] _ _ rfl rfl rfl)
      refine US_of 12 rfl rfl ?_
      refine AOps_alloc 10 _ _ (colD Col.zero) (zero_of Try.typeInfo29 rfl) (by rfl) rfl rfl rfl rfl ?_
      refine AOps_nil ?_
      refine AU_all [0, 4] (by kernel_rfl) rfl (allc ?_ (allc ?_ (fun _ h => nomatch h)))
      ·refine US_of 0 rfl rfl ?_
       refine AOps_q 27 _ rfl rfl rfl (QOp_loadN_pv _ _ _ _ _ _ rfl Try.isAgg29 Try.sizeOf29 rfl (colD_all _) (colD_length _)) ?_
       refine AOps_nil ?_
       exact AU_to (by kernel_rfl) hS4 (Weak_keep 0 hm [1, 2, 3, 6, 8, 9, 10, 27, 30, 33, 34] [0, 1] _ _ rfl rfl rfl)
      refine US_of 4 rfl rfl ?_
      refine AOps_q 31 _ rfl rfl rfl (QOp_load_pv _ _ _ _ _ rfl Try.isAgg24 rfl (rowsD_get _ _ [] (by omega))) ?_
      refine AOps_nil ?_
      exact AU_to (by kernel_rfl) hS5 (Weak_keep 0 hm [1, 2, 3, 6, 8, 9, 10, 31, 33, 34] [0, 1] _ _ rfl rfl rfl)
     refine kR ?_
     refine kN 1 rfl ?_
     refine kI h rfl (fun h _ => ?_) (fun h _ => ?_)
     ·refine kR ?_
      refine AOps_q 39 _ rfl rfl rfl (QOp_loadN_ptr _ _ _ _ _ _ _ rfl Try.isAgg29 Try.sizeOf29 rfl rfl (colD_all _) (colD_length _)) ?_
      refine AOps_store _ _ _ _ _ _ (colD _) _ _ rfl rfl rfl rfl rfl rfl rfl (colD_one _) (by rw [colD_length]; exact Try.sizeOf29) (by rw [colD_length, colD_length]; decide) (colD_whole _ _) ?_
      refine kN 1 rfl ?_
      refine ACode_ret ?_
      cases h
      have h := hks10
      cases h
      exact ⟨_, _, fun r a w h => ⟨r, h⟩, _, _, [], _, (.cons (ResV_agg _ _ _ _ _ _ Try.isAgg29 Try.sizeOf29 rfl rfl (colD_take _) (colD_length _)) (.cons (ResV_tmp _ _ rfl) .nil)), rfl, rfl, rfl, rfl, rfl⟩
     refine ACode_skip ?_
     refine (ACode_region ?_)
     refine kM 1 rfl ?_
     refine AOps_q 25 _ rfl rfl rfl (QOp_add _ _ _ _ _ _ _ rfl rfl rfl) ?_
     refine kN 1 rfl ?_
     exact ⟨k0, _, _, Nat.lt_succ_self _, Weak_keep 0 hm [1, 2, 3, 6, 8, 9] [0] _ _ rfl rfl rfl, _, _, rfl, rfl, h⟩
    refine ACode_exit ?_
    cases h
    exact ⟨_, rfl, Weak_keep 0 hm [6] [0] _ _ rfl rfl rfl⟩
  refine kR ?_
  refine AOps_q 40 _ rfl rfl rfl (QOp_build _ _ [] [] [] _ (colD Col.zero) (colD (⟨0, 0, B136.zero⟩ : Col)) [(0, 1), (1, 1), (2, 136)] rfl rfl Try.underlying29 (zero_of Try.typeInfo29 rfl) (fun w => by simp [Try.sizeOf2, Try.sizeOf2, Try.sizeOf27]) rfl (by rfl) (by rfl) (fun _ h => nomatch h)) ?_
  refine AOps_store _ _ _ _ _ _ (colD _) _ _ rfl rfl rfl rfl rfl rfl rfl (colD_one _) (by rw [colD_length]; exact Try.sizeOf29) (by rw [colD_length, colD_length]; decide) (colD_whole _ _) ?_
  refine kN 1 rfl ?_
  refine ACode_ret ?_
  cases h
  exact ⟨_, _, fun r a w h => ⟨r, h⟩, _, _, [], _, (.cons (ResV_agg _ _ _ _ _ _ Try.isAgg29 Try.sizeOf29 rfl rfl (colD_take _) (colD_length _)) (.cons (ResV_tmp _ _ rfl) .nil)), rfl, rfl, rfl, rfl, rfl⟩

-- loop.example/g01362/spec.FirstAvoiding
def spec_FirstAvoiding (k : Nat) (p0 : Int) (p1 : List Int) : Option (Col × Int) :=
 (((if !(spec_l01In p0 1 8) then some true else (spec_l05Sizes k p1 2).bind fun r3 => some (!decide (r3 = 0))) : Option (Bool)).bind fun s4 => (if s4 then some (.inr ((⟨0, 0, B136.zero⟩ : Col), 2)) else some (.inl ())) : Option (Sum (Unit) (Col × Int))).bind fun os6 => (match os6 with | .inl s6 => (spec_l05Avoids k (⟨1, 2, B136.zero⟩ : Col) p1).bind fun r7 => (if !r7 then some ((⟨0, 0, B136.zero⟩ : Col), 4) else (spec_l05First k (⟨1, 2, B136.zero⟩ : Col) p0 p1).bind fun r9 => (if !r9.2 then some ((⟨0, 0, B136.zero⟩ : Col), 4) else some (r9.1, 0))) | .inr rr => some rr)
set_option maxRecDepth 100000 in
theorem spec_FirstAvoiding_ac (k : Nat) (p0 : Int) (p1 : List Int) (r : Col × Int) (h : spec_FirstAvoiding k p0 p1 = some r) : AC Try.prog 8 [iV p0, .d (.sl none (intsD p1))] [] (fun res H' => res = [.d (.agg (colD r.1)), iV r.2] ∧ H' = []) := by
 refine AC_of_body true Try.func8 rfl Try.ntmps8 (rvs := [.cell 4 29, .tmp 5]) rfl rfl (fun G hG => ?_)
 have hm : G.H.length = 0 := by rw [hG]; rfl
 have hz : zeroG G.H = true := by rw [hG]; rfl
 unfold spec_FirstAvoiding at h
 refine kR ?_
 refine AOps_alloc 4 _ _ (colD Col.zero) (zero_of Try.typeInfo29 rfl) (by rfl) rfl rfl rfl rfl ?_
 refine kN 1 rfl ?_
 refine kO (fun s6 => [(0, iV p0), (1, .d (.sl none (intsD p1))), (4, .ptr 0 0)]) (fun s6 => [.box (colD Col.zero)]) h (fun os6 h hks6 => ?_) (fun s6 h => ?_)
 ·refine kB (fun s4 => [(0, iV p0), (1, .d (.sl none (intsD p1))), (4, .ptr 0 0), (16, bV s4)]) (fun s4 => [.box (colD Col.zero)]) h (fun s4 h => ?_) (fun s4 h => ?_)
  ·refine (ACode_region ?_)
   refine kM 1 rfl ?_
   refine kC [] 10 (bV (spec_l01In p0 1 8)) [.box (colD Col.zero)] rfl Try.call40 rfl rfl (spec_l01In_ac p0 1 8) rfl ?_
   refine AOps_q 11 _ rfl rfl rfl (QOp_not _ _ _ rfl rfl) ?_
   refine kM 1 rfl ?_
   refine AOps_case 12 _ rfl (fun hb2 => ?_) (fun hb2 => ?_)
   ·have h := iteT hb2 h
    refine AOps_skip 13 rfl rfl rfl ?_
    refine AOps_skip 14 rfl rfl rfl ?_
    refine AOps_skip 15 rfl rfl rfl ?_
    refine kN 1 rfl ?_
    cases h
    exact Weak_keep 0 hm [0, 1, 4, 16] [0] _ _ rfl rfl rfl
   have h := iteF hb2 h
   refine kM 1 rfl ?_
   obtain ⟨r3, hr3, h⟩ := bindO h
   refine kC [] 14 (iV r3) [.box (colD Col.zero)] rfl Try.call41 rfl rfl (spec_l05Sizes_ac k p1 2 _ hr3) rfl ?_
   refine AOps_q 15 _ rfl rfl rfl (QOp_neq _ _ _ _ _ _ _ rfl rfl rfl) ?_
   refine kN 1 rfl ?_
   cases h
   exact Weak_keep 0 hm [0, 1, 4, 16] [0] _ _ rfl rfl rfl
  refine kI h rfl (fun h _ => ?_) (fun h _ => ?_)
  ·refine kR ?_
   refine AOps_q 17 _ rfl rfl rfl (QOp_build _ _ [] [] [] _ (colD Col.zero) (colD (⟨0, 0, B136.zero⟩ : Col)) [(0, 1), (1, 1), (2, 136)] rfl rfl Try.underlying29 (zero_of Try.typeInfo29 rfl) (fun w => by simp [Try.sizeOf2, Try.sizeOf2, Try.sizeOf27]) rfl (by rfl) (by rfl) (fun _ h => nomatch h)) ?_
   refine AOps_store _ _ _ _ _ _ (colD _) _ _ rfl rfl rfl rfl rfl rfl rfl (colD_one _) (by rw [colD_length]; exact Try.sizeOf29) (by rw [colD_length, colD_length]; decide) (colD_whole _ _) ?_
   refine kN 1 rfl ?_
   refine ACode_ret ?_
   cases h
   have h := hks6
   cases h
   exact ⟨_, _, fun r a w h => ⟨r, h⟩, _, _, [], _, (.cons (ResV_agg _ _ _ _ _ _ Try.isAgg29 Try.sizeOf29 rfl rfl (colD_take _) (colD_length _)) (.cons (ResV_tmp _ _ rfl) .nil)), rfl, rfl, rfl, rfl, rfl⟩
  refine ACode_skip ?_
  cases h
  exact ⟨_, rfl, Weak_keep 0 hm [0, 1, 4] [0] _ _ rfl rfl rfl⟩
 refine kR ?_
 refine AOps_q 18 _ rfl rfl rfl (QOp_build _ _ [_, _] [0, 1] [iD 1, iD 2] _ (colD Col.zero) (colD (⟨1, 2, B136.zero⟩ : Col)) [(0, 1), (1, 1), (2, 136)] rfl rfl Try.underlying29 (zero_of Try.typeInfo29 rfl) (fun w => by simp [Try.sizeOf2, Try.sizeOf2, Try.sizeOf27]) rfl (by rfl) (by rfl) (allc (ok1 rfl) (allc (ok1 rfl) (fun _ h => nomatch h)))) ?_
 refine AOps_alloc 6 _ _ (colD Col.zero) (zero_of Try.typeInfo29 rfl) (by rfl) rfl rfl rfl rfl ?_
 refine AOps_store _ _ _ _ _ _ (colD _) _ _ rfl rfl rfl rfl rfl rfl rfl (colD_one _) (by rw [colD_length]; exact Try.sizeOf29) (by rw [colD_length, colD_length]; decide) (colD_whole _ _) ?_
 refine AOps_nil ?_
 refine ACode_seq ?_
 refine kR ?_
 refine AOps_q 19 _ rfl rfl rfl (QOp_loadN_ptr _ _ _ _ _ _ _ rfl Try.isAgg29 Try.sizeOf29 rfl rfl (colD_all _) (colD_length _)) ?_
 refine kM 1 rfl ?_
 obtain ⟨r7, hr7, h⟩ := bindO h
 refine kC [] 21 (bV r7) [.box (colD Col.zero), .box (colD (⟨1, 2, B136.zero⟩ : Col))] rfl Try.call42 rfl rfl (spec_l05Avoids_ac k (⟨1, 2, B136.zero⟩ : Col) p1 _ hr7) rfl ?_
 refine AOps_q 22 _ rfl rfl rfl (QOp_not _ _ _ rfl rfl) ?_
 refine AOps_nil ?_
 refine kI h rfl (fun h _ => ?_) (fun h _ => ?_)
 ·refine kR ?_
  refine AOps_q 23 _ rfl rfl rfl (QOp_build _ _ [] [] [] _ (colD Col.zero) (colD (⟨0, 0, B136.zero⟩ : Col)) [(0, 1), (1, 1), (2, 136)] rfl rfl Try.underlying29 (zero_of Try.typeInfo29 rfl) (fun w => by simp [Try.sizeOf2, Try.sizeOf2, Try.sizeOf27]) rfl (by rfl) (by rfl) (fun _ h => nomatch h)) ?_
  refine AOps_store _ _ _ _ _ _ (colD _) _ _ rfl rfl rfl rfl rfl rfl rfl (colD_one _) (by rw [colD_length]; exact Try.sizeOf29) (by rw [colD_length, colD_length]; decide) (colD_whole _ _) ?_
  refine kN 1 rfl ?_
  refine ACode_ret ?_
  cases h
  exact ⟨_, _, fun r a w h => ⟨r, h⟩, _, _, [], _, (.cons (ResV_agg _ _ _ _ _ _ Try.isAgg29 Try.sizeOf29 rfl rfl (colD_take _) (colD_length _)) (.cons (ResV_tmp _ _ rfl) .nil)), rfl, rfl, rfl, rfl, rfl⟩
 refine ACode_skip ?_
 refine kR ?_
 refine AOps_q 25 _ rfl rfl rfl (QOp_loadN_ptr _ _ _ _ _ _ _ rfl Try.isAgg29 Try.sizeOf29 rfl rfl (colD_all _) (colD_length _)) ?_
 refine kM 2 rfl ?_
 obtain ⟨r9, hr9, h⟩ := bindO h
 refine kC [] 28 (.tup [.d (.agg (colD r9.1)), bV r9.2]) [.box (colD Col.zero), .box (colD (⟨1, 2, B136.zero⟩ : Col))] rfl Try.call43 rfl rfl (spec_l05First_ac k (⟨1, 2, B136.zero⟩ : Col) p0 p1 _ hr9) rfl ?_
 refine kM 3 rfl ?_
 refine AOps_alloc 7 _ _ (colD Col.zero) (zero_of Try.typeInfo29 rfl) (by rfl) rfl rfl rfl rfl ?_
 refine AOps_store _ _ _ _ _ _ (colD _) _ _ rfl rfl rfl rfl rfl rfl rfl (colD_one _) (by rw [colD_length]; exact Try.sizeOf29) (by rw [colD_length, colD_length]; decide) (colD_whole _ _) ?_
 refine kN 1 rfl ?_
 refine ACode_seq ?_
 refine kR ?_
 refine kM 1 rfl ?_
 refine AOps_q 32 _ rfl rfl rfl (QOp_not _ _ _ rfl rfl) ?_
 refine AOps_nil ?_
 refine kI h rfl (fun h _ => ?_) (fun h _ => ?_)
 ·refine kR ?_
  refine AOps_q 33 _ rfl rfl rfl (QOp_build _ _ [] [] [] _ (colD Col.zero) (colD (⟨0, 0, B136.zero⟩ : Col)) [(0, 1), (1, 1), (2, 136)] rfl rfl Try.underlying29 (zero_of Try.typeInfo29 rfl) (fun w => by simp [Try.sizeOf2, Try.sizeOf2, Try.sizeOf27]) rfl (by rfl) (by rfl) (fun _ h => nomatch h)) ?_
  refine AOps_store _ _ _ _ _ _ (colD _) _ _ rfl rfl rfl rfl rfl rfl rfl (colD_one _) (by rw [colD_length]; exact Try.sizeOf29) (by rw [colD_length, colD_length]; decide) (colD_whole _ _) ?_
  refine kN 1 rfl ?_
  refine ACode_ret ?_
  cases h
  exact ⟨_, _, fun r a w h => ⟨r, h⟩, _, _, [], _, (.cons (ResV_agg _ _ _ _ _ _ Try.isAgg29 Try.sizeOf29 rfl rfl (colD_take _) (colD_length _)) (.cons (ResV_tmp _ _ rfl) .nil)), rfl, rfl, rfl, rfl, rfl⟩
 refine ACode_skip ?_
 refine kR ?_
 refine AOps_q 34 _ rfl rfl rfl (QOp_loadN_ptr _ _ _ _ _ _ _ rfl Try.isAgg29 Try.sizeOf29 rfl rfl (colD_all _) (colD_length _)) ?_
 refine AOps_store _ _ _ _ _ _ (colD _) _ _ rfl rfl rfl rfl rfl rfl rfl (colD_one _) (by rw [colD_length]; exact Try.sizeOf29) (by rw [colD_length, colD_length]; decide) (colD_whole _ _) ?_
 refine kN 1 rfl ?_
 refine ACode_ret ?_
 cases h
 exact ⟨_, _, fun r a w h => ⟨r, h⟩, _, _, [], _, (.cons (ResV_agg _ _ _ _ _ _ Try.isAgg29 Try.sizeOf29 rfl rfl (colD_take _) (colD_length _)) (.cons (ResV_tmp _ _ rfl) .nil)), rfl, rfl, rfl, rfl, rfl⟩

-- (*loop.example/g01362/impl.Colouring).edges
def impl_Colouring_edges (p0 : Col) : Int :=
 w64 ((w64 (p0.p * (w64 (p0.p - 1)))).tdiv 2)
set_option maxRecDepth 100000 in
theorem impl_Colouring_edges_ac (p0 : Col) : AC Try.prog 124 [.d (.pv (colD p0) 0)] [] (fun res H' => res = [iV (impl_Colouring_edges p0)] ∧ H' = []) := by
 refine AC_of_body true Try.func124 rfl Try.ntmps124 (rvs := [.tmp 2]) rfl rfl (fun G hG => ?_)
 have hm : G.H.length = 0 := by rw [hG]; rfl
 have hz : zeroG G.H = true := by rw [hG]; rfl
 obtain ⟨r, h⟩ : ∃ r, impl_Colouring_edges p0 = r := ⟨_, rfl⟩
 rw [h]
 unfold impl_Colouring_edges at h
 refine kR ?_
 refine kN 1 rfl ?_
 refine ACode_seq (ACode_quiet mixed (by kernel_rfl) ?_)
 refine kQ 1 rfl ?_
 refine AQ_q 4 _ rfl rfl rfl (QOp_nilCheck_pv _ _ _ rfl rfl) ?_
 refine AQ_q 5 _ rfl rfl rfl (QOp_fieldAddr_pv _ _ _ _ _ 0 _ _ rfl Try.underlying29 rfl _ Try.sizeOf2 rfl rfl) ?_
 refine AQ_q 6 _ rfl rfl rfl (QOp_load_pv _ _ _ _ _ rfl Try.isAgg2 rfl rfl) ?_
 refine kQ 1 rfl ?_
 refine AQ_q 8 _ rfl rfl rfl (QOp_nilCheck_pv _ _ _ rfl rfl) ?_
 refine AQ_q 9 _ rfl rfl rfl (QOp_fieldAddr_pv _ _ _ _ _ 0 _ _ rfl Try.underlying29 rfl _ Try.sizeOf2 rfl rfl) ?_
 refine AQ_q 10 _ rfl rfl rfl (QOp_load_pv _ _ _ _ _ rfl Try.isAgg2 rfl rfl) ?_
 refine AQ_q 11 _ rfl rfl rfl (QOp_sub _ _ _ _ _ _ _ rfl rfl rfl) ?_
 refine AQ_q 12 _ rfl rfl rfl (QOp_mul _ _ _ _ _ _ _ rfl rfl rfl) ?_
 refine AQ_q 13 _ rfl rfl rfl (QOp_quo _ _ _ _ _ _ _ (by decide) rfl rfl rfl) ?_
 refine kQ 1 rfl ?_
 refine AQ_nil ?_
 refine ACode_ret ?_
 cases h
 exact ⟨_, _, fun r a w h => ⟨r, h⟩, _, _, [], _, (.cons (ResV_tmp _ _ rfl) .nil), rfl, rfl, rfl, rfl, rfl⟩

-- (*loop.example/g01362/impl.Colouring).isColouring
def impl_Colouring_isColouring_l0 (k : Nat) (p0 : Col) : Nat → Int → Option (Sum (Unit) (Bool))
 | 0, _ => none
 | k0 + 1, x7 => (if decide (x7 < 136) then ((if 0 ≤ x7 ∧ x7 < 136 then letO (if decide (p0.k ≤ ((p0.e.get x7.toNat).toNat : Int)) then true else (if decide ((impl_Colouring_edges p0) ≤ x7) then !decide (((p0.e.get x7.toNat).toNat : Int) = 0) else false)) fun (s13 : Bool) => (if s13 then (some (.inr false)).bind fun rr => some (.inr rr) else some (.inl ())) else none) : Option (Sum (Unit) (Sum (Unit) (Bool)))).bind fun os15 => (match os15 with | .inl s15 => impl_Colouring_isColouring_l0 k p0 k0 (w64 (x7 + 1)) | .inr rr => some rr) else some (.inl ()))
def impl_Colouring_isColouring (k : Nat) (p0 : Col) : Option (Bool) :=
 (letO (if !(impl_in p0.p 1 17) then true else !(impl_in p0.k 1 4)) fun (s4 : Bool) => (if s4 then some (.inr false) else some (.inl ())) : Option (Sum (Unit) (Bool))).bind fun os6 => (match os6 with | .inl s6 => (impl_Colouring_isColouring_l0 k p0 k 0 : Option (Sum (Unit) (Bool))).bind fun os16 => (match os16 with | .inl s16 => some true | .inr rr => some rr) | .inr rr => some rr)
set_option maxRecDepth 100000 in
theorem impl_Colouring_isColouring_ac (k : Nat) (p0 : Col) (r : Bool) (h : impl_Colouring_isColouring k p0 = some r) : AC Try.prog 98 [.d (.pv (colD p0) 0)] [] (fun res H' => res = [bV r] ∧ H' = []) := by
 refine AC_of_body true Try.func98 rfl Try.ntmps98 (rvs := [.tmp 2]) rfl rfl (fun G hG => ?_)
 have hm : G.H.length = 0 := by rw [hG]; rfl
 have hz : zeroG G.H = true := by rw [hG]; rfl
 unfold impl_Colouring_isColouring at h
 refine kR ?_
 refine kN 1 rfl ?_
 refine kO (fun s6 => [(0, .d (.pv (colD p0) 0))]) (fun s6 => []) h (fun os6 h hks6 => ?_) (fun s6 h => ?_)
 ·refine kL (fun s4 => [(0, .d (.pv (colD p0) 0)), (18, bV s4)]) (fun s4 => []) h (fun s4 h => ?_) (fun s4 h => ?_)
  ·refine (ACode_region ?_)
   refine kM 1 rfl ?_
   refine AOps_q 6 _ rfl rfl rfl (QOp_nilCheck_pv _ _ _ rfl rfl) ?_
   refine AOps_q 7 _ rfl rfl rfl (QOp_fieldAddr_pv _ _ _ _ _ 0 _ _ rfl Try.underlying29 rfl _ Try.sizeOf2 rfl rfl) ?_
   refine AOps_q 8 _ rfl rfl rfl (QOp_load_pv _ _ _ _ _ rfl Try.isAgg2 rfl rfl) ?_
   refine kC [] 9 (bV (impl_in p0.p 1 17)) [] rfl Try.call37 rfl rfl (impl_in_ac p0.p 1 17) rfl ?_
   refine AOps_q 10 _ rfl rfl rfl (QOp_not _ _ _ rfl rfl) ?_
   refine kM 1 rfl ?_
   refine AOps_case 11 _ rfl (fun hb2 => ?_) (fun hb2 => ?_)
   ·have h := iteT hb2 h
    refine AOps_skip 12 rfl rfl rfl ?_
    refine AOps_skip 13 rfl rfl rfl ?_
    refine AOps_skip 14 rfl rfl rfl ?_
    refine AOps_skip 15 rfl rfl rfl ?_
    refine AOps_skip 16 rfl rfl rfl ?_
    refine AOps_skip 17 rfl rfl rfl ?_
    refine kN 1 rfl ?_
    cases h
    exact Weak_keep 0 hm [0, 18] [] _ _ rfl rfl rfl
   have h := iteF hb2 h
   refine kM 1 rfl ?_
   refine AOps_q 13 _ rfl rfl rfl (QOp_nilCheck_pv _ _ _ rfl rfl) ?_
   refine AOps_q 14 _ rfl rfl rfl (QOp_fieldAddr_pv _ _ _ _ _ 1 _ _ rfl Try.underlying29 rfl _ Try.sizeOf2 rfl rfl) ?_
   refine AOps_q 15 _ rfl rfl rfl (QOp_load_pv _ _ _ _ _ rfl Try.isAgg2 rfl rfl) ?_
   refine kC [] 16 (bV (impl_in p0.k 1 4)) [] rfl Try.call37 rfl rfl (impl_in_ac p0.k 1 4) rfl ?_
   refine AOps_q 17 _ rfl rfl rfl (QOp_not _ _ _ rfl rfl) ?_
   refine kN 1 rfl ?_
   cases h
   exact Weak_keep 0 hm [0, 18] [] _ _ rfl rfl rfl
  refine kI h rfl (fun h _ => ?_) (fun h _ => ?_)
  ·refine kR ?_
   refine kN 1 rfl ?_
   refine ACode_ret ?_
   cases h
   have h := hks6
   cases h
   exact ⟨_, _, fun r a w h => ⟨r, h⟩, _, _, [], _, (.cons (ResV_tmp _ _ rfl) .nil), rfl, rfl, rfl, rfl, rfl⟩
  refine ACode_skip ?_
  cases h
  exact ⟨_, rfl, Weak_keep 0 hm [0] [] _ _ rfl rfl rfl⟩
 refine kO (fun s16 => []) (fun s16 => []) h (fun os16 h hks16 => ?_) (fun s16 h => ?_)
 ·refine kR ?_
  refine kM 1 rfl ?_
  refine AOps_q 20 _ rfl rfl rfl (QOp_nilCheck_pv _ _ _ rfl rfl) ?_
  refine AOps_q 21 _ rfl rfl rfl (QOp_fieldAddr_pv _ _ _ _ _ 2 _ _ rfl Try.underlying29 rfl _ Try.sizeOf27 rfl rfl) ?_
  refine AOps_q 22 _ rfl rfl rfl (QOp_loadN_pv _ _ _ _ _ _ rfl Try.isAgg27 Try.sizeOf27 rfl (colD_edges _) (byD_length _)) ?_
  refine kN 1 rfl ?_
  refine ACode_block ?_
  refine ACode_loopW (fun k0 E H => ∃ (x7 : Int), E = [(0, .d (.pv (colD p0) 0)), (22, .d (.agg (byD p0.e))), (23, iV x7)] ∧ H = [] ∧ impl_Colouring_isColouring_l0 k p0 k0 x7 = some os16) k _ _ (Weak_keep 0 hm [0, 22, 23] [] _ _ rfl rfl rfl) ⟨_, rfl, rfl, h⟩ ?_
  clear h
  rintro k0 E H ⟨x7, rfl, rfl, h⟩
  cases k0 with
  | zero => cases (show (none : Option (Sum (Unit) (Bool))) = some _ from h)
  | succ k0 =>
   rw [impl_Colouring_isColouring_l0] at h
   refine kR ?_
   refine AOps_q 24 _ rfl rfl rfl (QOp_lss _ _ _ _ _ _ _ rfl rfl rfl) ?_
   refine AOps_nil ?_
   refine ACode_seq ?_
   refine kI h rfl (fun h _ => ?_) (fun h _ => ?_)
   ·refine ACode_skip ?_
    refine kO (fun s15 => [(0, .d (.pv (colD p0) 0)), (22, .d (.agg (byD p0.e))), (23, iV x7)]) (fun s15 => []) h (fun os15 h hks15 => ?_) (fun s15 h => ?_)
    ·refine ACode_block ?_
     refine kR ?_
     refine kM 1 rfl ?_
     obtain ⟨hc9, h⟩ := guardO h
     refine AOps_q 26 _ rfl rfl rfl (QOp_index_agg _ _ _ _ _ _ _ _ _ rfl Try.underlying27 Try.sizeOf5 Try.isAgg5 hc9.1 hc9.2 rfl rfl (byD_get _ _ (by omega))) ?_
     refine kN 2 rfl ?_
     refine kL (fun s13 => [(0, .d (.pv (colD p0) 0)), (22, .d (.agg (byD p0.e))), (23, iV x7), (43, bV s13)]) (fun s13 => []) h (fun s13 h => ?_) (fun s13 h => ?_)
     ·refine (ACode_region ?_)
      refine kM 1 rfl ?_
      refine AOps_q 28 _ rfl rfl rfl (QOp_fromByte _ _ _ _ _ rfl rfl Try.underlying2 wrap_i64_byte rfl) ?_
      refine kM 1 rfl ?_
      refine AOps_q 30 _ rfl rfl rfl (QOp_nilCheck_pv _ _ _ rfl rfl) ?_
      refine AOps_q 31 _ rfl rfl rfl (QOp_fieldAddr_pv _ _ _ _ _ 1 _ _ rfl Try.underlying29 rfl _ Try.sizeOf2 rfl rfl) ?_
      refine AOps_q 32 _ rfl rfl rfl (QOp_load_pv _ _ _ _ _ rfl Try.isAgg2 rfl rfl) ?_
      refine AOps_q 33 _ rfl rfl rfl (QOp_geq _ _ _ _ _ _ _ rfl rfl rfl) ?_
      refine kM 1 rfl ?_
      refine AOps_case 34 _ rfl (fun hb10 => ?_) (fun hb10 => ?_)
      ·have h := iteT hb10 h
       refine AOps_skip 35 rfl rfl rfl ?_
       refine AOps_skip 36 rfl rfl rfl ?_
       refine AOps_skip 37 rfl rfl rfl ?_
       refine AOps_skip 38 rfl rfl rfl ?_
       refine AOps_skip 39 rfl rfl rfl ?_
       refine AOps_skip 40 rfl rfl rfl ?_
       refine AOps_skip 41 rfl rfl rfl ?_
       refine AOps_skip 42 rfl rfl rfl ?_
       refine kN 1 rfl ?_
       cases h
       exact Weak_keep 0 hm [0, 22, 23, 43] [] _ _ rfl rfl rfl
      have h := iteF hb10 h
      refine kM 2 rfl ?_
      refine kC [] 37 (iV (impl_Colouring_edges p0)) [] rfl Try.call124 rfl rfl (impl_Colouring_edges_ac p0) rfl ?_
      refine AOps_q 38 _ rfl rfl rfl (QOp_geq _ _ _ _ _ _ _ rfl rfl rfl) ?_
      refine kM 1 rfl ?_
      refine AOps_case 39 _ rfl (fun hb12 => ?_) (fun hb12 => ?_)
      ·have h := iteT hb12 h
       refine kM 1 rfl ?_
       refine AOps_q 41 _ rfl rfl rfl (QOp_neq _ _ _ _ _ _ _ rfl rfl rfl) ?_
       refine kN 2 rfl ?_
       cases h
       exact Weak_keep 0 hm [0, 22, 23, 43] [] _ _ rfl rfl rfl
      have h := iteF hb12 h
      refine AOps_skip 40 rfl rfl rfl ?_
      refine AOps_skip 41 rfl rfl rfl ?_
      refine kN 2 rfl ?_
      cases h
      exact Weak_keep 0 hm [0, 22, 23, 43] [] _ _ rfl rfl rfl
     refine kI h rfl (fun h _ => ?_) (fun h _ => ?_)
     ·refine kR ?_
      refine kN 1 rfl ?_
      refine ACode_ret ?_
      obtain ⟨rr, hz17, h2⟩ := bindO h
      obtain rfl := Option.some.inj h2
      obtain rfl := Option.some.inj (show some rr = some _ from hks15)
      have h := hz17
      cases h
      have h := hks16
      cases h
      exact ⟨_, _, fun r a w h => ⟨r, h⟩, _, _, [], _, (.cons (ResV_tmp _ _ rfl) .nil), rfl, rfl, rfl, rfl, rfl⟩
     refine ACode_skip ?_
     cases h
     exact ⟨_, rfl, Weak_keep 0 hm [0, 22, 23] [] _ _ rfl rfl rfl⟩
    refine (ACode_region ?_)
    refine AOps_q 44 _ rfl rfl rfl (QOp_add _ _ _ _ _ _ _ rfl rfl rfl) ?_
    refine kN 1 rfl ?_
    exact ⟨k0, _, _, Nat.lt_succ_self _, Weak_keep 0 hm [0, 22, 23] [] _ _ rfl rfl rfl, _, rfl, rfl, h⟩
   refine ACode_exit ?_
   cases h
   exact ⟨_, rfl, Weak_keep 0 hm [] [] _ _ rfl rfl rfl⟩
 refine kR ?_
 refine kN 1 rfl ?_
 refine ACode_ret ?_
 cases h
 exact ⟨_, _, fun r a w h => ⟨r, h⟩, _, _, [], _, (.cons (ResV_tmp _ _ rfl) .nil), rfl, rfl, rfl, rfl, rfl⟩

-- (*loop.example/g01362/impl.Colouring).code
def impl_Colouring_code (k : Nat) (p0 : Col) (p1 : Option (Bool)) : Option (Int) :=
 (impl_Colouring_isColouring k p0).bind fun r1 => (if !r1 then some 1 else (p1).bind fun r3 => (if !r3 then some 2 else some 0))
set_option maxRecDepth 100000 in
theorem impl_Colouring_code_ac (k : Nat) (p0 : Col) (p1 : Option (Bool)) (g_p1 : FuncId) (c_p1 : List D) (hg_p1 : ∀ args w, (callFunc g_p1 args).run Try.prog w = .ok (.enter g_p1 args) w) (hf_p1 : ∀ (r : Bool), p1 = some r → AC Try.prog g_p1 ([] ++ c_p1.map AV.d) [] (fun res H' => res = [bV r] ∧ H' = [])) (r : Int) (h : impl_Colouring_code k p0 p1 = some r) : AC Try.prog 47 [.d (.pv (colD p0) 0), .d (.clo g_p1 c_p1)] [] (fun res H' => res = [iV r] ∧ H' = []) := by
 refine AC_of_body true Try.func47 rfl Try.ntmps47 (rvs := [.tmp 4]) rfl rfl (fun G hG => ?_)
 have hm : G.H.length = 0 := by rw [hG]; rfl
 have hz : zeroG G.H = true := by rw [hG]; rfl
 unfold impl_Colouring_code at h
 refine kR ?_
 refine kN 1 rfl ?_
 refine ACode_seq ?_
 refine ACode_block ?_
 refine kR ?_
 refine kM 1 rfl ?_
 obtain ⟨r1, hr1, h⟩ := bindO h
 refine kC [] 7 (bV r1) [] rfl Try.call98 rfl rfl (impl_Colouring_isColouring_ac k p0 _ hr1) rfl ?_
 refine AOps_q 8 _ rfl rfl rfl (QOp_not _ _ _ rfl rfl) ?_
 refine kN 1 rfl ?_
 refine kI h rfl (fun h _ => ?_) (fun h _ => ?_)
 ·refine kR ?_
  refine kN 1 rfl ?_
  refine ACode_ret ?_
  cases h
  exact ⟨_, _, fun r a w h => ⟨r, h⟩, _, _, [], _, (.cons (ResV_tmp _ _ rfl) .nil), rfl, rfl, rfl, rfl, rfl⟩
 refine kR ?_
 refine kM 1 rfl ?_
 obtain ⟨r3, hr3, h⟩ := bindO h
 refine kC [] 11 (bV r3) [] rfl hg_p1 rfl (viewA_mapD _) (hf_p1 _ hr3) rfl ?_
 refine AOps_q 12 _ rfl rfl rfl (QOp_not _ _ _ rfl rfl) ?_
 refine kN 1 rfl ?_
 refine kI h rfl (fun h _ => ?_) (fun h _ => ?_)
 ·refine kR ?_
  refine kN 1 rfl ?_
  refine ACode_ret ?_
  cases h
  exact ⟨_, _, fun r a w h => ⟨r, h⟩, _, _, [], _, (.cons (ResV_tmp _ _ rfl) .nil), rfl, rfl, rfl, rfl, rfl⟩
 refine ACode_skip ?_
 refine kR ?_
 refine kN 1 rfl ?_
 refine ACode_ret ?_
 cases h
 exact ⟨_, _, fun r a w h => ⟨r, h⟩, _, _, [], _, (.cons (ResV_tmp _ _ rfl) .nil), rfl, rfl, rfl, rfl, rfl⟩

-- (*loop.example/g01362/impl.Colouring).sizesCode$1
def impl_Colouring_sizesCode_c1 (k : Nat) (p0 : List Int) (p1 : Col) (p2 : Option (Bool)) : Option (Bool) :=
 ((impl_areForbidden k p0 p1.k).bind fun r1 => (if r1 then (p2).bind fun r3 => some r3 else some false) : Option (Bool)).bind fun s4 => some s4
set_option maxRecDepth 100000 in
theorem impl_Colouring_sizesCode_c1_ac (k : Nat) (p0 : List Int) (p1 : Col) (p2 : Option (Bool)) (g_p2 : FuncId) (c_p2 : List D) (hg_p2 : ∀ args w, (callFunc g_p2 args).run Try.prog w = .ok (.enter g_p2 args) w) (hf_p2 : ∀ (r : Bool), p2 = some r → AC Try.prog g_p2 ([] ++ c_p2.map AV.d) [] (fun res H' => res = [bV r] ∧ H' = [])) (r : Bool) (h : impl_Colouring_sizesCode_c1 k p0 p1 p2 = some r) : AC Try.prog 96 [.d (.pv ([.sl none (intsD p0)]) 0), .d (.pv ([.pv (colD p1) 0]) 0), .d (.pv ([.clo g_p2 c_p2]) 0)] [] (fun res H' => res = [bV r] ∧ H' = []) := by
 refine AC_of_body true Try.func96 rfl Try.ntmps96 (rvs := [.tmp 3]) rfl rfl (fun G hG => ?_)
 have hm : G.H.length = 0 := by rw [hG]; rfl
 have hz : zeroG G.H = true := by rw [hG]; rfl
 unfold impl_Colouring_sizesCode_c1 at h
 refine kR ?_
 refine kN 1 rfl ?_
 refine kB (fun s4 => [(3, bV s4)]) (fun s4 => []) h (fun s4 h => ?_) (fun s4 h => ?_)
 ·refine (ACode_quiet mixed (by kernel_rfl) ?_)
  refine AQ_q 4 _ rfl rfl rfl (QOp_load_pv _ _ _ _ _ rfl Try.isAgg24 rfl rfl) ?_
  refine AQ_q 5 _ rfl rfl rfl (QOp_load_pv _ _ _ _ _ rfl Try.isAgg78 rfl rfl) ?_
  refine AQ_q 6 _ rfl rfl rfl (QOp_nilCheck_pv _ _ _ rfl rfl) ?_
  refine AQ_q 7 _ rfl rfl rfl (QOp_fieldAddr_pv _ _ _ _ _ 1 _ _ rfl Try.underlying29 rfl _ Try.sizeOf2 rfl rfl) ?_
  refine AQ_q 8 _ rfl rfl rfl (QOp_load_pv _ _ _ _ _ rfl Try.isAgg2 rfl rfl) ?_
  obtain ⟨r1, hr1, h⟩ := bindO h
  refine AQ_call 9 _ _ _ _ _ _ _ _ _ rfl rfl rfl rfl rfl rfl rfl Try.call38 rfl rfl rfl (impl_areForbidden_ac k p0 p1.k _ hr1) ?_
  refine kQ 1 rfl ?_
  refine AQ_case 10 _ rfl (fun hb2 => ?_) (fun hb2 => ?_)
  ·have h := iteT hb2 h
   refine AQ_q 11 _ rfl rfl rfl (QOp_load_pv _ _ _ _ _ rfl Try.isAgg66 rfl rfl) ?_
   obtain ⟨r3, hr3, h⟩ := bindO h
   refine AQ_call 12 _ _ _ _ _ _ _ _ _ rfl rfl rfl rfl rfl rfl rfl hg_p2 rfl rfl (viewA_mapD _) (hf_p2 _ hr3) ?_
   refine kQ 2 rfl ?_
   refine AQ_nil ?_
   cases h
   exact Weak_keep 0 hm [3] [] _ _ rfl rfl rfl
  have h := iteF hb2 h
  refine AQ_skip 11 rfl rfl rfl ?_
  refine AQ_skip 12 rfl rfl rfl ?_
  refine kQ 2 rfl ?_
  refine AQ_nil ?_
  cases h
  exact Weak_keep 0 hm [3] [] _ _ rfl rfl rfl
 refine ACode_ret ?_
 cases h
 exact ⟨_, _, fun r a w h => ⟨r, h⟩, _, _, [], _, (.cons (ResV_tmp _ _ rfl) .nil), rfl, rfl, rfl, rfl, rfl⟩

-- (*loop.example/g01362/impl.Colouring).sizesCode
def impl_Colouring_sizesCode (k : Nat) (p0 : Col) (p1 : List Int) (p2 : Option (Bool)) : Option (Int) :=
 (impl_Colouring_code k p0 (impl_Colouring_sizesCode_c1 k p1 p0 p2)).bind fun r1 => some r1
set_option maxRecDepth 100000 in
theorem impl_Colouring_sizesCode_ac (k : Nat) (p0 : Col) (p1 : List Int) (p2 : Option (Bool)) (g_p2 : FuncId) (c_p2 : List D) (hg_p2 : ∀ args w, (callFunc g_p2 args).run Try.prog w = .ok (.enter g_p2 args) w) (hf_p2 : ∀ (r : Bool), p2 = some r → AC Try.prog g_p2 ([] ++ c_p2.map AV.d) [] (fun res H' => res = [bV r] ∧ H' = [])) (r : Int) (h : impl_Colouring_sizesCode k p0 p1 p2 = some r) : AC Try.prog 44 [.d (.pv (colD p0) 0), .d (.sl none (intsD p1)), .d (.clo g_p2 c_p2)] [] (fun res H' => res = [iV r] ∧ H' = []) := by
 refine AC_of_body true Try.func44 rfl Try.ntmps44 (rvs := [.tmp 6]) rfl rfl (fun G hG => ?_)
 have hm : G.H.length = 0 := by rw [hG]; rfl
 have hz : zeroG G.H = true := by rw [hG]; rfl
 unfold impl_Colouring_sizesCode at h
 refine kR ?_
 refine AOps_boxI 3 _ _ (.pv (colD p0) 0) _ rfl (fun c hc => by cases hc with | head => rfl | tail _ h => cases h) rfl rfl rfl rfl rfl ?_
 refine AOps_boxI 4 _ _ (.sl none (intsD p1)) _ rfl (fun c hc => by cases hc with | head => rfl | tail _ h => cases h) rfl rfl rfl rfl rfl ?_
 refine AOps_boxI 5 _ _ (.clo g_p2 c_p2) _ rfl (fun c hc => by cases hc with | head => rfl | tail _ h => cases h) rfl rfl rfl rfl rfl ?_
 refine kN 1 rfl ?_
 refine kR ?_
 refine AOps_q 7 _ rfl rfl rfl (QOp_load_pv _ _ _ _ _ rfl Try.isAgg78 rfl rfl) ?_
 refine AOps_q 8 _ rfl rfl rfl (QOp_makeFuncD _ _ _ _ rfl rfl rfl) ?_
 obtain ⟨r1, hr1, h⟩ := bindO h
 refine kC [] 9 (iV r1) [] rfl Try.call47 rfl rfl (impl_Colouring_code_ac k p0 (impl_Colouring_sizesCode_c1 k p1 p0 p2) 96 ([.pv ([.sl none (intsD p1)]) 0, .pv ([.pv (colD p0) 0]) 0, .pv ([.clo g_p2 c_p2]) 0]) Try.call96 (fun r h => impl_Colouring_sizesCode_c1_ac k p1 p0 p2 g_p2 c_p2 hg_p2 hf_p2 r h) _ hr1) rfl ?_
 refine kN 1 rfl ?_
 refine ACode_ret ?_
 cases h
 exact ⟨_, _, fun r a w h => ⟨r, h⟩, _, _, [], _, (.cons (ResV_tmp _ _ rfl) .nil), rfl, rfl, rfl, rfl, rfl⟩

-- loop.example/g01362/impl.always
def impl_always : Bool :=
 true
set_option maxRecDepth 100000 in
theorem impl_always_ac : AC Try.prog 45 [] [] (fun res H' => res = [bV (impl_always)] ∧ H' = []) := by
 refine AC_of_body true Try.func45 rfl Try.ntmps45 (rvs := [.tmp 0]) rfl rfl (fun G hG => ?_)
 have hm : G.H.length = 0 := by rw [hG]; rfl
 have hz : zeroG G.H = true := by rw [hG]; rfl
 obtain ⟨r, h⟩ : ∃ r, impl_always = r := ⟨_, rfl⟩
 rw [h]
 unfold impl_always at h
 refine kR ?_
 refine kN 1 rfl ?_
 refine kR ?_
 refine kN 1 rfl ?_
 refine ACode_ret ?_
 cases h
 exact ⟨_, _, fun r a w h => ⟨r, h⟩, _, _, [], _, (.cons (ResV_tmp _ _ rfl) .nil), rfl, rfl, rfl, rfl, rfl⟩

-- (*loop.example/g01362/impl.Colouring).firstOf$1
def impl_Colouring_firstOf_c1 (p0 : List Int) (p1 : Int) (p2 : List Int) : Bool × List Int :=
 (if decide ((impl_size p0) < p1) then (true, p2) else (false, p0))
set_option maxRecDepth 100000 in
theorem impl_Colouring_firstOf_c1_ac (p0 : List Int) (p1 : Int) (p2 : List Int) : AC Try.prog 123 [.d (.sl none (intsD p0)), .d (.pv ([iD p1]) 0), .ptr 0 0] [.box [.sl none (intsD p2)]] (fun res H' => res = [bV ((impl_Colouring_firstOf_c1 p0 p1 p2).1)] ∧ H' = [.box [.sl none (intsD ((impl_Colouring_firstOf_c1 p0 p1 p2).2))]]) := by
 refine AC_of_body true Try.func123 rfl Try.ntmps123 (rvs := [.tmp 4]) rfl rfl (fun G hG => ?_)
 have hm : G.H.length = 1 := by rw [hG]; rfl
 have hz : zeroG G.H = true := by rw [hG]; rfl
 obtain ⟨r, h⟩ : ∃ r, impl_Colouring_firstOf_c1 p0 p1 p2 = r := ⟨_, rfl⟩
 rw [h]
 unfold impl_Colouring_firstOf_c1 at h
 refine kR ?_
 refine kN 1 rfl ?_
 refine ACode_seq ?_
 refine ACode_seq (ACode_quiet mixed (by kernel_rfl) ?_)
 refine kQ 1 rfl ?_
 refine AQ_call 6 _ _ _ _ _ _ _ _ _ rfl rfl rfl rfl rfl rfl rfl Try.call55 rfl rfl rfl (impl_size_ac p0) ?_
 refine AQ_q 7 _ rfl rfl rfl (QOp_load_pv _ _ _ _ _ rfl Try.isAgg2 rfl rfl) ?_
 refine AQ_q 8 _ rfl rfl rfl (QOp_lss _ _ _ _ _ _ _ rfl rfl rfl) ?_
 refine AQ_nil ?_
 refine kI h rfl (fun h _ => ?_) (fun h _ => ?_)
 ·refine kR ?_
  refine kN 1 rfl ?_
  refine ACode_ret ?_
  cases h
  exact ⟨_, _, fun r a w h => ⟨r, h⟩, _, _, [], _, (.cons (ResV_tmp _ _ rfl) .nil), rfl, rfl, rfl, rfl, rfl⟩
 refine ACode_skip ?_
 refine kR ?_
 refine kM 1 rfl ?_
 refine AOps_store1 _ _ _ _ _ _ _ _ rfl rfl rfl rfl rfl rfl rfl Try.sizeOf24 (Nat.le_of_ble_eq_true rfl) rfl ?_
 refine AOps_nil ?_
 refine kR ?_
 refine kN 1 rfl ?_
 refine ACode_ret ?_
 cases h
 exact ⟨_, _, fun r a w h => ⟨r, h⟩, _, _, [], _, (.cons (ResV_tmp _ _ rfl) .nil), rfl, rfl, rfl, rfl, rfl⟩

-- (*loop.example/g01362/impl.Colouring).goesWith$1
def impl_Colouring_goesWith_c1 (p0 : Int) (p1 : Col) (p2 : Int) (p3 : Int) : Option (Bool) :=
 (impl_Colouring_joins p1 p0 p2 p3).bind fun r1 => some (!r1)
set_option maxRecDepth 100000 in
theorem impl_Colouring_goesWith_c1_ac (p0 : Int) (p1 : Col) (p2 : Int) (p3 : Int) (r : Bool) (h : impl_Colouring_goesWith_c1 p0 p1 p2 p3 = some r) : AC Try.prog 140 [iV p0, .d (.pv ([.pv (colD p1) 0]) 0), .d (.pv ([iD p2]) 0), .d (.pv ([iD p3]) 0)] [] (fun res H' => res = [bV r] ∧ H' = []) := by
 refine AC_of_body true Try.func140 rfl Try.ntmps140 (rvs := [.tmp 5]) rfl rfl (fun G hG => ?_)
 have hm : G.H.length = 0 := by rw [hG]; rfl
 have hz : zeroG G.H = true := by rw [hG]; rfl
 unfold impl_Colouring_goesWith_c1 at h
 refine kR ?_
 refine kN 1 rfl ?_
 refine kR ?_
 refine AOps_q 6 _ rfl rfl rfl (QOp_load_pv _ _ _ _ _ rfl Try.isAgg78 rfl rfl) ?_
 refine kM 1 rfl ?_
 refine AOps_q 8 _ rfl rfl rfl (QOp_load_pv _ _ _ _ _ rfl Try.isAgg2 rfl rfl) ?_
 refine AOps_q 9 _ rfl rfl rfl (QOp_load_pv _ _ _ _ _ rfl Try.isAgg2 rfl rfl) ?_
 obtain ⟨r1, hr1, h⟩ := bindO h
 refine kC [] 10 (bV r1) [] rfl Try.call62 rfl rfl (impl_Colouring_joins_ac p1 p0 p2 p3 _ hr1) rfl ?_
 refine AOps_q 11 _ rfl rfl rfl (QOp_not _ _ _ rfl rfl) ?_
 refine kN 1 rfl ?_
 refine ACode_ret ?_
 cases h
 exact ⟨_, _, fun r a w h => ⟨r, h⟩, _, _, [], _, (.cons (ResV_tmp _ _ rfl) .nil), rfl, rfl, rfl, rfl, rfl⟩

-- (*loop.example/g01362/impl.Colouring).goesWith
def impl_Colouring_goesWith (k : Nat) (p0 : Col) (p1 : Int) (p2 : List Int) (p3 : Int) : Option (Bool) :=
 (slices_ContainsFunc k p2 (fun a0 => impl_Colouring_goesWith_c1 a0 p0 p3 p1)).bind fun r1 => some (!r1)
set_option maxRecDepth 100000 in
theorem impl_Colouring_goesWith_ac (k : Nat) (p0 : Col) (p1 : Int) (p2 : List Int) (p3 : Int) (r : Bool) (h : impl_Colouring_goesWith k p0 p1 p2 p3 = some r) : AC Try.prog 138 [.d (.pv (colD p0) 0), iV p1, .d (.sl none (intsD p2)), iV p3] [] (fun res H' => res = [bV r] ∧ H' = []) := by
 refine AC_of_body true Try.func138 rfl Try.ntmps138 (rvs := [.tmp 8]) rfl rfl (fun G hG => ?_)
 have hm : G.H.length = 0 := by rw [hG]; rfl
 have hz : zeroG G.H = true := by rw [hG]; rfl
 unfold impl_Colouring_goesWith at h
 refine kR ?_
 refine AOps_boxI 4 _ _ (.pv (colD p0) 0) _ rfl (fun c hc => by cases hc with | head => rfl | tail _ h => cases h) rfl rfl rfl rfl rfl ?_
 refine AOps_boxI 5 _ _ (iD p1) _ rfl (fun c hc => by cases hc with | head => rfl | tail _ h => cases h) rfl rfl rfl rfl rfl ?_
 refine AOps_boxI 7 _ _ (iD p3) _ rfl (fun c hc => by cases hc with | head => rfl | tail _ h => cases h) rfl rfl rfl rfl rfl ?_
 refine kN 1 rfl ?_
 refine kR ?_
 refine kM 1 rfl ?_
 refine AOps_q 10 _ rfl rfl rfl (QOp_makeFuncD _ _ _ _ rfl rfl rfl) ?_
 obtain ⟨r1, hr1, h⟩ := bindO h
 refine kC [] 11 (bV r1) [] rfl Try.call119 rfl rfl (slices_ContainsFunc_ac k p2 (fun a0 => impl_Colouring_goesWith_c1 a0 p0 p3 p1) 140 ([.pv ([.pv (colD p0) 0]) 0, .pv ([iD p3]) 0, .pv ([iD p1]) 0]) Try.call140 (fun a0 r h => impl_Colouring_goesWith_c1_ac a0 p0 p3 p1 r h) _ hr1) rfl ?_
 refine AOps_q 12 _ rfl rfl rfl (QOp_not _ _ _ rfl rfl) ?_
 refine kN 1 rfl ?_
 refine ACode_ret ?_
 cases h
 exact ⟨_, _, fun r a w h => ⟨r, h⟩, _, _, [], _, (.cons (ResV_tmp _ _ rfl) .nil), rfl, rfl, rfl, rfl, rfl⟩

-- (*loop.example/g01362/impl.Colouring).cliques
def impl_Colouring_cliques_on_firstOf_c1_l0 (k : Nat) (self : Col → Int → (List Int) → Int → (List Int) → Option (Bool × List Int)) (p0 : Col) (p1 : Int) (p2 : List Int) (p3_0 : Int) : Nat → Int → (List Int) → Option (Sum (List Int) (Bool × List Int))
 | 0, _, _ => none
 | k0 + 1, x6, x7 => (if decide (x6 < p0.p) then (((impl_Colouring_goesWith k p0 p1 p2 x6).bind fun r9 => (if r9 then (if p2.isEmpty then (if ([x6]).length ≤ 1099511627776 ∧ ([x6]).length ≠ 0 then (self p0 p1 ([x6]) p3_0 x7).bind fun r14 => some (!r14.1, r14.2) else none) else (cloneA p2).bind fun r15 => (if r15.length + ([x6]).length ≤ 1099511627776 then (self p0 p1 (r15 ++ ([x6])) p3_0 x7).bind fun r17 => some (!r17.1, r17.2) else none)) else some (false, x7)) : Option (Bool × List Int)).bind fun s18 => (if s18.1 then (some (.inr (false, s18.2))).bind fun rr => some (.inr rr) else some (.inl s18.2)) : Option (Sum (List Int) (Sum (List Int) (Bool × List Int)))).bind fun os20 => (match os20 with | .inl s20 => impl_Colouring_cliques_on_firstOf_c1_l0 k self p0 p1 p2 p3_0 k0 (w64 (x6 + 1)) s20 | .inr rr => some rr) else some (.inl x7))
def impl_Colouring_cliques_on_firstOf_c1_body (self : Col → Int → (List Int) → Int → (List Int) → Option (Bool × List Int)) (k : Nat) (p0 : Col) (p1 : Int) (p2 : List Int) (p3_0 : Int) (p3_1 : List Int) : Option (Bool × List Int) :=
 (if !((impl_Colouring_firstOf_c1 p2 p3_0 p3_1).1) then some (false, (impl_Colouring_firstOf_c1 p2 p3_0 p3_1).2) else ((if decide (0 < (p2.length : Int)) then (if 0 ≤ w64 ((p2.length : Int) - 1) ∧ w64 ((p2.length : Int) - 1) < (p2.length : Int) then some (w64 ((p2.getD (w64 ((p2.length : Int) - 1)).toNat 0) + 1)) else none) else some 0) : Option (Int)).bind fun s5 => (impl_Colouring_cliques_on_firstOf_c1_l0 k self p0 p1 p2 p3_0 k s5 ((impl_Colouring_firstOf_c1 p2 p3_0 p3_1).2) : Option (Sum (List Int) (Bool × List Int))).bind fun os21 => (match os21 with | .inl s21 => some (true, s21) | .inr rr => some rr))
def impl_Colouring_cliques_on_firstOf_c1 : Nat → Col → Int → (List Int) → Int → (List Int) → Option (Bool × List Int)
 | 0, _, _, _, _, _ => none
 | k + 1, p0, p1, p2, p3_0, p3_1 => impl_Colouring_cliques_on_firstOf_c1_body (impl_Colouring_cliques_on_firstOf_c1 k) k p0 p1 p2 p3_0 p3_1
set_option maxRecDepth 100000 in
theorem impl_Colouring_cliques_on_firstOf_c1_ac (k : Nat) (p0 : Col) (p1 : Int) (p2 : List Int) (p3_0 : Int) (p3_1 : List Int) (r : Bool × List Int) (h : impl_Colouring_cliques_on_firstOf_c1 k p0 p1 p2 p3_0 p3_1 = some r) : AC Try.prog 122 [.d (.pv (colD p0) 0), iV p1, .d (.sl none (intsD p2)), .clo 123 [.d (.pv ([iD p3_0]) 0), .ptr 0 0]] [.box [.sl none (intsD p3_1)]] (fun res H' => res = [bV r.1] ∧ H' = [.box [.sl none (intsD r.2)]]) := by
 induction k generalizing p0 p1 p2 p3_0 p3_1 r with
 | zero => simp [impl_Colouring_cliques_on_firstOf_c1] at h
 | succ k ih =>
  rw [impl_Colouring_cliques_on_firstOf_c1] at h
  obtain ⟨self, hself, hk⟩ : ∃ self : Col → Int → (List Int) → Int → (List Int) → Option (Bool × List Int), (∀ (p0 : Col) (p1 : Int) (p2 : List Int) (p3_0 : Int) (p3_1 : List Int) (r : Bool × List Int), self p0 p1 p2 p3_0 p3_1 = some r → AC Try.prog 122 [.d (.pv (colD p0) 0), iV p1, .d (.sl none (intsD p2)), .clo 123 [.d (.pv ([iD p3_0]) 0), .ptr 0 0]] [.box [.sl none (intsD p3_1)]] (fun res H' => res = [bV r.1] ∧ H' = [.box [.sl none (intsD r.2)]])) ∧ impl_Colouring_cliques_on_firstOf_c1 k = self := ⟨impl_Colouring_cliques_on_firstOf_c1 k, fun p0 p1 p2 p3_0 p3_1 r h => ih p0 p1 p2 p3_0 p3_1 r h, rfl⟩
  rw [hk] at h
  clear ih hk
  refine AC_of_body true Try.func122 rfl Try.ntmps122 (rvs := [.tmp 8]) rfl rfl (fun G hG => ?_)
  have hm : G.H.length = 1 := by rw [hG]; rfl
  have hz : zeroG G.H = true := by rw [hG]; rfl
  unfold impl_Colouring_cliques_on_firstOf_c1_body at h
  refine kR ?_
  refine kN 1 rfl ?_
  refine ACode_seq ?_
  refine kR ?_
  refine kM 2 rfl ?_
  refine kC [0] 13 (bV ((impl_Colouring_firstOf_c1 p2 p3_0 p3_1).1)) [.box [.sl none (intsD ((impl_Colouring_firstOf_c1 p2 p3_0 p3_1).2))]] rfl Try.call123 rfl rfl (impl_Colouring_firstOf_c1_ac p2 p3_0 p3_1) rfl ?_
  refine AOps_q 14 _ rfl rfl rfl (QOp_not _ _ _ rfl rfl) ?_
  refine AOps_nil ?_
  refine kI h rfl (fun h _ => ?_) (fun h _ => ?_)
  ·refine kR ?_
   refine kN 1 rfl ?_
   refine ACode_ret ?_
   cases h
   exact ⟨_, _, fun r a w h => ⟨r, h⟩, _, _, [], _, (.cons (ResV_tmp _ _ rfl) .nil), rfl, rfl, rfl, rfl, rfl⟩
  refine ACode_skip ?_
  refine kR ?_
  refine kN 1 rfl ?_
  refine kB (fun s5 => [(0, .d (.pv (colD p0) 0)), (1, iV p1), (2, .d (.sl none (intsD p2))), (3, .clo 123 [.d (.pv ([iD p3_0]) 0), .ptr 0 0]), (9, iV s5)]) (fun s5 => [.box [.sl none (intsD ((impl_Colouring_firstOf_c1 p2 p3_0 p3_1).2))]]) h (fun s5 h => ?_) (fun s5 h => ?_)
  ·refine kR ?_
   refine kM 1 rfl ?_
   refine AOps_q 16 _ rfl rfl rfl (QOp_len_sl _ _ _ _ _ _ _ (intsD_length _) rfl rfl rfl rfl Try.underlying24 rfl) ?_
   refine AOps_q 17 _ rfl rfl rfl (QOp_gtr _ _ _ _ _ _ _ rfl rfl rfl) ?_
   refine AOps_nil ?_
   refine kI h rfl (fun h _ => ?_) (fun h _ => ?_)
   ·refine (ACode_region ?_)
    refine kM 2 rfl ?_
    refine AOps_q 20 _ rfl rfl rfl (QOp_len_sl _ _ _ _ _ _ _ (intsD_length _) rfl rfl rfl rfl Try.underlying24 rfl) ?_
    refine AOps_q 21 _ rfl rfl rfl (QOp_sub _ _ _ _ _ _ _ rfl rfl rfl) ?_
    obtain ⟨hc4, h⟩ := guardO h
    refine AOps_q 22 _ rfl rfl rfl (QOp_indexAddr_sl _ _ _ _ _ _ _ _ rfl Try.underlying24 Try.sizeOf2 hc4.1 (by rw [intsD_length]; exact hc4.2) rfl rfl) ?_
    refine AOps_q 23 _ rfl rfl rfl (QOp_load_pv _ _ _ _ _ rfl Try.isAgg2 rfl (intsD_get _ _ 0 (by omega))) ?_
    refine AOps_q 24 _ rfl rfl rfl (QOp_add _ _ _ _ _ _ _ rfl rfl rfl) ?_
    refine kN 1 rfl ?_
    cases h
    exact Weak_keep 1 hm [0, 1, 2, 3, 9] [] _ _ rfl rfl rfl
   refine ACode_skip ?_
   cases h
   exact Weak_keep 1 hm [0, 1, 2, 3, 9] [] _ _ rfl rfl rfl
  refine kO (fun s21 => []) (fun s21 => [.box [.sl none (intsD s21)]]) h (fun os21 h hks21 => ?_) (fun s21 h => ?_)
  ·refine kR ?_
   refine kN 2 rfl ?_
   refine ACode_block ?_
   refine ACode_loopW (fun k0 E H => ∃ (x6 : Int) (x7 : List Int), E = [(0, .d (.pv (colD p0) 0)), (1, iV p1), (2, .d (.sl none (intsD p2))), (3, .clo 123 [.d (.pv ([iD p3_0]) 0), .ptr 0 0]), (10, iV x6)] ∧ H = [.box [.sl none (intsD x7)]] ∧ impl_Colouring_cliques_on_firstOf_c1_l0 k self p0 p1 p2 p3_0 k0 x6 x7 = some os21) k _ _ (Weak_keep 1 hm [0, 1, 2, 3, 10] [] _ _ rfl rfl rfl) ⟨_, _, rfl, rfl, h⟩ ?_
   clear h
   rintro k0 E H ⟨x6, x7, rfl, rfl, h⟩
   cases k0 with
   | zero => cases (show (none : Option (Sum (List Int) (Bool × List Int))) = some _ from h)
   | succ k0 =>
    rw [impl_Colouring_cliques_on_firstOf_c1_l0] at h
    refine ACode_seq ?_
    refine kR ?_
    refine kM 2 rfl ?_
    refine AOps_q 28 _ rfl rfl rfl (QOp_nilCheck_pv _ _ _ rfl rfl) ?_
    refine AOps_q 29 _ rfl rfl rfl (QOp_fieldAddr_pv _ _ _ _ _ 0 _ _ rfl Try.underlying29 rfl _ Try.sizeOf2 rfl rfl) ?_
    refine AOps_q 30 _ rfl rfl rfl (QOp_load_pv _ _ _ _ _ rfl Try.isAgg2 rfl rfl) ?_
    refine AOps_q 31 _ rfl rfl rfl (QOp_lss _ _ _ _ _ _ _ rfl rfl rfl) ?_
    refine AOps_nil ?_
    refine kI h rfl (fun h _ => ?_) (fun h _ => ?_)
    ·refine ACode_skip ?_
     refine kO (fun s20 => [(0, .d (.pv (colD p0) 0)), (1, iV p1), (2, .d (.sl none (intsD p2))), (3, .clo 123 [.d (.pv ([iD p3_0]) 0), .ptr 0 0]), (10, iV x6)]) (fun s20 => [.box [.sl none (intsD s20)]]) h (fun os20 h hks20 => ?_) (fun s20 h => ?_)
     ·refine ACode_block ?_
      refine kB (fun s18 => [(0, .d (.pv (colD p0) 0)), (1, iV p1), (2, .d (.sl none (intsD p2))), (3, .clo 123 [.d (.pv ([iD p3_0]) 0), .ptr 0 0]), (10, iV x6), (50, bV s18.1)]) (fun s18 => [.box [.sl none (intsD s18.2)]]) h (fun s18 h => ?_) (fun s18 h => ?_)
      ·refine (ACode_region ?_)
       refine kM 4 rfl ?_
       obtain ⟨r9, hr9, h⟩ := bindO h
       refine kC [] 38 (bV r9) [.box [.sl none (intsD x7)]] rfl Try.call138 rfl rfl (impl_Colouring_goesWith_ac k p0 p1 p2 x6 _ hr9) rfl ?_
       refine kM 1 rfl ?_
       refine AOps_case 39 _ rfl (fun hb10 => ?_) (fun hb10 => ?_)
       ·have h := iteT hb10 h
        refine kM 3 rfl ?_
        refine bsplit (p2.isEmpty) (fun hb11 => ?_) (fun hb11 => ?_)
        ·have h := iteT hb11 h
         refine kC [] 43 (.d (.se none)) [.box [.sl none (intsD x7)]] rfl Try.call103 rfl rfl (cloneB_ac p2 hb11) rfl ?_
         refine kM 1 rfl ?_
         refine AOps_buildSlice 45 _ _ _ [_] (intsD ([x6])) _ rfl rfl rfl rfl rfl (by decide) Try.underlying24 Try.sizeOf2 (zero_of Try.typeInfo2 rfl) rfl rfl (intsD_one _) ?_
         obtain ⟨hc13, h⟩ := guardO h
         refine AOps_append0 46 _ _ _ _ _ _ _ _ _ _ rfl rfl rfl rfl rfl rfl rfl Try.underlying24 Try.type2 rfl rfl rfl (by decide) rfl rfl rfl (intsD_one _) (by rw [intsD_length]; exact hc13.1) (by rw [intsD_length]; exact hc13.2) ?_
         refine kM 1 rfl ?_
         refine AOps_freezeL [46] 2 0 _ (allc (rfl) (fun _ h => nomatch h)) rfl ?_
         obtain ⟨r14, hr14, h⟩ := bindO h
         refine kC [0] 48 (bV r14.1) [.box [.sl none (intsD r14.2)], .vec 0 (intsD ([x6])), .gone] rfl Try.call122 rfl rfl (hself p0 p1 ([x6]) p3_0 x7 _ hr14) rfl ?_
         refine AOps_q 49 _ rfl rfl rfl (QOp_not _ _ _ rfl rfl) ?_
         refine kN 1 rfl ?_
         cases h
         exact Weak_keep 1 hm [0, 1, 2, 3, 10, 50] [] _ _ rfl rfl rfl
        have h := iteF hb11 h
        obtain ⟨r15, hr15, h⟩ := bindO h
        refine kC [] 43 (.vec 1 0) [.box [.sl none (intsD x7)], .vec 0 (intsD r15)] rfl Try.call103 rfl rfl (cloneA_ac p2 _ hb11 hr15) rfl ?_
        refine kM 1 rfl ?_
        refine AOps_buildSlice 45 _ _ _ [_] (intsD ([x6])) _ rfl rfl rfl rfl rfl (by decide) Try.underlying24 Try.sizeOf2 (zero_of Try.typeInfo2 rfl) rfl rfl (intsD_one _) ?_
        obtain ⟨hc16, h⟩ := guardO h
        refine AOps_append 46 _ _ _ _ _ _ _ _ _ _ _ _ rfl rfl rfl rfl rfl rfl rfl Try.underlying24 Try.type2 rfl rfl rfl (by decide) rfl rfl rfl rfl (intsD_one _) (by rw [intsD_length, intsD_length]; exact hc16) ?_
        rw [intsD_app]
        refine kM 1 rfl ?_
        refine AOps_freezeL [46] 1 1 _ (allc (rfl) (fun _ h => nomatch h)) rfl ?_
        obtain ⟨r17, hr17, h⟩ := bindO h
        refine kC [0] 48 (bV r17.1) [.box [.sl none (intsD r17.2)], .gone, .vec 0 (intsD ([x6]))] rfl Try.call122 rfl rfl (hself p0 p1 (r15 ++ ([x6])) p3_0 x7 _ hr17) rfl ?_
        refine AOps_q 49 _ rfl rfl rfl (QOp_not _ _ _ rfl rfl) ?_
        refine kN 1 rfl ?_
        cases h
        exact Weak_keep 1 hm [0, 1, 2, 3, 10, 50] [] _ _ rfl rfl rfl
       have h := iteF hb10 h
       refine AOps_skip 40 rfl rfl rfl ?_
       refine AOps_skip 41 rfl rfl rfl ?_
       refine AOps_skip 42 rfl rfl rfl ?_
       refine AOps_skip 43 rfl rfl rfl ?_
       refine AOps_skip 44 rfl rfl rfl ?_
       refine AOps_skip 45 rfl rfl rfl ?_
       refine AOps_skip 46 rfl rfl rfl ?_
       refine AOps_skip 47 rfl rfl rfl ?_
       refine AOps_skip 48 rfl rfl rfl ?_
       refine AOps_skip 49 rfl rfl rfl ?_
       refine kN 1 rfl ?_
       cases h
       exact Weak_keep 1 hm [0, 1, 2, 3, 10, 50] [] _ _ rfl rfl rfl
      refine kI h rfl (fun h _ => ?_) (fun h _ => ?_)
      ·refine kR ?_
       refine kN 1 rfl ?_
       refine ACode_ret ?_
       obtain ⟨rr, hz22, h2⟩ := bindO h
       obtain rfl := Option.some.inj h2
       obtain rfl := Option.some.inj (show some rr = some _ from hks20)
       have h := hz22
       cases h
       have h := hks21
       cases h
       exact ⟨_, _, fun r a w h => ⟨r, h⟩, _, _, [], _, (.cons (ResV_tmp _ _ rfl) .nil), rfl, rfl, rfl, rfl, rfl⟩
      refine ACode_skip ?_
      cases h
      exact ⟨_, rfl, Weak_keep 1 hm [0, 1, 2, 3, 10] [] _ _ rfl rfl rfl⟩
     refine (ACode_region ?_)
     refine kM 1 rfl ?_
     refine AOps_q 33 _ rfl rfl rfl (QOp_add _ _ _ _ _ _ _ rfl rfl rfl) ?_
     refine kN 1 rfl ?_
     exact ⟨k0, _, _, Nat.lt_succ_self _, Weak_keep 1 hm [0, 1, 2, 3, 10] [] _ _ rfl rfl rfl, _, _, rfl, rfl, h⟩
    refine ACode_exit ?_
    cases h
    exact ⟨_, rfl, Weak_keep 1 hm [] [] _ _ rfl rfl rfl⟩
  refine kR ?_
  refine kN 1 rfl ?_
  refine ACode_ret ?_
  cases h
  exact ⟨_, _, fun r a w h => ⟨r, h⟩, _, _, [], _, (.cons (ResV_tmp _ _ rfl) .nil), rfl, rfl, rfl, rfl, rfl⟩

-- (*loop.example/g01362/impl.Colouring).firstOf
def impl_Colouring_firstOf (k : Nat) (p0 : Col) (p1 : Int) (p2 : Int) : Option (List Int × Bool) :=
 (impl_Colouring_cliques_on_firstOf_c1 k p0 p1 ([]) p2 ([] : List Int)).bind fun r1 => some (r1.2, !r1.1)
set_option maxRecDepth 100000 in
theorem impl_Colouring_firstOf_ac (k : Nat) (p0 : Col) (p1 : Int) (p2 : Int) (r : List Int × Bool) (h : impl_Colouring_firstOf k p0 p1 p2 = some r) : AC Try.prog 97 [.d (.pv (colD p0) 0), iV p1, iV p2] [] (fun res H' => res = [.d (.sl none (intsD r.1)), bV r.2] ∧ H' = []) := by
 refine AC_of_body true Try.func97 rfl Try.ntmps97 (rvs := [.tmp 6, .tmp 7]) rfl rfl (fun G hG => ?_)
 have hm : G.H.length = 0 := by rw [hG]; rfl
 have hz : zeroG G.H = true := by rw [hG]; rfl
 unfold impl_Colouring_firstOf at h
 refine kR ?_
 refine AOps_boxI 5 _ _ (iD p2) _ rfl (fun c hc => by cases hc with | head => rfl | tail _ h => cases h) rfl rfl rfl rfl rfl ?_
 refine kN 2 rfl ?_
 refine kR ?_
 refine AOps_buildSlice 10 _ _ _ [] (intsD ([] : List Int)) _ rfl rfl rfl rfl rfl (by decide) Try.underlying24 Try.sizeOf2 (zero_of Try.typeInfo2 rfl) rfl rfl (intsD_one _) ?_
 refine AOps_alloc 8 _ _ ([.sl (some true) []]) (zero_of Try.typeInfo24 rfl) (by rfl) rfl rfl rfl rfl ?_
 refine AOps_freeze 10 0 0 _ rfl rfl ?_
 refine AOps_store1 _ _ _ _ _ _ _ _ rfl rfl rfl rfl rfl rfl rfl Try.sizeOf24 (Nat.le_of_ble_eq_true rfl) rfl ?_
 refine AOps_nil ?_
 refine kR ?_
 refine kM 2 rfl ?_
 refine AOps_q 13 _ rfl rfl rfl (QOp_makeFunc _ _ _ rfl rfl) ?_
 obtain ⟨r1, hr1, h⟩ := bindO h
 refine kC [1] 14 (bV r1.1) [.gone, .box [.sl none (intsD r1.2)]] rfl Try.call122 rfl rfl (impl_Colouring_cliques_on_firstOf_c1_ac k p0 p1 ([]) p2 ([] : List Int) _ hr1) rfl ?_
 refine kN 1 rfl ?_
 refine kR ?_
 refine AOps_q 15 _ rfl rfl rfl (QOp_load_ptr _ _ _ _ _ _ rfl Try.isAgg24 rfl rfl rfl) ?_
 refine kM 1 rfl ?_
 refine AOps_q 17 _ rfl rfl rfl (QOp_not _ _ _ rfl rfl) ?_
 refine kN 2 rfl ?_
 refine ACode_ret ?_
 cases h
 exact ⟨_, _, fun r a w h => ⟨r, h⟩, _, _, [], _, (.cons (ResV_tmp _ _ rfl) (.cons (ResV_tmp _ _ rfl) .nil)), rfl, rfl, rfl, rfl, rfl⟩

-- (*loop.example/g01362/impl.Colouring).avoids
def impl_Colouring_avoids_l0 (k : Nat) (p0 : Col) (p1 : List Int) : Nat → Int → Option (Sum (Unit) (Bool))
 | 0, _ => none
 | k0 + 1, x1 => (if decide (x1 < (p1.length : Int)) then (if 0 ≤ x1 ∧ x1 < (p1.length : Int) then (impl_Colouring_firstOf k p0 x1 (p1.getD x1.toNat 0)).bind fun r4 => (if r4.2 then some (.inr false) else impl_Colouring_avoids_l0 k p0 p1 k0 (w64 (x1 + 1))) else none) else some (.inl ()))
def impl_Colouring_avoids (k : Nat) (p0 : Col) (p1 : List Int) : Option (Bool) :=
 (impl_Colouring_avoids_l0 k p0 p1 k 0 : Option (Sum (Unit) (Bool))).bind fun os6 => (match os6 with | .inl s6 => some true | .inr rr => some rr)
set_option maxRecDepth 100000 in
theorem impl_Colouring_avoids_ac (k : Nat) (p0 : Col) (p1 : List Int) (r : Bool) (h : impl_Colouring_avoids k p0 p1 = some r) : AC Try.prog 46 [.d (.pv (colD p0) 0), .d (.sl none (intsD p1))] [] (fun res H' => res = [bV r] ∧ H' = []) := by
 refine AC_of_body true Try.func46 rfl Try.ntmps46 (rvs := [.tmp 4]) rfl rfl (fun G hG => ?_)
 have hm : G.H.length = 0 := by rw [hG]; rfl
 have hz : zeroG G.H = true := by rw [hG]; rfl
 unfold impl_Colouring_avoids at h
 refine kR ?_
 refine kN 1 rfl ?_
 refine kO (fun s6 => []) (fun s6 => []) h (fun os6 h hks6 => ?_) (fun s6 h => ?_)
 ·refine kR ?_
  refine kM 1 rfl ?_
  refine AOps_q 10 _ rfl rfl rfl (QOp_len_sl _ _ _ _ _ _ _ (intsD_length _) rfl rfl rfl rfl Try.underlying24 rfl) ?_
  refine kN 1 rfl ?_
  refine ACode_block ?_
  refine ACode_loopW (fun k0 E H => ∃ (x1 : Int), E = [(0, .d (.pv (colD p0) 0)), (9, .d (.sl none (intsD p1))), (10, iV (p1.length : Int)), (11, iV x1)] ∧ H = [] ∧ impl_Colouring_avoids_l0 k p0 p1 k0 x1 = some os6) k _ _ (Weak_keep 0 hm [0, 9, 10, 11] [] _ _ rfl rfl rfl) ⟨_, rfl, rfl, h⟩ ?_
  clear h
  rintro k0 E H ⟨x1, rfl, rfl, h⟩
  cases k0 with
  | zero => cases (show (none : Option (Sum (Unit) (Bool))) = some _ from h)
  | succ k0 =>
   rw [impl_Colouring_avoids_l0] at h
   refine kR ?_
   refine AOps_q 12 _ rfl rfl rfl (QOp_lss _ _ _ _ _ _ _ rfl rfl rfl) ?_
   refine AOps_nil ?_
   refine ACode_seq ?_
   refine kI h rfl (fun h _ => ?_) (fun h _ => ?_)
   ·refine ACode_skip ?_
    refine ACode_seq ?_
    refine ACode_block ?_
    refine kR ?_
    refine kM 1 rfl ?_
    obtain ⟨hc3, h⟩ := guardO h
    refine AOps_q 14 _ rfl rfl rfl (QOp_indexAddr_sl _ _ _ _ _ _ _ _ rfl Try.underlying24 Try.sizeOf2 hc3.1 (by rw [intsD_length]; exact hc3.2) rfl rfl) ?_
    refine AOps_q 15 _ rfl rfl rfl (QOp_load_pv _ _ _ _ _ rfl Try.isAgg2 rfl (intsD_get _ _ 0 (by omega))) ?_
    refine kN 2 rfl ?_
    refine kR ?_
    refine kM 3 rfl ?_
    obtain ⟨r4, hr4, h⟩ := bindO h
    refine kC [] 20 (.tup [.d (.sl none (intsD r4.1)), bV r4.2]) [] rfl Try.call97 rfl rfl (impl_Colouring_firstOf_ac k p0 x1 (p1.getD x1.toNat 0) _ hr4) rfl ?_
    refine kN 5 rfl ?_
    refine kR ?_
    refine kN 1 rfl ?_
    refine kI h rfl (fun h _ => ?_) (fun h _ => ?_)
    ·refine kR ?_
     refine kN 1 rfl ?_
     refine ACode_ret ?_
     cases h
     have h := hks6
     cases h
     exact ⟨_, _, fun r a w h => ⟨r, h⟩, _, _, [], _, (.cons (ResV_tmp _ _ rfl) .nil), rfl, rfl, rfl, rfl, rfl⟩
    refine ACode_skip ?_
    refine (ACode_region ?_)
    refine AOps_q 24 _ rfl rfl rfl (QOp_add _ _ _ _ _ _ _ rfl rfl rfl) ?_
    refine kN 1 rfl ?_
    exact ⟨k0, _, _, Nat.lt_succ_self _, Weak_keep 0 hm [0, 9, 10, 11] [] _ _ rfl rfl rfl, _, rfl, rfl, h⟩
   refine ACode_exit ?_
   cases h
   exact ⟨_, rfl, Weak_keep 0 hm [] [] _ _ rfl rfl rfl⟩
 refine kR ?_
 refine kN 1 rfl ?_
 refine ACode_ret ?_
 cases h
 exact ⟨_, _, fun r a w h => ⟨r, h⟩, _, _, [], _, (.cons (ResV_tmp _ _ rfl) .nil), rfl, rfl, rfl, rfl, rfl⟩

-- loop.example/g01362/impl.AvoidsSizes
def impl_AvoidsSizes (k : Nat) (p0 : Col) (p1 : List Int) : Option (Bool × Int) :=
 (impl_Colouring_sizesCode k p0 p1 (some (impl_always))).bind fun r1 => (if !decide (r1 = 0) then some (false, r1) else (impl_Colouring_avoids k p0 p1).bind fun r3 => some (r3, 0))
set_option maxRecDepth 100000 in
theorem impl_AvoidsSizes_ac (k : Nat) (p0 : Col) (p1 : List Int) (r : Bool × Int) (h : impl_AvoidsSizes k p0 p1 = some r) : AC Try.prog 9 [.d (.agg (colD p0)), .d (.sl none (intsD p1))] [] (fun res H' => res = [bV r.1, iV r.2] ∧ H' = []) := by
 refine AC_of_body true Try.func9 rfl Try.ntmps9 (rvs := [.tmp 4, .tmp 5]) rfl rfl (fun G hG => ?_)
 have hm : G.H.length = 0 := by rw [hG]; rfl
 have hz : zeroG G.H = true := by rw [hG]; rfl
 unfold impl_AvoidsSizes at h
 refine kR ?_
 refine AOps_boxI 2 _ _ (.agg (colD p0)) (colD p0) rfl (colD_one _) rfl rfl rfl rfl rfl ?_
 refine kN 2 rfl ?_
 refine ACode_seq ?_
 refine kR ?_
 refine kM 1 rfl ?_
 obtain ⟨r1, hr1, h⟩ := bindO h
 refine kC [] 8 (iV r1) [] rfl Try.call44 rfl rfl (impl_Colouring_sizesCode_ac k p0 p1 (some (impl_always)) 45 ([]) Try.call45 (fun r h => by cases h; exact impl_always_ac) _ hr1) rfl ?_
 refine kN 1 rfl ?_
 refine kR ?_
 refine kM 1 rfl ?_
 refine AOps_q 10 _ rfl rfl rfl (QOp_neq _ _ _ _ _ _ _ rfl rfl rfl) ?_
 refine AOps_nil ?_
 refine kI h rfl (fun h _ => ?_) (fun h _ => ?_)
 ·refine kR ?_
  refine kN 3 rfl ?_
  refine ACode_ret ?_
  cases h
  exact ⟨_, _, fun r a w h => ⟨r, h⟩, _, _, [], _, (.cons (ResV_tmp _ _ rfl) (.cons (ResV_tmp _ _ rfl) .nil)), rfl, rfl, rfl, rfl, rfl⟩
 refine ACode_skip ?_
 refine kR ?_
 refine kM 1 rfl ?_
 obtain ⟨r3, hr3, h⟩ := bindO h
 refine kC [] 13 (bV r3) [] rfl Try.call46 rfl rfl (impl_Colouring_avoids_ac k p0 p1 _ hr3) rfl ?_
 refine kN 2 rfl ?_
 refine ACode_ret ?_
 cases h
 exact ⟨_, _, fun r a w h => ⟨r, h⟩, _, _, [], _, (.cons (ResV_tmp _ _ rfl) (.cons (ResV_tmp _ _ rfl) .nil)), rfl, rfl, rfl, rfl, rfl⟩

-- (*loop.example/g01362/impl.Colouring).has
def impl_Colouring_has (p0 : Col) (p1 : Int) : Bool :=
 (impl_in p1 0 (w64 (p0.p - 1)))
set_option maxRecDepth 100000 in
theorem impl_Colouring_has_ac (p0 : Col) (p1 : Int) : AC Try.prog 49 [.d (.pv (colD p0) 0), iV p1] [] (fun res H' => res = [bV (impl_Colouring_has p0 p1)] ∧ H' = []) := by
 refine AC_of_body true Try.func49 rfl Try.ntmps49 (rvs := [.tmp 4]) rfl rfl (fun G hG => ?_)
 have hm : G.H.length = 0 := by rw [hG]; rfl
 have hz : zeroG G.H = true := by rw [hG]; rfl
 obtain ⟨r, h⟩ : ∃ r, impl_Colouring_has p0 p1 = r := ⟨_, rfl⟩
 rw [h]
 unfold impl_Colouring_has at h
 refine kR ?_
 refine kN 1 rfl ?_
 refine kR ?_
 refine kM 2 rfl ?_
 refine AOps_q 7 _ rfl rfl rfl (QOp_nilCheck_pv _ _ _ rfl rfl) ?_
 refine AOps_q 8 _ rfl rfl rfl (QOp_fieldAddr_pv _ _ _ _ _ 0 _ _ rfl Try.underlying29 rfl _ Try.sizeOf2 rfl rfl) ?_
 refine AOps_q 9 _ rfl rfl rfl (QOp_load_pv _ _ _ _ _ rfl Try.isAgg2 rfl rfl) ?_
 refine AOps_q 10 _ rfl rfl rfl (QOp_sub _ _ _ _ _ _ _ rfl rfl rfl) ?_
 refine kC [] 11 (bV (impl_in p1 0 (w64 (p0.p - 1)))) [] rfl Try.call37 rfl rfl (impl_in_ac p1 0 (w64 (p0.p - 1))) rfl ?_
 refine kN 1 rfl ?_
 refine ACode_ret ?_
 cases h
 exact ⟨_, _, fun r a w h => ⟨r, h⟩, _, _, [], _, (.cons (ResV_tmp _ _ rfl) .nil), rfl, rfl, rfl, rfl, rfl⟩

-- loop.example/g01362/impl.TakePoint$1
def impl_TakePoint_c1 (p0 : Col) (p1 : Int) : Bool :=
 (impl_Colouring_has p0 p1)
set_option maxRecDepth 100000 in
theorem impl_TakePoint_c1_ac (p0 : Col) (p1 : Int) : AC Try.prog 48 [.d (.pv (colD p0) 0), .d (.pv ([iD p1]) 0)] [] (fun res H' => res = [bV (impl_TakePoint_c1 p0 p1)] ∧ H' = []) := by
 refine AC_of_body true Try.func48 rfl Try.ntmps48 (rvs := [.tmp 2]) rfl rfl (fun G hG => ?_)
 have hm : G.H.length = 0 := by rw [hG]; rfl
 have hz : zeroG G.H = true := by rw [hG]; rfl
 obtain ⟨r, h⟩ : ∃ r, impl_TakePoint_c1 p0 p1 = r := ⟨_, rfl⟩
 rw [h]
 unfold impl_TakePoint_c1 at h
 refine kR ?_
 refine kN 1 rfl ?_
 refine kR ?_
 refine AOps_q 3 _ rfl rfl rfl (QOp_load_pv _ _ _ _ _ rfl Try.isAgg2 rfl rfl) ?_
 refine kC [] 4 (bV (impl_Colouring_has p0 p1)) [] rfl Try.call49 rfl rfl (impl_Colouring_has_ac p0 p1) rfl ?_
 refine kN 1 rfl ?_
 refine ACode_ret ?_
 cases h
 exact ⟨_, _, fun r a w h => ⟨r, h⟩, _, _, [], _, (.cons (ResV_tmp _ _ rfl) .nil), rfl, rfl, rfl, rfl, rfl⟩

-- (*loop.example/g01362/impl.Colouring).that
def impl_Colouring_that_l0 (p0 : Col) (p1 : Int → Option (Bool)) : Nat → Int → (List Int) → Option (List Int)
 | 0, _, _ => none
 | k0 + 1, x1, x2 => (if decide (x1 < p0.p) then ((p1 x1).bind fun r4 => (if r4 then (if x2.length + ([x1]).length ≤ 1099511627776 then some (x2 ++ ([x1])) else none) else some x2) : Option (List Int)).bind fun s7 => impl_Colouring_that_l0 p0 p1 k0 (w64 (x1 + 1)) s7 else some x2)
def impl_Colouring_that (k : Nat) (p0 : Col) (p1 : Int → Option (Bool)) : Option (List Int) :=
 (impl_Colouring_that_l0 p0 p1 k 0 ([] : List Int) : Option (List Int)).bind fun s8 => some s8
set_option maxRecDepth 100000 in
theorem impl_Colouring_that_ac (k : Nat) (p0 : Col) (p1 : Int → Option (Bool)) (g_p1 : FuncId) (c_p1 : List D) (hg_p1 : ∀ args w, (callFunc g_p1 args).run Try.prog w = .ok (.enter g_p1 args) w) (hf_p1 : ∀ (a0 : Int) (r : Bool), p1 a0 = some r → AC Try.prog g_p1 ([iV a0] ++ c_p1.map AV.d) [] (fun res H' => res = [bV r] ∧ H' = [])) (r : List Int) (h : impl_Colouring_that k p0 p1 = some r) : AC Try.prog 51 [.d (.pv (colD p0) 0), .d (.clo g_p1 c_p1)] [] (fun res H' => res = [.vec 0 0] ∧ H' = [.vec 0 (intsD r)]) := by
 refine AC_of_body true Try.func51 rfl Try.ntmps51 (rvs := [.tmp 4]) rfl rfl (fun G hG => ?_)
 have hm : G.H.length = 0 := by rw [hG]; rfl
 have hz : zeroG G.H = true := by rw [hG]; rfl
 unfold impl_Colouring_that at h
 refine kR ?_
 refine kN 1 rfl ?_
 refine kR ?_
 refine AOps_buildSlice 7 _ _ _ [] (intsD ([] : List Int)) _ rfl rfl rfl rfl rfl (by decide) Try.underlying24 Try.sizeOf2 (zero_of Try.typeInfo2 rfl) rfl rfl (intsD_one _) ?_
 refine kN 1 rfl ?_
 refine kB (fun s8 => [(5, .vec 0 0)]) (fun s8 => [.vec 0 (intsD s8)]) h (fun s8 h => ?_) (fun s8 h => ?_)
 ·refine kR ?_
  refine kM 1 rfl ?_
  refine AOps_q 9 _ rfl rfl rfl (QOp_nilCheck_pv _ _ _ rfl rfl) ?_
  refine AOps_q 10 _ rfl rfl rfl (QOp_fieldAddr_pv _ _ _ _ _ 0 _ _ rfl Try.underlying29 rfl _ Try.sizeOf2 rfl rfl) ?_
  refine AOps_q 11 _ rfl rfl rfl (QOp_load_pv _ _ _ _ _ rfl Try.isAgg2 rfl rfl) ?_
  refine kN 1 rfl ?_
  refine ACode_block ?_
  refine ACode_loopW (fun k0 E H => ∃ (x1 : Int) (x2 : List Int), E = [(1, .d (.clo g_p1 c_p1)), (5, .vec 0 0), (11, iV p0.p), (12, iV x1)] ∧ H = [.vec 0 (intsD x2)] ∧ impl_Colouring_that_l0 p0 p1 k0 x1 x2 = some s8) k _ _ (Weak_keep 0 hm [1, 5, 11, 12] [0] _ _ rfl rfl rfl) ⟨_, _, rfl, rfl, h⟩ ?_
  clear h
  rintro k0 E H ⟨x1, x2, rfl, rfl, h⟩
  cases k0 with
  | zero => cases (show (none : Option (List Int)) = some _ from h)
  | succ k0 =>
   rw [impl_Colouring_that_l0] at h
   refine kR ?_
   refine AOps_q 13 _ rfl rfl rfl (QOp_lss _ _ _ _ _ _ _ rfl rfl rfl) ?_
   refine AOps_nil ?_
   refine ACode_seq ?_
   refine kI h rfl (fun h _ => ?_) (fun h _ => ?_)
   ·refine ACode_skip ?_
    refine kB (fun s7 => [(1, .d (.clo g_p1 c_p1)), (5, .vec 0 0), (11, iV p0.p), (12, iV x1)]) (fun s7 => [.vec 0 (intsD s7)]) h (fun s7 h => ?_) (fun s7 h => ?_)
    ·refine ACode_block ?_
     refine kR ?_
     refine kN 2 rfl ?_
     refine kR ?_
     refine kM 2 rfl ?_
     obtain ⟨r4, hr4, h⟩ := bindO h
     refine kC [] 17 (bV r4) [.vec 0 (intsD x2)] rfl hg_p1 rfl (viewA_mapD _) (hf_p1 x1 _ hr4) rfl ?_
     refine AOps_nil ?_
     refine kI h rfl (fun h _ => ?_) (fun h _ => ?_)
     ·refine (ACode_region ?_)
      refine kM 2 rfl ?_
      refine AOps_buildSlice 20 _ _ _ [_] (intsD ([x1])) _ rfl rfl rfl rfl rfl (by decide) Try.underlying24 Try.sizeOf2 (zero_of Try.typeInfo2 rfl) rfl rfl (intsD_one _) ?_
      obtain ⟨hc6, h⟩ := guardO h
      refine AOps_append 21 _ _ _ _ _ _ _ _ _ _ _ _ rfl rfl rfl rfl rfl rfl rfl Try.underlying24 Try.type2 rfl rfl rfl (by decide) rfl rfl rfl rfl (intsD_one _) (by rw [intsD_length, intsD_length]; exact hc6) ?_
      rw [intsD_app]
      refine kN 1 rfl ?_
      cases h
      exact Weak_trans (Weak_keep 0 hm [1, 5, 11, 12] [0] _ _ rfl rfl rfl) (Weak_reset 0 hm hz [1, 5, 11, 12] _ _ rfl rfl)
     refine ACode_skip ?_
     cases h
     exact Weak_keep 0 hm [1, 5, 11, 12] [0] _ _ rfl rfl rfl
    refine (ACode_region ?_)
    refine AOps_q 22 _ rfl rfl rfl (QOp_add _ _ _ _ _ _ _ rfl rfl rfl) ?_
    refine kN 1 rfl ?_
    exact ⟨k0, _, _, Nat.lt_succ_self _, Weak_keep 0 hm [1, 5, 11, 12] [0] _ _ rfl rfl rfl, _, _, rfl, rfl, h⟩
   refine ACode_exit ?_
   cases h
   exact Weak_keep 0 hm [5] [0] _ _ rfl rfl rfl
 refine kR ?_
 refine kN 2 rfl ?_
 refine ACode_ret ?_
 cases h
 exact ⟨_, _, Weak_reset 0 hm hz [4] _ _ rfl rfl, _, _, [0], _, (.cons (ResV_tmp _ _ rfl) .nil), rfl, rfl, rfl, rfl, rfl⟩

-- loop.example/g01362/impl.TakePoint$2
def impl_TakePoint_c2 (p0 : Int) (p1 : Int) : Bool :=
 !decide (p0 = p1)
set_option maxRecDepth 100000 in
theorem impl_TakePoint_c2_ac (p0 : Int) (p1 : Int) : AC Try.prog 52 [iV p0, .d (.pv ([iD p1]) 0)] [] (fun res H' => res = [bV (impl_TakePoint_c2 p0 p1)] ∧ H' = []) := by
 refine AC_of_body true Try.func52 rfl Try.ntmps52 (rvs := [.tmp 3]) rfl rfl (fun G hG => ?_)
 have hm : G.H.length = 0 := by rw [hG]; rfl
 have hz : zeroG G.H = true := by rw [hG]; rfl
 obtain ⟨r, h⟩ : ∃ r, impl_TakePoint_c2 p0 p1 = r := ⟨_, rfl⟩
 rw [h]
 unfold impl_TakePoint_c2 at h
 refine kR ?_
 refine kN 1 rfl ?_
 refine kR ?_
 refine kM 1 rfl ?_
 refine AOps_q 5 _ rfl rfl rfl (QOp_load_pv _ _ _ _ _ rfl Try.isAgg2 rfl rfl) ?_
 refine AOps_q 6 _ rfl rfl rfl (QOp_neq _ _ _ _ _ _ _ rfl rfl rfl) ?_
 refine kN 1 rfl ?_
 refine ACode_ret ?_
 cases h
 exact ⟨_, _, fun r a w h => ⟨r, h⟩, _, _, [], _, (.cons (ResV_tmp _ _ rfl) .nil), rfl, rfl, rfl, rfl, rfl⟩

-- loop.example/g01362/impl.made
def impl_made_l1 (p2 : Int → Int → Option (Int)) (x1 : Int) : Nat → Int → Col → Option (Col)
 | 0, _, _ => none
 | k1 + 1, x4, x5 => (if decide (x4 < x1) then (p2 x4 x1).bind fun r7 => (impl_Colouring_put x5 x4 x1 r7).bind fun r8 => impl_made_l1 p2 x1 k1 (w64 (x4 + 1)) r8 else some x5)
def impl_made_l0 (k : Nat) (p0 : Int) (p2 : Int → Int → Option (Int)) : Nat → Int → Col → Option (Col)
 | 0, _, _ => none
 | k0 + 1, x1, x2 => (if decide (x1 < p0) then (impl_made_l1 p2 x1 k 0 x2 : Option (Col)).bind fun s9 => impl_made_l0 k p0 p2 k0 (w64 (x1 + 1)) s9 else some x2)
def impl_made (k : Nat) (p0 : Int) (p1 : Int) (p2 : Int → Int → Option (Int)) : Option (Col) :=
 (impl_made_l0 k p0 p2 k 0 (⟨p0, p1, B136.zero⟩ : Col) : Option (Col)).bind fun s10 => some s10
set_option maxRecDepth 100000 in
theorem impl_made_ac (k : Nat) (p0 : Int) (p1 : Int) (p2 : Int → Int → Option (Int)) (g_p2 : FuncId) (c_p2 : List D) (hg_p2 : ∀ args w, (callFunc g_p2 args).run Try.prog w = .ok (.enter g_p2 args) w) (hf_p2 : ∀ (a0 : Int) (a1 : Int) (r : Int), p2 a0 a1 = some r → AC Try.prog g_p2 ([iV a0, iV a1] ++ c_p2.map AV.d) [] (fun res H' => res = [iV r] ∧ H' = [])) (r : Col) (h : impl_made k p0 p1 p2 = some r) : AC Try.prog 99 [iV p0, iV p1, .d (.clo g_p2 c_p2)] [] (fun res H' => res = [.d (.agg (colD r))] ∧ H' = []) := by
 refine AC_of_body true Try.func99 rfl Try.ntmps99 (rvs := [.cell 6 29]) rfl rfl (fun G hG => ?_)
 have hm : G.H.length = 0 := by rw [hG]; rfl
 have hz : zeroG G.H = true := by rw [hG]; rfl
 unfold impl_made at h
 refine kR ?_
 refine AOps_alloc 6 _ _ (colD Col.zero) (zero_of Try.typeInfo29 rfl) (by rfl) rfl rfl rfl rfl ?_
 refine AOps_nil ?_
 refine kR ?_
 refine kM 2 rfl ?_
 refine AOps_q 12 _ rfl rfl rfl (QOp_build _ _ [_, _] [0, 1] [iD p0, iD p1] _ (colD Col.zero) (colD (⟨p0, p1, B136.zero⟩ : Col)) [(0, 1), (1, 1), (2, 136)] rfl rfl Try.underlying29 (zero_of Try.typeInfo29 rfl) (fun w => by simp [Try.sizeOf2, Try.sizeOf2, Try.sizeOf27]) rfl (by rfl) (by rfl) (allc (ok1 rfl) (allc (ok1 rfl) (fun _ h => nomatch h)))) ?_
 refine AOps_alloc 7 _ _ (colD Col.zero) (zero_of Try.typeInfo29 rfl) (by rfl) rfl rfl rfl rfl ?_
 refine AOps_store _ _ _ _ _ _ (colD _) _ _ rfl rfl rfl rfl rfl rfl rfl (colD_one _) (by rw [colD_length]; exact Try.sizeOf29) (by rw [colD_length, colD_length]; decide) (colD_whole _ _) ?_
 refine AOps_nil ?_
 refine kB (fun s10 => [(6, .ptr 0 0), (7, .ptr 1 0)]) (fun s10 => [.box (colD Col.zero), .box (colD s10)]) h (fun s10 h => ?_) (fun s10 h => ?_)
 ·refine kR ?_
  refine kN 2 rfl ?_
  refine ACode_block ?_
  refine ACode_loopW (fun k0 E H => ∃ (x1 : Int) (x2 : Col), E = [(2, .d (.clo g_p2 c_p2)), (6, .ptr 0 0), (7, .ptr 1 0), (13, iV p0), (14, iV x1)] ∧ H = [.box (colD Col.zero), .box (colD x2)] ∧ impl_made_l0 k p0 p2 k0 x1 x2 = some s10) k _ _ (Weak_keep 0 hm [2, 6, 7, 13, 14] [0, 1] _ _ rfl rfl rfl) ⟨_, _, rfl, rfl, h⟩ ?_
  clear h
  rintro k0 E H ⟨x1, x2, rfl, rfl, h⟩
  cases k0 with
  | zero => cases (show (none : Option (Col)) = some _ from h)
  | succ k0 =>
   rw [impl_made_l0] at h
   refine kR ?_
   refine AOps_q 15 _ rfl rfl rfl (QOp_lss _ _ _ _ _ _ _ rfl rfl rfl) ?_
   refine AOps_nil ?_
   refine ACode_seq ?_
   refine kI h rfl (fun h _ => ?_) (fun h _ => ?_)
   ·refine ACode_skip ?_
    refine kB (fun s9 => [(2, .d (.clo g_p2 c_p2)), (6, .ptr 0 0), (7, .ptr 1 0), (13, iV p0), (14, iV x1)]) (fun s9 => [.box (colD Col.zero), .box (colD s9)]) h (fun s9 h => ?_) (fun s9 h => ?_)
    ·refine ACode_block ?_
     refine kR ?_
     refine kN 2 rfl ?_
     refine kR ?_
     refine kN 2 rfl ?_
     refine ACode_block ?_
     refine ACode_loopW (fun k1 E H => ∃ (x4 : Int) (x5 : Col), E = [(2, .d (.clo g_p2 c_p2)), (6, .ptr 0 0), (7, .ptr 1 0), (8, iV x1), (13, iV p0), (14, iV x1), (17, iV x1), (18, iV x4)] ∧ H = [.box (colD Col.zero), .box (colD x5)] ∧ impl_made_l1 p2 x1 k1 x4 x5 = some s9) k _ _ (Weak_keep 0 hm [2, 6, 7, 8, 13, 14, 17, 18] [0, 1] _ _ rfl rfl rfl) ⟨_, _, rfl, rfl, h⟩ ?_
     clear h
     rintro k1 E H ⟨x4, x5, rfl, rfl, h⟩
     cases k1 with
     | zero => cases (show (none : Option (Col)) = some _ from h)
     | succ k1 =>
      rw [impl_made_l1] at h
      refine kR ?_
      refine AOps_q 19 _ rfl rfl rfl (QOp_lss _ _ _ _ _ _ _ rfl rfl rfl) ?_
      refine AOps_nil ?_
      refine ACode_seq ?_
      refine kI h rfl (fun h _ => ?_) (fun h _ => ?_)
      ·refine ACode_skip ?_
       refine ACode_seq ?_
       refine ACode_block ?_
       refine kR ?_
       refine kN 2 rfl ?_
       refine (ACode_region ?_)
       refine kM 5 rfl ?_
       obtain ⟨r7, hr7, h⟩ := bindO h
       refine kC [] 26 (iV r7) [.box (colD Col.zero), .box (colD x5)] rfl hg_p2 rfl (viewA_mapD _) (hf_p2 x4 x1 _ hr7) rfl ?_
       obtain ⟨r8, hr8, h⟩ := bindO h
       refine kC [1] 27 (.tup []) [.box (colD Col.zero), .box (colD r8)] rfl Try.call72 rfl rfl (impl_Colouring_put_ac x5 x4 x1 r7 _ hr8) rfl ?_
       refine AOps_nil ?_
       refine (ACode_region ?_)
       refine AOps_q 28 _ rfl rfl rfl (QOp_add _ _ _ _ _ _ _ rfl rfl rfl) ?_
       refine kN 1 rfl ?_
       exact ⟨k1, _, _, Nat.lt_succ_self _, Weak_keep 0 hm [2, 6, 7, 8, 13, 14, 17, 18] [0, 1] _ _ rfl rfl rfl, _, _, rfl, rfl, h⟩
      refine ACode_exit ?_
      cases h
      exact Weak_keep 0 hm [2, 6, 7, 13, 14] [0, 1] _ _ rfl rfl rfl
    refine (ACode_region ?_)
    refine AOps_q 29 _ rfl rfl rfl (QOp_add _ _ _ _ _ _ _ rfl rfl rfl) ?_
    refine kN 1 rfl ?_
    exact ⟨k0, _, _, Nat.lt_succ_self _, Weak_keep 0 hm [2, 6, 7, 13, 14] [0, 1] _ _ rfl rfl rfl, _, _, rfl, rfl, h⟩
   refine ACode_exit ?_
   cases h
   exact Weak_keep 0 hm [6, 7] [0, 1] _ _ rfl rfl rfl
 refine kR ?_
 refine AOps_q 30 _ rfl rfl rfl (QOp_loadN_ptr _ _ _ _ _ _ _ rfl Try.isAgg29 Try.sizeOf29 rfl rfl (colD_all _) (colD_length _)) ?_
 refine AOps_store _ _ _ _ _ _ (colD _) _ _ rfl rfl rfl rfl rfl rfl rfl (colD_one _) (by rw [colD_length]; exact Try.sizeOf29) (by rw [colD_length, colD_length]; decide) (colD_whole _ _) ?_
 refine AOps_nil ?_
 refine ACode_ret ?_
 cases h
 exact ⟨_, _, fun r a w h => ⟨r, h⟩, _, _, [], _, (.cons (ResV_agg _ _ _ _ _ _ Try.isAgg29 Try.sizeOf29 rfl rfl (colD_take _) (colD_length _)) .nil), rfl, rfl, rfl, rfl, rfl⟩

-- (*loop.example/g01362/impl.Colouring).part$1
def impl_Colouring_part_c1 (p0 : Int) (p1 : Int) (p2 : Col) (p3 : List Int) : Option (Int) :=
 (if 0 ≤ p0 ∧ p0 < (p3.length : Int) then (if 0 ≤ p1 ∧ p1 < (p3.length : Int) then (impl_Colouring_at p2 (p3.getD p0.toNat 0) (p3.getD p1.toNat 0)).bind fun r3 => some r3 else none) else none)
set_option maxRecDepth 100000 in
theorem impl_Colouring_part_c1_ac (p0 : Int) (p1 : Int) (p2 : Col) (p3 : List Int) (r : Int) (h : impl_Colouring_part_c1 p0 p1 p2 p3 = some r) : AC Try.prog 100 [iV p0, iV p1, .d (.pv ([.pv (colD p2) 0]) 0), .d (.pv ([.sl none (intsD p3)]) 0)] [] (fun res H' => res = [iV r] ∧ H' = []) := by
 refine AC_of_body true Try.func100 rfl Try.ntmps100 (rvs := [.tmp 6]) rfl rfl (fun G hG => ?_)
 have hm : G.H.length = 0 := by rw [hG]; rfl
 have hz : zeroG G.H = true := by rw [hG]; rfl
 unfold impl_Colouring_part_c1 at h
 refine kR ?_
 refine kN 1 rfl ?_
 refine ACode_seq (ACode_quiet mixed (by kernel_rfl) ?_)
 refine AQ_q 7 _ rfl rfl rfl (QOp_load_pv _ _ _ _ _ rfl Try.isAgg78 rfl rfl) ?_
 refine AQ_q 8 _ rfl rfl rfl (QOp_load_pv _ _ _ _ _ rfl Try.isAgg24 rfl rfl) ?_
 refine kQ 1 rfl ?_
 obtain ⟨hc1, h⟩ := guardO h
 refine AQ_q 10 _ rfl rfl rfl (QOp_indexAddr_sl _ _ _ _ _ _ _ _ rfl Try.underlying24 Try.sizeOf2 hc1.1 (by rw [intsD_length]; exact hc1.2) rfl rfl) ?_
 refine AQ_q 11 _ rfl rfl rfl (QOp_load_pv _ _ _ _ _ rfl Try.isAgg2 rfl (intsD_get _ _ 0 (by omega))) ?_
 refine AQ_q 12 _ rfl rfl rfl (QOp_load_pv _ _ _ _ _ rfl Try.isAgg24 rfl rfl) ?_
 refine kQ 1 rfl ?_
 obtain ⟨hc2, h⟩ := guardO h
 refine AQ_q 14 _ rfl rfl rfl (QOp_indexAddr_sl _ _ _ _ _ _ _ _ rfl Try.underlying24 Try.sizeOf2 hc2.1 (by rw [intsD_length]; exact hc2.2) rfl rfl) ?_
 refine AQ_q 15 _ rfl rfl rfl (QOp_load_pv _ _ _ _ _ rfl Try.isAgg2 rfl (intsD_get _ _ 0 (by omega))) ?_
 obtain ⟨r3, hr3, h⟩ := bindO h
 refine AQ_call 16 _ _ _ _ _ _ _ _ _ rfl rfl rfl rfl rfl rfl rfl Try.call63 rfl rfl rfl (impl_Colouring_at_ac p2 (p3.getD p0.toNat 0) (p3.getD p1.toNat 0) _ hr3) ?_
 refine kQ 1 rfl ?_
 refine AQ_nil ?_
 refine ACode_ret ?_
 cases h
 exact ⟨_, _, fun r a w h => ⟨r, h⟩, _, _, [], _, (.cons (ResV_tmp _ _ rfl) .nil), rfl, rfl, rfl, rfl, rfl⟩

-- (*loop.example/g01362/impl.Colouring).part
def impl_Colouring_part (k : Nat) (p0 : Col) (p1 : List Int) : Option (Col) :=
 (impl_made k (impl_size p1) p0.k (fun a0 a1 => impl_Colouring_part_c1 a0 a1 p0 p1)).bind fun r2 => some r2
set_option maxRecDepth 100000 in
theorem impl_Colouring_part_ac (k : Nat) (p0 : Col) (p1 : List Int) (r : Col) (h : impl_Colouring_part k p0 p1 = some r) : AC Try.prog 50 [.d (.pv (colD p0) 0), .d (.sl none (intsD p1))] [] (fun res H' => res = [.d (.agg (colD r))] ∧ H' = []) := by
 refine AC_of_body true Try.func50 rfl Try.ntmps50 (rvs := [.cell 4 29]) rfl rfl (fun G hG => ?_)
 have hm : G.H.length = 0 := by rw [hG]; rfl
 have hz : zeroG G.H = true := by rw [hG]; rfl
 unfold impl_Colouring_part at h
 refine kR ?_
 refine AOps_boxI 2 _ _ (.pv (colD p0) 0) _ rfl (fun c hc => by cases hc with | head => rfl | tail _ h => cases h) rfl rfl rfl rfl rfl ?_
 refine AOps_boxI 3 _ _ (.sl none (intsD p1)) _ rfl (fun c hc => by cases hc with | head => rfl | tail _ h => cases h) rfl rfl rfl rfl rfl ?_
 refine AOps_alloc 4 _ _ (colD Col.zero) (zero_of Try.typeInfo29 rfl) (by rfl) rfl rfl rfl rfl ?_
 refine AOps_nil ?_
 obtain ⟨r2, hr2, h⟩ := bindO h
 refine ACode_seqJ (fun E' H' => Weak 13 G E' H' [(4, .ptr 0 0)] [.box (colD r2)]) ?_ ?_
 ·refine ACode_anyLast (l := [_, _, _, _, _, _, _, _]) mixed (by kernel_rfl) ?_
  refine AAny_q 0 5 _ rfl (by kernel_rfl) rfl rfl rfl (QOp_load_pv _ _ _ _ _ rfl Try.isAgg24 rfl rfl) ?_
  refine AAny_call 1 6 _ _ _ _ _ _ _ _ _ rfl (by kernel_rfl) rfl rfl rfl rfl rfl rfl rfl Try.call55 rfl rfl rfl (impl_size_ac p1) ?_
  refine AAny_q 2 7 _ rfl (by kernel_rfl) rfl rfl rfl (QOp_load_pv _ _ _ _ _ rfl Try.isAgg78 rfl rfl) ?_
  refine AAny_q 3 8 _ rfl (by kernel_rfl) rfl rfl rfl (QOp_nilCheck_pv _ _ _ rfl rfl) ?_
  refine AAny_q 4 9 _ rfl (by kernel_rfl) rfl rfl rfl (QOp_fieldAddr_pv _ _ _ _ _ 1 _ _ rfl Try.underlying29 rfl _ Try.sizeOf2 rfl rfl) ?_
  refine AAny_q 5 10 _ rfl (by kernel_rfl) rfl rfl rfl (QOp_load_pv _ _ _ _ _ rfl Try.isAgg2 rfl rfl) ?_
  refine AAny_q 6 11 _ rfl (by kernel_rfl) rfl rfl rfl (QOp_makeFuncD _ _ _ _ rfl rfl rfl) ?_
  refine AAny_all [7] (by kernel_rfl) rfl (allc ?_ (fun _ h => nomatch h))
  refine AStep_callN 7 12 _ _ _ _ _ _ _ _ _ rfl rfl rfl rfl rfl rfl rfl rfl Try.call99 rfl rfl rfl (impl_made_ac k (impl_size p1) p0.k (fun a0 a1 => impl_Colouring_part_c1 a0 a1 p0 p1) 100 ([.pv ([.pv (colD p0) 0]) 0, .pv ([.sl none (intsD p1)]) 0]) Try.call100 (fun a0 a1 r h => impl_Colouring_part_c1_ac a0 a1 p0 p1 r h) _ hr2) ?_
  rintro _ _ ⟨rfl, rfl⟩
  refine ⟨(fun _ h => nomatch h), (allc (trivial) (fun _ h => nomatch h)), AAny_as 12 (v' := .d (.agg (colD r2))) (H' := [.box (colD Col.zero)]) rfl rfl ?_⟩
  refine AAny_done (by kernel_rfl) ?_
  refine AOps_store _ _ _ _ _ _ (colD _) _ _ rfl rfl rfl rfl rfl rfl rfl (colD_one _) (by rw [colD_length]; exact Try.sizeOf29) (by rw [colD_length, colD_length]; decide) (colD_whole _ _) ?_
  refine AOps_nil ?_
  exact Weak_keep 0 hm [4] [0] _ _ rfl rfl rfl
 intro E' H' hw
 refine ACode_weak hw ?_
 refine ACode_ret ?_
 cases h
 exact ⟨_, _, fun r a w h => ⟨r, h⟩, _, _, [], _, (.cons (ResV_agg _ _ _ _ _ _ Try.isAgg29 Try.sizeOf29 rfl rfl (colD_take _) (colD_length _)) .nil), rfl, rfl, rfl, rfl, rfl⟩

-- loop.example/g01362/impl.TakePoint
def impl_TakePoint (k : Nat) (p0 : Col) (p1 : Int) : Option (Col × Int) :=
 (impl_Colouring_code k p0 (some (impl_TakePoint_c1 p0 p1))).bind fun r1 => letO (letO (if decide (r1 = 0) then decide (p0.p = 1) else false) fun (s3 : Bool) => (if s3 then 5 else r1)) fun (s5 : Int) => (if !decide (s5 = 0) then some ((⟨0, 0, B136.zero⟩ : Col), s5) else (impl_Colouring_that k p0 (fun a0 => some (impl_TakePoint_c2 a0 p1))).bind fun r7 => (impl_Colouring_part k p0 r7).bind fun r8 => some (r8, 0))
set_option maxRecDepth 100000 in
theorem impl_TakePoint_ac (k : Nat) (p0 : Col) (p1 : Int) (r : Col × Int) (h : impl_TakePoint k p0 p1 = some r) : AC Try.prog 10 [.d (.agg (colD p0)), iV p1] [] (fun res H' => res = [.d (.agg (colD r.1)), iV r.2] ∧ H' = []) := by
 refine AC_of_body true Try.func10 rfl Try.ntmps10 (rvs := [.cell 4 29, .tmp 5]) rfl rfl (fun G hG => ?_)
 have hm : G.H.length = 0 := by rw [hG]; rfl
 have hz : zeroG G.H = true := by rw [hG]; rfl
 unfold impl_TakePoint at h
 refine kR ?_
 refine AOps_boxI 2 _ _ (.agg (colD p0)) (colD p0) rfl (colD_one _) rfl rfl rfl rfl rfl ?_
 refine AOps_boxI 3 _ _ (iD p1) _ rfl (fun c hc => by cases hc with | head => rfl | tail _ h => cases h) rfl rfl rfl rfl rfl ?_
 refine AOps_alloc 4 _ _ (colD Col.zero) (zero_of Try.typeInfo29 rfl) (by rfl) rfl rfl rfl rfl ?_
 refine kN 1 rfl ?_
 refine kR ?_
 refine AOps_q 7 _ rfl rfl rfl (QOp_makeFuncD _ _ _ _ rfl rfl rfl) ?_
 obtain ⟨r1, hr1, h⟩ := bindO h
 refine kC [] 8 (iV r1) [.box (colD Col.zero)] rfl Try.call47 rfl rfl (impl_Colouring_code_ac k p0 (some (impl_TakePoint_c1 p0 p1)) 48 ([.pv (colD p0) 0, .pv ([iD p1]) 0]) Try.call48 (fun r h => by cases h; exact impl_TakePoint_c1_ac p0 p1) _ hr1) rfl ?_
 refine kN 1 rfl ?_
 refine kL (fun s5 => [(2, .d (.pv (colD p0) 0)), (3, .d (.pv ([iD p1]) 0)), (4, .ptr 0 0), (6, iV s5)]) (fun s5 => [.box (colD Col.zero)]) h (fun s5 h => ?_) (fun s5 h => ?_)
 ·refine kL (fun s3 => [(2, .d (.pv (colD p0) 0)), (3, .d (.pv ([iD p1]) 0)), (4, .ptr 0 0), (6, iV r1), (15, bV s3)]) (fun s3 => [.box (colD Col.zero)]) h (fun s3 h => ?_) (fun s3 h => ?_)
  ·refine (ACode_region ?_)
   refine kM 1 rfl ?_
   refine AOps_q 10 _ rfl rfl rfl (QOp_eql _ _ _ _ _ _ _ rfl rfl rfl) ?_
   refine kM 1 rfl ?_
   refine AOps_case 11 _ rfl (fun hb2 => ?_) (fun hb2 => ?_)
   ·have h := iteT hb2 h
    refine AOps_q 12 _ rfl rfl rfl (QOp_fieldAddr_pv _ _ _ _ _ 0 _ _ rfl Try.underlying29 rfl _ Try.sizeOf2 rfl rfl) ?_
    refine AOps_q 13 _ rfl rfl rfl (QOp_load_pv _ _ _ _ _ rfl Try.isAgg2 rfl rfl) ?_
    refine AOps_q 14 _ rfl rfl rfl (QOp_eql _ _ _ _ _ _ _ rfl rfl rfl) ?_
    refine kN 1 rfl ?_
    cases h
    exact Weak_keep 0 hm [2, 3, 4, 6, 15] [0] _ _ rfl rfl rfl
   have h := iteF hb2 h
   refine AOps_skip 12 rfl rfl rfl ?_
   refine AOps_skip 13 rfl rfl rfl ?_
   refine AOps_skip 14 rfl rfl rfl ?_
   refine kN 1 rfl ?_
   cases h
   exact Weak_keep 0 hm [2, 3, 4, 6, 15] [0] _ _ rfl rfl rfl
  refine kI h rfl (fun h _ => ?_) (fun h _ => ?_)
  ·refine (ACode_region ?_)
   refine kN 1 rfl ?_
   cases h
   exact Weak_keep 0 hm [2, 3, 4, 6] [0] _ _ rfl rfl rfl
  refine ACode_skip ?_
  cases h
  exact Weak_keep 0 hm [2, 3, 4, 6] [0] _ _ rfl rfl rfl
 refine ACode_seq ?_
 refine kR ?_
 refine kM 1 rfl ?_
 refine AOps_q 17 _ rfl rfl rfl (QOp_neq _ _ _ _ _ _ _ rfl rfl rfl) ?_
 refine AOps_nil ?_
 refine kI h rfl (fun h _ => ?_) (fun h _ => ?_)
 ·refine kR ?_
  refine AOps_q 18 _ rfl rfl rfl (QOp_build _ _ [] [] [] _ (colD Col.zero) (colD (⟨0, 0, B136.zero⟩ : Col)) [(0, 1), (1, 1), (2, 136)] rfl rfl Try.underlying29 (zero_of Try.typeInfo29 rfl) (fun w => by simp [Try.sizeOf2, Try.sizeOf2, Try.sizeOf27]) rfl (by rfl) (by rfl) (fun _ h => nomatch h)) ?_
  refine kM 1 rfl ?_
  refine AOps_store _ _ _ _ _ _ (colD _) _ _ rfl rfl rfl rfl rfl rfl rfl (colD_one _) (by rw [colD_length]; exact Try.sizeOf29) (by rw [colD_length, colD_length]; decide) (colD_whole _ _) ?_
  refine kN 1 rfl ?_
  refine ACode_ret ?_
  cases h
  exact ⟨_, _, fun r a w h => ⟨r, h⟩, _, _, [], _, (.cons (ResV_agg _ _ _ _ _ _ Try.isAgg29 Try.sizeOf29 rfl rfl (colD_take _) (colD_length _)) (.cons (ResV_tmp _ _ rfl) .nil)), rfl, rfl, rfl, rfl, rfl⟩
 refine ACode_skip ?_
 refine kR ?_
 refine AOps_q 20 _ rfl rfl rfl (QOp_makeFuncD _ _ _ _ rfl rfl rfl) ?_
 obtain ⟨r7, hr7, h⟩ := bindO h
 refine kC [] 21 (.vec 1 0) [.box (colD Col.zero), .vec 0 (intsD r7)] rfl Try.call51 rfl rfl (impl_Colouring_that_ac k p0 (fun a0 => some (impl_TakePoint_c2 a0 p1)) 52 ([.pv ([iD p1]) 0]) Try.call52 (fun a0 r h => by cases h; exact impl_TakePoint_c2_ac a0 p1) _ hr7) rfl ?_
 obtain ⟨r8, hr8, h⟩ := bindO h
 refine AOps_callL [] 22 _ _ _ _ _ _ _ _ _ _ rfl rfl rfl rfl rfl rfl rfl Try.call50 rfl (nodupB_sound _ rfl) rfl rfl rfl (impl_Colouring_part_ac k p0 r7 _ hr8) ?_
 rintro _ _ ⟨rfl, rfl⟩
 refine ⟨(fun _ h => nomatch h), (allc (flat_agg (colD_flat _)) (fun _ h => nomatch h)), AOps_as 22 (v' := .d (.agg (colD r8))) (H' := [.box (colD Col.zero), .vec 0 (intsD r7)]) rfl rfl ?_⟩
 refine AOps_store _ _ _ _ _ _ (colD _) _ _ rfl rfl rfl rfl rfl rfl rfl (colD_one _) (by rw [colD_length]; exact Try.sizeOf29) (by rw [colD_length, colD_length]; decide) (colD_whole _ _) ?_
 refine kN 1 rfl ?_
 refine ACode_ret ?_
 cases h
 exact ⟨_, _, fun r a w h => ⟨r, h⟩, _, _, [], _, (.cons (ResV_agg _ _ _ _ _ _ Try.isAgg29 Try.sizeOf29 rfl rfl (colD_take _) (colD_length _)) (.cons (ResV_tmp _ _ rfl) .nil)), rfl, rfl, rfl, rfl, rfl⟩

-- (*loop.example/g01362/impl.Colouring).extendingCode
def impl_Colouring_extendingCode (k : Nat) (p0 : Col) (p1 : List Int) (p2 : Option (Bool)) (p3 : Int) : Option (Int) :=
 (impl_Colouring_sizesCode k p0 p1 p2).bind fun r1 => (if !decide (r1 = 0) then some r1 else (impl_Colouring_avoids k p0 p1).bind fun r3 => (if !r3 then some 5 else (if decide (p3 < p0.p) then some 3 else some 0)))
set_option maxRecDepth 100000 in
theorem impl_Colouring_extendingCode_ac (k : Nat) (p0 : Col) (p1 : List Int) (p2 : Option (Bool)) (p3 : Int) (g_p2 : FuncId) (c_p2 : List D) (hg_p2 : ∀ args w, (callFunc g_p2 args).run Try.prog w = .ok (.enter g_p2 args) w) (hf_p2 : ∀ (r : Bool), p2 = some r → AC Try.prog g_p2 ([] ++ c_p2.map AV.d) [] (fun res H' => res = [bV r] ∧ H' = [])) (r : Int) (h : impl_Colouring_extendingCode k p0 p1 p2 p3 = some r) : AC Try.prog 53 [.d (.pv (colD p0) 0), .d (.sl none (intsD p1)), .d (.clo g_p2 c_p2), iV p3] [] (fun res H' => res = [iV r] ∧ H' = []) := by
 refine AC_of_body true Try.func53 rfl Try.ntmps53 (rvs := [.tmp 8]) rfl rfl (fun G hG => ?_)
 have hm : G.H.length = 0 := by rw [hG]; rfl
 have hz : zeroG G.H = true := by rw [hG]; rfl
 unfold impl_Colouring_extendingCode at h
 refine kR ?_
 refine kN 1 rfl ?_
 refine kR ?_
 refine kM 3 rfl ?_
 obtain ⟨r1, hr1, h⟩ := bindO h
 refine kC [] 13 (iV r1) [] rfl Try.call44 rfl rfl (impl_Colouring_sizesCode_ac k p0 p1 p2 g_p2 c_p2 hg_p2 hf_p2 _ hr1) rfl ?_
 refine kN 1 rfl ?_
 refine ACode_seq ?_
 refine ACode_block ?_
 refine kR ?_
 refine kM 1 rfl ?_
 refine AOps_q 16 _ rfl rfl rfl (QOp_neq _ _ _ _ _ _ _ rfl rfl rfl) ?_
 refine kN 1 rfl ?_
 refine kI h rfl (fun h _ => ?_) (fun h _ => ?_)
 ·refine kR ?_
  refine kN 2 rfl ?_
  refine ACode_ret ?_
  cases h
  exact ⟨_, _, fun r a w h => ⟨r, h⟩, _, _, [], _, (.cons (ResV_tmp _ _ rfl) .nil), rfl, rfl, rfl, rfl, rfl⟩
 refine kR ?_
 refine kM 2 rfl ?_
 obtain ⟨r3, hr3, h⟩ := bindO h
 refine kC [] 21 (bV r3) [] rfl Try.call46 rfl rfl (impl_Colouring_avoids_ac k p0 p1 _ hr3) rfl ?_
 refine AOps_q 22 _ rfl rfl rfl (QOp_not _ _ _ rfl rfl) ?_
 refine kN 1 rfl ?_
 refine kI h rfl (fun h _ => ?_) (fun h _ => ?_)
 ·refine kR ?_
  refine kN 1 rfl ?_
  refine ACode_ret ?_
  cases h
  exact ⟨_, _, fun r a w h => ⟨r, h⟩, _, _, [], _, (.cons (ResV_tmp _ _ rfl) .nil), rfl, rfl, rfl, rfl, rfl⟩
 refine kR ?_
 refine kM 1 rfl ?_
 refine AOps_q 25 _ rfl rfl rfl (QOp_nilCheck_pv _ _ _ rfl rfl) ?_
 refine AOps_q 26 _ rfl rfl rfl (QOp_fieldAddr_pv _ _ _ _ _ 0 _ _ rfl Try.underlying29 rfl _ Try.sizeOf2 rfl rfl) ?_
 refine AOps_q 27 _ rfl rfl rfl (QOp_load_pv _ _ _ _ _ rfl Try.isAgg2 rfl rfl) ?_
 refine kM 1 rfl ?_
 refine AOps_q 29 _ rfl rfl rfl (QOp_gtr _ _ _ _ _ _ _ rfl rfl rfl) ?_
 refine kN 1 rfl ?_
 refine kI h rfl (fun h _ => ?_) (fun h _ => ?_)
 ·refine kR ?_
  refine kN 1 rfl ?_
  refine ACode_ret ?_
  cases h
  exact ⟨_, _, fun r a w h => ⟨r, h⟩, _, _, [], _, (.cons (ResV_tmp _ _ rfl) .nil), rfl, rfl, rfl, rfl, rfl⟩
 refine ACode_skip ?_
 refine kR ?_
 refine kN 1 rfl ?_
 refine ACode_ret ?_
 cases h
 exact ⟨_, _, fun r a w h => ⟨r, h⟩, _, _, [], _, (.cons (ResV_tmp _ _ rfl) .nil), rfl, rfl, rfl, rfl, rfl⟩

-- (*loop.example/g01362/impl.Colouring).firstExtension$1
def impl_Colouring_firstExtension_c1 (p0 : List Int) (p0n : Nat) (p1 : List Int) : Option (Bool × List Int × List Int) :=
 (if ((p0.drop 0).take p0n).isEmpty then none else (cloneA ((p0.drop 0).take p0n)).bind fun r3 => some (false, p0, r3))
set_option maxRecDepth 100000 in
theorem impl_Colouring_firstExtension_c1_ac (p0 : List Int) (p0n : Nat) (p1 : List Int) (r : Bool × List Int × List Int) (h : impl_Colouring_firstExtension_c1 p0 p0n p1 = some r) : AC Try.prog 102 [.part 0 0 0 p0n, .ptr 1 0] [.vec 0 (intsD p0), .ref (.vec 2 0), .vec 0 (intsD p1)] (fun res H' => res = [bV r.1] ∧ H' = [.vec 0 (intsD r.2.1), .ref (.vec 2 1), .vec 1 (intsD r.2.2)]) := by
 refine AC_of_body true Try.func102 rfl Try.ntmps102 (rvs := [.tmp 3]) rfl rfl (fun G hG => ?_)
 have hm : G.H.length = 3 := by rw [hG]; rfl
 have hz : zeroG G.H = true := by rw [hG]; rfl
 refine ACode_weak (Weak_bump 1 2 _ rfl rfl _ rfl) ?_
 unfold impl_Colouring_firstExtension_c1 at h
 refine kR ?_
 refine kN 1 rfl ?_
 refine kR ?_
 refine kM 1 rfl ?_
 refine bsplit (((p0.drop 0).take p0n).isEmpty) (fun hb1 => ?_) (fun hb1 => ?_)
 ·have h := iteT hb1 h
  cases h
 have h := iteF hb1 h
 obtain ⟨r3, hr3, h⟩ := bindO h
 refine AOps_callL [] 5 _ _ _ _ _ _ _ _ _ _ rfl rfl rfl rfl rfl rfl rfl Try.call103 rfl (nodupB_sound _ rfl) rfl rfl rfl (by have q := cloneA_ac ((p0.drop 0).take p0n) _ hb1 hr3; simp only [intsD_dt] at q; exact q) ?_
 rintro _ _ ⟨rfl, rfl⟩
 refine ⟨(allc (intsD_flat _) (fun _ h => nomatch h)), (allc (trivial) (fun _ h => nomatch h)), AOps_as 5 (v' := .vec 3 0) (H' := [.vec 0 (intsD p0), .ref (.vec 2 1), .vec 1 (intsD p1), .vec 0 (intsD r3)]) rfl rfl ?_⟩
 refine AOps_storeR 1 _ _ _ _ _ rfl rfl rfl rfl rfl rfl rfl rfl Try.sizeOf24 (fun r a w hr => vec_one hr rfl rfl rfl) ?_
 refine AOps_weak (Weak_move 1 2 3 _ _ _ _ rfl rfl rfl rfl _ rfl) ?_
 refine AOps_nil ?_
 refine kR ?_
 refine kN 1 rfl ?_
 refine ACode_ret ?_
 cases h
 exact ⟨_, _, Weak_reset 3 hm hz [3] _ _ rfl rfl, _, _, [], _, (.cons (ResV_tmp _ _ rfl) .nil), rfl, rfl, rfl, rfl, rfl⟩

-- (*loop.example/g01362/impl.Colouring).extensions
def impl_Colouring_extensions_on_firstExtension_c1_l1 (p0 : Col) (p2 : List Int) (p2n : Nat) (x4 : Int) (x5 : List Int) : Nat → Int → (List Int) → Option (List Int)
 | 0, _, _ => none
 | k1 + 1, x8, x9 => (if decide (x8 < ((p2n : Nat) : Int)) then ((if 0 ≤ x8 ∧ x8 < ((p2n : Nat) : Int) ∧ 0 + p2n ≤ x5.length then ((if decide ((x5.getD (0 + x8.toNat) 0) = x4) then (impl_Colouring_joins p0 x8 (impl_size ((p2.drop 0).take p2n)) x4).bind fun r13 => some r13 else some false) : Option (Bool)).bind fun s14 => (if s14 then (if x9.length + ([x8]).length ≤ 1099511627776 then some (x9 ++ ([x8])) else none) else some x9) else none) : Option (List Int)).bind fun s17 => impl_Colouring_extensions_on_firstExtension_c1_l1 p0 p2 p2n x4 x5 k1 (w64 (x8 + 1)) s17 else some x9)
def impl_Colouring_extensions_on_firstExtension_c1_l0 (k : Nat) (self : Col → (List Int) → (List Int) → Nat → (List Int) → Option (Bool × List Int × List Int)) (p0 : Col) (p1 : List Int) (p2 : List Int) (p2n : Nat) : Nat → Int → (List Int) → (List Int) → Option (Sum (List Int × List Int) (Bool × List Int × List Int))
 | 0, _, _, _ => none
 | k0 + 1, x4, x5, x6 => (if decide (x4 < p0.k) then ((impl_Colouring_extensions_on_firstExtension_c1_l1 p0 p2 p2n x4 x5 k 0 ([] : List Int) : Option (List Int)).bind fun s18 => ((if 0 ≤ x4 ∧ x4 < (p1.length : Int) then (impl_Colouring_hasClique k p0 x4 (w64 ((p1.getD x4.toNat 0) - 2)) s18).bind fun r20 => (if !r20 then (if 0 + p2n + ([x4]).length ≤ x5.length ∧ 1 ≤ ([x4]).length then (self p0 p1 (splicedL x5 (0 + p2n) (([x4]).length) ([x4])) (p2n + ([x4]).length) x6).bind fun r23 => some (!r23.1, r23.2.1, r23.2.2) else none) else some (false, x5, x6)) else none) : Option (Bool × List Int × List Int)).bind fun s24 => (if s24.1 then (some (.inr (false, s24.2.1, s24.2.2))).bind fun rr => some (.inr rr) else some (.inl (s24.2.1, s24.2.2))) : Option (Sum (List Int × List Int) (Sum (List Int × List Int) (Bool × List Int × List Int)))).bind fun os26 => (match os26 with | .inl s26 => impl_Colouring_extensions_on_firstExtension_c1_l0 k self p0 p1 p2 p2n k0 (w64 (x4 + 1)) s26.1 s26.2 | .inr rr => some rr) else some (.inl (x5, x6)))
def impl_Colouring_extensions_on_firstExtension_c1_body (self : Col → (List Int) → (List Int) → Nat → (List Int) → Option (Bool × List Int × List Int)) (k : Nat) (p0 : Col) (p1 : List Int) (p2 : List Int) (p2n : Nat) (p3_0 : List Int) : Option (Bool × List Int × List Int) :=
 (if decide ((impl_size ((p2.drop 0).take p2n)) = p0.p) then (impl_Colouring_firstExtension_c1 p2 p2n p3_0).bind fun r3 => some (r3.1, r3.2.1, r3.2.2) else (impl_Colouring_extensions_on_firstExtension_c1_l0 k self p0 p1 p2 p2n k 0 p2 p3_0 : Option (Sum (List Int × List Int) (Bool × List Int × List Int))).bind fun os27 => (match os27 with | .inl s27 => some (true, s27.1, s27.2) | .inr rr => some rr))
def impl_Colouring_extensions_on_firstExtension_c1 : Nat → Col → (List Int) → (List Int) → Nat → (List Int) → Option (Bool × List Int × List Int)
 | 0, _, _, _, _, _ => none
 | k + 1, p0, p1, p2, p2n, p3_0 => impl_Colouring_extensions_on_firstExtension_c1_body (impl_Colouring_extensions_on_firstExtension_c1 k) k p0 p1 p2 p2n p3_0
set_option maxRecDepth 100000 in
theorem impl_Colouring_extensions_on_firstExtension_c1_ac (k : Nat) (p0 : Col) (p1 : List Int) (p2 : List Int) (p2n : Nat) (p3_0 : List Int) (r : Bool × List Int × List Int) (h : impl_Colouring_extensions_on_firstExtension_c1 k p0 p1 p2 p2n p3_0 = some r) : AC Try.prog 125 [.d (.pv (colD p0) 0), .d (.sl none (intsD p1)), .part 0 0 0 p2n, .clo 102 [.ptr 1 0]] [.vec 0 (intsD p2), .ref (.vec 2 0), .vec 0 (intsD p3_0)] (fun res H' => res = [bV r.1] ∧ H' = [.vec 0 (intsD r.2.1), .ref (.vec 2 1), .vec 1 (intsD r.2.2)]) := by
 induction k generalizing p0 p1 p2 p2n p3_0 r with
 | zero => simp [impl_Colouring_extensions_on_firstExtension_c1] at h
 | succ k ih =>
  rw [impl_Colouring_extensions_on_firstExtension_c1] at h
  obtain ⟨self, hself, hk⟩ : ∃ self : Col → (List Int) → (List Int) → Nat → (List Int) → Option (Bool × List Int × List Int), (∀ (p0 : Col) (p1 : List Int) (p2 : List Int) (p2n : Nat) (p3_0 : List Int) (r : Bool × List Int × List Int), self p0 p1 p2 p2n p3_0 = some r → AC Try.prog 125 [.d (.pv (colD p0) 0), .d (.sl none (intsD p1)), .part 0 0 0 p2n, .clo 102 [.ptr 1 0]] [.vec 0 (intsD p2), .ref (.vec 2 0), .vec 0 (intsD p3_0)] (fun res H' => res = [bV r.1] ∧ H' = [.vec 0 (intsD r.2.1), .ref (.vec 2 1), .vec 1 (intsD r.2.2)])) ∧ impl_Colouring_extensions_on_firstExtension_c1 k = self := ⟨impl_Colouring_extensions_on_firstExtension_c1 k, fun p0 p1 p2 p2n p3_0 r h => ih p0 p1 p2 p2n p3_0 r h, rfl⟩
  rw [hk] at h
  clear ih hk
  refine AC_of_body true Try.func125 rfl Try.ntmps125 (rvs := [.tmp 8]) rfl rfl (fun G hG => ?_)
  have hm : G.H.length = 3 := by rw [hG]; rfl
  have hz : zeroG G.H = true := by rw [hG]; rfl
  refine ACode_weak (Weak_bump 1 2 _ rfl rfl _ rfl) ?_
  unfold impl_Colouring_extensions_on_firstExtension_c1_body at h
  refine kR ?_
  refine kN 1 rfl ?_
  refine kR ?_
  refine kM 1 rfl ?_
  refine AOps_callL [] 15 _ _ _ _ _ _ _ _ _ _ rfl rfl rfl rfl rfl rfl rfl Try.call55 rfl (nodupB_sound _ rfl) rfl rfl rfl (by have q := impl_size_ac ((p2.drop 0).take p2n); simp only [intsD_dt] at q; exact q) ?_
  rintro _ _ ⟨rfl, rfl⟩
  refine ⟨(fun _ h => nomatch h), (allc (flat_s _) (fun _ h => nomatch h)), AOps_as 15 (v' := iV (impl_size ((p2.drop 0).take p2n))) (H' := [.vec 0 (intsD p2), .ref (.vec 2 1), .vec 1 (intsD p3_0)]) rfl rfl ?_⟩
  refine kN 1 rfl ?_
  refine ACode_seq ?_
  refine kR ?_
  refine kM 2 rfl ?_
  refine AOps_q 18 _ rfl rfl rfl (QOp_nilCheck_pv _ _ _ rfl rfl) ?_
  refine AOps_q 19 _ rfl rfl rfl (QOp_fieldAddr_pv _ _ _ _ _ 0 _ _ rfl Try.underlying29 rfl _ Try.sizeOf2 rfl rfl) ?_
  refine AOps_q 20 _ rfl rfl rfl (QOp_load_pv _ _ _ _ _ rfl Try.isAgg2 rfl rfl) ?_
  refine AOps_q 21 _ rfl rfl rfl (QOp_eql _ _ _ _ _ _ _ rfl rfl rfl) ?_
  refine AOps_nil ?_
  refine kI h rfl (fun h _ => ?_) (fun h _ => ?_)
  ·refine kR ?_
   refine kM 2 rfl ?_
   obtain ⟨r3, hr3, h⟩ := bindO h
   refine kC [0, 1, 2] 24 (bV r3.1) [.vec 0 (intsD r3.2.1), .ref (.vec 2 2), .vec 2 (intsD r3.2.2)] rfl Try.call102 rfl rfl (impl_Colouring_firstExtension_c1_ac p2 p2n p3_0 _ hr3) rfl ?_
   refine kN 1 rfl ?_
   refine ACode_ret ?_
   cases h
   exact ⟨_, _, Weak_reset 3 hm hz [8] _ _ rfl rfl, _, _, [], _, (.cons (ResV_tmp _ _ rfl) .nil), rfl, rfl, rfl, rfl, rfl⟩
  refine ACode_skip ?_
  refine kO (fun s27 => []) (fun s27 => [.vec 0 (intsD s27.1), .ref (.vec 2 1), .vec 1 (intsD s27.2)]) h (fun os27 h hks27 => ?_) (fun s27 h => ?_)
  ·refine kR ?_
   refine kM 1 rfl ?_
   refine AOps_q 26 _ rfl rfl rfl (QOp_nilCheck_pv _ _ _ rfl rfl) ?_
   refine AOps_q 27 _ rfl rfl rfl (QOp_fieldAddr_pv _ _ _ _ _ 1 _ _ rfl Try.underlying29 rfl _ Try.sizeOf2 rfl rfl) ?_
   refine AOps_q 28 _ rfl rfl rfl (QOp_load_pv _ _ _ _ _ rfl Try.isAgg2 rfl rfl) ?_
   refine kN 1 rfl ?_
   refine ACode_block ?_
   refine ACode_loopW (fun k0 E H => ∃ (x4 : Int) (x5 : List Int) (x6 : List Int), E = [(0, .d (.pv (colD p0) 0)), (1, .d (.sl none (intsD p1))), (2, .part 0 0 0 p2n), (3, .clo 102 [.ptr 1 0]), (9, iV (impl_size ((p2.drop 0).take p2n))), (28, iV p0.k), (29, iV x4)] ∧ H = [.vec 0 (intsD x5), .ref (.vec 2 1), .vec 1 (intsD x6)] ∧ impl_Colouring_extensions_on_firstExtension_c1_l0 k self p0 p1 p2 p2n k0 x4 x5 x6 = some os27) k _ _ (Weak_keep 3 hm [0, 1, 2, 3, 9, 28, 29] [] _ _ rfl rfl rfl) ⟨_, _, _, rfl, rfl, h⟩ ?_
   clear h
   rintro k0 E H ⟨x4, x5, x6, rfl, rfl, h⟩
   cases k0 with
   | zero => cases (show (none : Option (Sum (List Int × List Int) (Bool × List Int × List Int))) = some _ from h)
   | succ k0 =>
    rw [impl_Colouring_extensions_on_firstExtension_c1_l0] at h
    refine kR ?_
    refine AOps_q 30 _ rfl rfl rfl (QOp_lss _ _ _ _ _ _ _ rfl rfl rfl) ?_
    refine AOps_nil ?_
    refine ACode_seq ?_
    refine kI h rfl (fun h _ => ?_) (fun h _ => ?_)
    ·refine ACode_skip ?_
     refine kO (fun s26 => [(0, .d (.pv (colD p0) 0)), (1, .d (.sl none (intsD p1))), (2, .part 0 0 0 p2n), (3, .clo 102 [.ptr 1 0]), (9, iV (impl_size ((p2.drop 0).take p2n))), (28, iV p0.k), (29, iV x4)]) (fun s26 => [.vec 0 (intsD s26.1), .ref (.vec 2 1), .vec 1 (intsD s26.2)]) h (fun os26 h hks26 => ?_) (fun s26 h => ?_)
     ·refine ACode_block ?_
      refine kR ?_
      refine kN 2 rfl ?_
      refine kR ?_
      refine AOps_buildSlice 32 _ _ _ [] (intsD ([] : List Int)) _ rfl rfl rfl rfl rfl (by decide) Try.underlying24 Try.sizeOf2 (zero_of Try.typeInfo2 rfl) rfl rfl (intsD_one _) ?_
      refine kN 1 rfl ?_
      refine kB (fun s18 => [(0, .d (.pv (colD p0) 0)), (1, .d (.sl none (intsD p1))), (2, .part 0 0 0 p2n), (3, .clo 102 [.ptr 1 0]), (9, iV (impl_size ((p2.drop 0).take p2n))), (10, iV x4), (11, .vec 3 0), (28, iV p0.k), (29, iV x4)]) (fun s18 => [.vec 0 (intsD x5), .ref (.vec 2 1), .vec 1 (intsD x6), .vec 0 (intsD s18)]) h (fun s18 h => ?_) (fun s18 h => ?_)
      ·refine kR ?_
       refine kM 1 rfl ?_
       refine AOps_q 34 _ rfl rfl rfl (QOp_len_part _ _ _ _ _ _ _ _ _ _ rfl rfl rfl rfl Try.underlying24 rfl rfl rfl) ?_
       refine kN 1 rfl ?_
       refine ACode_block ?_
       refine ACode_loopW (fun k1 E H => ∃ (x8 : Int) (x9 : List Int), E = [(0, .d (.pv (colD p0) 0)), (1, .d (.sl none (intsD p1))), (2, .part 0 0 0 p2n), (3, .clo 102 [.ptr 1 0]), (9, iV (impl_size ((p2.drop 0).take p2n))), (10, iV x4), (11, .vec 3 0), (28, iV p0.k), (29, iV x4), (33, .part 0 0 0 p2n), (34, iV ((p2n : Nat) : Int)), (35, iV x8)] ∧ H = [.vec 0 (intsD x5), .ref (.vec 2 1), .vec 1 (intsD x6), .vec 0 (intsD x9)] ∧ impl_Colouring_extensions_on_firstExtension_c1_l1 p0 p2 p2n x4 x5 k1 x8 x9 = some s18) k _ _ (Weak_keep 3 hm [0, 1, 2, 3, 9, 10, 11, 28, 29, 33, 34, 35] [3] _ _ rfl rfl rfl) ⟨_, _, rfl, rfl, h⟩ ?_
       clear h
       rintro k1 E H ⟨x8, x9, rfl, rfl, h⟩
       cases k1 with
       | zero => cases (show (none : Option (List Int)) = some _ from h)
       | succ k1 =>
        rw [impl_Colouring_extensions_on_firstExtension_c1_l1] at h
        refine kR ?_
        refine AOps_q 36 _ rfl rfl rfl (QOp_lss _ _ _ _ _ _ _ rfl rfl rfl) ?_
        refine AOps_nil ?_
        refine ACode_seq ?_
        refine kI h rfl (fun h _ => ?_) (fun h _ => ?_)
        ·refine ACode_skip ?_
         refine kB (fun s17 => [(0, .d (.pv (colD p0) 0)), (1, .d (.sl none (intsD p1))), (2, .part 0 0 0 p2n), (3, .clo 102 [.ptr 1 0]), (9, iV (impl_size ((p2.drop 0).take p2n))), (10, iV x4), (11, .vec 3 0), (28, iV p0.k), (29, iV x4), (33, .part 0 0 0 p2n), (34, iV ((p2n : Nat) : Int)), (35, iV x8)]) (fun s17 => [.vec 0 (intsD x5), .ref (.vec 2 1), .vec 1 (intsD x6), .vec 0 (intsD s17)]) h (fun s17 h => ?_) (fun s17 h => ?_)
         ·refine ACode_block ?_
          refine kR ?_
          refine kM 1 rfl ?_
          obtain ⟨hc11, h⟩ := guardO h
          refine AOps_q 38 _ rfl rfl rfl (QOp_indexAddr_part _ _ _ _ _ _ _ _ _ _ _ _ rfl Try.underlying24 Try.sizeOf2 hc11.1 hc11.2.1 rfl rfl rfl rfl) ?_
          refine AOps_q 39 _ rfl rfl rfl (QOp_load_eptr _ _ _ _ _ _ _ rfl Try.isAgg2 rfl rfl (intsD_get _ _ 0 (by omega))) ?_
          refine kN 2 rfl ?_
          refine kB (fun s14 => [(0, .d (.pv (colD p0) 0)), (1, .d (.sl none (intsD p1))), (2, .part 0 0 0 p2n), (3, .clo 102 [.ptr 1 0]), (9, iV (impl_size ((p2.drop 0).take p2n))), (10, iV x4), (11, .vec 3 0), (12, iV x8), (28, iV p0.k), (29, iV x4), (33, .part 0 0 0 p2n), (34, iV ((p2n : Nat) : Int)), (35, iV x8), (49, bV s14)]) (fun s14 => [.vec 0 (intsD x5), .ref (.vec 2 1), .vec 1 (intsD x6), .vec 0 (intsD x9)]) h (fun s14 h => ?_) (fun s14 h => ?_)
          ·refine (ACode_region ?_)
           refine kM 2 rfl ?_
           refine AOps_q 42 _ rfl rfl rfl (QOp_eql _ _ _ _ _ _ _ rfl rfl rfl) ?_
           refine kM 1 rfl ?_
           refine AOps_case 43 _ rfl (fun hb12 => ?_) (fun hb12 => ?_)
           ·have h := iteT hb12 h
            refine kM 4 rfl ?_
            obtain ⟨r13, hr13, h⟩ := bindO h
            refine kC [] 48 (bV r13) [.vec 0 (intsD x5), .ref (.vec 2 1), .vec 1 (intsD x6), .vec 0 (intsD x9)] rfl Try.call62 rfl rfl (impl_Colouring_joins_ac p0 x8 (impl_size ((p2.drop 0).take p2n)) x4 _ hr13) rfl ?_
            refine kN 1 rfl ?_
            cases h
            exact Weak_keep 3 hm [0, 1, 2, 3, 9, 10, 11, 12, 28, 29, 33, 34, 35, 49] [3] _ _ rfl rfl rfl
           have h := iteF hb12 h
           refine AOps_skip 44 rfl rfl rfl ?_
           refine AOps_skip 45 rfl rfl rfl ?_
           refine AOps_skip 46 rfl rfl rfl ?_
           refine AOps_skip 47 rfl rfl rfl ?_
           refine AOps_skip 48 rfl rfl rfl ?_
           refine kN 1 rfl ?_
           cases h
           exact Weak_keep 3 hm [0, 1, 2, 3, 9, 10, 11, 12, 28, 29, 33, 34, 35, 49] [3] _ _ rfl rfl rfl
          refine kI h rfl (fun h _ => ?_) (fun h _ => ?_)
          ·refine (ACode_region ?_)
           refine kM 2 rfl ?_
           refine AOps_buildSlice 52 _ _ _ [_] (intsD ([x8])) _ rfl rfl rfl rfl rfl (by decide) Try.underlying24 Try.sizeOf2 (zero_of Try.typeInfo2 rfl) rfl rfl (intsD_one _) ?_
           obtain ⟨hc16, h⟩ := guardO h
           refine AOps_append 53 _ _ _ _ _ _ _ _ _ _ _ _ rfl rfl rfl rfl rfl rfl rfl Try.underlying24 Try.type2 rfl rfl rfl (by decide) rfl rfl rfl rfl (intsD_one _) (by rw [intsD_length, intsD_length]; exact hc16) ?_
           rw [intsD_app]
           refine kN 1 rfl ?_
           cases h
           exact Weak_trans (Weak_keep 3 hm [0, 1, 2, 3, 9, 10, 11, 28, 29, 33, 34, 35] [3] _ _ rfl rfl rfl) (Weak_reset 3 hm hz [0, 1, 2, 3, 9, 10, 11, 28, 29, 33, 34, 35] _ _ rfl rfl)
          refine ACode_skip ?_
          cases h
          exact Weak_keep 3 hm [0, 1, 2, 3, 9, 10, 11, 28, 29, 33, 34, 35] [3] _ _ rfl rfl rfl
         refine (ACode_region ?_)
         refine AOps_q 54 _ rfl rfl rfl (QOp_add _ _ _ _ _ _ _ rfl rfl rfl) ?_
         refine kN 1 rfl ?_
         exact ⟨k1, _, _, Nat.lt_succ_self _, Weak_keep 3 hm [0, 1, 2, 3, 9, 10, 11, 28, 29, 33, 34, 35] [3] _ _ rfl rfl rfl, _, _, rfl, rfl, h⟩
        refine ACode_exit ?_
        cases h
        exact Weak_keep 3 hm [0, 1, 2, 3, 9, 10, 11, 28, 29] [3] _ _ rfl rfl rfl
      refine kB (fun s24 => [(0, .d (.pv (colD p0) 0)), (1, .d (.sl none (intsD p1))), (2, .part 0 0 0 p2n), (3, .clo 102 [.ptr 1 0]), (9, iV (impl_size ((p2.drop 0).take p2n))), (28, iV p0.k), (29, iV x4), (75, bV s24.1)]) (fun s24 => [.vec 0 (intsD s24.2.1), .ref (.vec 2 1), .vec 1 (intsD s24.2.2)]) h (fun s24 h => ?_) (fun s24 h => ?_)
      ·refine (ACode_region ?_)
       refine kM 4 rfl ?_
       obtain ⟨hc19, h⟩ := guardO h
       refine AOps_q 59 _ rfl rfl rfl (QOp_indexAddr_sl _ _ _ _ _ _ _ _ rfl Try.underlying24 Try.sizeOf2 hc19.1 (by rw [intsD_length]; exact hc19.2) rfl rfl) ?_
       refine AOps_q 60 _ rfl rfl rfl (QOp_load_pv _ _ _ _ _ rfl Try.isAgg2 rfl (intsD_get _ _ 0 (by omega))) ?_
       refine AOps_q 61 _ rfl rfl rfl (QOp_sub _ _ _ _ _ _ _ rfl rfl rfl) ?_
       refine kM 1 rfl ?_
       obtain ⟨r20, hr20, h⟩ := bindO h
       refine AOps_callL [] 63 _ _ _ _ _ _ _ _ _ _ rfl rfl rfl rfl rfl rfl rfl Try.call64 rfl (nodupB_sound _ rfl) rfl rfl rfl (impl_Colouring_hasClique_ac k p0 x4 (w64 ((p1.getD x4.toNat 0) - 2)) s18 _ hr20) ?_
       rintro _ _ ⟨rfl, rfl⟩
       refine ⟨(fun _ h => nomatch h), (allc (flat_s _) (fun _ h => nomatch h)), AOps_as 63 (v' := bV r20) (H' := [.vec 0 (intsD x5), .ref (.vec 2 1), .vec 1 (intsD x6), .vec 0 (intsD s18)]) rfl rfl ?_⟩
       refine AOps_q 64 _ rfl rfl rfl (QOp_not _ _ _ rfl rfl) ?_
       refine kM 1 rfl ?_
       refine AOps_case 65 _ rfl (fun hb21 => ?_) (fun hb21 => ?_)
       ·have h := iteT hb21 h
        refine kM 4 rfl ?_
        refine AOps_buildSlice 70 _ _ _ [_] (intsD ([x4])) _ rfl rfl rfl rfl rfl (by decide) Try.underlying24 Try.sizeOf2 (zero_of Try.typeInfo2 rfl) rfl rfl (intsD_one _) ?_
        obtain ⟨hc22, h⟩ := guardO h
        refine AOps_append_part 71 _ _ _ _ _ 0 0 0 p2n (p2n + ([x4]).length) _ (intsD x5) (intsD ([x4])) _ rfl rfl rfl rfl rfl rfl rfl Try.underlying24 Try.type2 rfl rfl rfl rfl rfl (intsD_one _) (by rw [intsD_length]; exact hc22.2) (by rw [intsD_length, intsD_length]; exact hc22.1) (by rw [intsD_length]) ?_
        rw [intsD_length, intsD_spl]
        refine kM 1 rfl ?_
        obtain ⟨r23, hr23, h⟩ := bindO h
        refine kC [0, 1, 2] 73 (bV r23.1) [.vec 0 (intsD r23.2.1), .ref (.vec 2 2), .vec 2 (intsD r23.2.2), .vec 0 (intsD s18), .vec 0 (intsD ([x4]))] rfl Try.call125 rfl rfl (hself p0 p1 (splicedL x5 (0 + p2n) (([x4]).length) ([x4])) (p2n + ([x4]).length) x6 _ hr23) rfl ?_
        refine AOps_q 74 _ rfl rfl rfl (QOp_not _ _ _ rfl rfl) ?_
        refine kN 1 rfl ?_
        cases h
        exact Weak_trans (Weak_keep 3 hm [0, 1, 2, 3, 9, 28, 29, 75] [] _ _ rfl rfl rfl) (Weak_reset 3 hm hz [0, 1, 2, 3, 9, 28, 29, 75] _ _ rfl rfl)
       have h := iteF hb21 h
       refine AOps_skip 66 rfl rfl rfl ?_
       refine AOps_skip 67 rfl rfl rfl ?_
       refine AOps_skip 68 rfl rfl rfl ?_
       refine AOps_skip 69 rfl rfl rfl ?_
       refine AOps_skip 70 rfl rfl rfl ?_
       refine AOps_skip 71 rfl rfl rfl ?_
       refine AOps_skip 72 rfl rfl rfl ?_
       refine AOps_skip 73 rfl rfl rfl ?_
       refine AOps_skip 74 rfl rfl rfl ?_
       refine kN 1 rfl ?_
       cases h
       exact Weak_keep 3 hm [0, 1, 2, 3, 9, 28, 29, 75] [] _ _ rfl rfl rfl
      refine kI h rfl (fun h _ => ?_) (fun h _ => ?_)
      ·refine kR ?_
       refine kN 1 rfl ?_
       refine ACode_ret ?_
       obtain ⟨rr, hz28, h2⟩ := bindO h
       obtain rfl := Option.some.inj h2
       obtain rfl := Option.some.inj (show some rr = some _ from hks26)
       have h := hz28
       cases h
       have h := hks27
       cases h
       exact ⟨_, _, fun r a w h => ⟨r, h⟩, _, _, [], _, (.cons (ResV_tmp _ _ rfl) .nil), rfl, rfl, rfl, rfl, rfl⟩
      refine ACode_skip ?_
      cases h
      exact ⟨_, rfl, Weak_keep 3 hm [0, 1, 2, 3, 9, 28, 29] [] _ _ rfl rfl rfl⟩
     refine (ACode_region ?_)
     refine AOps_q 76 _ rfl rfl rfl (QOp_add _ _ _ _ _ _ _ rfl rfl rfl) ?_
     refine kN 1 rfl ?_
     exact ⟨k0, _, _, Nat.lt_succ_self _, Weak_keep 3 hm [0, 1, 2, 3, 9, 28, 29] [] _ _ rfl rfl rfl, _, _, _, rfl, rfl, h⟩
    refine ACode_exit ?_
    cases h
    exact ⟨_, rfl, Weak_keep 3 hm [] [] _ _ rfl rfl rfl⟩
  refine kR ?_
  refine kN 1 rfl ?_
  refine ACode_ret ?_
  cases h
  exact ⟨_, _, fun r a w h => ⟨r, h⟩, _, _, [], _, (.cons (ResV_tmp _ _ rfl) .nil), rfl, rfl, rfl, rfl, rfl⟩

-- (*loop.example/g01362/impl.Colouring).extend
def impl_Colouring_extend_on_firstExtension_c1 (k : Nat) (p0 : Col) (p1 : List Int) (p2_0 : List Int) : Option (Bool × List Int) :=
 (impl_Colouring_extensions_on_firstExtension_c1 k p0 p1 (List.replicate 17 (0 : Int)) 0 p2_0).bind fun r2 => some (r2.1, r2.2.2)
set_option maxRecDepth 100000 in
theorem impl_Colouring_extend_on_firstExtension_c1_ac (k : Nat) (p0 : Col) (p1 : List Int) (p2_0 : List Int) (r : Bool × List Int) (h : impl_Colouring_extend_on_firstExtension_c1 k p0 p1 p2_0 = some r) : AC Try.prog 101 [.d (.pv (colD p0) 0), .d (.sl none (intsD p1)), .clo 102 [.ptr 0 0]] [.ref (.vec 1 0), .vec 0 (intsD p2_0)] (fun res H' => res = [bV r.1] ∧ H' = [.ref (.vec 1 1), .vec 1 (intsD r.2)]) := by
 refine AC_of_body true Try.func101 rfl Try.ntmps101 (rvs := [.tmp 6]) rfl rfl (fun G hG => ?_)
 have hm : G.H.length = 2 := by rw [hG]; rfl
 have hz : zeroG G.H = true := by rw [hG]; rfl
 refine ACode_weak (Weak_bump 0 1 _ rfl rfl _ rfl) ?_
 unfold impl_Colouring_extend_on_firstExtension_c1 at h
 refine kR ?_
 refine kN 1 rfl ?_
 refine kR ?_
 refine kM 2 rfl ?_
 refine AOps_makeBufG intsD iD 0 (intsD_rep · _) 9 _ _ _ _ _ _ 17 _ (.int .i64 0) rfl rfl rfl rfl rfl rfl Try.underlying24 Try.type2 rfl rfl (by decide) rfl rfl (by decide) ?_
 refine kM 1 rfl ?_
 obtain ⟨r2, hr2, h⟩ := bindO h
 refine kC [2, 0, 1] 11 (bV r2.1) [.ref (.vec 1 2), .vec 2 (intsD r2.2.2), .vec 0 (intsD r2.2.1)] rfl Try.call125 rfl rfl (impl_Colouring_extensions_on_firstExtension_c1_ac k p0 p1 (List.replicate 17 (0 : Int)) 0 p2_0 _ hr2) rfl ?_
 refine kN 1 rfl ?_
 refine ACode_ret ?_
 cases h
 exact ⟨_, _, Weak_reset 2 hm hz [6] _ _ rfl rfl, _, _, [], _, (.cons (ResV_tmp _ _ rfl) .nil), rfl, rfl, rfl, rfl, rfl⟩

-- (*loop.example/g01362/impl.Colouring).firstExtension
def impl_Colouring_firstExtension (k : Nat) (p0 : Col) (p1 : List Int) : Option (List Int × Bool) :=
 (impl_Colouring_extend_on_firstExtension_c1 k p0 p1 ([] : List Int)).bind fun r1 => some (r1.2, !r1.1)
set_option maxRecDepth 100000 in
theorem impl_Colouring_firstExtension_ac (k : Nat) (p0 : Col) (p1 : List Int) (r : List Int × Bool) (h : impl_Colouring_firstExtension k p0 p1 = some r) : AC Try.prog 54 [.d (.pv (colD p0) 0), .d (.sl none (intsD p1))] [] (fun res H' => res = [.vec 0 0, bV r.2] ∧ H' = [.vec 0 (intsD r.1)]) := by
 refine AC_of_body true Try.func54 rfl Try.ntmps54 (rvs := [.tmp 4, .tmp 5]) rfl rfl (fun G hG => ?_)
 have hm : G.H.length = 0 := by rw [hG]; rfl
 have hz : zeroG G.H = true := by rw [hG]; rfl
 unfold impl_Colouring_firstExtension at h
 refine kR ?_
 refine kN 2 rfl ?_
 refine kR ?_
 refine AOps_buildSlice 8 _ _ _ [] (intsD ([] : List Int)) _ rfl rfl rfl rfl rfl (by decide) Try.underlying24 Try.sizeOf2 (zero_of Try.typeInfo2 rfl) rfl rfl (intsD_one _) ?_
 refine AOps_alloc 6 _ _ ([.sl (some true) []]) (zero_of Try.typeInfo24 rfl) (by rfl) rfl rfl rfl rfl ?_
 refine AOps_storeR 1 _ _ _ _ _ rfl rfl rfl rfl rfl rfl rfl rfl Try.sizeOf24 (fun r a w hr => vec_one hr rfl rfl rfl) ?_
 refine AOps_nil ?_
 refine kR ?_
 refine kM 2 rfl ?_
 refine AOps_q 11 _ rfl rfl rfl (QOp_makeFunc _ _ _ rfl rfl) ?_
 obtain ⟨r1, hr1, h⟩ := bindO h
 refine kC [1, 0] 12 (bV r1.1) [.vec 1 (intsD r1.2), .ref (.vec 0 1)] rfl Try.call101 rfl rfl (impl_Colouring_extend_on_firstExtension_c1_ac k p0 p1 ([] : List Int) _ hr1) rfl ?_
 refine kN 1 rfl ?_
 refine kR ?_
 refine AOps_q 13 _ rfl rfl rfl (QOp_load_ref _ _ _ _ rfl Try.isAgg24 rfl rfl) ?_
 refine kM 1 rfl ?_
 refine AOps_q 15 _ rfl rfl rfl (QOp_not _ _ _ rfl rfl) ?_
 refine kN 2 rfl ?_
 refine ACode_ret ?_
 cases h
 exact ⟨_, _, Weak_reset 0 hm hz [4, 5] _ _ rfl rfl, _, _, [0], _, (.cons (ResV_tmp _ _ rfl) (.cons (ResV_tmp _ _ rfl) .nil)), rfl, rfl, rfl, rfl, rfl⟩

-- loop.example/g01362/impl.FirstExtension
def impl_FirstExtension (k : Nat) (p0 : Col) (p1 : List Int) : Option (Option (List Int) × Int) :=
 (impl_Colouring_extendingCode k p0 p1 (some (impl_always)) 12).bind fun r1 => (if !decide (r1 = 0) then some (none, r1) else (impl_Colouring_firstExtension k p0 p1).bind fun r3 => (if !r3.2 then some (none, 4) else some (some r3.1, 0)))
set_option maxRecDepth 100000 in
theorem impl_FirstExtension_ac (k : Nat) (p0 : Col) (p1 : List Int) (r : Option (List Int) × Int) (h : impl_FirstExtension k p0 p1 = some r) : AC Try.prog 11 [.d (.agg (colD p0)), .d (.sl none (intsD p1))] [] (fun res H' => res = [ownA 0 (r.1.map intsD), iV r.2] ∧ H' = [] ++ ownH (r.1.map intsD)) := by
 refine AC_of_body false Try.func11 rfl Try.ntmps11 (rvs := [.tmp 4, .tmp 5]) rfl rfl (fun G hG => ?_)
 have hm : G.H.length = 0 := by rw [hG]; rfl
 have hz : zeroG G.H = true := by rw [hG]; rfl
 unfold impl_FirstExtension at h
 refine kR ?_
 refine AOps_boxI 2 _ _ (.agg (colD p0)) (colD p0) rfl (colD_one _) rfl rfl rfl rfl rfl ?_
 refine kN 2 rfl ?_
 refine ACode_seq ?_
 refine kR ?_
 refine kM 1 rfl ?_
 obtain ⟨r1, hr1, h⟩ := bindO h
 refine kC [] 10 (iV r1) [] rfl Try.call53 rfl rfl (impl_Colouring_extendingCode_ac k p0 p1 (some (impl_always)) 12 45 ([]) Try.call45 (fun r h => by cases h; exact impl_always_ac) _ hr1) rfl ?_
 refine kN 1 rfl ?_
 refine kR ?_
 refine kM 1 rfl ?_
 refine AOps_q 12 _ rfl rfl rfl (QOp_neq _ _ _ _ _ _ _ rfl rfl rfl) ?_
 refine AOps_nil ?_
 refine kI h rfl (fun h _ => ?_) (fun h _ => ?_)
 ·refine kR ?_
  refine kN 3 rfl ?_
  refine ACode_ret ?_
  cases h
  exact ⟨_, _, fun r a w h => ⟨r, h⟩, _, _, [], _, (.cons (ResV_tmp _ _ rfl) (.cons (ResV_tmp _ _ rfl) .nil)), rfl, rfl, rfl, rfl, rfl⟩
 refine ACode_skip ?_
 refine kR ?_
 refine kM 1 rfl ?_
 obtain ⟨r3, hr3, h⟩ := bindO h
 refine kC [] 16 (.tup [.vec 0 0, bV r3.2]) [.vec 0 (intsD r3.1)] rfl Try.call54 rfl rfl (impl_Colouring_firstExtension_ac k p0 p1 _ hr3) rfl ?_
 refine kN 5 rfl ?_
 refine ACode_seq ?_
 refine kR ?_
 refine kM 1 rfl ?_
 refine AOps_q 20 _ rfl rfl rfl (QOp_not _ _ _ rfl rfl) ?_
 refine AOps_nil ?_
 refine kI h rfl (fun h _ => ?_) (fun h _ => ?_)
 ·refine kR ?_
  refine kN 2 rfl ?_
  refine ACode_ret ?_
  cases h
  exact ⟨_, _, fun r a w h => ⟨r, h⟩, _, _, [], _, (.cons (ResV_tmp _ _ rfl) (.cons (ResV_tmp _ _ rfl) .nil)), rfl, rfl, rfl, rfl, rfl⟩
 refine ACode_skip ?_
 refine kR ?_
 refine kN 3 rfl ?_
 refine ACode_ret ?_
 cases h
 exact ⟨_, _, Weak_reset 0 hm hz [4, 5] _ _ rfl rfl, _, _, [0], _, (.cons (ResV_tmp _ _ rfl) (.cons (ResV_tmp _ _ rfl) .nil)), rfl, rfl, rfl, rfl, rfl⟩

-- loop.example/g01362/spec.DrawCountAvoiding
def spec_DrawCountAvoiding (k : Nat) (p0 : List UInt8) : Option (Int × List Int) :=
 (spec_l01From k p0).bind fun r1 => (spec_l01Pick r1 ([1, 2, 2, 2, 3, 4])).bind fun r2 => (spec_l01Pick r2.2 ([4, 4, 5])).bind fun r3 => (spec_l01Next r3.2 r3.1).bind fun r4 => (spec_l05DrawSizes k r4.2 r2.1).bind fun r5 => ((spec_l01Next r5.2 16).bind fun r6 => (if decide (r6.1 = 0) then (spec_l01Pick r6.2 ([0, 7, 6, (-1)])).bind fun r8 => some (r8.1, r5.1) else (if decide (r6.1 = 1) then (spec_l01Pick r6.2 ([0, 1, 18])).bind fun r10 => (if 0 ≤ (0 : Int) ∧ (0 : Int) < (r5.1.length : Int) then some (w64 (1 + r4.1), r5.1.set (0 : Int).toNat r10.1) else none) else (if decide (r6.1 = 2) then some (w64 (1 + r4.1), ([] : List Int)) else some (w64 (1 + r4.1), r5.1)))) : Option (Int × List Int)).bind fun s13 => some (s13.1, s13.2)
set_option maxRecDepth 100000 in
theorem spec_DrawCountAvoiding_ac (k : Nat) (p0 : List UInt8) (r : Int × List Int) (h : spec_DrawCountAvoiding k p0 = some r) : AC Try.prog 12 [.d (.sl none (bysD p0))] [] (fun res H' => res = [iV r.1, .vec 0 0] ∧ H' = [.vec 0 (intsD r.2)]) := by
 refine AC_of_body true Try.func12 rfl Try.ntmps12 (rvs := [.tmp 2, .tmp 3]) rfl rfl (fun G hG => ?_)
 have hm : G.H.length = 0 := by rw [hG]; rfl
 have hz : zeroG G.H = true := by rw [hG]; rfl
 unfold spec_DrawCountAvoiding at h
 refine kR ?_
 refine kN 2 rfl ?_
 refine kR ?_
 refine kM 1 rfl ?_
 obtain ⟨r1, hr1, h⟩ := bindO h
 refine kC [] 9 (.ptr 0 0) [.box (srcD r1)] rfl Try.call33 rfl rfl (spec_l01From_ac k p0 _ hr1) rfl ?_
 refine kN 1 rfl ?_
 refine kR ?_
 refine kM 1 rfl ?_
 refine AOps_buildSlice 11 _ _ _ [_, _, _, _, _, _] (intsD ([1, 2, 2, 2, 3, 4])) _ rfl rfl rfl rfl rfl (by decide) Try.underlying24 Try.sizeOf2 (zero_of Try.typeInfo2 rfl) rfl rfl (intsD_one _) ?_
 refine AOps_freezeL [11] 1 0 _ (allc (rfl) (fun _ h => nomatch h)) rfl ?_
 obtain ⟨r2, hr2, h⟩ := bindO h
 refine kC [0] 12 (iV r2.1) [.box (srcD r2.2), .gone] rfl Try.call36 rfl rfl (spec_l01Pick_ac r1 ([1, 2, 2, 2, 3, 4]) _ hr2) rfl ?_
 refine kN 1 rfl ?_
 refine kR ?_
 refine kM 2 rfl ?_
 refine AOps_buildSlice 15 _ _ _ [_, _, _] (intsD ([4, 4, 5])) _ rfl rfl rfl rfl rfl (by decide) Try.underlying24 Try.sizeOf2 (zero_of Try.typeInfo2 rfl) rfl rfl (intsD_one _) ?_
 refine AOps_freezeL [15] 2 0 _ (allc (rfl) (fun _ h => nomatch h)) rfl ?_
 obtain ⟨r3, hr3, h⟩ := bindO h
 refine kC [0] 16 (iV r3.1) [.box (srcD r3.2), .gone, .gone] rfl Try.call36 rfl rfl (spec_l01Pick_ac r2.2 ([4, 4, 5]) _ hr3) rfl ?_
 obtain ⟨r4, hr4, h⟩ := bindO h
 refine kC [0] 17 (iV r4.1) [.box (srcD r4.2), .gone, .gone] rfl Try.call34 rfl rfl (spec_l01Next_ac r3.2 r3.1 _ hr4) rfl ?_
 refine AOps_q 18 _ rfl rfl rfl (QOp_add _ _ _ _ _ _ _ rfl rfl rfl) ?_
 refine kM 2 rfl ?_
 obtain ⟨r5, hr5, h⟩ := bindO h
 refine kC [0] 21 (.vec 3 0) [.box (srcD r5.2), .gone, .gone, .vec 0 (intsD r5.1)] rfl Try.call35 rfl rfl (spec_l05DrawSizes_ac k r4.2 r2.1 _ hr5) rfl ?_
 refine kN 2 rfl ?_
 refine kB (fun s13 => [(6, iV s13.1), (7, .vec 0 0)]) (fun s13 => [.vec 0 (intsD s13.2)]) h (fun s13 h => ?_) (fun s13 h => ?_)
 ·refine kR ?_
  refine kM 1 rfl ?_
  obtain ⟨r6, hr6, h⟩ := bindO h
  refine kC [0] 23 (iV r6.1) [.box (srcD r6.2), .gone, .gone, .vec 0 (intsD r5.1)] rfl Try.call34 rfl rfl (spec_l01Next_ac r5.2 16 _ hr6) rfl ?_
  refine AOps_nil ?_
  refine ACode_block ?_
  refine kR ?_
  refine AOps_q 25 _ rfl rfl rfl (QOp_eql _ _ _ _ _ _ _ rfl rfl rfl) ?_
  refine kN 1 rfl ?_
  refine kI h rfl (fun h _ => ?_) (fun h _ => ?_)
  ·refine (ACode_region ?_)
   refine kM 1 rfl ?_
   refine AOps_buildSlice 27 _ _ _ [_, _, _, _] (intsD ([0, 7, 6, (-1)])) _ rfl rfl rfl rfl rfl (by decide) Try.underlying24 Try.sizeOf2 (zero_of Try.typeInfo2 rfl) rfl rfl (intsD_one _) ?_
   refine AOps_freezeL [27] 4 0 _ (allc (rfl) (fun _ h => nomatch h)) rfl ?_
   obtain ⟨r8, hr8, h⟩ := bindO h
   refine kC [0] 28 (iV r8.1) [.box (srcD r8.2), .gone, .gone, .vec 0 (intsD r5.1), .gone] rfl Try.call36 rfl rfl (spec_l01Pick_ac r6.2 ([0, 7, 6, (-1)]) _ hr8) rfl ?_
   refine kN 1 rfl ?_
   cases h
   exact Weak_keep 0 hm [6, 7] [3] _ _ rfl rfl rfl
  refine kR ?_
  refine AOps_q 30 _ rfl rfl rfl (QOp_eql _ _ _ _ _ _ _ rfl rfl rfl) ?_
  refine kN 1 rfl ?_
  refine kI h rfl (fun h _ => ?_) (fun h _ => ?_)
  ·refine (ACode_region ?_)
   refine kM 2 rfl ?_
   refine AOps_buildSlice 33 _ _ _ [_, _, _] (intsD ([0, 1, 18])) _ rfl rfl rfl rfl rfl (by decide) Try.underlying24 Try.sizeOf2 (zero_of Try.typeInfo2 rfl) rfl rfl (intsD_one _) ?_
   refine AOps_freezeL [33] 4 0 _ (allc (rfl) (fun _ h => nomatch h)) rfl ?_
   obtain ⟨r10, hr10, h⟩ := bindO h
   refine kC [0] 34 (iV r10.1) [.box (srcD r10.2), .gone, .gone, .vec 0 (intsD r5.1), .gone] rfl Try.call36 rfl rfl (spec_l01Pick_ac r6.2 ([0, 1, 18]) _ hr10) rfl ?_
   obtain ⟨hc11, h⟩ := guardO h
   refine AOps_q 35 _ rfl rfl rfl (QOp_indexAddr_vec _ _ _ _ _ _ _ _ _ rfl Try.underlying24 Try.sizeOf2 hc11.1 (by rw [intsD_length]; exact hc11.2) rfl rfl rfl) ?_
   refine AOps_store_eptr _ _ _ _ _ _ (intsD r5.1) _ rfl rfl rfl rfl rfl rfl rfl Try.sizeOf2 (by rw [intsD_length]; omega) ?_
   rw [intsD_set]
   refine AOps_nil ?_
   cases h
   exact Weak_keep 0 hm [6, 7] [3] _ _ rfl rfl rfl
  refine kR ?_
  refine AOps_q 37 _ rfl rfl rfl (QOp_eql _ _ _ _ _ _ _ rfl rfl rfl) ?_
  refine kN 1 rfl ?_
  refine kI h rfl (fun h _ => ?_) (fun h _ => ?_)
  ·refine (ACode_region ?_)
   refine AOps_buildSlice 38 _ _ _ [] (intsD ([] : List Int)) _ rfl rfl rfl rfl rfl (by decide) Try.underlying24 Try.sizeOf2 (zero_of Try.typeInfo2 rfl) rfl rfl (intsD_one _) ?_
   refine kN 1 rfl ?_
   cases h
   exact Weak_keep 0 hm [6, 7] [4] _ _ rfl rfl rfl
  refine ACode_skip ?_
  cases h
  exact Weak_keep 0 hm [6, 7] [3] _ _ rfl rfl rfl
 refine kR ?_
 refine kN 4 rfl ?_
 refine ACode_ret ?_
 cases h
 exact ⟨_, _, Weak_reset 0 hm hz [2, 3] _ _ rfl rfl, _, _, [0], _, (.cons (ResV_tmp _ _ rfl) (.cons (ResV_tmp _ _ rfl) .nil)), rfl, rfl, rfl, rfl, rfl⟩

-- loop.example/g01362/impl.mostAvoiding
def impl_mostAvoiding (p0 : Int) : Int :=
 (if decide (p0 = 3) then 5 else (if decide (p0 = 4) then 4 else 6))
set_option maxRecDepth 100000 in
theorem impl_mostAvoiding_ac (p0 : Int) : AC Try.prog 56 [iV p0] [] (fun res H' => res = [iV (impl_mostAvoiding p0)] ∧ H' = []) := by
 refine AC_of_body true Try.func56 rfl Try.ntmps56 (rvs := [.tmp 2]) rfl rfl (fun G hG => ?_)
 have hm : G.H.length = 0 := by rw [hG]; rfl
 have hz : zeroG G.H = true := by rw [hG]; rfl
 obtain ⟨r, h⟩ : ∃ r, impl_mostAvoiding p0 = r := ⟨_, rfl⟩
 rw [h]
 unfold impl_mostAvoiding at h
 refine kR ?_
 refine kN 1 rfl ?_
 refine ACode_seq ?_
 refine kR ?_
 refine kN 1 rfl ?_
 refine ACode_block ?_
 refine kR ?_
 refine AOps_q 5 _ rfl rfl rfl (QOp_eql _ _ _ _ _ _ _ rfl rfl rfl) ?_
 refine kN 1 rfl ?_
 refine kI h rfl (fun h _ => ?_) (fun h _ => ?_)
 ·refine kR ?_
  refine kN 1 rfl ?_
  refine ACode_ret ?_
  cases h
  exact ⟨_, _, fun r a w h => ⟨r, h⟩, _, _, [], _, (.cons (ResV_tmp _ _ rfl) .nil), rfl, rfl, rfl, rfl, rfl⟩
 refine kR ?_
 refine AOps_q 7 _ rfl rfl rfl (QOp_eql _ _ _ _ _ _ _ rfl rfl rfl) ?_
 refine kN 1 rfl ?_
 refine kI h rfl (fun h _ => ?_) (fun h _ => ?_)
 ·refine kR ?_
  refine kN 1 rfl ?_
  refine ACode_ret ?_
  cases h
  exact ⟨_, _, fun r a w h => ⟨r, h⟩, _, _, [], _, (.cons (ResV_tmp _ _ rfl) .nil), rfl, rfl, rfl, rfl, rfl⟩
 refine ACode_skip ?_
 refine kR ?_
 refine kN 1 rfl ?_
 refine ACode_ret ?_
 cases h
 exact ⟨_, _, fun r a w h => ⟨r, h⟩, _, _, [], _, (.cons (ResV_tmp _ _ rfl) .nil), rfl, rfl, rfl, rfl, rfl⟩

-- loop.example/g01362/impl.CountAvoiding$1
def impl_CountAvoiding_c1 (p0 : Col) (p1 : Int) : Bool × Int :=
 (true, w64 (p1 + 1))
set_option maxRecDepth 100000 in
theorem impl_CountAvoiding_c1_ac (p0 : Col) (p1 : Int) : AC Try.prog 58 [.d (.pv (colD p0) 0), .ptr 0 0] [.box [iD p1]] (fun res H' => res = [bV ((impl_CountAvoiding_c1 p0 p1).1)] ∧ H' = [.box [iD ((impl_CountAvoiding_c1 p0 p1).2)]]) := by
 refine AC_of_body true Try.func58 rfl Try.ntmps58 (rvs := [.tmp 3]) rfl rfl (fun G hG => ?_)
 have hm : G.H.length = 1 := by rw [hG]; rfl
 have hz : zeroG G.H = true := by rw [hG]; rfl
 obtain ⟨r, h⟩ : ∃ r, impl_CountAvoiding_c1 p0 p1 = r := ⟨_, rfl⟩
 rw [h]
 unfold impl_CountAvoiding_c1 at h
 refine kR ?_
 refine kN 1 rfl ?_
 refine kR ?_
 refine AOps_q 4 _ rfl rfl rfl (QOp_load_ptr _ _ _ _ _ _ rfl Try.isAgg2 rfl rfl rfl) ?_
 refine AOps_q 5 _ rfl rfl rfl (QOp_add _ _ _ _ _ _ _ rfl rfl rfl) ?_
 refine AOps_store1 _ _ _ _ _ _ _ _ rfl rfl rfl rfl rfl rfl rfl Try.sizeOf2 (Nat.le_of_ble_eq_true rfl) rfl ?_
 refine AOps_nil ?_
 refine kR ?_
 refine kN 1 rfl ?_
 refine ACode_ret ?_
 cases h
 exact ⟨_, _, fun r a w h => ⟨r, h⟩, _, _, [], _, (.cons (ResV_tmp _ _ rfl) .nil), rfl, rfl, rfl, rfl, rfl⟩

-- loop.example/g01362/impl.avoiding
def impl_avoiding_on_CountAvoiding_c1_l1 (p2 : Int) (p3 : Int) (x5 : Int) (x6 : Col) : Nat → Int → (List Int) → Option (List Int)
 | 0, _, _ => none
 | k1 + 1, x9, x10 => (if decide (x9 < p2) then (((impl_Colouring_joins x6 x9 p2 x5).bind fun r12 => (if r12 then (impl_Colouring_joins x6 x9 p3 x5).bind fun r14 => some r14 else some false) : Option (Bool)).bind fun s15 => (if s15 then (if x10.length + ([x9]).length ≤ 1099511627776 then some (x10 ++ ([x9])) else none) else some x10) : Option (List Int)).bind fun s18 => impl_avoiding_on_CountAvoiding_c1_l1 p2 p3 x5 x6 k1 (w64 (x9 + 1)) s18 else some x10)
def impl_avoiding_on_CountAvoiding_c1_l0 (k : Nat) (self : Col → (List Int) → Int → Int → Int → Option (Bool × Col × Int)) (p0 : Col) (p1 : List Int) (p2 : Int) (p3 : Int) : Nat → Int → Col → Int → Option (Sum (Col × Int) (Bool × Col × Int))
 | 0, _, _, _ => none
 | k0 + 1, x5, x6, x7 => (if decide (x5 < p0.k) then ((impl_avoiding_on_CountAvoiding_c1_l1 p2 p3 x5 x6 k 0 ([] : List Int) : Option (List Int)).bind fun s19 => (if 0 ≤ x5 ∧ x5 < (p1.length : Int) then (impl_Colouring_hasClique k x6 x5 (w64 ((p1.getD x5.toNat 0) - 2)) s19).bind fun r21 => (if r21 then some (.inl (x6, x7)) else (impl_Colouring_put x6 p2 p3 x5).bind fun r23 => (self r23 p1 (w64 (p2 + 1)) p3 x7).bind fun r24 => (if !r24.1 then (some (.inr (false, r24.2.1, r24.2.2))).bind fun rr => some (.inr rr) else some (.inl (r24.2.1, r24.2.2)))) else none) : Option (Sum (Col × Int) (Sum (Col × Int) (Bool × Col × Int)))).bind fun os26 => (match os26 with | .inl s26 => impl_avoiding_on_CountAvoiding_c1_l0 k self p0 p1 p2 p3 k0 (w64 (x5 + 1)) s26.1 s26.2 | .inr rr => some rr) else some (.inl (x6, x7)))
def impl_avoiding_on_CountAvoiding_c1_body (self : Col → (List Int) → Int → Int → Int → Option (Bool × Col × Int)) (k : Nat) (p0 : Col) (p1 : List Int) (p2 : Int) (p3 : Int) (p4_0 : Int) : Option (Bool × Col × Int) :=
 (if decide (p0.p ≤ p3) then some ((impl_CountAvoiding_c1 p0 p4_0).1, p0, (impl_CountAvoiding_c1 p0 p4_0).2) else (if decide (p2 = p3) then (self p0 p1 0 (w64 (p3 + 1)) p4_0).bind fun r4 => some (r4.1, r4.2.1, r4.2.2) else (impl_avoiding_on_CountAvoiding_c1_l0 k self p0 p1 p2 p3 k 0 p0 p4_0 : Option (Sum (Col × Int) (Bool × Col × Int))).bind fun os27 => (match os27 with | .inl s27 => (impl_Colouring_put s27.1 p2 p3 0).bind fun r28 => some (true, r28, s27.2) | .inr rr => some rr)))
def impl_avoiding_on_CountAvoiding_c1 : Nat → Col → (List Int) → Int → Int → Int → Option (Bool × Col × Int)
 | 0, _, _, _, _, _ => none
 | k + 1, p0, p1, p2, p3, p4_0 => impl_avoiding_on_CountAvoiding_c1_body (impl_avoiding_on_CountAvoiding_c1 k) k p0 p1 p2 p3 p4_0
set_option maxRecDepth 100000 in
theorem impl_avoiding_on_CountAvoiding_c1_ac (k : Nat) (p0 : Col) (p1 : List Int) (p2 : Int) (p3 : Int) (p4_0 : Int) (r : Bool × Col × Int) (h : impl_avoiding_on_CountAvoiding_c1 k p0 p1 p2 p3 p4_0 = some r) : AC Try.prog 105 [.ptr 0 0, .d (.sl none (intsD p1)), iV p2, iV p3, .clo 58 [.ptr 1 0]] [.box (colD p0), .box [iD p4_0]] (fun res H' => res = [bV r.1] ∧ H' = [.box (colD r.2.1), .box [iD r.2.2]]) := by
 induction k generalizing p0 p1 p2 p3 p4_0 r with
 | zero => simp [impl_avoiding_on_CountAvoiding_c1] at h
 | succ k ih =>
  rw [impl_avoiding_on_CountAvoiding_c1] at h
  obtain ⟨self, hself, hk⟩ : ∃ self : Col → (List Int) → Int → Int → Int → Option (Bool × Col × Int), (∀ (p0 : Col) (p1 : List Int) (p2 : Int) (p3 : Int) (p4_0 : Int) (r : Bool × Col × Int), self p0 p1 p2 p3 p4_0 = some r → AC Try.prog 105 [.ptr 0 0, .d (.sl none (intsD p1)), iV p2, iV p3, .clo 58 [.ptr 1 0]] [.box (colD p0), .box [iD p4_0]] (fun res H' => res = [bV r.1] ∧ H' = [.box (colD r.2.1), .box [iD r.2.2]])) ∧ impl_avoiding_on_CountAvoiding_c1 k = self := ⟨impl_avoiding_on_CountAvoiding_c1 k, fun p0 p1 p2 p3 p4_0 r h => ih p0 p1 p2 p3 p4_0 r h, rfl⟩
  rw [hk] at h
  clear ih hk
  refine AC_of_body true Try.func105 rfl Try.ntmps105 (rvs := [.tmp 10]) rfl rfl (fun G hG => ?_)
  have hm : G.H.length = 2 := by rw [hG]; rfl
  have hz : zeroG G.H = true := by rw [hG]; rfl
  unfold impl_avoiding_on_CountAvoiding_c1_body at h
  refine kR ?_
  refine kN 1 rfl ?_
  refine ACode_seq ?_
  refine ACode_block ?_
  refine kR ?_
  refine kM 2 rfl ?_
  refine AOps_q 17 _ rfl rfl rfl (QOp_nilCheck_ptr _ _ _ _ rfl rfl rfl rfl) ?_
  refine AOps_q 18 _ rfl rfl rfl (QOp_fieldAddr_ptr _ _ _ _ _ _ 0 _ _ rfl Try.underlying29 rfl _ Try.sizeOf2 rfl rfl rfl rfl) ?_
  refine AOps_q 19 _ rfl rfl rfl (QOp_load_ptr _ _ _ _ _ _ rfl Try.isAgg2 rfl rfl rfl) ?_
  refine AOps_q 20 _ rfl rfl rfl (QOp_geq _ _ _ _ _ _ _ rfl rfl rfl) ?_
  refine kN 1 rfl ?_
  refine kI h rfl (fun h _ => ?_) (fun h _ => ?_)
  ·refine kR ?_
   refine kM 2 rfl ?_
   refine AOps_callL [1] 23 _ _ _ _ _ _ _ _ _ _ rfl rfl rfl rfl rfl rfl rfl Try.call58 rfl (nodupB_sound _ rfl) rfl rfl rfl (impl_CountAvoiding_c1_ac p0 p4_0) ?_
   rintro _ _ ⟨rfl, rfl⟩
   refine ⟨(allc ((fun c hc => by cases hc with | head => exact flat_s _ | tail _ h => cases h)) (fun _ h => nomatch h)), (allc (flat_s _) (fun _ h => nomatch h)), AOps_as 23 (v' := bV ((impl_CountAvoiding_c1 p0 p4_0).1)) (H' := [.box (colD p0), .box [iD ((impl_CountAvoiding_c1 p0 p4_0).2)]]) rfl rfl ?_⟩
   refine kN 1 rfl ?_
   refine ACode_ret ?_
   cases h
   exact ⟨_, _, fun r a w h => ⟨r, h⟩, _, _, [], _, (.cons (ResV_tmp _ _ rfl) .nil), rfl, rfl, rfl, rfl, rfl⟩
  refine kR ?_
  refine kM 2 rfl ?_
  refine AOps_q 27 _ rfl rfl rfl (QOp_eql _ _ _ _ _ _ _ rfl rfl rfl) ?_
  refine kN 1 rfl ?_
  refine kI h rfl (fun h _ => ?_) (fun h _ => ?_)
  ·refine kR ?_
   refine kM 3 rfl ?_
   refine AOps_q 31 _ rfl rfl rfl (QOp_add _ _ _ _ _ _ _ rfl rfl rfl) ?_
   refine kM 1 rfl ?_
   obtain ⟨r4, hr4, h⟩ := bindO h
   refine kC [0, 1] 33 (bV r4.1) [.box (colD r4.2.1), .box [iD r4.2.2]] rfl Try.call105 rfl rfl (hself p0 p1 0 (w64 (p3 + 1)) p4_0 _ hr4) rfl ?_
   refine kN 1 rfl ?_
   refine ACode_ret ?_
   cases h
   exact ⟨_, _, fun r a w h => ⟨r, h⟩, _, _, [], _, (.cons (ResV_tmp _ _ rfl) .nil), rfl, rfl, rfl, rfl, rfl⟩
  refine ACode_skip ?_
  refine kO (fun s27 => [(0, .ptr 0 0), (2, iV p2), (3, iV p3)]) (fun s27 => [.box (colD s27.1), .box [iD s27.2]]) h (fun os27 h hks27 => ?_) (fun s27 h => ?_)
  ·refine kR ?_
   refine kM 1 rfl ?_
   refine AOps_q 35 _ rfl rfl rfl (QOp_nilCheck_ptr _ _ _ _ rfl rfl rfl rfl) ?_
   refine AOps_q 36 _ rfl rfl rfl (QOp_fieldAddr_ptr _ _ _ _ _ _ 1 _ _ rfl Try.underlying29 rfl _ Try.sizeOf2 rfl rfl rfl rfl) ?_
   refine AOps_q 37 _ rfl rfl rfl (QOp_load_ptr _ _ _ _ _ _ rfl Try.isAgg2 rfl rfl rfl) ?_
   refine kN 1 rfl ?_
   refine ACode_block ?_
   refine ACode_loopW (fun k0 E H => ∃ (x5 : Int) (x6 : Col) (x7 : Int), E = [(0, .ptr 0 0), (1, .d (.sl none (intsD p1))), (2, iV p2), (3, iV p3), (4, .clo 58 [.ptr 1 0]), (37, iV p0.k), (38, iV x5)] ∧ H = [.box (colD x6), .box [iD x7]] ∧ impl_avoiding_on_CountAvoiding_c1_l0 k self p0 p1 p2 p3 k0 x5 x6 x7 = some os27) k _ _ (Weak_keep 2 hm [0, 1, 2, 3, 4, 37, 38] [] _ _ rfl rfl rfl) ⟨_, _, _, rfl, rfl, h⟩ ?_
   clear h
   rintro k0 E H ⟨x5, x6, x7, rfl, rfl, h⟩
   cases k0 with
   | zero => cases (show (none : Option (Sum (Col × Int) (Bool × Col × Int))) = some _ from h)
   | succ k0 =>
    rw [impl_avoiding_on_CountAvoiding_c1_l0] at h
    refine kR ?_
    refine AOps_q 39 _ rfl rfl rfl (QOp_lss _ _ _ _ _ _ _ rfl rfl rfl) ?_
    refine AOps_nil ?_
    refine ACode_seq ?_
    refine kI h rfl (fun h _ => ?_) (fun h _ => ?_)
    ·refine ACode_skip ?_
     refine kO (fun s26 => [(0, .ptr 0 0), (1, .d (.sl none (intsD p1))), (2, iV p2), (3, iV p3), (4, .clo 58 [.ptr 1 0]), (37, iV p0.k), (38, iV x5)]) (fun s26 => [.box (colD s26.1), .box [iD s26.2]]) h (fun os26 h hks26 => ?_) (fun s26 h => ?_)
     ·refine ACode_block ?_
      refine kR ?_
      refine kN 2 rfl ?_
      refine kR ?_
      refine AOps_buildSlice 41 _ _ _ [] (intsD ([] : List Int)) _ rfl rfl rfl rfl rfl (by decide) Try.underlying24 Try.sizeOf2 (zero_of Try.typeInfo2 rfl) rfl rfl (intsD_one _) ?_
      refine kN 1 rfl ?_
      refine kB (fun s19 => [(0, .ptr 0 0), (1, .d (.sl none (intsD p1))), (2, iV p2), (3, iV p3), (4, .clo 58 [.ptr 1 0]), (11, iV x5), (12, .vec 2 0), (37, iV p0.k), (38, iV x5)]) (fun s19 => [.box (colD x6), .box [iD x7], .vec 0 (intsD s19)]) h (fun s19 h => ?_) (fun s19 h => ?_)
      ·refine kR ?_
       refine kN 2 rfl ?_
       refine ACode_block ?_
       refine ACode_loopW (fun k1 E H => ∃ (x9 : Int) (x10 : List Int), E = [(0, .ptr 0 0), (1, .d (.sl none (intsD p1))), (2, iV p2), (3, iV p3), (4, .clo 58 [.ptr 1 0]), (11, iV x5), (12, .vec 2 0), (37, iV p0.k), (38, iV x5), (42, iV p2), (43, iV x9)] ∧ H = [.box (colD x6), .box [iD x7], .vec 0 (intsD x10)] ∧ impl_avoiding_on_CountAvoiding_c1_l1 p2 p3 x5 x6 k1 x9 x10 = some s19) k _ _ (Weak_keep 2 hm [0, 1, 2, 3, 4, 11, 12, 37, 38, 42, 43] [2] _ _ rfl rfl rfl) ⟨_, _, rfl, rfl, h⟩ ?_
       clear h
       rintro k1 E H ⟨x9, x10, rfl, rfl, h⟩
       cases k1 with
       | zero => cases (show (none : Option (List Int)) = some _ from h)
       | succ k1 =>
        rw [impl_avoiding_on_CountAvoiding_c1_l1] at h
        refine kR ?_
        refine AOps_q 44 _ rfl rfl rfl (QOp_lss _ _ _ _ _ _ _ rfl rfl rfl) ?_
        refine AOps_nil ?_
        refine ACode_seq ?_
        refine kI h rfl (fun h _ => ?_) (fun h _ => ?_)
        ·refine ACode_skip ?_
         refine kB (fun s18 => [(0, .ptr 0 0), (1, .d (.sl none (intsD p1))), (2, iV p2), (3, iV p3), (4, .clo 58 [.ptr 1 0]), (11, iV x5), (12, .vec 2 0), (37, iV p0.k), (38, iV x5), (42, iV p2), (43, iV x9)]) (fun s18 => [.box (colD x6), .box [iD x7], .vec 0 (intsD s18)]) h (fun s18 h => ?_) (fun s18 h => ?_)
         ·refine ACode_block ?_
          refine kR ?_
          refine kN 2 rfl ?_
          refine kB (fun s15 => [(0, .ptr 0 0), (1, .d (.sl none (intsD p1))), (2, iV p2), (3, iV p3), (4, .clo 58 [.ptr 1 0]), (11, iV x5), (12, .vec 2 0), (13, iV x9), (37, iV p0.k), (38, iV x5), (42, iV p2), (43, iV x9), (57, bV s15)]) (fun s15 => [.box (colD x6), .box [iD x7], .vec 0 (intsD x10)]) h (fun s15 h => ?_) (fun s15 h => ?_)
          ·refine (ACode_region ?_)
           refine kM 4 rfl ?_
           obtain ⟨r12, hr12, h⟩ := bindO h
           refine AOps_callL [] 50 _ _ _ _ _ _ _ _ _ _ rfl rfl rfl rfl rfl rfl rfl Try.call62 rfl (nodupB_sound _ rfl) rfl rfl rfl (impl_Colouring_joins_ac x6 x9 p2 x5 _ hr12) ?_
           rintro _ _ ⟨rfl, rfl⟩
           refine ⟨(fun _ h => nomatch h), (allc (flat_s _) (fun _ h => nomatch h)), AOps_as 50 (v' := bV r12) (H' := [.box (colD x6), .box [iD x7], .vec 0 (intsD x10)]) rfl rfl ?_⟩
           refine kM 1 rfl ?_
           refine AOps_case 51 _ rfl (fun hb13 => ?_) (fun hb13 => ?_)
           ·have h := iteT hb13 h
            refine kM 4 rfl ?_
            obtain ⟨r14, hr14, h⟩ := bindO h
            refine AOps_callL [] 56 _ _ _ _ _ _ _ _ _ _ rfl rfl rfl rfl rfl rfl rfl Try.call62 rfl (nodupB_sound _ rfl) rfl rfl rfl (impl_Colouring_joins_ac x6 x9 p3 x5 _ hr14) ?_
            rintro _ _ ⟨rfl, rfl⟩
            refine ⟨(fun _ h => nomatch h), (allc (flat_s _) (fun _ h => nomatch h)), AOps_as 56 (v' := bV r14) (H' := [.box (colD x6), .box [iD x7], .vec 0 (intsD x10)]) rfl rfl ?_⟩
            refine kN 1 rfl ?_
            cases h
            exact Weak_keep 2 hm [0, 1, 2, 3, 4, 11, 12, 13, 37, 38, 42, 43, 57] [2] _ _ rfl rfl rfl
           have h := iteF hb13 h
           refine AOps_skip 52 rfl rfl rfl ?_
           refine AOps_skip 53 rfl rfl rfl ?_
           refine AOps_skip 54 rfl rfl rfl ?_
           refine AOps_skip 55 rfl rfl rfl ?_
           refine AOps_skip 56 rfl rfl rfl ?_
           refine kN 1 rfl ?_
           cases h
           exact Weak_keep 2 hm [0, 1, 2, 3, 4, 11, 12, 13, 37, 38, 42, 43, 57] [2] _ _ rfl rfl rfl
          refine kI h rfl (fun h _ => ?_) (fun h _ => ?_)
          ·refine (ACode_region ?_)
           refine kM 2 rfl ?_
           refine AOps_buildSlice 60 _ _ _ [_] (intsD ([x9])) _ rfl rfl rfl rfl rfl (by decide) Try.underlying24 Try.sizeOf2 (zero_of Try.typeInfo2 rfl) rfl rfl (intsD_one _) ?_
           obtain ⟨hc17, h⟩ := guardO h
           refine AOps_append 61 _ _ _ _ _ _ _ _ _ _ _ _ rfl rfl rfl rfl rfl rfl rfl Try.underlying24 Try.type2 rfl rfl rfl (by decide) rfl rfl rfl rfl (intsD_one _) (by rw [intsD_length, intsD_length]; exact hc17) ?_
           rw [intsD_app]
           refine kN 1 rfl ?_
           cases h
           exact Weak_trans (Weak_keep 2 hm [0, 1, 2, 3, 4, 11, 12, 37, 38, 42, 43] [2] _ _ rfl rfl rfl) (Weak_reset 2 hm hz [0, 1, 2, 3, 4, 11, 12, 37, 38, 42, 43] _ _ rfl rfl)
          refine ACode_skip ?_
          cases h
          exact Weak_keep 2 hm [0, 1, 2, 3, 4, 11, 12, 37, 38, 42, 43] [2] _ _ rfl rfl rfl
         refine (ACode_region ?_)
         refine AOps_q 62 _ rfl rfl rfl (QOp_add _ _ _ _ _ _ _ rfl rfl rfl) ?_
         refine kN 1 rfl ?_
         exact ⟨k1, _, _, Nat.lt_succ_self _, Weak_keep 2 hm [0, 1, 2, 3, 4, 11, 12, 37, 38, 42, 43] [2] _ _ rfl rfl rfl, _, _, rfl, rfl, h⟩
        refine ACode_exit ?_
        cases h
        exact Weak_keep 2 hm [0, 1, 2, 3, 4, 11, 12, 37, 38] [2] _ _ rfl rfl rfl
      refine ACode_seq ?_
      refine kR ?_
      refine kM 4 rfl ?_
      obtain ⟨hc20, h⟩ := guardO h
      refine AOps_q 67 _ rfl rfl rfl (QOp_indexAddr_sl _ _ _ _ _ _ _ _ rfl Try.underlying24 Try.sizeOf2 hc20.1 (by rw [intsD_length]; exact hc20.2) rfl rfl) ?_
      refine AOps_q 68 _ rfl rfl rfl (QOp_load_pv _ _ _ _ _ rfl Try.isAgg2 rfl (intsD_get _ _ 0 (by omega))) ?_
      refine AOps_q 69 _ rfl rfl rfl (QOp_sub _ _ _ _ _ _ _ rfl rfl rfl) ?_
      refine kM 1 rfl ?_
      obtain ⟨r21, hr21, h⟩ := bindO h
      refine AOps_callL [] 71 _ _ _ _ _ _ _ _ _ _ rfl rfl rfl rfl rfl rfl rfl Try.call64 rfl (nodupB_sound _ rfl) rfl rfl rfl (impl_Colouring_hasClique_ac k x6 x5 (w64 ((p1.getD x5.toNat 0) - 2)) s19 _ hr21) ?_
      rintro _ _ ⟨rfl, rfl⟩
      refine ⟨(fun _ h => nomatch h), (allc (flat_s _) (fun _ h => nomatch h)), AOps_as 71 (v' := bV r21) (H' := [.box (colD x6), .box [iD x7], .vec 0 (intsD s19)]) rfl rfl ?_⟩
      refine AOps_nil ?_
      refine kI h rfl (fun h _ => ?_) (fun h _ => ?_)
      ·refine ACode_exit ?_
       cases h
       exact ⟨_, rfl, Weak_keep 2 hm [0, 1, 2, 3, 4, 37, 38] [] _ _ rfl rfl rfl⟩
      refine ACode_skip ?_
      refine kR ?_
      refine kM 4 rfl ?_
      obtain ⟨r23, hr23, h⟩ := bindO h
      refine kC [0] 76 (.tup []) [.box (colD r23), .box [iD x7], .vec 0 (intsD s19)] rfl Try.call72 rfl rfl (impl_Colouring_put_ac x6 p2 p3 x5 _ hr23) rfl ?_
      refine AOps_nil ?_
      refine kR ?_
      refine kM 3 rfl ?_
      refine AOps_q 80 _ rfl rfl rfl (QOp_add _ _ _ _ _ _ _ rfl rfl rfl) ?_
      refine kM 2 rfl ?_
      obtain ⟨r24, hr24, h⟩ := bindO h
      refine kC [0, 1] 83 (bV r24.1) [.box (colD r24.2.1), .box [iD r24.2.2], .vec 0 (intsD s19)] rfl Try.call105 rfl rfl (hself r23 p1 (w64 (p2 + 1)) p3 x7 _ hr24) rfl ?_
      refine AOps_q 84 _ rfl rfl rfl (QOp_not _ _ _ rfl rfl) ?_
      refine AOps_nil ?_
      refine kI h rfl (fun h _ => ?_) (fun h _ => ?_)
      ·refine kR ?_
       refine kN 1 rfl ?_
       refine ACode_ret ?_
       obtain ⟨rr, hz29, h2⟩ := bindO h
       obtain rfl := Option.some.inj h2
       obtain rfl := Option.some.inj (show some rr = some _ from hks26)
       have h := hz29
       cases h
       have h := hks27
       cases h
       exact ⟨_, _, fun r a w h => ⟨r, h⟩, _, _, [], _, (.cons (ResV_tmp _ _ rfl) .nil), rfl, rfl, rfl, rfl, rfl⟩
      refine ACode_skip ?_
      cases h
      exact ⟨_, rfl, Weak_keep 2 hm [0, 1, 2, 3, 4, 37, 38] [] _ _ rfl rfl rfl⟩
     refine (ACode_region ?_)
     refine AOps_q 85 _ rfl rfl rfl (QOp_add _ _ _ _ _ _ _ rfl rfl rfl) ?_
     refine kN 1 rfl ?_
     exact ⟨k0, _, _, Nat.lt_succ_self _, Weak_keep 2 hm [0, 1, 2, 3, 4, 37, 38] [] _ _ rfl rfl rfl, _, _, _, rfl, rfl, h⟩
    refine ACode_exit ?_
    cases h
    exact ⟨_, rfl, Weak_keep 2 hm [0, 2, 3] [] _ _ rfl rfl rfl⟩
  refine kR ?_
  refine kM 3 rfl ?_
  obtain ⟨r28, hr28, h⟩ := bindO h
  refine kC [0] 89 (.tup []) [.box (colD r28), .box [iD s27.2]] rfl Try.call72 rfl rfl (impl_Colouring_put_ac s27.1 p2 p3 0 _ hr28) rfl ?_
  refine AOps_nil ?_
  refine kR ?_
  refine kN 1 rfl ?_
  refine ACode_ret ?_
  cases h
  exact ⟨_, _, fun r a w h => ⟨r, h⟩, _, _, [], _, (.cons (ResV_tmp _ _ rfl) .nil), rfl, rfl, rfl, rfl, rfl⟩

-- loop.example/g01362/impl.allAvoiding
def impl_allAvoiding_on_CountAvoiding_c1 (k : Nat) (p0 : Int) (p1 : List Int) (p2_0 : Int) : Option (Bool × Int) :=
 ((slices_Min k p1).bind fun r2 => (if decide (r2 = 1) then some (true, p2_0) else (impl_avoiding_on_CountAvoiding_c1 k (⟨p0, (impl_size p1), B136.zero⟩ : Col) p1 0 1 p2_0).bind fun r4 => some (r4.1, r4.2.2)) : Option (Bool × Int)).bind fun s5 => some (s5.1, s5.2)
set_option maxRecDepth 100000 in
theorem impl_allAvoiding_on_CountAvoiding_c1_ac (k : Nat) (p0 : Int) (p1 : List Int) (p2_0 : Int) (r : Bool × Int) (h : impl_allAvoiding_on_CountAvoiding_c1 k p0 p1 p2_0 = some r) : AC Try.prog 57 [iV p0, .d (.sl none (intsD p1)), .clo 58 [.ptr 0 0]] [.box [iD p2_0]] (fun res H' => res = [bV r.1] ∧ H' = [.box [iD r.2]]) := by
 refine AC_of_body true Try.func57 rfl Try.ntmps57 (rvs := [.tmp 6]) rfl rfl (fun G hG => ?_)
 have hm : G.H.length = 1 := by rw [hG]; rfl
 have hz : zeroG G.H = true := by rw [hG]; rfl
 unfold impl_allAvoiding_on_CountAvoiding_c1 at h
 refine kR ?_
 refine kN 1 rfl ?_
 refine kR ?_
 refine kM 2 rfl ?_
 refine kC [] 10 (iV (impl_size p1)) [.box [iD p2_0]] rfl Try.call55 rfl rfl (impl_size_ac p1) rfl ?_
 refine AOps_q 11 _ rfl rfl rfl (QOp_build _ _ [_, _] [0, 1] [iD p0, iD (impl_size p1)] _ (colD Col.zero) (colD (⟨p0, (impl_size p1), B136.zero⟩ : Col)) [(0, 1), (1, 1), (2, 136)] rfl rfl Try.underlying29 (zero_of Try.typeInfo29 rfl) (fun w => by simp [Try.sizeOf2, Try.sizeOf2, Try.sizeOf27]) rfl (by rfl) (by rfl) (allc (ok1 rfl) (allc (ok1 rfl) (fun _ h => nomatch h)))) ?_
 refine AOps_boxM 12 _ _ (.agg (colD (⟨p0, (impl_size p1), B136.zero⟩ : Col))) (colD (⟨p0, (impl_size p1), B136.zero⟩ : Col)) rfl (colD_one _) rfl rfl rfl rfl rfl ?_
 refine kN 1 rfl ?_
 refine kB (fun s5 => [(6, bV s5.1)]) (fun s5 => [.box [iD s5.2]]) h (fun s5 h => ?_) (fun s5 h => ?_)
 ·refine (ACode_region ?_)
  refine kM 1 rfl ?_
  obtain ⟨r2, hr2, h⟩ := bindO h
  refine kC [] 14 (iV r2) [.box [iD p2_0], .box (colD (⟨p0, (impl_size p1), B136.zero⟩ : Col))] rfl Try.call104 rfl rfl (slices_Min_ac k p1 _ hr2) rfl ?_
  refine AOps_q 15 _ rfl rfl rfl (QOp_eql _ _ _ _ _ _ _ rfl rfl rfl) ?_
  refine kM 1 rfl ?_
  refine AOps_case 16 _ rfl (fun hb3 => ?_) (fun hb3 => ?_)
  ·have h := iteT hb3 h
   refine AOps_skip 17 rfl rfl rfl ?_
   refine AOps_skip 18 rfl rfl rfl ?_
   refine AOps_skip 19 rfl rfl rfl ?_
   refine AOps_skip 20 rfl rfl rfl ?_
   refine kN 2 rfl ?_
   cases h
   exact Weak_keep 1 hm [6] [] _ _ rfl rfl rfl
  have h := iteF hb3 h
  refine kM 3 rfl ?_
  obtain ⟨r4, hr4, h⟩ := bindO h
  refine kC [1, 0] 20 (bV r4.1) [.box [iD r4.2.2], .box (colD r4.2.1)] rfl Try.call105 rfl rfl (impl_avoiding_on_CountAvoiding_c1_ac k (⟨p0, (impl_size p1), B136.zero⟩ : Col) p1 0 1 p2_0 _ hr4) rfl ?_
  refine kN 2 rfl ?_
  cases h
  exact Weak_keep 1 hm [6] [] _ _ rfl rfl rfl
 refine ACode_ret ?_
 cases h
 exact ⟨_, _, fun r a w h => ⟨r, h⟩, _, _, [], _, (.cons (ResV_tmp _ _ rfl) .nil), rfl, rfl, rfl, rfl, rfl⟩

-- loop.example/g01362/impl.CountAvoiding
def impl_CountAvoiding (k : Nat) (p0 : Int) (p1 : List Int) : Option (Int × Int) :=
 (((if !(impl_in (impl_size p1) 1 4) then some true else (impl_areForbidden k p1 (impl_size p1)).bind fun r4 => (if !r4 then some true else some (!(impl_in p0 1 (impl_mostAvoiding (impl_size p1)))))) : Option (Bool)).bind fun s8 => (if s8 then some (.inr (0, 2)) else some (.inl ())) : Option (Sum (Unit) (Int × Int))).bind fun os10 => (match os10 with | .inl s10 => (impl_allAvoiding_on_CountAvoiding_c1 k p0 p1 0).bind fun r11 => some (r11.2, 0) | .inr rr => some rr)
set_option maxRecDepth 100000 in
theorem impl_CountAvoiding_ac (k : Nat) (p0 : Int) (p1 : List Int) (r : Int × Int) (h : impl_CountAvoiding k p0 p1 = some r) : AC Try.prog 13 [iV p0, .d (.sl none (intsD p1))] [] (fun res H' => res = [iV r.1, iV r.2] ∧ H' = []) := by
 refine AC_of_body true Try.func13 rfl Try.ntmps13 (rvs := [.tmp 4, .tmp 5]) rfl rfl (fun G hG => ?_)
 have hm : G.H.length = 0 := by rw [hG]; rfl
 have hz : zeroG G.H = true := by rw [hG]; rfl
 unfold impl_CountAvoiding at h
 refine kR ?_
 refine kN 2 rfl ?_
 refine kR ?_
 refine kM 1 rfl ?_
 refine kC [] 9 (iV (impl_size p1)) [] rfl Try.call55 rfl rfl (impl_size_ac p1) rfl ?_
 refine kN 1 rfl ?_
 refine kO (fun s10 => [(0, iV p0), (1, .d (.sl none (intsD p1)))]) (fun s10 => []) h (fun os10 h hks10 => ?_) (fun s10 h => ?_)
 ·refine kB (fun s8 => [(0, iV p0), (1, .d (.sl none (intsD p1))), (25, bV s8)]) (fun s8 => []) h (fun s8 h => ?_) (fun s8 h => ?_)
  ·refine (ACode_region ?_)
   refine kM 1 rfl ?_
   refine kC [] 11 (bV (impl_in (impl_size p1) 1 4)) [] rfl Try.call37 rfl rfl (impl_in_ac (impl_size p1) 1 4) rfl ?_
   refine AOps_q 12 _ rfl rfl rfl (QOp_not _ _ _ rfl rfl) ?_
   refine kM 1 rfl ?_
   refine AOps_case 13 _ rfl (fun hb3 => ?_) (fun hb3 => ?_)
   ·have h := iteT hb3 h
    refine AOps_skip 14 rfl rfl rfl ?_
    refine AOps_skip 15 rfl rfl rfl ?_
    refine AOps_skip 16 rfl rfl rfl ?_
    refine AOps_skip 17 rfl rfl rfl ?_
    refine kM 2 rfl ?_
    refine AOps_skip 20 rfl rfl rfl ?_
    refine AOps_skip 21 rfl rfl rfl ?_
    refine AOps_skip 22 rfl rfl rfl ?_
    refine AOps_skip 23 rfl rfl rfl ?_
    refine AOps_skip 24 rfl rfl rfl ?_
    refine kN 1 rfl ?_
    cases h
    exact Weak_keep 0 hm [0, 1, 25] [] _ _ rfl rfl rfl
   have h := iteF hb3 h
   refine kM 2 rfl ?_
   obtain ⟨r4, hr4, h⟩ := bindO h
   refine kC [] 16 (bV r4) [] rfl Try.call38 rfl rfl (impl_areForbidden_ac k p1 (impl_size p1) _ hr4) rfl ?_
   refine AOps_q 17 _ rfl rfl rfl (QOp_not _ _ _ rfl rfl) ?_
   refine kM 2 rfl ?_
   refine AOps_case 19 _ rfl (fun hb5 => ?_) (fun hb5 => ?_)
   ·have h := iteT hb5 h
    refine AOps_skip 20 rfl rfl rfl ?_
    refine AOps_skip 21 rfl rfl rfl ?_
    refine AOps_skip 22 rfl rfl rfl ?_
    refine AOps_skip 23 rfl rfl rfl ?_
    refine AOps_skip 24 rfl rfl rfl ?_
    refine kN 1 rfl ?_
    cases h
    exact Weak_keep 0 hm [0, 1, 25] [] _ _ rfl rfl rfl
   have h := iteF hb5 h
   refine kM 2 rfl ?_
   refine kC [] 22 (iV (impl_mostAvoiding (impl_size p1))) [] rfl Try.call56 rfl rfl (impl_mostAvoiding_ac (impl_size p1)) rfl ?_
   refine kC [] 23 (bV (impl_in p0 1 (impl_mostAvoiding (impl_size p1)))) [] rfl Try.call37 rfl rfl (impl_in_ac p0 1 (impl_mostAvoiding (impl_size p1))) rfl ?_
   refine AOps_q 24 _ rfl rfl rfl (QOp_not _ _ _ rfl rfl) ?_
   refine kN 1 rfl ?_
   cases h
   exact Weak_keep 0 hm [0, 1, 25] [] _ _ rfl rfl rfl
  refine kI h rfl (fun h _ => ?_) (fun h _ => ?_)
  ·refine kR ?_
   refine kN 2 rfl ?_
   refine ACode_ret ?_
   cases h
   have h := hks10
   cases h
   exact ⟨_, _, fun r a w h => ⟨r, h⟩, _, _, [], _, (.cons (ResV_tmp _ _ rfl) (.cons (ResV_tmp _ _ rfl) .nil)), rfl, rfl, rfl, rfl, rfl⟩
  refine ACode_skip ?_
  cases h
  exact ⟨_, rfl, Weak_keep 0 hm [0, 1] [] _ _ rfl rfl rfl⟩
 refine kR ?_
 refine AOps_alloc 7 _ _ ([iD 0]) (zero_of Try.typeInfo2 rfl) (by rfl) rfl rfl rfl rfl ?_
 refine AOps_store1 _ _ _ _ _ _ _ _ rfl rfl rfl rfl rfl rfl rfl Try.sizeOf2 (Nat.le_of_ble_eq_true rfl) rfl ?_
 refine AOps_nil ?_
 refine kR ?_
 refine kM 2 rfl ?_
 refine AOps_q 28 _ rfl rfl rfl (QOp_makeFunc _ _ _ rfl rfl) ?_
 obtain ⟨r11, hr11, h⟩ := bindO h
 refine kC [0] 29 (bV r11.1) [.box [iD r11.2]] rfl Try.call57 rfl rfl (impl_allAvoiding_on_CountAvoiding_c1_ac k p0 p1 0 _ hr11) rfl ?_
 refine AOps_nil ?_
 refine kR ?_
 refine AOps_q 30 _ rfl rfl rfl (QOp_load_ptr _ _ _ _ _ _ rfl Try.isAgg2 rfl rfl rfl) ?_
 refine kN 2 rfl ?_
 refine ACode_ret ?_
 cases h
 exact ⟨_, _, fun r a w h => ⟨r, h⟩, _, _, [], _, (.cons (ResV_tmp _ _ rfl) (.cons (ResV_tmp _ _ rfl) .nil)), rfl, rfl, rfl, rfl, rfl⟩

-- loop.example/g01362/spec.l05Number
def spec_l05Number_l0 (k : Nat) (self : Col → Int → (List Int) → Option (Int)) (p0 : Col) (p1 : Int) (p2 : List Int) (r2 : List (List Int)) : Nat → Int → Int → Option (Int)
 | 0, _, _ => none
 | k0 + 1, x3, x4 => (if decide (x4 < (r2.length : Int)) then (if 0 ≤ x4 ∧ x4 < (r2.length : Int) then (spec_l01Put k p0 (r2.getD x4.toNat [])).bind fun r7 => (self r7 p1 p2).bind fun r8 => spec_l05Number_l0 k self p0 p1 p2 r2 k0 (w64 (x3 + r8)) (w64 (x4 + 1)) else none) else some x3)
def spec_l05Number_body (self : Col → Int → (List Int) → Option (Int)) (k : Nat) (p0 : Col) (p1 : Int) (p2 : List Int) : Option (Int) :=
 (if decide (p0.p = p1) then some 1 else (spec_l05All k p0 p2 1048576).bind fun r2 => (spec_l05Number_l0 k self p0 p1 p2 r2 k 0 0 : Option (Int)).bind fun s9 => some s9)
def spec_l05Number : Nat → Col → Int → (List Int) → Option (Int)
 | 0, _, _, _ => none
 | k + 1, p0, p1, p2 => spec_l05Number_body (spec_l05Number k) k p0 p1 p2
set_option maxRecDepth 100000 in
theorem spec_l05Number_ac (k : Nat) (p0 : Col) (p1 : Int) (p2 : List Int) (r : Int) (h : spec_l05Number k p0 p1 p2 = some r) : AC Try.prog 59 [.d (.agg (colD p0)), iV p1, .d (.sl none (intsD p2))] [] (fun res H' => res = [iV r] ∧ H' = []) := by
 induction k generalizing p0 p1 p2 r with
 | zero => simp [spec_l05Number] at h
 | succ k ih =>
  rw [spec_l05Number] at h
  obtain ⟨self, hself, hk⟩ : ∃ self : Col → Int → (List Int) → Option (Int), (∀ (p0 : Col) (p1 : Int) (p2 : List Int) (r : Int), self p0 p1 p2 = some r → AC Try.prog 59 [.d (.agg (colD p0)), iV p1, .d (.sl none (intsD p2))] [] (fun res H' => res = [iV r] ∧ H' = [])) ∧ spec_l05Number k = self := ⟨spec_l05Number k, fun p0 p1 p2 r h => ih p0 p1 p2 r h, rfl⟩
  rw [hk] at h
  clear ih hk
  refine AC_of_body true Try.func59 rfl Try.ntmps59 (rvs := [.tmp 6]) rfl rfl (fun G hG => ?_)
  have hm : G.H.length = 0 := by rw [hG]; rfl
  have hz : zeroG G.H = true := by rw [hG]; rfl
  unfold spec_l05Number_body at h
  refine kR ?_
  refine AOps_boxI 3 _ _ (.agg (colD p0)) (colD p0) rfl (colD_one _) rfl rfl rfl rfl rfl ?_
  refine kN 1 rfl ?_
  refine ACode_seq ?_
  refine kR ?_
  refine AOps_q 10 _ rfl rfl rfl (QOp_fieldAddr_pv _ _ _ _ _ 0 _ _ rfl Try.underlying29 rfl _ Try.sizeOf2 rfl rfl) ?_
  refine AOps_q 11 _ rfl rfl rfl (QOp_load_pv _ _ _ _ _ rfl Try.isAgg2 rfl rfl) ?_
  refine kM 1 rfl ?_
  refine AOps_q 13 _ rfl rfl rfl (QOp_eql _ _ _ _ _ _ _ rfl rfl rfl) ?_
  refine AOps_nil ?_
  refine kI h rfl (fun h _ => ?_) (fun h _ => ?_)
  ·refine kR ?_
   refine kN 1 rfl ?_
   refine ACode_ret ?_
   cases h
   exact ⟨_, _, fun r a w h => ⟨r, h⟩, _, _, [], _, (.cons (ResV_tmp _ _ rfl) .nil), rfl, rfl, rfl, rfl, rfl⟩
  refine ACode_skip ?_
  refine kR ?_
  refine AOps_q 14 _ rfl rfl rfl (QOp_loadN_pv _ _ _ _ _ _ rfl Try.isAgg29 Try.sizeOf29 rfl (colD_all _) (colD_length _)) ?_
  refine kM 1 rfl ?_
  obtain ⟨r2, hr2, h⟩ := bindO h
  refine kC [] 16 (.d (.sl none (rowsD r2))) [] rfl Try.call94 rfl rfl (spec_l05All_ac k p0 p2 1048576 _ hr2) rfl ?_
  refine kN 2 rfl ?_
  refine kB (fun s9 => [(8, iV s9)]) (fun s9 => []) h (fun s9 h => ?_) (fun s9 h => ?_)
  ·refine kR ?_
   refine kN 1 rfl ?_
   refine ACode_block ?_
   refine ACode_loopW (fun k0 E H => ∃ (x3 : Int) (x4 : Int), E = [(1, iV p1), (2, .d (.sl none (intsD p2))), (3, .d (.pv (colD p0) 0)), (7, .d (.sl none (rowsD r2))), (8, iV x3), (9, iV x4)] ∧ H = [] ∧ spec_l05Number_l0 k self p0 p1 p2 r2 k0 x3 x4 = some s9) k _ _ (Weak_keep 0 hm [1, 2, 3, 7, 8, 9] [] _ _ rfl rfl rfl) ⟨_, _, rfl, rfl, h⟩ ?_
   clear h
   rintro k0 E H ⟨x3, x4, rfl, rfl, h⟩
   cases k0 with
   | zero => cases (show (none : Option (Int)) = some _ from h)
   | succ k0 =>
    rw [spec_l05Number_l0] at h
    refine ACode_seq ?_
    refine kR ?_
    refine kM 2 rfl ?_
    refine AOps_q 19 _ rfl rfl rfl (QOp_len_sl _ _ _ _ _ _ _ (rowsD_length _) rfl rfl rfl rfl Try.underlying41 rfl) ?_
    refine AOps_q 20 _ rfl rfl rfl (QOp_lss _ _ _ _ _ _ _ rfl rfl rfl) ?_
    refine AOps_nil ?_
    refine kI h rfl (fun h _ => ?_) (fun h _ => ?_)
    ·refine ACode_skip ?_
     refine ACode_seq ?_
     refine ACode_block ?_
     obtain ⟨hc6, h⟩ := guardO h
     obtain ⟨r7, hr7, h⟩ := bindO h
     obtain ⟨r8, hr8, h⟩ := bindO h
     refine ACode_reg [(1, iV p1), (2, .d (.sl none (intsD p2))), (3, .d (.pv (colD p0) 0)), (7, .d (.sl none (rowsD r2))), (8, iV (w64 (x3 + r8))), (9, iV x4)] [] ?_ ?_
     ·refine ACode_any mixed ?_
      refine AAny_q 0 23 _ rfl (by kernel_rfl) rfl rfl rfl (QOp_move _ _ rfl rfl) ?_
      refine AAny_q 1 24 _ rfl (by kernel_rfl) rfl rfl rfl (QOp_loadN_pv _ _ _ _ _ _ rfl Try.isAgg29 Try.sizeOf29 rfl (colD_all _) (colD_length _)) ?_
      refine AAny_q 2 25 _ rfl (by kernel_rfl) rfl rfl rfl (QOp_move _ _ rfl rfl) ?_
      refine AAny_q 3 26 _ rfl (by kernel_rfl) rfl rfl rfl (QOp_move _ _ rfl rfl) ?_
      refine AAny_q 4 27 _ rfl (by kernel_rfl) rfl rfl rfl (QOp_indexAddr_sl _ _ _ _ _ _ _ _ rfl Try.underlying41 Try.sizeOf24 hc6.1 (by rw [rowsD_length]; exact hc6.2) rfl rfl) ?_
      refine AAny_q 5 28 _ rfl (by kernel_rfl) rfl rfl rfl (QOp_load_pv _ _ _ _ _ rfl Try.isAgg24 rfl (rowsD_get _ _ [] (by omega))) ?_
      refine AAny_q 7 30 _ rfl (by kernel_rfl) rfl rfl rfl (QOp_move _ _ rfl rfl) ?_
      refine AAny_q 8 31 _ rfl (by kernel_rfl) rfl rfl rfl (QOp_move _ _ rfl rfl) ?_
      refine AAny_all [6] (by kernel_rfl) rfl (allc ?_ (fun _ h => nomatch h))
      refine AStep_callN 6 29 _ _ _ _ _ _ _ _ _ rfl rfl rfl rfl rfl rfl rfl rfl Try.call95 rfl rfl rfl (spec_l01Put_ac k p0 (r2.getD x4.toNat []) _ hr7) ?_
      rintro _ _ ⟨rfl, rfl⟩
      refine ⟨(fun _ h => nomatch h), (allc (trivial) (fun _ h => nomatch h)), AAny_as 29 (v' := .d (.agg (colD r7))) (H' := []) rfl rfl ?_⟩
      refine AAny_call 9 32 _ _ _ _ _ _ _ _ _ rfl (by kernel_rfl) rfl rfl rfl rfl rfl rfl rfl Try.call59 rfl rfl rfl (hself r7 p1 p2 _ hr8) ?_
      refine AAny_q 10 33 _ rfl (by kernel_rfl) rfl rfl rfl (QOp_add _ _ _ _ _ _ _ rfl rfl rfl) ?_
      refine AAny_q 11 8 _ rfl (by kernel_rfl) rfl rfl rfl (QOp_assign _ _ rfl rfl) ?_
      refine AAny_done (by kernel_rfl) ?_
      exact ⟨rfl, Weak_keep 0 hm [1, 2, 3, 7, 8, 9] [] _ _ rfl rfl rfl⟩
     refine (ACode_region ?_)
     refine kM 1 rfl ?_
     refine AOps_q 22 _ rfl rfl rfl (QOp_add _ _ _ _ _ _ _ rfl rfl rfl) ?_
     refine kN 1 rfl ?_
     exact ⟨k0, _, _, Nat.lt_succ_self _, Weak_keep 0 hm [1, 2, 3, 7, 8, 9] [] _ _ rfl rfl rfl, _, _, rfl, rfl, h⟩
    refine ACode_exit ?_
    cases h
    exact Weak_keep 0 hm [8] [] _ _ rfl rfl rfl
  refine kR ?_
  refine kN 2 rfl ?_
  refine ACode_ret ?_
  cases h
  exact ⟨_, _, fun r a w h => ⟨r, h⟩, _, _, [], _, (.cons (ResV_tmp _ _ rfl) .nil), rfl, rfl, rfl, rfl, rfl⟩

-- loop.example/g01362/spec.CountAvoiding
def spec_CountAvoiding (k : Nat) (p0 : Int) (p1 : List Int) : Option (Int × Int) :=
 letO (if decide (2 < (p1.length : Int)) then w64 (8 - (p1.length : Int)) else 6) fun (s2 : Int) => (((if !(spec_l01In (p1.length : Int) 1 4) then some true else (if !(spec_l01In p0 1 s2) then some true else (spec_l05Sizes k p1 (p1.length : Int)).bind fun r7 => some (!decide (r7 = 0)))) : Option (Bool)).bind fun s8 => (if s8 then some (.inr (0, 2)) else some (.inl ())) : Option (Sum (Unit) (Int × Int))).bind fun os10 => (match os10 with | .inl s10 => (spec_l05Avoids k (⟨1, (p1.length : Int), B136.zero⟩ : Col) p1).bind fun r11 => (if !r11 then some (0, 0) else (spec_l05Number k (⟨1, (p1.length : Int), B136.zero⟩ : Col) p0 p1).bind fun r13 => some (r13, 0)) | .inr rr => some rr)
set_option maxRecDepth 100000 in
theorem spec_CountAvoiding_ac (k : Nat) (p0 : Int) (p1 : List Int) (r : Int × Int) (h : spec_CountAvoiding k p0 p1 = some r) : AC Try.prog 14 [iV p0, .d (.sl none (intsD p1))] [] (fun res H' => res = [iV r.1, iV r.2] ∧ H' = []) := by
 refine AC_of_body true Try.func14 rfl Try.ntmps14 (rvs := [.tmp 4, .tmp 5]) rfl rfl (fun G hG => ?_)
 have hm : G.H.length = 0 := by rw [hG]; rfl
 have hz : zeroG G.H = true := by rw [hG]; rfl
 unfold spec_CountAvoiding at h
 refine kR ?_
 refine kN 2 rfl ?_
 refine kR ?_
 refine kM 1 rfl ?_
 refine AOps_q 10 _ rfl rfl rfl (QOp_len_sl _ _ _ _ _ _ _ (intsD_length _) rfl rfl rfl rfl Try.underlying24 rfl) ?_
 refine kN 2 rfl ?_
 refine kL (fun s2 => [(0, iV p0), (1, .d (.sl none (intsD p1))), (6, iV (p1.length : Int)), (7, iV s2)]) (fun s2 => []) h (fun s2 h => ?_) (fun s2 h => ?_)
 ·refine kR ?_
  refine kM 1 rfl ?_
  refine AOps_q 12 _ rfl rfl rfl (QOp_gtr _ _ _ _ _ _ _ rfl rfl rfl) ?_
  refine AOps_nil ?_
  refine kI h rfl (fun h _ => ?_) (fun h _ => ?_)
  ·refine (ACode_region ?_)
   refine kM 1 rfl ?_
   refine AOps_q 14 _ rfl rfl rfl (QOp_sub _ _ _ _ _ _ _ rfl rfl rfl) ?_
   refine kN 1 rfl ?_
   cases h
   exact Weak_keep 0 hm [0, 1, 6, 7] [] _ _ rfl rfl rfl
  refine ACode_skip ?_
  cases h
  exact Weak_keep 0 hm [0, 1, 6, 7] [] _ _ rfl rfl rfl
 refine kO (fun s10 => [(0, iV p0), (1, .d (.sl none (intsD p1))), (6, iV (p1.length : Int))]) (fun s10 => []) h (fun os10 h hks10 => ?_) (fun s10 h => ?_)
 ·refine kB (fun s8 => [(0, iV p0), (1, .d (.sl none (intsD p1))), (6, iV (p1.length : Int)), (29, bV s8)]) (fun s8 => []) h (fun s8 h => ?_) (fun s8 h => ?_)
  ·refine (ACode_region ?_)
   refine kM 1 rfl ?_
   refine kC [] 16 (bV (spec_l01In (p1.length : Int) 1 4)) [] rfl Try.call40 rfl rfl (spec_l01In_ac (p1.length : Int) 1 4) rfl ?_
   refine AOps_q 17 _ rfl rfl rfl (QOp_not _ _ _ rfl rfl) ?_
   refine kM 1 rfl ?_
   refine AOps_case 18 _ rfl (fun hb4 => ?_) (fun hb4 => ?_)
   ·have h := iteT hb4 h
    refine AOps_skip 19 rfl rfl rfl ?_
    refine AOps_skip 20 rfl rfl rfl ?_
    refine AOps_skip 21 rfl rfl rfl ?_
    refine AOps_skip 22 rfl rfl rfl ?_
    refine kM 2 rfl ?_
    refine AOps_skip 25 rfl rfl rfl ?_
    refine AOps_skip 26 rfl rfl rfl ?_
    refine AOps_skip 27 rfl rfl rfl ?_
    refine AOps_skip 28 rfl rfl rfl ?_
    refine kN 1 rfl ?_
    cases h
    exact Weak_keep 0 hm [0, 1, 6, 29] [] _ _ rfl rfl rfl
   have h := iteF hb4 h
   refine kM 2 rfl ?_
   refine kC [] 21 (bV (spec_l01In p0 1 s2)) [] rfl Try.call40 rfl rfl (spec_l01In_ac p0 1 s2) rfl ?_
   refine AOps_q 22 _ rfl rfl rfl (QOp_not _ _ _ rfl rfl) ?_
   refine kM 2 rfl ?_
   refine AOps_case 24 _ rfl (fun hb6 => ?_) (fun hb6 => ?_)
   ·have h := iteT hb6 h
    refine AOps_skip 25 rfl rfl rfl ?_
    refine AOps_skip 26 rfl rfl rfl ?_
    refine AOps_skip 27 rfl rfl rfl ?_
    refine AOps_skip 28 rfl rfl rfl ?_
    refine kN 1 rfl ?_
    cases h
    exact Weak_keep 0 hm [0, 1, 6, 29] [] _ _ rfl rfl rfl
   have h := iteF hb6 h
   refine kM 2 rfl ?_
   obtain ⟨r7, hr7, h⟩ := bindO h
   refine kC [] 27 (iV r7) [] rfl Try.call41 rfl rfl (spec_l05Sizes_ac k p1 (p1.length : Int) _ hr7) rfl ?_
   refine AOps_q 28 _ rfl rfl rfl (QOp_neq _ _ _ _ _ _ _ rfl rfl rfl) ?_
   refine kN 1 rfl ?_
   cases h
   exact Weak_keep 0 hm [0, 1, 6, 29] [] _ _ rfl rfl rfl
  refine kI h rfl (fun h _ => ?_) (fun h _ => ?_)
  ·refine kR ?_
   refine kN 2 rfl ?_
   refine ACode_ret ?_
   cases h
   have h := hks10
   cases h
   exact ⟨_, _, fun r a w h => ⟨r, h⟩, _, _, [], _, (.cons (ResV_tmp _ _ rfl) (.cons (ResV_tmp _ _ rfl) .nil)), rfl, rfl, rfl, rfl, rfl⟩
  refine ACode_skip ?_
  cases h
  exact ⟨_, rfl, Weak_keep 0 hm [0, 1, 6] [] _ _ rfl rfl rfl⟩
 refine kR ?_
 refine kM 1 rfl ?_
 refine AOps_q 31 _ rfl rfl rfl (QOp_build _ _ [_, _] [0, 1] [iD 1, iD (p1.length : Int)] _ (colD Col.zero) (colD (⟨1, (p1.length : Int), B136.zero⟩ : Col)) [(0, 1), (1, 1), (2, 136)] rfl rfl Try.underlying29 (zero_of Try.typeInfo29 rfl) (fun w => by simp [Try.sizeOf2, Try.sizeOf2, Try.sizeOf27]) rfl (by rfl) (by rfl) (allc (ok1 rfl) (allc (ok1 rfl) (fun _ h => nomatch h)))) ?_
 refine AOps_alloc 8 _ _ (colD Col.zero) (zero_of Try.typeInfo29 rfl) (by rfl) rfl rfl rfl rfl ?_
 refine AOps_store _ _ _ _ _ _ (colD _) _ _ rfl rfl rfl rfl rfl rfl rfl (colD_one _) (by rw [colD_length]; exact Try.sizeOf29) (by rw [colD_length, colD_length]; decide) (colD_whole _ _) ?_
 refine AOps_nil ?_
 refine ACode_seq ?_
 refine kR ?_
 refine AOps_q 32 _ rfl rfl rfl (QOp_loadN_ptr _ _ _ _ _ _ _ rfl Try.isAgg29 Try.sizeOf29 rfl rfl (colD_all _) (colD_length _)) ?_
 refine kM 1 rfl ?_
 obtain ⟨r11, hr11, h⟩ := bindO h
 refine kC [] 34 (bV r11) [.box (colD (⟨1, (p1.length : Int), B136.zero⟩ : Col))] rfl Try.call42 rfl rfl (spec_l05Avoids_ac k (⟨1, (p1.length : Int), B136.zero⟩ : Col) p1 _ hr11) rfl ?_
 refine AOps_q 35 _ rfl rfl rfl (QOp_not _ _ _ rfl rfl) ?_
 refine AOps_nil ?_
 refine kI h rfl (fun h _ => ?_) (fun h _ => ?_)
 ·refine kR ?_
  refine kN 2 rfl ?_
  refine ACode_ret ?_
  cases h
  exact ⟨_, _, fun r a w h => ⟨r, h⟩, _, _, [], _, (.cons (ResV_tmp _ _ rfl) (.cons (ResV_tmp _ _ rfl) .nil)), rfl, rfl, rfl, rfl, rfl⟩
 refine ACode_skip ?_
 refine kR ?_
 refine AOps_q 36 _ rfl rfl rfl (QOp_loadN_ptr _ _ _ _ _ _ _ rfl Try.isAgg29 Try.sizeOf29 rfl rfl (colD_all _) (colD_length _)) ?_
 refine kM 2 rfl ?_
 obtain ⟨r13, hr13, h⟩ := bindO h
 refine kC [] 39 (iV r13) [.box (colD (⟨1, (p1.length : Int), B136.zero⟩ : Col))] rfl Try.call59 rfl rfl (spec_l05Number_ac k (⟨1, (p1.length : Int), B136.zero⟩ : Col) p0 p1 _ hr13) rfl ?_
 refine kN 2 rfl ?_
 refine ACode_ret ?_
 cases h
 exact ⟨_, _, fun r a w h => ⟨r, h⟩, _, _, [], _, (.cons (ResV_tmp _ _ rfl) (.cons (ResV_tmp _ _ rfl) .nil)), rfl, rfl, rfl, rfl, rfl⟩

-- loop.example/g01362/spec.l05Grown
def spec_l05Grown_l0 (k : Nat) (r2 : List Int × Src) : Nat → Int → Src → Col → Option (Src × Col)
 | 0, _, _, _ => none
 | k0 + 1, x4, x5, x6 => (if decide (0 < x4) then (spec_l05All k x6 r2.1 60).bind fun r8 => (if decide ((r8.length : Int) = 0) then some (x5, x6) else (spec_l01Next x5 (r8.length : Int)).bind fun r10 => (if 0 ≤ r10.1 ∧ r10.1 < (r8.length : Int) then (spec_l01Put k x6 (r8.getD r10.1.toNat [])).bind fun r12 => spec_l05Grown_l0 k r2 k0 (w64 (x4 - 1)) r10.2 r12 else none)) else some (x5, x6))
def spec_l05Grown (k : Nat) (p0 : Src) : Option (Col × List Int × Src) :=
 (spec_l01Pick p0 ([1, 2, 2, 2, 2, 3, 4])).bind fun r1 => (spec_l05DrawSizes k r1.2 r1.1).bind fun r2 => ((spec_l01Next r2.2 8).bind fun r3 => spec_l05Grown_l0 k r2 k r3.1 r3.2 (⟨1, r1.1, B136.zero⟩ : Col) : Option (Src × Col)).bind fun s13 => some (s13.2, r2.1, s13.1)
set_option maxRecDepth 100000 in
theorem spec_l05Grown_ac (k : Nat) (p0 : Src) (r : Col × List Int × Src) (h : spec_l05Grown k p0 = some r) : AC Try.prog 126 [.ptr 0 0] [.box (srcD p0)] (fun res H' => res = [.d (.agg (colD r.1)), .d (.sl none (intsD r.2.1))] ∧ H' = [.box (srcD r.2.2)]) := by
 refine AC_of_body true Try.func126 rfl Try.ntmps126 (rvs := [.cell 2 29, .tmp 3]) rfl rfl (fun G hG => ?_)
 have hm : G.H.length = 1 := by rw [hG]; rfl
 have hz : zeroG G.H = true := by rw [hG]; rfl
 unfold spec_l05Grown at h
 refine kR ?_
 refine AOps_alloc 2 _ _ (colD Col.zero) (zero_of Try.typeInfo29 rfl) (by rfl) rfl rfl rfl rfl ?_
 refine kN 1 rfl ?_
 refine kR ?_
 refine kM 1 rfl ?_
 refine AOps_buildSlice 10 _ _ _ [_, _, _, _, _, _, _] (intsD ([1, 2, 2, 2, 2, 3, 4])) _ rfl rfl rfl rfl rfl (by decide) Try.underlying24 Try.sizeOf2 (zero_of Try.typeInfo2 rfl) rfl rfl (intsD_one _) ?_
 refine AOps_freezeL [10] 2 0 _ (allc (rfl) (fun _ h => nomatch h)) rfl ?_
 obtain ⟨r1, hr1, h⟩ := bindO h
 refine kC [0] 11 (iV r1.1) [.box (srcD r1.2), .box (colD Col.zero), .gone] rfl Try.call36 rfl rfl (spec_l01Pick_ac p0 ([1, 2, 2, 2, 2, 3, 4]) _ hr1) rfl ?_
 refine kN 1 rfl ?_
 refine kR ?_
 refine kM 2 rfl ?_
 obtain ⟨r2, hr2, h⟩ := bindO h
 refine kC [0] 14 (.vec 3 0) [.box (srcD r2.2), .box (colD Col.zero), .gone, .vec 0 (intsD r2.1)] rfl Try.call35 rfl rfl (spec_l05DrawSizes_ac k r1.2 r1.1 _ hr2) rfl ?_
 refine kN 1 rfl ?_
 refine kR ?_
 refine kM 1 rfl ?_
 refine AOps_q 16 _ rfl rfl rfl (QOp_build _ _ [_, _] [0, 1] [iD 1, iD r1.1] _ (colD Col.zero) (colD (⟨1, r1.1, B136.zero⟩ : Col)) [(0, 1), (1, 1), (2, 136)] rfl rfl Try.underlying29 (zero_of Try.typeInfo29 rfl) (fun w => by simp [Try.sizeOf2, Try.sizeOf2, Try.sizeOf27]) rfl (by rfl) (by rfl) (allc (ok1 rfl) (allc (ok1 rfl) (fun _ h => nomatch h)))) ?_
 refine AOps_alloc 6 _ _ (colD Col.zero) (zero_of Try.typeInfo29 rfl) (by rfl) rfl rfl rfl rfl ?_
 refine AOps_store _ _ _ _ _ _ (colD _) _ _ rfl rfl rfl rfl rfl rfl rfl (colD_one _) (by rw [colD_length]; exact Try.sizeOf29) (by rw [colD_length, colD_length]; decide) (colD_whole _ _) ?_
 refine AOps_nil ?_
 refine kB (fun s13 => [(2, .ptr 1 0), (5, .d (.sl none (intsD r2.1))), (6, .ptr 2 0)]) (fun s13 => [.box (srcD s13.1), .box (colD Col.zero), .box (colD s13.2)]) h (fun s13 h => ?_) (fun s13 h => ?_)
 ·refine kR ?_
  refine kM 1 rfl ?_
  obtain ⟨r3, hr3, h⟩ := bindO h
  refine kC [0] 18 (iV r3.1) [.box (srcD r3.2), .box (colD Col.zero), .gone, .vec 0 (intsD r2.1), .box (colD (⟨1, r1.1, B136.zero⟩ : Col))] rfl Try.call34 rfl rfl (spec_l01Next_ac r2.2 8 _ hr3) rfl ?_
  refine kN 1 rfl ?_
  refine ACode_block ?_
  refine ACode_loopW (fun k0 E H => ∃ (x4 : Int) (x5 : Src) (x6 : Col), E = [(0, .ptr 0 0), (2, .ptr 1 0), (5, .d (.sl none (intsD r2.1))), (6, .ptr 2 0), (7, iV x4)] ∧ H = [.box (srcD x5), .box (colD Col.zero), .box (colD x6)] ∧ spec_l05Grown_l0 k r2 k0 x4 x5 x6 = some s13) k _ _ (Weak_trans (Weak_frz [5, 14] [] 3 0 _ (allc (rfl) (allc (rfl) (fun _ h => nomatch h))) (fun _ h => nomatch h) rfl) (Weak_keep 1 hm [0, 2, 5, 6, 7] [1, 4] _ _ rfl rfl rfl)) ⟨_, _, _, rfl, rfl, h⟩ ?_
  clear h
  rintro k0 E H ⟨x4, x5, x6, rfl, rfl, h⟩
  cases k0 with
  | zero => cases (show (none : Option (Src × Col)) = some _ from h)
  | succ k0 =>
   rw [spec_l05Grown_l0] at h
   refine ACode_seq ?_
   refine kR ?_
   refine kM 1 rfl ?_
   refine AOps_q 20 _ rfl rfl rfl (QOp_gtr _ _ _ _ _ _ _ rfl rfl rfl) ?_
   refine AOps_nil ?_
   refine kI h rfl (fun h _ => ?_) (fun h _ => ?_)
   ·refine ACode_skip ?_
    refine ACode_seq ?_
    refine ACode_block ?_
    refine kR ?_
    refine AOps_q 23 _ rfl rfl rfl (QOp_loadN_ptr _ _ _ _ _ _ _ rfl Try.isAgg29 Try.sizeOf29 rfl rfl (colD_all _) (colD_length _)) ?_
    refine kM 1 rfl ?_
    obtain ⟨r8, hr8, h⟩ := bindO h
    refine kC [] 25 (.d (.sl none (rowsD r8))) [.box (srcD x5), .box (colD Col.zero), .box (colD x6)] rfl Try.call94 rfl rfl (spec_l05All_ac k x6 r2.1 60 _ hr8) rfl ?_
    refine kN 1 rfl ?_
    refine ACode_seq ?_
    refine kR ?_
    refine kM 1 rfl ?_
    refine AOps_q 27 _ rfl rfl rfl (QOp_len_sl _ _ _ _ _ _ _ (rowsD_length _) rfl rfl rfl rfl Try.underlying41 rfl) ?_
    refine AOps_q 28 _ rfl rfl rfl (QOp_eql _ _ _ _ _ _ _ rfl rfl rfl) ?_
    refine AOps_nil ?_
    refine kI h rfl (fun h _ => ?_) (fun h _ => ?_)
    ·refine ACode_exit ?_
     cases h
     exact Weak_keep 1 hm [2, 5, 6] [1, 2] _ _ rfl rfl rfl
    refine ACode_skip ?_
    obtain ⟨r10, hr10, h⟩ := bindO h
    obtain ⟨hc11, h⟩ := guardO h
    obtain ⟨r12, hr12, h⟩ := bindO h
    refine ACode_reg [(0, .ptr 0 0), (2, .ptr 1 0), (5, .d (.sl none (intsD r2.1))), (6, .ptr 2 0), (7, iV x4)] [.box (srcD r10.2), .box (colD Col.zero), .box (colD r12)] ?_ ?_
    ·refine ACode_anyU mixed ?_
     refine AU_cut 2 #[true, true, true, true, true, true, true, true, false, false] [(0, .ptr 0 0), (2, .ptr 1 0), (5, .d (.sl none (intsD r2.1))), (6, .ptr 2 0), (7, iV x4), (29, .d (.agg (colD x6))), (36, .d (.sl none (intsD (r8.getD r10.1.toNat []))))] [.box (srcD r10.2), .box (colD Col.zero), .box (colD x6)] ?_ (fun hS0 => ?_)
     ·refine AU_one 8 (by kernel_rfl) rfl rfl ?_
      refine kC [] 37 (.d (.agg (colD r12))) [.box (srcD r10.2), .box (colD Col.zero), .box (colD x6)] rfl Try.call95 rfl rfl (spec_l01Put_ac k x6 (r8.getD r10.1.toNat []) _ hr12) rfl ?_
      refine AOps_nil ?_
      refine AU_one 9 (by kernel_rfl) rfl rfl ?_
      refine AOps_store _ _ _ _ _ _ (colD _) _ _ rfl rfl rfl rfl rfl rfl rfl (colD_one _) (by rw [colD_length]; exact Try.sizeOf29) (by rw [colD_length, colD_length]; decide) (colD_whole _ _) ?_
      refine AOps_nil ?_
      refine AU_done (by kernel_rfl) ?_
      exact ⟨rfl, Weak_keep 1 hm [0, 2, 5, 6, 7] [1, 2] _ _ rfl rfl rfl⟩
     refine AU_cut 3 #[true, true, true, true, true, true, true, false, false, false] [(0, .ptr 0 0), (2, .ptr 1 0), (5, .d (.sl none (intsD r2.1))), (6, .ptr 2 0), (7, iV x4), (29, .d (.agg (colD x6))), (35, .d (.pv (rowsD r8) r10.1.toNat))] [.box (srcD r10.2), .box (colD Col.zero), .box (colD x6)] ?_ (fun hS1 => ?_)
     ·refine AU_one 7 (by kernel_rfl) rfl rfl ?_
      refine AOps_q 36 _ rfl rfl rfl (QOp_load_pv _ _ _ _ _ rfl Try.isAgg24 rfl (rowsD_get _ _ [] (by omega))) ?_
      refine AOps_nil ?_
      exact AU_to (by kernel_rfl) hS0 (Weak_keep 1 hm [0, 2, 5, 6, 7, 29, 36] [1, 2] _ _ rfl rfl rfl)
     refine AU_u 1 30 _ rfl (by kernel_rfl) rfl rfl rfl (UOp_move _ _ rfl rfl) ?_
     refine AU_u 2 31 _ rfl (by kernel_rfl) rfl rfl rfl (UOp_move _ _ rfl rfl) ?_
     refine AU_u 3 32 _ rfl (by kernel_rfl) rfl rfl rfl (UOp_move _ _ rfl rfl) ?_
     refine AU_u 4 33 _ rfl (by kernel_rfl) rfl rfl rfl (UOp_len_sl _ _ _ _ _ _ _ (rowsD_length _) rfl rfl rfl rfl Try.underlying41 rfl) ?_
     refine AU_all [0, 5] (by kernel_rfl) rfl (allc ?_ (allc ?_ (fun _ h => nomatch h)))
     ·refine US_of 0 rfl rfl ?_
      refine AOps_q 29 _ rfl rfl rfl (QOp_loadN_ptr _ _ _ _ _ _ _ rfl Try.isAgg29 Try.sizeOf29 rfl rfl (colD_all _) (colD_length _)) ?_
      refine AOps_nil ?_
      refine AU_one 5 (by kernel_rfl) rfl rfl ?_
      refine kC [0] 34 (iV r10.1) [.box (srcD r10.2), .box (colD Col.zero), .box (colD x6)] rfl Try.call34 rfl rfl (spec_l01Next_ac x5 (r8.length : Int) _ hr10) rfl ?_
      refine AOps_nil ?_
      refine AU_u 6 35 _ rfl (by kernel_rfl) rfl rfl rfl (UOp_indexAddr_sl _ _ _ _ _ _ _ _ rfl Try.underlying41 Try.sizeOf24 hc11.1 (by rw [rowsD_length]; exact hc11.2) rfl rfl) ?_
      exact AU_to (by kernel_rfl) hS1 (Weak_keep 1 hm [0, 2, 5, 6, 7, 29, 35] [1, 2] _ _ rfl rfl rfl)
     refine US_of 5 rfl rfl ?_
     refine kC [0] 34 (iV r10.1) [.box (srcD r10.2), .box (colD Col.zero), .box (colD x6)] rfl Try.call34 rfl rfl (spec_l01Next_ac x5 (r8.length : Int) _ hr10) rfl ?_
     refine AOps_nil ?_
     refine AU_u 6 35 _ rfl (by kernel_rfl) rfl rfl rfl (UOp_indexAddr_sl _ _ _ _ _ _ _ _ rfl Try.underlying41 Try.sizeOf24 hc11.1 (by rw [rowsD_length]; exact hc11.2) rfl rfl) ?_
     refine AU_all [0, 7] (by kernel_rfl) rfl (allc ?_ (allc ?_ (fun _ h => nomatch h)))
     ·refine US_of 0 rfl rfl ?_
      refine AOps_q 29 _ rfl rfl rfl (QOp_loadN_ptr _ _ _ _ _ _ _ rfl Try.isAgg29 Try.sizeOf29 rfl rfl (colD_all _) (colD_length _)) ?_
      refine AOps_nil ?_
      exact AU_to (by kernel_rfl) hS1 (Weak_keep 1 hm [0, 2, 5, 6, 7, 29, 35] [1, 2] _ _ rfl rfl rfl)
     refine US_of 7 rfl rfl ?_
     refine AOps_q 36 _ rfl rfl rfl (QOp_load_pv _ _ _ _ _ rfl Try.isAgg24 rfl (rowsD_get _ _ [] (by omega))) ?_
     refine AOps_nil ?_
     refine AU_one 0 (by kernel_rfl) rfl rfl ?_
     refine AOps_q 29 _ rfl rfl rfl (QOp_loadN_ptr _ _ _ _ _ _ _ rfl Try.isAgg29 Try.sizeOf29 rfl rfl (colD_all _) (colD_length _)) ?_
     refine AOps_nil ?_
     exact AU_to (by kernel_rfl) hS0 (Weak_keep 1 hm [0, 2, 5, 6, 7, 29, 36] [1, 2] _ _ rfl rfl rfl)
    refine (ACode_region ?_)
    refine kM 1 rfl ?_
    refine AOps_q 22 _ rfl rfl rfl (QOp_sub _ _ _ _ _ _ _ rfl rfl rfl) ?_
    refine kN 1 rfl ?_
    exact ⟨k0, _, _, Nat.lt_succ_self _, Weak_keep 1 hm [0, 2, 5, 6, 7] [1, 2] _ _ rfl rfl rfl, _, _, _, rfl, rfl, h⟩
   refine ACode_exit ?_
   cases h
   exact Weak_keep 1 hm [2, 5, 6] [1, 2] _ _ rfl rfl rfl
 refine kR ?_
 refine AOps_q 38 _ rfl rfl rfl (QOp_loadN_ptr _ _ _ _ _ _ _ rfl Try.isAgg29 Try.sizeOf29 rfl rfl (colD_all _) (colD_length _)) ?_
 refine kM 1 rfl ?_
 refine AOps_store _ _ _ _ _ _ (colD _) _ _ rfl rfl rfl rfl rfl rfl rfl (colD_one _) (by rw [colD_length]; exact Try.sizeOf29) (by rw [colD_length, colD_length]; decide) (colD_whole _ _) ?_
 refine kN 1 rfl ?_
 refine ACode_ret ?_
 cases h
 exact ⟨_, _, fun r a w h => ⟨r, h⟩, _, _, [], _, (.cons (ResV_agg _ _ _ _ _ _ Try.isAgg29 Try.sizeOf29 rfl rfl (colD_take _) (colD_length _)) (.cons (ResV_tmp _ _ rfl) .nil)), rfl, rfl, rfl, rfl, rfl⟩

end Go.Proofs.Ytfnbhfobgimnjaa
