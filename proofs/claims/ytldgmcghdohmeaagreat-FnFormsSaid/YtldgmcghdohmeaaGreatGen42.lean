/- Plain functions of the program and that the program computes them: printed by the own tool gen.py. No conditions. -/
import Derived.Test.YtldgmcghdohmeaaGreatGen42c
set_option linter.unusedVariables false
set_option linter.unusedSimpArgs false
set_option maxRecDepth 100000
namespace Go.Proofs.YtldgmcghdohmeaaGreat
open Go Go.RowKit Ab

def spec_l06Edges_l2 (p0 : List Int) (x6 : Int) : Nat → Int → Int → (List Bool) → Option (Int × List Bool)
 | 0, _, _, _ => none
 | k2 + 1, x12, x13, x14 => (if 0 ≤ w64 ((w64 (x12 * (p0.length : Int))) + x13) ∧ w64 ((w64 (x12 * (p0.length : Int))) + x13) < (x14.length : Int) then (if !(x14.getD (w64 ((w64 (x12 * (p0.length : Int))) + x13)).toNat false) then (if 0 ≤ w64 ((w64 (x12 * (p0.length : Int))) + x13) ∧ w64 ((w64 (x12 * (p0.length : Int))) + x13) < (x14.length : Int) then (if 0 ≤ x12 ∧ x12 < (p0.length : Int) then (if 0 ≤ x13 ∧ x13 < (p0.length : Int) then spec_l06Edges_l2 p0 x6 k2 (if (p0.getD x13.toNat 0) < (p0.getD x12.toNat 0) then (p0.getD x13.toNat 0) else (p0.getD x12.toNat 0)) (if (p0.getD x12.toNat 0) < (p0.getD x13.toNat 0) then (p0.getD x13.toNat 0) else (p0.getD x12.toNat 0)) (x14.set (w64 ((w64 (x12 * (p0.length : Int))) + x13)).toNat true) else none) else none) else none) else some (w64 (x6 + 1), x14)) else none)
def spec_l06Edges_l1 (k : Nat) (p0 : List Int) (x3 : Int) : Nat → Int → Int → (List Bool) → Option (Int × List Bool)
 | 0, _, _, _ => none
 | k1 + 1, x6, x7, x8 => (if decide (x7 < x3) then ((if 0 ≤ w64 ((w64 (x7 * (p0.length : Int))) + x3) ∧ w64 ((w64 (x7 * (p0.length : Int))) + x3) < (x8.length : Int) then (if (x8.getD (w64 ((w64 (x7 * (p0.length : Int))) + x3)).toNat false) then some (x6, x8) else spec_l06Edges_l2 p0 x6 k x7 x3 x8) else none) : Option (Int × List Bool)).bind fun s20 => spec_l06Edges_l1 k p0 x3 k1 s20.1 (w64 (x7 + 1)) s20.2 else some (x6, x8))
def spec_l06Edges_l0 (k : Nat) (p0 : List Int) : Nat → Int → Int → (List Bool) → Option (Int)
 | 0, _, _, _ => none
 | k0 + 1, x2, x3, x4 => (if decide (x3 < (p0.length : Int)) then (spec_l06Edges_l1 k p0 x3 k x2 0 x4 : Option (Int × List Bool)).bind fun s21 => spec_l06Edges_l0 k p0 k0 s21.1 (w64 (x3 + 1)) s21.2 else some x2)
def spec_l06Edges (k : Nat) (p0 : List Int) : Option (Int) :=
 (if 0 ≤ w64 ((p0.length : Int) * (p0.length : Int)) ∧ w64 ((p0.length : Int) * (p0.length : Int)) ≤ w64 ((p0.length : Int) * (p0.length : Int)) ∧ w64 ((p0.length : Int) * (p0.length : Int)) ≤ 1099511627776 then (spec_l06Edges_l0 k p0 k 0 1 (List.replicate (w64 ((p0.length : Int) * (p0.length : Int))).toNat (false : Bool)) : Option (Int)).bind fun s22 => some s22 else none)
theorem spec_l06Edges_ac (k : Nat) (p0 : List Int) (r : Int) (h : spec_l06Edges k p0 = some r) : AC Tryz.prog 52 [.d (.sl none (intsD p0))] [] (fun res H' => res = [iV r] ∧ H' = []) := by
 refine AC_of_body true Tryz.func52 rfl Tryz.ntmps52 (rvs := [.tmp 2]) rfl rfl (fun G hG => ?_)
 have hm : G.H.length = 0 := by rw [hG]; rfl
 have hz : zeroG G.H = true := by rw [hG]; rfl
 unfold spec_l06Edges at h
 refine kR ?_
 refine kN 1 rfl ?_
 refine kR ?_
 refine kM 1 rfl ?_
 refine AOps_q 13 _ rfl rfl rfl (QOp_len_sl _ _ _ _ _ _ _ (intsD_length _) rfl rfl rfl rfl Tryz.underlying40 rfl) ?_
 refine kN 1 rfl ?_
 refine kR ?_
 refine kM 2 rfl ?_
 refine AOps_q 16 _ rfl rfl rfl (QOp_mul _ _ _ _ _ _ _ rfl rfl rfl) ?_
 obtain ⟨hc1, h⟩ := guardO h
 refine AOps_makeSliceG bosD bD false (bosD_rep · _) 17 _ _ _ _ _ _ (w64 ((p0.length : Int) * (p0.length : Int))) (w64 ((p0.length : Int) * (p0.length : Int))) _ (.bool false) rfl rfl rfl rfl rfl rfl Tryz.underlying62 Tryz.type4 rfl rfl (by decide) rfl rfl hc1.1 hc1.2.1 hc1.2.2 ?_
 refine kN 2 rfl ?_
 refine kB (fun s22 => [(5, iV s22)]) (fun s22 => []) h (fun s22 h => ?_) (fun s22 h => ?_)
 ·refine kR ?_
  refine kN 1 rfl ?_
  refine ACode_block ?_
  refine ACode_loopW (fun k0 E H => ∃ (x2 : Int) (x3 : Int) (x4 : List Bool), E = [(0, .d (.sl none (intsD p0))), (3, iV (p0.length : Int)), (4, .vec 0 0), (5, iV x2), (6, iV x3)] ∧ H = [.vec 0 (bosD x4)] ∧ spec_l06Edges_l0 k p0 k0 x2 x3 x4 = some s22) k _ _ (Weak_keep 0 hm [0, 3, 4, 5, 6] [0] _ _ rfl rfl rfl) ⟨_, _, _, rfl, rfl, h⟩ ?_
  clear h
  rintro k0 E H ⟨x2, x3, x4, rfl, rfl, h⟩
  cases k0 with
  | zero => cases (show (none : Option (Int)) = some _ from h)
  | succ k0 =>
   rw [spec_l06Edges_l0] at h
   refine ACode_seq ?_
   refine kR ?_
   refine kM 2 rfl ?_
   refine AOps_q 20 _ rfl rfl rfl (QOp_lss _ _ _ _ _ _ _ rfl rfl rfl) ?_
   refine AOps_nil ?_
   refine kI h rfl (fun h _ => ?_) (fun h _ => ?_)
   ·refine ACode_skip ?_
    refine kB (fun s21 => [(0, .d (.sl none (intsD p0))), (3, iV (p0.length : Int)), (4, .vec 0 0), (5, iV s21.1), (6, iV x3)]) (fun s21 => [.vec 0 (bosD s21.2)]) h (fun s21 h => ?_) (fun s21 h => ?_)
    ·refine ACode_block ?_
     refine kR ?_
     refine kN 1 rfl ?_
     refine ACode_block ?_
     refine ACode_loopW (fun k1 E H => ∃ (x6 : Int) (x7 : Int) (x8 : List Bool), E = [(0, .d (.sl none (intsD p0))), (3, iV (p0.length : Int)), (4, .vec 0 0), (5, iV x6), (6, iV x3), (7, iV x7)] ∧ H = [.vec 0 (bosD x8)] ∧ spec_l06Edges_l1 k p0 x3 k1 x6 x7 x8 = some s21) k _ _ (Weak_keep 0 hm [0, 3, 4, 5, 6, 7] [0] _ _ rfl rfl rfl) ⟨_, _, _, rfl, rfl, h⟩ ?_
     clear h
     rintro k1 E H ⟨x6, x7, x8, rfl, rfl, h⟩
     cases k1 with
     | zero => cases (show (none : Option (Int × List Bool)) = some _ from h)
     | succ k1 =>
      rw [spec_l06Edges_l1] at h
      refine ACode_seq ?_
      refine kR ?_
      refine kM 2 rfl ?_
      refine AOps_q 25 _ rfl rfl rfl (QOp_lss _ _ _ _ _ _ _ rfl rfl rfl) ?_
      refine AOps_nil ?_
      refine kI h rfl (fun h _ => ?_) (fun h _ => ?_)
      ·refine ACode_skip ?_
       refine kB (fun s20 => [(0, .d (.sl none (intsD p0))), (3, iV (p0.length : Int)), (4, .vec 0 0), (5, iV s20.1), (6, iV x3), (7, iV x7)]) (fun s20 => [.vec 0 (bosD s20.2)]) h (fun s20 h => ?_) (fun s20 h => ?_)
       ·refine ACode_block ?_
        refine ACode_seq ?_
        refine kR ?_
        refine kM 3 rfl ?_
        refine AOps_q 31 _ rfl rfl rfl (QOp_mul _ _ _ _ _ _ _ rfl rfl rfl) ?_
        refine kM 1 rfl ?_
        refine AOps_q 33 _ rfl rfl rfl (QOp_add _ _ _ _ _ _ _ rfl rfl rfl) ?_
        obtain ⟨hc10, h⟩ := guardO h
        refine AOps_q 34 _ rfl rfl rfl (QOp_indexAddr_vec _ _ _ _ _ _ _ _ _ rfl Tryz.underlying62 Tryz.sizeOf4 hc10.1 (by rw [bosD_length]; exact hc10.2) rfl rfl rfl) ?_
        refine AOps_q 35 _ rfl rfl rfl (QOp_load_eptr _ _ _ _ _ _ _ rfl Tryz.isAgg4 rfl rfl (bosD_get _ _ false (by omega))) ?_
        refine AOps_nil ?_
        refine kI h rfl (fun h _ => ?_) (fun h _ => ?_)
        ·refine ACode_exit ?_
         cases h
         exact Weak_keep 0 hm [0, 3, 4, 5, 6, 7] [0] _ _ rfl rfl rfl
        refine ACode_skip ?_
        refine kR ?_
        refine kM 1 rfl ?_
        refine AOps_q 37 _ rfl rfl rfl (QOp_add _ _ _ _ _ _ _ rfl rfl rfl) ?_
        refine kN 1 rfl ?_
        refine kR ?_
        refine kN 4 rfl ?_
        refine ACode_block ?_
        refine ACode_loopW (fun k2 E H => ∃ (x12 : Int) (x13 : Int) (x14 : List Bool), E = [(0, .d (.sl none (intsD p0))), (3, iV (p0.length : Int)), (4, .vec 0 0), (5, iV (w64 (x6 + 1))), (6, iV x3), (7, iV x7), (8, iV x12), (9, iV x13)] ∧ H = [.vec 0 (bosD x14)] ∧ spec_l06Edges_l2 p0 x6 k2 x12 x13 x14 = some s20) k _ _ (Weak_keep 0 hm [0, 3, 4, 5, 6, 7, 8, 9] [0] _ _ rfl rfl rfl) ⟨_, _, _, rfl, rfl, h⟩ ?_
        clear h
        rintro k2 E H ⟨x12, x13, x14, rfl, rfl, h⟩
        cases k2 with
        | zero => cases (show (none : Option (Int × List Bool)) = some _ from h)
        | succ k2 =>
         rw [spec_l06Edges_l2] at h
         refine ACode_seq ?_
         refine kR ?_
         refine kM 3 rfl ?_
         refine AOps_q 43 _ rfl rfl rfl (QOp_mul _ _ _ _ _ _ _ rfl rfl rfl) ?_
         refine kM 1 rfl ?_
         refine AOps_q 45 _ rfl rfl rfl (QOp_add _ _ _ _ _ _ _ rfl rfl rfl) ?_
         obtain ⟨hc15, h⟩ := guardO h
         refine AOps_q 46 _ rfl rfl rfl (QOp_indexAddr_vec _ _ _ _ _ _ _ _ _ rfl Tryz.underlying62 Tryz.sizeOf4 hc15.1 (by rw [bosD_length]; exact hc15.2) rfl rfl rfl) ?_
         refine AOps_q 47 _ rfl rfl rfl (QOp_load_eptr _ _ _ _ _ _ _ rfl Tryz.isAgg4 rfl rfl (bosD_get _ _ false (by omega))) ?_
         refine AOps_q 48 _ rfl rfl rfl (QOp_not _ _ _ rfl rfl) ?_
         refine AOps_nil ?_
         refine kI h rfl (fun h _ => ?_) (fun h _ => ?_)
         ·refine ACode_skip ?_
          refine ACode_block ?_
          refine kR ?_
          refine kM 3 rfl ?_
          refine AOps_q 52 _ rfl rfl rfl (QOp_mul _ _ _ _ _ _ _ rfl rfl rfl) ?_
          refine kM 1 rfl ?_
          refine AOps_q 54 _ rfl rfl rfl (QOp_add _ _ _ _ _ _ _ rfl rfl rfl) ?_
          obtain ⟨hc17, h⟩ := guardO h
          refine AOps_q 55 _ rfl rfl rfl (QOp_indexAddr_vec _ _ _ _ _ _ _ _ _ rfl Tryz.underlying62 Tryz.sizeOf4 hc17.1 (by rw [bosD_length]; exact hc17.2) rfl rfl rfl) ?_
          refine AOps_store_eptr _ _ _ _ _ _ (bosD x14) _ rfl rfl rfl rfl rfl rfl rfl Tryz.sizeOf4 (by rw [bosD_length]; omega) ?_
          rw [bosD_set]
          refine AOps_nil ?_
          refine ACode_seq (ACode_quiet mixed (by kernel_rfl) ?_)
          refine kQ 2 rfl ?_
          obtain ⟨hc18, h⟩ := guardO h
          refine AQ_q 58 _ rfl rfl rfl (QOp_indexAddr_sl _ _ _ _ _ _ _ _ rfl Tryz.underlying40 Tryz.sizeOf2 hc18.1 (by rw [intsD_length]; exact hc18.2) rfl rfl) ?_
          refine AQ_q 59 _ rfl rfl rfl (QOp_load_pv _ _ _ _ _ rfl Tryz.isAgg2 rfl (intsD_get _ _ 0 (by omega))) ?_
          refine kQ 2 rfl ?_
          obtain ⟨hc19, h⟩ := guardO h
          refine AQ_q 62 _ rfl rfl rfl (QOp_indexAddr_sl _ _ _ _ _ _ _ _ rfl Tryz.underlying40 Tryz.sizeOf2 hc19.1 (by rw [intsD_length]; exact hc19.2) rfl rfl) ?_
          refine AQ_q 63 _ rfl rfl rfl (QOp_load_pv _ _ _ _ _ rfl Tryz.isAgg2 rfl (intsD_get _ _ 0 (by omega))) ?_
          refine kQ 2 rfl ?_
          refine AQ_nil ?_
          refine kR ?_
          refine kM 2 rfl ?_
          refine AOps_q 66 _ rfl rfl rfl (QOp_min _ _ _ _ _ _ rfl rfl rfl rfl rfl) ?_
          refine kN 1 rfl ?_
          refine (ACode_region ?_)
          refine kM 2 rfl ?_
          refine AOps_q 69 _ rfl rfl rfl (QOp_max _ _ _ _ _ _ rfl rfl rfl rfl rfl) ?_
          refine kN 1 rfl ?_
          exact ⟨k2, _, _, Nat.lt_succ_self _, Weak_keep 0 hm [0, 3, 4, 5, 6, 7, 8, 9] [0] _ _ rfl rfl rfl, _, _, _, rfl, rfl, h⟩
         refine ACode_exit ?_
         cases h
         exact Weak_keep 0 hm [0, 3, 4, 5, 6, 7] [0] _ _ rfl rfl rfl
       refine (ACode_region ?_)
       refine kM 1 rfl ?_
       refine AOps_q 27 _ rfl rfl rfl (QOp_add _ _ _ _ _ _ _ rfl rfl rfl) ?_
       refine kN 1 rfl ?_
       exact ⟨k1, _, _, Nat.lt_succ_self _, Weak_keep 0 hm [0, 3, 4, 5, 6, 7] [0] _ _ rfl rfl rfl, _, _, _, rfl, rfl, h⟩
      refine ACode_exit ?_
      cases h
      exact Weak_keep 0 hm [0, 3, 4, 5, 6] [0] _ _ rfl rfl rfl
    refine (ACode_region ?_)
    refine kM 1 rfl ?_
    refine AOps_q 22 _ rfl rfl rfl (QOp_add _ _ _ _ _ _ _ rfl rfl rfl) ?_
    refine kN 1 rfl ?_
    exact ⟨k0, _, _, Nat.lt_succ_self _, Weak_keep 0 hm [0, 3, 4, 5, 6] [0] _ _ rfl rfl rfl, _, _, _, rfl, rfl, h⟩
   refine ACode_exit ?_
   cases h
   exact Weak_keep 0 hm [5] [] _ _ rfl rfl rfl
 refine kR ?_
 refine kN 2 rfl ?_
 refine ACode_ret ?_
 cases h
 exact ⟨_, _, fun r a w h => ⟨r, h⟩, _, _, [], _, (.cons (ResV_tmp _ _ rfl) .nil), rfl, rfl, rfl, rfl, rfl⟩

def spec_CountClasses_l1 (p1 : Int) : Nat → Int → Int → Option (Int)
 | 0, _, _ => none
 | k1 + 1, x13, x14 => (if decide (0 < x14) then spec_CountClasses_l1 p1 k1 (w64 (x13 * p1)) (w64 (x14 - 1)) else some x13)
def spec_CountClasses_l0 (k : Nat) (p1 : Int) (r7 : List (List Int)) : Nat → Int → Int → Option (Int)
 | 0, _, _ => none
 | k0 + 1, x8, x9 => (if decide (x9 < (r7.length : Int)) then (((if 0 ≤ x9 ∧ x9 < (r7.length : Int) then (spec_l06Edges k (r7.getD x9.toNat [])).bind fun r12 => spec_CountClasses_l1 p1 k 1 r12 else none) : Option (Int)).bind fun s16 => some (w64 (x8 + s16)) : Option (Int)).bind fun s17 => spec_CountClasses_l0 k p1 r7 k0 s17 (w64 (x9 + 1)) else some x8)
def spec_CountClasses (k : Nat) (p0 : Int) (p1 : Int) : Option (Int × Int) :=
 (letO (if !(spec_l01In p0 1 7) then true else !(spec_l01In p1 1 4)) fun (s4 : Bool) => (if s4 then some (.inr (0, 2)) else some (.inl ())) : Option (Sum (Unit) (Int × Int))).bind fun os6 => (match os6 with | .inl s6 => (spec_l06Orders k ([] : List Int) p0).bind fun r7 => (spec_CountClasses_l0 k p1 r7 k 0 0 : Option (Int)).bind fun s18 => (if (r7.length : Int) ≠ 0 then some (w64 (s18.tdiv (r7.length : Int)), 0) else none) | .inr rr => some rr)
theorem spec_CountClasses_ac (k : Nat) (p0 : Int) (p1 : Int) (r : Int × Int) (h : spec_CountClasses k p0 p1 = some r) : AC Tryz.prog 18 [iV p0, iV p1] [] (fun res H' => res = [iV r.1, iV r.2] ∧ H' = []) := by
 refine AC_of_body true Tryz.func18 rfl Tryz.ntmps18 (rvs := [.tmp 4, .tmp 5]) rfl rfl (fun G hG => ?_)
 have hm : G.H.length = 0 := by rw [hG]; rfl
 have hz : zeroG G.H = true := by rw [hG]; rfl
 unfold spec_CountClasses at h
 refine kR ?_
 refine kN 2 rfl ?_
 refine kO (fun s6 => [(0, iV p0), (1, iV p1)]) (fun s6 => []) h (fun os6 h hks6 => ?_) (fun s6 h => ?_)
 ·refine kL (fun s4 => [(0, iV p0), (1, iV p1), (18, bV s4)]) (fun s4 => []) h (fun s4 h => ?_) (fun s4 h => ?_)
  ·refine (ACode_region ?_)
   refine kM 1 rfl ?_
   refine kC [] 12 (bV (spec_l01In p0 1 7)) [] rfl Tryz.call51 rfl rfl (spec_l01In_ac p0 1 7) rfl ?_
   refine AOps_q 13 _ rfl rfl rfl (QOp_not _ _ _ rfl rfl) ?_
   refine kM 1 rfl ?_
   refine AOps_case 14 _ rfl (fun hb2 => ?_) (fun hb2 => ?_)
   ·have h := iteT hb2 h
    refine AOps_skip 15 rfl rfl rfl ?_
    refine AOps_skip 16 rfl rfl rfl ?_
    refine AOps_skip 17 rfl rfl rfl ?_
    refine kN 1 rfl ?_
    cases h
    exact Weak_keep 0 hm [0, 1, 18] [] _ _ rfl rfl rfl
   have h := iteF hb2 h
   refine kM 1 rfl ?_
   refine kC [] 16 (bV (spec_l01In p1 1 4)) [] rfl Tryz.call51 rfl rfl (spec_l01In_ac p1 1 4) rfl ?_
   refine AOps_q 17 _ rfl rfl rfl (QOp_not _ _ _ rfl rfl) ?_
   refine kN 1 rfl ?_
   cases h
   exact Weak_keep 0 hm [0, 1, 18] [] _ _ rfl rfl rfl
  refine kI h rfl (fun h _ => ?_) (fun h _ => ?_)
  ·refine kR ?_
   refine kN 2 rfl ?_
   refine ACode_ret ?_
   cases h
   have h := hks6
   cases h
   exact ⟨_, _, fun r a w h => ⟨r, h⟩, _, _, [], _, (.cons (ResV_tmp _ _ rfl) (.cons (ResV_tmp _ _ rfl) .nil)), rfl, rfl, rfl, rfl, rfl⟩
  refine ACode_skip ?_
  cases h
  exact ⟨_, rfl, Weak_keep 0 hm [0, 1] [] _ _ rfl rfl rfl⟩
 refine kR ?_
 refine AOps_buildSlice 19 _ _ _ [] (intsD ([] : List Int)) _ rfl rfl rfl rfl rfl (by decide) Tryz.underlying40 Tryz.sizeOf2 (zero_of Tryz.typeInfo2 rfl) rfl rfl (intsD_one _) ?_
 refine kM 1 rfl ?_
 refine AOps_freezeL [19] 0 0 _ (allc (rfl) (fun _ h => nomatch h)) rfl ?_
 obtain ⟨r7, hr7, h⟩ := bindO h
 refine kC [] 21 (.d (.sl none (rowsD r7))) [.gone] rfl Tryz.call33 rfl rfl (spec_l06Orders_ac k ([] : List Int) p0 _ hr7) rfl ?_
 refine kN 2 rfl ?_
 refine kB (fun s18 => [(6, .d (.sl none (rowsD r7))), (7, iV s18)]) (fun s18 => []) h (fun s18 h => ?_) (fun s18 h => ?_)
 ·refine kR ?_
  refine kN 1 rfl ?_
  refine ACode_block ?_
  refine ACode_loopW (fun k0 E H => ∃ (x8 : Int) (x9 : Int), E = [(1, iV p1), (6, .d (.sl none (rowsD r7))), (7, iV x8), (8, iV x9)] ∧ H = [] ∧ spec_CountClasses_l0 k p1 r7 k0 x8 x9 = some s18) k _ _ (Weak_keep 0 hm [1, 6, 7, 8] [] _ _ rfl rfl rfl) ⟨_, _, rfl, rfl, h⟩ ?_
  clear h
  rintro k0 E H ⟨x8, x9, rfl, rfl, h⟩
  cases k0 with
  | zero => cases (show (none : Option (Int)) = some _ from h)
  | succ k0 =>
   rw [spec_CountClasses_l0] at h
   refine ACode_seq ?_
   refine kR ?_
   refine kM 2 rfl ?_
   refine AOps_q 24 _ rfl rfl rfl (QOp_len_sl _ _ _ _ _ _ _ (rowsD_length _) rfl rfl rfl rfl Tryz.underlying30 rfl) ?_
   refine AOps_q 25 _ rfl rfl rfl (QOp_lss _ _ _ _ _ _ _ rfl rfl rfl) ?_
   refine AOps_nil ?_
   refine kI h rfl (fun h _ => ?_) (fun h _ => ?_)
   ·refine ACode_skip ?_
    refine kB (fun s17 => [(1, iV p1), (6, .d (.sl none (rowsD r7))), (7, iV s17), (8, iV x9)]) (fun s17 => []) h (fun s17 h => ?_) (fun s17 h => ?_)
    ·refine ACode_block ?_
     refine kR ?_
     refine kN 1 rfl ?_
     refine kB (fun s16 => [(1, iV p1), (6, .d (.sl none (rowsD r7))), (7, iV x8), (8, iV x9), (9, iV s16)]) (fun s16 => []) h (fun s16 h => ?_) (fun s16 h => ?_)
     ·refine kR ?_
      refine kM 2 rfl ?_
      obtain ⟨hc11, h⟩ := guardO h
      refine AOps_q 30 _ rfl rfl rfl (QOp_indexAddr_sl _ _ _ _ _ _ _ _ rfl Tryz.underlying30 Tryz.sizeOf40 hc11.1 (by rw [rowsD_length]; exact hc11.2) rfl rfl) ?_
      refine AOps_q 31 _ rfl rfl rfl (QOp_load_pv _ _ _ _ _ rfl Tryz.isAgg40 rfl (rowsD_get _ _ [] (by omega))) ?_
      obtain ⟨r12, hr12, h⟩ := bindO h
      refine kC [] 32 (iV r12) [] rfl Tryz.call52 rfl rfl (spec_l06Edges_ac k (r7.getD x9.toNat []) _ hr12) rfl ?_
      refine kN 1 rfl ?_
      refine ACode_block ?_
      refine ACode_loopW (fun k1 E H => ∃ (x13 : Int) (x14 : Int), E = [(1, iV p1), (6, .d (.sl none (rowsD r7))), (7, iV x8), (8, iV x9), (9, iV x13), (10, iV x14)] ∧ H = [] ∧ spec_CountClasses_l1 p1 k1 x13 x14 = some s16) k _ _ (Weak_keep 0 hm [1, 6, 7, 8, 9, 10] [] _ _ rfl rfl rfl) ⟨_, _, rfl, rfl, h⟩ ?_
      clear h
      rintro k1 E H ⟨x13, x14, rfl, rfl, h⟩
      cases k1 with
      | zero => cases (show (none : Option (Int)) = some _ from h)
      | succ k1 =>
       rw [spec_CountClasses_l1] at h
       refine ACode_seq ?_
       refine kR ?_
       refine kM 1 rfl ?_
       refine AOps_q 34 _ rfl rfl rfl (QOp_gtr _ _ _ _ _ _ _ rfl rfl rfl) ?_
       refine AOps_nil ?_
       refine kI h rfl (fun h _ => ?_) (fun h _ => ?_)
       ·refine ACode_skip ?_
        refine ACode_seq ?_
        refine ACode_block ?_
        refine (ACode_region ?_)
        refine kM 2 rfl ?_
        refine AOps_q 39 _ rfl rfl rfl (QOp_mul _ _ _ _ _ _ _ rfl rfl rfl) ?_
        refine kN 1 rfl ?_
        refine (ACode_region ?_)
        refine kM 1 rfl ?_
        refine AOps_q 36 _ rfl rfl rfl (QOp_sub _ _ _ _ _ _ _ rfl rfl rfl) ?_
        refine kN 1 rfl ?_
        exact ⟨k1, _, _, Nat.lt_succ_self _, Weak_keep 0 hm [1, 6, 7, 8, 9, 10] [] _ _ rfl rfl rfl, _, _, rfl, rfl, h⟩
       refine ACode_exit ?_
       cases h
       exact Weak_keep 0 hm [1, 6, 7, 8, 9] [] _ _ rfl rfl rfl
     refine (ACode_region ?_)
     refine kM 2 rfl ?_
     refine AOps_q 42 _ rfl rfl rfl (QOp_add _ _ _ _ _ _ _ rfl rfl rfl) ?_
     refine kN 1 rfl ?_
     cases h
     exact Weak_keep 0 hm [1, 6, 7, 8] [] _ _ rfl rfl rfl
    refine (ACode_region ?_)
    refine kM 1 rfl ?_
    refine AOps_q 27 _ rfl rfl rfl (QOp_add _ _ _ _ _ _ _ rfl rfl rfl) ?_
    refine kN 1 rfl ?_
    exact ⟨k0, _, _, Nat.lt_succ_self _, Weak_keep 0 hm [1, 6, 7, 8] [] _ _ rfl rfl rfl, _, _, rfl, rfl, h⟩
   refine ACode_exit ?_
   cases h
   exact Weak_keep 0 hm [6, 7] [] _ _ rfl rfl rfl
 refine kR ?_
 refine kM 2 rfl ?_
 refine AOps_q 45 _ rfl rfl rfl (QOp_len_sl _ _ _ _ _ _ _ (rowsD_length _) rfl rfl rfl rfl Tryz.underlying30 rfl) ?_
 obtain ⟨hc19, h⟩ := guardO h
 refine AOps_q 46 _ rfl rfl rfl (QOp_quo _ _ _ _ _ _ _ hc19 rfl rfl rfl) ?_
 refine kN 2 rfl ?_
 refine ACode_ret ?_
 cases h
 exact ⟨_, _, fun r a w h => ⟨r, h⟩, _, _, [], _, (.cons (ResV_tmp _ _ rfl) (.cons (ResV_tmp _ _ rfl) .nil)), rfl, rfl, rfl, rfl, rfl⟩

def impl_Colouring_counts_l0 (p0 : Col) : Nat → Int → (List Int) → Option (List Int)
 | 0, _, _ => none
 | k0 + 1, x4, x5 => (if decide (x4 < ((p0.e.l.take (impl_Colouring_edges p0).toNat).length : Int)) then (if 0 ≤ x4 ∧ x4 < ((p0.e.l.take (impl_Colouring_edges p0).toNat).length : Int) then (if 0 ≤ (((p0.e.l.take (impl_Colouring_edges p0).toNat).getD x4.toNat 0).toNat : Int) ∧ (((p0.e.l.take (impl_Colouring_edges p0).toNat).getD x4.toNat 0).toNat : Int) < (x5.length : Int) then (if 0 ≤ (((p0.e.l.take (impl_Colouring_edges p0).toNat).getD x4.toNat 0).toNat : Int) ∧ (((p0.e.l.take (impl_Colouring_edges p0).toNat).getD x4.toNat 0).toNat : Int) < (x5.length : Int) then impl_Colouring_counts_l0 p0 k0 (w64 (x4 + 1)) (x5.set (((p0.e.l.take (impl_Colouring_edges p0).toNat).getD x4.toNat 0).toNat : Int).toNat (w64 ((x5.getD (((p0.e.l.take (impl_Colouring_edges p0).toNat).getD x4.toNat 0).toNat : Int).toNat 0) + 1))) else none) else none) else none) else some x5)
def impl_Colouring_counts (k : Nat) (p0 : Col) : Option (List Int) :=
 (if 0 ≤ p0.k ∧ p0.k ≤ p0.k ∧ p0.k ≤ 1099511627776 then ((if 0 ≤ (0 : Int) ∧ 0 ≤ (impl_Colouring_edges p0) ∧ (impl_Colouring_edges p0) ≤ 136 then impl_Colouring_counts_l0 p0 k 0 (List.replicate p0.k.toNat (0 : Int)) else none) : Option (List Int)).bind fun s10 => some s10 else none)
theorem impl_Colouring_counts_ac (k : Nat) (p0 : Col) (r : List Int) (h : impl_Colouring_counts k p0 = some r) : AC Tryz.prog 53 [.d (.pv (colD p0) 0)] [] (fun res H' => res = [.vec 0 0] ∧ H' = [.vec 0 (intsD r)]) := by
 refine AC_of_body true Tryz.func53 rfl Tryz.ntmps53 (rvs := [.tmp 2]) rfl rfl (fun G hG => ?_)
 have hm : G.H.length = 0 := by rw [hG]; rfl
 have hz : zeroG G.H = true := by rw [hG]; rfl
 unfold impl_Colouring_counts at h
 refine kR ?_
 refine kN 1 rfl ?_
 refine kR ?_
 refine kM 1 rfl ?_
 refine AOps_q 7 _ rfl rfl rfl (QOp_nilCheck_pv _ _ _ rfl rfl) ?_
 refine AOps_q 8 _ rfl rfl rfl (QOp_fieldAddr_pv _ _ _ _ _ 1 _ _ rfl Tryz.underlying26 rfl _ Tryz.sizeOf2 rfl rfl) ?_
 refine AOps_q 9 _ rfl rfl rfl (QOp_load_pv _ _ _ _ _ rfl Tryz.isAgg2 rfl rfl) ?_
 obtain ⟨hc1, h⟩ := guardO h
 refine AOps_makeSliceG intsD iD 0 (intsD_rep · _) 10 _ _ _ _ _ _ p0.k p0.k _ (.int .i64 0) rfl rfl rfl rfl rfl rfl Tryz.underlying40 Tryz.type2 rfl rfl (by decide) rfl rfl hc1.1 hc1.2.1 hc1.2.2 ?_
 refine kN 1 rfl ?_
 refine kB (fun s10 => [(3, .vec 0 0)]) (fun s10 => [.vec 0 (intsD s10)]) h (fun s10 h => ?_) (fun s10 h => ?_)
 ·refine ACode_seq (ACode_quiet mixed (by kernel_rfl) ?_)
  refine kQ 1 rfl ?_
  refine AQ_q 12 _ rfl rfl rfl (QOp_nilCheck_pv _ _ _ rfl rfl) ?_
  refine AQ_q 13 _ rfl rfl rfl (QOp_fieldAddr_pv _ _ _ _ _ 2 _ _ rfl Tryz.underlying26 rfl _ Tryz.sizeOf24 rfl rfl) ?_
  refine kQ 1 rfl ?_
  refine AQ_call 15 _ _ _ _ _ _ _ _ _ rfl rfl rfl rfl rfl rfl rfl Tryz.call83 rfl rfl rfl (impl_Colouring_edges_ac p0) ?_
  obtain ⟨hc3, h⟩ := guardO h
  refine AQ_q 16 _ rfl rfl rfl (QOp_slice_pv _ _ _ _ _ _ _ _ _ (0) ((impl_Colouring_edges p0).toNat) rfl Tryz.underlying24 Tryz.sizeOf5 rfl rfl (by exact ⟨_, by rw [Int.toNat_of_nonneg (by omega)]; rfl⟩) (by omega) (by omega) (by rw [colD_length]; omega) (bysD_part p0.e.l (0) ((impl_Colouring_edges p0).toNat))) ?_
  refine AQ_q 17 _ rfl rfl rfl (QOp_len_sl _ _ _ _ _ _ _ (bysD_length _) rfl rfl rfl rfl Tryz.underlying22 rfl) ?_
  refine kQ 1 rfl ?_
  refine AQ_nil ?_
  refine ACode_block ?_
  refine ACode_loopW (fun k0 E H => ∃ (x4 : Int) (x5 : List Int), E = [(3, .vec 0 0), (16, .d (.sl (some false) (bysD (p0.e.l.take (impl_Colouring_edges p0).toNat)))), (17, iV ((p0.e.l.take (impl_Colouring_edges p0).toNat).length : Int)), (18, iV x4)] ∧ H = [.vec 0 (intsD x5)] ∧ impl_Colouring_counts_l0 p0 k0 x4 x5 = some s10) k _ _ (Weak_keep 0 hm [3, 16, 17, 18] [0] _ _ rfl rfl rfl) ⟨_, _, rfl, rfl, h⟩ ?_
  clear h
  rintro k0 E H ⟨x4, x5, rfl, rfl, h⟩
  cases k0 with
  | zero => cases (show (none : Option (List Int)) = some _ from h)
  | succ k0 =>
   rw [impl_Colouring_counts_l0] at h
   refine kR ?_
   refine AOps_q 19 _ rfl rfl rfl (QOp_lss _ _ _ _ _ _ _ rfl rfl rfl) ?_
   refine AOps_nil ?_
   refine ACode_seq ?_
   refine kI h rfl (fun h _ => ?_) (fun h _ => ?_)
   ·refine ACode_skip ?_
    refine ACode_seq ?_
    refine ACode_block ?_
    refine kR ?_
    obtain ⟨hc7, h⟩ := guardO h
    refine AOps_q 20 _ rfl rfl rfl (QOp_indexAddr_sl _ _ _ _ _ _ _ _ rfl Tryz.underlying22 Tryz.sizeOf5 hc7.1 (by rw [bysD_length]; exact hc7.2) rfl rfl) ?_
    refine AOps_q 21 _ rfl rfl rfl (QOp_load_pv _ _ _ _ _ rfl Tryz.isAgg5 rfl (bysD_get _ _ 0 (by omega))) ?_
    refine kN 1 rfl ?_
    refine (ACode_region ?_)
    refine kM 2 rfl ?_
    obtain ⟨hc8, h⟩ := guardO h
    refine AOps_q 24 _ rfl rfl rfl (QOp_indexAddr_vec _ _ _ _ _ _ _ _ _ rfl Tryz.underlying40 Tryz.sizeOf2 hc8.1 (by rw [intsD_length]; exact hc8.2) rfl rfl rfl) ?_
    refine AOps_q 25 _ rfl rfl rfl (QOp_load_eptr _ _ _ _ _ _ _ rfl Tryz.isAgg2 rfl rfl (intsD_get _ _ 0 (by omega))) ?_
    refine AOps_q 26 _ rfl rfl rfl (QOp_add _ _ _ _ _ _ _ rfl rfl rfl) ?_
    obtain ⟨hc9, h⟩ := guardO h
    refine AOps_q 27 _ rfl rfl rfl (QOp_indexAddr_vec _ _ _ _ _ _ _ _ _ rfl Tryz.underlying40 Tryz.sizeOf2 hc9.1 (by rw [intsD_length]; exact hc9.2) rfl rfl rfl) ?_
    refine AOps_store_eptr _ _ _ _ _ _ (intsD x5) _ rfl rfl rfl rfl rfl rfl rfl Tryz.sizeOf2 (by rw [intsD_length]; omega) ?_
    rw [intsD_set]
    refine AOps_nil ?_
    refine (ACode_region ?_)
    refine AOps_q 28 _ rfl rfl rfl (QOp_add _ _ _ _ _ _ _ rfl rfl rfl) ?_
    refine kN 1 rfl ?_
    exact ⟨k0, _, _, Nat.lt_succ_self _, Weak_keep 0 hm [3, 16, 17, 18] [0] _ _ rfl rfl rfl, _, _, rfl, rfl, h⟩
   refine ACode_exit ?_
   cases h
   exact Weak_keep 0 hm [3] [0] _ _ rfl rfl rfl
 refine kR ?_
 refine kN 2 rfl ?_
 refine ACode_ret ?_
 cases h
 exact ⟨_, _, Weak_reset 0 hm hz [2] _ _ rfl rfl, _, _, [0], _, (.cons (ResV_tmp _ _ rfl) .nil), rfl, rfl, rfl, rfl, rfl⟩

def impl_CountEdges (k : Nat) (p0 : Col) : Option (Option (List Int) × Int) :=
 (impl_Colouring_code k p0 (some (impl_always))).bind fun r1 => (if !decide (r1 = 0) then some (none, r1) else (impl_Colouring_counts k p0).bind fun r3 => some (some r3, 0))
theorem impl_CountEdges_ac (k : Nat) (p0 : Col) (r : Option (List Int) × Int) (h : impl_CountEdges k p0 = some r) : AC Tryz.prog 19 [.d (.agg (colD p0))] [] (fun res H' => res = [ownA 0 (r.1.map intsD), iV r.2] ∧ H' = [] ++ ownH (r.1.map intsD)) := by
 refine AC_of_body false Tryz.func19 rfl Tryz.ntmps19 (rvs := [.tmp 2, .tmp 3]) rfl rfl (fun G hG => ?_)
 have hm : G.H.length = 0 := by rw [hG]; rfl
 have hz : zeroG G.H = true := by rw [hG]; rfl
 unfold impl_CountEdges at h
 refine kR ?_
 refine AOps_boxI 1 _ _ (.agg (colD p0)) (colD p0) rfl (colD_one _) rfl rfl rfl rfl rfl ?_
 refine kN 2 rfl ?_
 refine ACode_seq ?_
 refine kR ?_
 obtain ⟨r1, hr1, h⟩ := bindO h
 refine kC [] 5 (iV r1) [] rfl Tryz.call27 rfl rfl (impl_Colouring_code_ac k p0 (some (impl_always)) 28 ([]) Tryz.call28 (fun r h => by cases h; exact impl_always_ac) _ hr1) rfl ?_
 refine kN 1 rfl ?_
 refine kR ?_
 refine kM 1 rfl ?_
 refine AOps_q 7 _ rfl rfl rfl (QOp_neq _ _ _ _ _ _ _ rfl rfl rfl) ?_
 refine AOps_nil ?_
 refine kI h rfl (fun h _ => ?_) (fun h _ => ?_)
 ·refine kR ?_
  refine kN 3 rfl ?_
  refine ACode_ret ?_
  cases h
  exact ⟨_, _, fun r a w h => ⟨r, h⟩, _, _, [], _, (.cons (ResV_tmp _ _ rfl) (.cons (ResV_tmp _ _ rfl) .nil)), rfl, rfl, rfl, rfl, rfl⟩
 refine ACode_skip ?_
 refine kR ?_
 obtain ⟨r3, hr3, h⟩ := bindO h
 refine kC [] 9 (.vec 0 0) [.vec 0 (intsD r3)] rfl Tryz.call53 rfl rfl (impl_Colouring_counts_ac k p0 _ hr3) rfl ?_
 refine kN 2 rfl ?_
 refine ACode_ret ?_
 cases h
 exact ⟨_, _, Weak_reset 0 hm hz [2, 3] _ _ rfl rfl, _, _, [0], _, (.cons (ResV_tmp _ _ rfl) (.cons (ResV_tmp _ _ rfl) .nil)), rfl, rfl, rfl, rfl, rfl⟩

def impl_AreIsomorphic (k : Nat) (p0 : Col) (p1 : Col) : Option (Bool × Int) :=
 (((impl_Colouring_isColouring k p0).bind fun r1 => (if !r1 then some true else (impl_Colouring_isColouring k p1).bind fun r3 => some (!r3)) : Option (Bool)).bind fun s4 => (if s4 then some (.inr (false, 1)) else some (.inl ())) : Option (Sum (Unit) (Bool × Int))).bind fun os6 => (match os6 with | .inl s6 => (impl_Colouring_renumbering k p0 p1).bind fun r7 => some (r7.2, 0) | .inr rr => some rr)
theorem impl_AreIsomorphic_ac (k : Nat) (p0 : Col) (p1 : Col) (r : Bool × Int) (h : impl_AreIsomorphic k p0 p1 = some r) : AC Tryz.prog 20 [.d (.agg (colD p0)), .d (.agg (colD p1))] [] (fun res H' => res = [bV r.1, iV r.2] ∧ H' = []) := by
 refine AC_of_body true Tryz.func20 rfl Tryz.ntmps20 (rvs := [.tmp 4, .tmp 5]) rfl rfl (fun G hG => ?_)
 have hm : G.H.length = 0 := by rw [hG]; rfl
 have hz : zeroG G.H = true := by rw [hG]; rfl
 unfold impl_AreIsomorphic at h
 refine kR ?_
 refine AOps_boxI 2 _ _ (.agg (colD p0)) (colD p0) rfl (colD_one _) rfl rfl rfl rfl rfl ?_
 refine AOps_boxI 3 _ _ (.agg (colD p1)) (colD p1) rfl (colD_one _) rfl rfl rfl rfl rfl ?_
 refine kN 2 rfl ?_
 refine kO (fun s6 => [(2, .d (.pv (colD p0) 0)), (3, .d (.pv (colD p1) 0))]) (fun s6 => []) h (fun os6 h hks6 => ?_) (fun s6 h => ?_)
 ·refine kB (fun s4 => [(2, .d (.pv (colD p0) 0)), (3, .d (.pv (colD p1) 0)), (13, bV s4)]) (fun s4 => []) h (fun s4 h => ?_) (fun s4 h => ?_)
  ·refine (ACode_region ?_)
   obtain ⟨r1, hr1, h⟩ := bindO h
   refine kC [] 8 (bV r1) [] rfl Tryz.call54 rfl rfl (impl_Colouring_isColouring_ac k p0 _ hr1) rfl ?_
   refine AOps_q 9 _ rfl rfl rfl (QOp_not _ _ _ rfl rfl) ?_
   refine kM 1 rfl ?_
   refine AOps_case 10 _ rfl (fun hb2 => ?_) (fun hb2 => ?_)
   ·have h := iteT hb2 h
    refine AOps_skip 11 rfl rfl rfl ?_
    refine AOps_skip 12 rfl rfl rfl ?_
    refine kN 1 rfl ?_
    cases h
    exact Weak_keep 0 hm [2, 3, 13] [] _ _ rfl rfl rfl
   have h := iteF hb2 h
   obtain ⟨r3, hr3, h⟩ := bindO h
   refine kC [] 11 (bV r3) [] rfl Tryz.call54 rfl rfl (impl_Colouring_isColouring_ac k p1 _ hr3) rfl ?_
   refine AOps_q 12 _ rfl rfl rfl (QOp_not _ _ _ rfl rfl) ?_
   refine kN 1 rfl ?_
   cases h
   exact Weak_keep 0 hm [2, 3, 13] [] _ _ rfl rfl rfl
  refine kI h rfl (fun h _ => ?_) (fun h _ => ?_)
  ·refine kR ?_
   refine kN 2 rfl ?_
   refine ACode_ret ?_
   cases h
   have h := hks6
   cases h
   exact ⟨_, _, fun r a w h => ⟨r, h⟩, _, _, [], _, (.cons (ResV_tmp _ _ rfl) (.cons (ResV_tmp _ _ rfl) .nil)), rfl, rfl, rfl, rfl, rfl⟩
  refine ACode_skip ?_
  cases h
  exact ⟨_, rfl, Weak_keep 0 hm [2, 3] [] _ _ rfl rfl rfl⟩
 refine kR ?_
 obtain ⟨r7, hr7, h⟩ := bindO h
 refine kC [] 15 (.tup [.vec 0 0, bV r7.2]) [.vec 0 (intsD r7.1)] rfl Tryz.call55 rfl rfl (impl_Colouring_renumbering_ac k p0 p1 _ hr7) rfl ?_
 refine kN 5 rfl ?_
 refine kR ?_
 refine kN 3 rfl ?_
 refine ACode_ret ?_
 cases h
 exact ⟨_, _, fun r a w h => ⟨r, h⟩, _, _, [], _, (.cons (ResV_tmp _ _ rfl) (.cons (ResV_tmp _ _ rfl) .nil)), rfl, rfl, rfl, rfl, rfl⟩

def impl_isOrder_l0 (r2 : List Int) : Nat → Int → Option (Sum (Unit) (Bool))
 | 0, _ => none
 | k0 + 1, x3 => (if decide (x3 < (r2.length : Int)) then (if 0 ≤ x3 ∧ x3 < (r2.length : Int) then (if !decide (x3 = (r2.getD x3.toNat 0)) then some (.inr false) else impl_isOrder_l0 r2 k0 (w64 (x3 + 1))) else none) else some (.inl ()))
def impl_isOrder (k : Nat) (p0 : List Int) (p1 : Int) : Option (Bool) :=
 ((sortedI p0).bind fun r2 => impl_isOrder_l0 r2 k 0 : Option (Sum (Unit) (Bool))).bind fun os7 => (match os7 with | .inl s7 => some (decide ((impl_size p0) = p1)) | .inr rr => some rr)
theorem impl_isOrder_ac (k : Nat) (p0 : List Int) (p1 : Int) (r : Bool) (h : impl_isOrder k p0 p1 = some r) : AC Tryz.prog 57 [.d (.sl none (intsD p0)), iV p1] [] (fun res H' => res = [bV r] ∧ H' = []) := by
 refine AC_of_body true Tryz.func57 rfl Tryz.ntmps57 (rvs := [.tmp 4]) rfl rfl (fun G hG => ?_)
 have hm : G.H.length = 0 := by rw [hG]; rfl
 have hz : zeroG G.H = true := by rw [hG]; rfl
 unfold impl_isOrder at h
 refine kR ?_
 refine kN 1 rfl ?_
 refine kO (fun s7 => [(0, .d (.sl none (intsD p0))), (1, iV p1)]) (fun s7 => []) h (fun os7 h hks7 => ?_) (fun s7 h => ?_)
 ·refine kR ?_
  refine kM 1 rfl ?_
  refine kC [] 8 (.d (.clo 100 [.pv ([.sl none (intsD p0)]) 0])) [] rfl Tryz.call86 rfl rfl (values_ac p0) rfl ?_
  obtain ⟨r2, hr2, h⟩ := bindO h
  refine kC [] 9 (.d (.sl none (intsD r2))) [] rfl Tryz.call85 rfl rfl (sorted_ac p0 _ hr2) rfl ?_
  refine AOps_q 10 _ rfl rfl rfl (QOp_len_sl _ _ _ _ _ _ _ (intsD_length _) rfl rfl rfl rfl Tryz.underlying40 rfl) ?_
  refine kN 1 rfl ?_
  refine ACode_block ?_
  refine ACode_loopW (fun k0 E H => ∃ (x3 : Int), E = [(0, .d (.sl none (intsD p0))), (1, iV p1), (9, .d (.sl none (intsD r2))), (10, iV (r2.length : Int)), (11, iV x3)] ∧ H = [] ∧ impl_isOrder_l0 r2 k0 x3 = some os7) k _ _ (Weak_keep 0 hm [0, 1, 9, 10, 11] [] _ _ rfl rfl rfl) ⟨_, rfl, rfl, h⟩ ?_
  clear h
  rintro k0 E H ⟨x3, rfl, rfl, h⟩
  cases k0 with
  | zero => cases (show (none : Option (Sum (Unit) (Bool))) = some _ from h)
  | succ k0 =>
   rw [impl_isOrder_l0] at h
   refine kR ?_
   refine AOps_q 12 _ rfl rfl rfl (QOp_lss _ _ _ _ _ _ _ rfl rfl rfl) ?_
   refine AOps_nil ?_
   refine ACode_seq ?_
   refine kI h rfl (fun h _ => ?_) (fun h _ => ?_)
   ·refine ACode_skip ?_
    refine ACode_seq ?_
    refine ACode_block ?_
    refine kR ?_
    refine kM 1 rfl ?_
    obtain ⟨hc5, h⟩ := guardO h
    refine AOps_q 14 _ rfl rfl rfl (QOp_indexAddr_sl _ _ _ _ _ _ _ _ rfl Tryz.underlying40 Tryz.sizeOf2 hc5.1 (by rw [intsD_length]; exact hc5.2) rfl rfl) ?_
    refine AOps_q 15 _ rfl rfl rfl (QOp_load_pv _ _ _ _ _ rfl Tryz.isAgg2 rfl (intsD_get _ _ 0 (by omega))) ?_
    refine kN 2 rfl ?_
    refine kR ?_
    refine kM 2 rfl ?_
    refine AOps_q 18 _ rfl rfl rfl (QOp_neq _ _ _ _ _ _ _ rfl rfl rfl) ?_
    refine AOps_nil ?_
    refine kI h rfl (fun h _ => ?_) (fun h _ => ?_)
    ·refine kR ?_
     refine kN 1 rfl ?_
     refine ACode_ret ?_
     cases h
     have h := hks7
     cases h
     exact ⟨_, _, fun r a w h => ⟨r, h⟩, _, _, [], _, (.cons (ResV_tmp _ _ rfl) .nil), rfl, rfl, rfl, rfl, rfl⟩
    refine ACode_skip ?_
    refine (ACode_region ?_)
    refine AOps_q 19 _ rfl rfl rfl (QOp_add _ _ _ _ _ _ _ rfl rfl rfl) ?_
    refine kN 1 rfl ?_
    exact ⟨k0, _, _, Nat.lt_succ_self _, Weak_keep 0 hm [0, 1, 9, 10, 11] [] _ _ rfl rfl rfl, _, rfl, rfl, h⟩
   refine ACode_exit ?_
   cases h
   exact ⟨_, rfl, Weak_keep 0 hm [0, 1] [] _ _ rfl rfl rfl⟩
 refine kR ?_
 refine kM 1 rfl ?_
 refine kC [] 21 (iV (impl_size p0)) [] rfl Tryz.call63 rfl rfl (impl_size_ac p0) rfl ?_
 refine kM 1 rfl ?_
 refine AOps_q 23 _ rfl rfl rfl (QOp_eql _ _ _ _ _ _ _ rfl rfl rfl) ?_
 refine kN 1 rfl ?_
 refine ACode_ret ?_
 cases h
 exact ⟨_, _, fun r a w h => ⟨r, h⟩, _, _, [], _, (.cons (ResV_tmp _ _ rfl) .nil), rfl, rfl, rfl, rfl, rfl⟩

def impl_RenumberPoints_c1 (k : Nat) (p0 : List Int) (p1 : Col) : Option (Bool) :=
 (impl_isOrder k p0 p1.p).bind fun r1 => some r1
theorem impl_RenumberPoints_c1_ac (k : Nat) (p0 : List Int) (p1 : Col) (r : Bool) (h : impl_RenumberPoints_c1 k p0 p1 = some r) : AC Tryz.prog 56 [.d (.pv ([.sl none (intsD p0)]) 0), .d (.pv (colD p1) 0)] [] (fun res H' => res = [bV r] ∧ H' = []) := by
 refine AC_of_body true Tryz.func56 rfl Tryz.ntmps56 (rvs := [.tmp 2]) rfl rfl (fun G hG => ?_)
 have hm : G.H.length = 0 := by rw [hG]; rfl
 have hz : zeroG G.H = true := by rw [hG]; rfl
 unfold impl_RenumberPoints_c1 at h
 refine kR ?_
 refine kN 1 rfl ?_
 refine kR ?_
 refine AOps_q 3 _ rfl rfl rfl (QOp_load_pv _ _ _ _ _ rfl Tryz.isAgg40 rfl rfl) ?_
 refine AOps_q 4 _ rfl rfl rfl (QOp_fieldAddr_pv _ _ _ _ _ 0 _ _ rfl Tryz.underlying26 rfl _ Tryz.sizeOf2 rfl rfl) ?_
 refine AOps_q 5 _ rfl rfl rfl (QOp_load_pv _ _ _ _ _ rfl Tryz.isAgg2 rfl rfl) ?_
 obtain ⟨r1, hr1, h⟩ := bindO h
 refine kC [] 6 (bV r1) [] rfl Tryz.call57 rfl rfl (impl_isOrder_ac k p0 p1.p _ hr1) rfl ?_
 refine kN 1 rfl ?_
 refine ACode_ret ?_
 cases h
 exact ⟨_, _, fun r a w h => ⟨r, h⟩, _, _, [], _, (.cons (ResV_tmp _ _ rfl) .nil), rfl, rfl, rfl, rfl, rfl⟩

def impl_RenumberPoints (k : Nat) (p0 : Col) (p1 : List Int) : Option (Col × Int) :=
 (impl_Colouring_code k p0 (impl_RenumberPoints_c1 k p1 p0)).bind fun r1 => (if !decide (r1 = 0) then some ((⟨0, 0, B136.zero⟩ : Col), r1) else (impl_Colouring_renumbered k p0 p1).bind fun r3 => some (r3, 0))
theorem impl_RenumberPoints_ac (k : Nat) (p0 : Col) (p1 : List Int) (r : Col × Int) (h : impl_RenumberPoints k p0 p1 = some r) : AC Tryz.prog 21 [.d (.agg (colD p0)), .d (.sl none (intsD p1))] [] (fun res H' => res = [.d (.agg (colD r.1)), iV r.2] ∧ H' = []) := by
 refine AC_of_body true Tryz.func21 rfl Tryz.ntmps21 (rvs := [.cell 4 26, .tmp 5]) rfl rfl (fun G hG => ?_)
 have hm : G.H.length = 0 := by rw [hG]; rfl
 have hz : zeroG G.H = true := by rw [hG]; rfl
 unfold impl_RenumberPoints at h
 refine kR ?_
 refine AOps_boxI 2 _ _ (.agg (colD p0)) (colD p0) rfl (colD_one _) rfl rfl rfl rfl rfl ?_
 refine AOps_boxI 3 _ _ (.sl none (intsD p1)) _ rfl (fun c hc => by cases hc with | head => rfl | tail _ h => cases h) rfl rfl rfl rfl rfl ?_
 refine AOps_alloc 4 _ _ (colD Col.zero) (zero_of Tryz.typeInfo26 rfl) (by rfl) rfl rfl rfl rfl ?_
 refine kN 1 rfl ?_
 refine ACode_seq ?_
 refine kR ?_
 refine AOps_q 7 _ rfl rfl rfl (QOp_makeFuncD _ _ _ _ rfl rfl rfl) ?_
 obtain ⟨r1, hr1, h⟩ := bindO h
 refine kC [] 8 (iV r1) [.box (colD Col.zero)] rfl Tryz.call27 rfl rfl (impl_Colouring_code_ac k p0 (impl_RenumberPoints_c1 k p1 p0) 56 ([.pv ([.sl none (intsD p1)]) 0, .pv (colD p0) 0]) Tryz.call56 (fun r h => impl_RenumberPoints_c1_ac k p1 p0 r h) _ hr1) rfl ?_
 refine kN 1 rfl ?_
 refine kR ?_
 refine kM 1 rfl ?_
 refine AOps_q 10 _ rfl rfl rfl (QOp_neq _ _ _ _ _ _ _ rfl rfl rfl) ?_
 refine AOps_nil ?_
 refine kI h rfl (fun h _ => ?_) (fun h _ => ?_)
 ·refine kR ?_
  refine AOps_q 11 _ rfl rfl rfl (QOp_build _ _ [] [] [] _ (colD Col.zero) (colD (⟨0, 0, B136.zero⟩ : Col)) [(0, 1), (1, 1), (2, 136)] rfl rfl Tryz.underlying26 (zero_of Tryz.typeInfo26 rfl) (fun w => by simp [Tryz.sizeOf2, Tryz.sizeOf2, Tryz.sizeOf24]) rfl (by rfl) (by rfl) (fun _ h => nomatch h)) ?_
  refine kM 1 rfl ?_
  refine AOps_store _ _ _ _ _ _ (colD _) _ _ rfl rfl rfl rfl rfl rfl rfl (colD_one _) (by rw [colD_length]; exact Tryz.sizeOf26) (by rw [colD_length, colD_length]; decide) (colD_whole _ _) ?_
  refine kN 1 rfl ?_
  refine ACode_ret ?_
  cases h
  exact ⟨_, _, fun r a w h => ⟨r, h⟩, _, _, [], _, (.cons (ResV_agg _ _ _ _ _ _ Tryz.isAgg26 Tryz.sizeOf26 rfl rfl (colD_take _) (colD_length _)) (.cons (ResV_tmp _ _ rfl) .nil)), rfl, rfl, rfl, rfl, rfl⟩
 refine ACode_skip ?_
 refine kR ?_
 refine AOps_q 13 _ rfl rfl rfl (QOp_load_pv _ _ _ _ _ rfl Tryz.isAgg40 rfl rfl) ?_
 obtain ⟨r3, hr3, h⟩ := bindO h
 refine kC [] 14 (.d (.agg (colD r3))) [.box (colD Col.zero)] rfl Tryz.call30 rfl rfl (impl_Colouring_renumbered_ac k p0 p1 _ hr3) rfl ?_
 refine AOps_store _ _ _ _ _ _ (colD _) _ _ rfl rfl rfl rfl rfl rfl rfl (colD_one _) (by rw [colD_length]; exact Tryz.sizeOf26) (by rw [colD_length, colD_length]; decide) (colD_whole _ _) ?_
 refine kN 1 rfl ?_
 refine ACode_ret ?_
 cases h
 exact ⟨_, _, fun r a w h => ⟨r, h⟩, _, _, [], _, (.cons (ResV_agg _ _ _ _ _ _ Tryz.isAgg26 Tryz.sizeOf26 rfl rfl (colD_take _) (colD_length _)) (.cons (ResV_tmp _ _ rfl) .nil)), rfl, rfl, rfl, rfl, rfl⟩

end Go.Proofs.YtldgmcghdohmeaaGreat
