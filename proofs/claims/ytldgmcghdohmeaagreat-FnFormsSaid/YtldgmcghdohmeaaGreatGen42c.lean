/- Plain functions of the program and that the program computes them: printed by the own tool gen.py. No conditions. -/
import Derived.Test.YtldgmcghdohmeaaGreatGen42b
set_option linter.unusedVariables false
set_option linter.unusedSimpArgs false
set_option maxRecDepth 100000
namespace Go.Proofs.YtldgmcghdohmeaaGreat
open Go Go.RowKit Ab

def spec_PointOrbits_l1 (k : Nat) (p0 : Col) (x4 : Int) : Nat → Int → (List Bool) → (List Int) → Option (List Bool × List Int)
 | 0, _, _, _ => none
 | k1 + 1, x10, x11, x12 => (if decide (x10 < p0.p) then (((if 0 ≤ x10 ∧ x10 < (x11.length : Int) then (if !(x11.getD x10.toNat false) then (spec_l06Moves k p0 x4 x10).bind fun r16 => some r16 else some false) else none) : Option (Bool)).bind fun s17 => (if s17 then (if 0 ≤ x10 ∧ x10 < (x11.length : Int) then (if x12.length + ([x10]).length ≤ 1099511627776 then some (x11.set x10.toNat true, (x12 ++ ([x10]))) else none) else none) else some (x11, x12)) : Option (List Bool × List Int)).bind fun s21 => spec_PointOrbits_l1 k p0 x4 k1 (w64 (x10 + 1)) s21.1 s21.2 else some (x11, x12))
def spec_PointOrbits_l0 (k : Nat) (p0 : Col) : Nat → Int → (List Bool) → (List (List Int)) → Option (List (List Int))
 | 0, _, _, _ => none
 | k0 + 1, x4, x5, x6 => (if decide (x4 < p0.p) then ((if 0 ≤ x4 ∧ x4 < (x5.length : Int) then (if (x5.getD x4.toNat false) then some (x5, x6) else (spec_PointOrbits_l1 k p0 x4 k x4 x5 ([] : List Int) : Option (List Bool × List Int)).bind fun s22 => (if x6.length + ([s22.2]).length ≤ 1099511627776 then some (s22.1, (x6 ++ ([s22.2]))) else none)) else none) : Option (List Bool × List (List Int))).bind fun s24 => spec_PointOrbits_l0 k p0 k0 (w64 (x4 + 1)) s24.1 s24.2 else some x6)
def spec_PointOrbits (k : Nat) (p0 : Col) : Option (List (List Int) × Int) :=
 (spec_l01Is k p0).bind fun r1 => (if !r1 then some ([], 1) else (if 0 ≤ p0.p ∧ p0.p ≤ p0.p ∧ p0.p ≤ 1099511627776 then (spec_PointOrbits_l0 k p0 k 0 (List.replicate p0.p.toNat (false : Bool)) ([] : List (List Int)) : Option (List (List Int))).bind fun s25 => some (s25, 0) else none))
theorem spec_PointOrbits_ac (k : Nat) (p0 : Col) (r : List (List Int) × Int) (h : spec_PointOrbits k p0 = some r) : AC Tryz.prog 10 [.d (.agg (colD p0))] [] (fun res H' => res = [.d (.sl none (rowsD r.1)), iV r.2] ∧ H' = []) := by
 refine AC_of_body true Tryz.func10 rfl Tryz.ntmps10 (rvs := [.tmp 2, .tmp 3]) rfl rfl (fun G hG => ?_)
 have hm : G.H.length = 0 := by rw [hG]; rfl
 have hz : zeroG G.H = true := by rw [hG]; rfl
 unfold spec_PointOrbits at h
 refine kR ?_
 refine AOps_boxI 1 _ _ (.agg (colD p0)) (colD p0) rfl (colD_one _) rfl rfl rfl rfl rfl ?_
 refine kN 2 rfl ?_
 refine ACode_seq ?_
 refine kR ?_
 refine AOps_q 9 _ rfl rfl rfl (QOp_loadN_pv _ _ _ _ _ _ rfl Tryz.isAgg26 Tryz.sizeOf26 rfl (colD_all _) (colD_length _)) ?_
 obtain ⟨r1, hr1, h⟩ := bindO h
 refine kC [] 10 (bV r1) [] rfl Tryz.call32 rfl rfl (spec_l01Is_ac k p0 _ hr1) rfl ?_
 refine AOps_q 11 _ rfl rfl rfl (QOp_not _ _ _ rfl rfl) ?_
 refine AOps_nil ?_
 refine kI h rfl (fun h _ => ?_) (fun h _ => ?_)
 ·refine kR ?_
  refine kN 2 rfl ?_
  refine ACode_ret ?_
  cases h
  exact ⟨_, _, fun r a w h => ⟨r, h⟩, _, _, [], _, (.cons (ResV_tmp _ _ rfl) (.cons (ResV_tmp _ _ rfl) .nil)), rfl, rfl, rfl, rfl, rfl⟩
 refine ACode_skip ?_
 refine kR ?_
 refine AOps_q 12 _ rfl rfl rfl (QOp_fieldAddr_pv _ _ _ _ _ 0 _ _ rfl Tryz.underlying26 rfl _ Tryz.sizeOf2 rfl rfl) ?_
 refine AOps_q 13 _ rfl rfl rfl (QOp_load_pv _ _ _ _ _ rfl Tryz.isAgg2 rfl rfl) ?_
 obtain ⟨hc3, h⟩ := guardO h
 refine AOps_makeSliceG bosD bD false (bosD_rep · _) 14 _ _ _ _ _ _ p0.p p0.p _ (.bool false) rfl rfl rfl rfl rfl rfl Tryz.underlying62 Tryz.type4 rfl rfl (by decide) rfl rfl hc3.1 hc3.2.1 hc3.2.2 ?_
 refine AOps_buildSlice 15 _ _ _ [] (rowsD ([] : List (List Int))) _ rfl rfl rfl rfl rfl (by decide) Tryz.underlying30 Tryz.sizeOf40 (zero_of Tryz.typeInfo40 rfl) rfl rfl (rowsD_one _) ?_
 refine kN 2 rfl ?_
 refine kB (fun s25 => [(5, .vec 0 0)]) (fun s25 => [.vec 0 (rowsD s25)]) h (fun s25 h => ?_) (fun s25 h => ?_)
 ·refine kR ?_
  refine kN 1 rfl ?_
  refine ACode_block ?_
  refine ACode_loopW (fun k0 E H => ∃ (x4 : Int) (x5 : List Bool) (x6 : List (List Int)), E = [(1, .d (.pv (colD p0) 0)), (4, .vec 0 0), (5, .vec 1 0), (6, iV x4)] ∧ H = [.vec 0 (bosD x5), .vec 0 (rowsD x6)] ∧ spec_PointOrbits_l0 k p0 k0 x4 x5 x6 = some s25) k _ _ (Weak_keep 0 hm [1, 4, 5, 6] [0, 1] _ _ rfl rfl rfl) ⟨_, _, _, rfl, rfl, h⟩ ?_
  clear h
  rintro k0 E H ⟨x4, x5, x6, rfl, rfl, h⟩
  cases k0 with
  | zero => cases (show (none : Option (List (List Int))) = some _ from h)
  | succ k0 =>
   rw [spec_PointOrbits_l0] at h
   refine ACode_seq ?_
   refine kR ?_
   refine kM 1 rfl ?_
   refine AOps_q 17 _ rfl rfl rfl (QOp_fieldAddr_pv _ _ _ _ _ 0 _ _ rfl Tryz.underlying26 rfl _ Tryz.sizeOf2 rfl rfl) ?_
   refine AOps_q 18 _ rfl rfl rfl (QOp_load_pv _ _ _ _ _ rfl Tryz.isAgg2 rfl rfl) ?_
   refine AOps_q 19 _ rfl rfl rfl (QOp_lss _ _ _ _ _ _ _ rfl rfl rfl) ?_
   refine AOps_nil ?_
   refine kI h rfl (fun h _ => ?_) (fun h _ => ?_)
   ·refine ACode_skip ?_
    refine kB (fun s24 => [(1, .d (.pv (colD p0) 0)), (4, .vec 0 0), (5, .vec 1 0), (6, iV x4)]) (fun s24 => [.vec 0 (bosD s24.1), .vec 0 (rowsD s24.2)]) h (fun s24 h => ?_) (fun s24 h => ?_)
    ·refine ACode_block ?_
     refine ACode_seq ?_
     refine kR ?_
     refine kM 2 rfl ?_
     obtain ⟨hc8, h⟩ := guardO h
     refine AOps_q 24 _ rfl rfl rfl (QOp_indexAddr_vec _ _ _ _ _ _ _ _ _ rfl Tryz.underlying62 Tryz.sizeOf4 hc8.1 (by rw [bosD_length]; exact hc8.2) rfl rfl rfl) ?_
     refine AOps_q 25 _ rfl rfl rfl (QOp_load_eptr _ _ _ _ _ _ _ rfl Tryz.isAgg4 rfl rfl (bosD_get _ _ false (by omega))) ?_
     refine AOps_nil ?_
     refine kI h rfl (fun h _ => ?_) (fun h _ => ?_)
     ·refine ACode_exit ?_
      cases h
      exact Weak_keep 0 hm [1, 4, 5, 6] [0, 1] _ _ rfl rfl rfl
     refine ACode_skip ?_
     refine kR ?_
     refine AOps_buildSlice 26 _ _ _ [] (intsD ([] : List Int)) _ rfl rfl rfl rfl rfl (by decide) Tryz.underlying40 Tryz.sizeOf2 (zero_of Tryz.typeInfo2 rfl) rfl rfl (intsD_one _) ?_
     refine kN 1 rfl ?_
     refine kB (fun s22 => [(1, .d (.pv (colD p0) 0)), (4, .vec 0 0), (5, .vec 1 0), (6, iV x4), (7, .vec 2 0)]) (fun s22 => [.vec 0 (bosD s22.1), .vec 0 (rowsD x6), .vec 0 (intsD s22.2)]) h (fun s22 h => ?_) (fun s22 h => ?_)
     ·refine kR ?_
      refine kN 2 rfl ?_
      refine ACode_block ?_
      refine ACode_loopW (fun k1 E H => ∃ (x10 : Int) (x11 : List Bool) (x12 : List Int), E = [(1, .d (.pv (colD p0) 0)), (4, .vec 0 0), (5, .vec 1 0), (6, iV x4), (7, .vec 2 0), (8, iV x10)] ∧ H = [.vec 0 (bosD x11), .vec 0 (rowsD x6), .vec 0 (intsD x12)] ∧ spec_PointOrbits_l1 k p0 x4 k1 x10 x11 x12 = some s22) k _ _ (Weak_keep 0 hm [1, 4, 5, 6, 7, 8] [0, 1, 2] _ _ rfl rfl rfl) ⟨_, _, _, rfl, rfl, h⟩ ?_
      clear h
      rintro k1 E H ⟨x10, x11, x12, rfl, rfl, h⟩
      cases k1 with
      | zero => cases (show (none : Option (List Bool × List Int)) = some _ from h)
      | succ k1 =>
       rw [spec_PointOrbits_l1] at h
       refine ACode_seq ?_
       refine kR ?_
       refine kM 1 rfl ?_
       refine AOps_q 29 _ rfl rfl rfl (QOp_fieldAddr_pv _ _ _ _ _ 0 _ _ rfl Tryz.underlying26 rfl _ Tryz.sizeOf2 rfl rfl) ?_
       refine AOps_q 30 _ rfl rfl rfl (QOp_load_pv _ _ _ _ _ rfl Tryz.isAgg2 rfl rfl) ?_
       refine AOps_q 31 _ rfl rfl rfl (QOp_lss _ _ _ _ _ _ _ rfl rfl rfl) ?_
       refine AOps_nil ?_
       refine kI h rfl (fun h _ => ?_) (fun h _ => ?_)
       ·refine ACode_skip ?_
        refine kB (fun s21 => [(1, .d (.pv (colD p0) 0)), (4, .vec 0 0), (5, .vec 1 0), (6, iV x4), (7, .vec 2 0), (8, iV x10)]) (fun s21 => [.vec 0 (bosD s21.1), .vec 0 (rowsD x6), .vec 0 (intsD s21.2)]) h (fun s21 h => ?_) (fun s21 h => ?_)
        ·refine ACode_block ?_
         refine kB (fun s17 => [(1, .d (.pv (colD p0) 0)), (4, .vec 0 0), (5, .vec 1 0), (6, iV x4), (7, .vec 2 0), (8, iV x10), (44, bV s17)]) (fun s17 => [.vec 0 (bosD x11), .vec 0 (rowsD x6), .vec 0 (intsD x12)]) h (fun s17 h => ?_) (fun s17 h => ?_)
         ·refine (ACode_region ?_)
          refine kM 2 rfl ?_
          obtain ⟨hc14, h⟩ := guardO h
          refine AOps_q 36 _ rfl rfl rfl (QOp_indexAddr_vec _ _ _ _ _ _ _ _ _ rfl Tryz.underlying62 Tryz.sizeOf4 hc14.1 (by rw [bosD_length]; exact hc14.2) rfl rfl rfl) ?_
          refine AOps_q 37 _ rfl rfl rfl (QOp_load_eptr _ _ _ _ _ _ _ rfl Tryz.isAgg4 rfl rfl (bosD_get _ _ false (by omega))) ?_
          refine AOps_q 38 _ rfl rfl rfl (QOp_not _ _ _ rfl rfl) ?_
          refine kM 1 rfl ?_
          refine AOps_case 39 _ rfl (fun hb15 => ?_) (fun hb15 => ?_)
          ·have h := iteT hb15 h
           refine AOps_q 40 _ rfl rfl rfl (QOp_loadN_pv _ _ _ _ _ _ rfl Tryz.isAgg26 Tryz.sizeOf26 rfl (colD_all _) (colD_length _)) ?_
           refine kM 2 rfl ?_
           obtain ⟨r16, hr16, h⟩ := bindO h
           refine kC [] 43 (bV r16) [.vec 0 (bosD x11), .vec 0 (rowsD x6), .vec 0 (intsD x12)] rfl Tryz.call40 rfl rfl (spec_l06Moves_ac k p0 x4 x10 _ hr16) rfl ?_
           refine kN 1 rfl ?_
           cases h
           exact Weak_keep 0 hm [1, 4, 5, 6, 7, 8, 44] [0, 1, 2] _ _ rfl rfl rfl
          have h := iteF hb15 h
          refine AOps_skip 40 rfl rfl rfl ?_
          refine AOps_skip 41 rfl rfl rfl ?_
          refine AOps_skip 42 rfl rfl rfl ?_
          refine AOps_skip 43 rfl rfl rfl ?_
          refine kN 1 rfl ?_
          cases h
          exact Weak_keep 0 hm [1, 4, 5, 6, 7, 8, 44] [0, 1, 2] _ _ rfl rfl rfl
         refine kI h rfl (fun h _ => ?_) (fun h _ => ?_)
         ·refine kR ?_
          refine kM 2 rfl ?_
          obtain ⟨hc19, h⟩ := guardO h
          refine AOps_q 47 _ rfl rfl rfl (QOp_indexAddr_vec _ _ _ _ _ _ _ _ _ rfl Tryz.underlying62 Tryz.sizeOf4 hc19.1 (by rw [bosD_length]; exact hc19.2) rfl rfl rfl) ?_
          refine AOps_store_eptr _ _ _ _ _ _ (bosD x11) _ rfl rfl rfl rfl rfl rfl rfl Tryz.sizeOf4 (by rw [bosD_length]; omega) ?_
          rw [bosD_set]
          refine AOps_nil ?_
          refine (ACode_region ?_)
          refine kM 2 rfl ?_
          refine AOps_buildSlice 50 _ _ _ [_] (intsD ([x10])) _ rfl rfl rfl rfl rfl (by decide) Tryz.underlying40 Tryz.sizeOf2 (zero_of Tryz.typeInfo2 rfl) rfl rfl (intsD_one _) ?_
          obtain ⟨hc20, h⟩ := guardO h
          refine AOps_append 51 _ _ _ _ _ _ _ _ _ _ _ _ rfl rfl rfl rfl rfl rfl rfl Tryz.underlying40 Tryz.type2 rfl rfl rfl (by decide) rfl rfl rfl rfl (intsD_one _) (by rw [intsD_length, intsD_length]; exact hc20) ?_
          rw [intsD_app]
          refine kN 1 rfl ?_
          cases h
          exact Weak_trans (Weak_keep 0 hm [1, 4, 5, 6, 7, 8] [0, 1, 2] _ _ rfl rfl rfl) (Weak_reset 0 hm hz [1, 4, 5, 6, 7, 8] _ _ rfl rfl)
         refine ACode_skip ?_
         cases h
         exact Weak_keep 0 hm [1, 4, 5, 6, 7, 8] [0, 1, 2] _ _ rfl rfl rfl
        refine (ACode_region ?_)
        refine kM 1 rfl ?_
        refine AOps_q 33 _ rfl rfl rfl (QOp_add _ _ _ _ _ _ _ rfl rfl rfl) ?_
        refine kN 1 rfl ?_
        exact ⟨k1, _, _, Nat.lt_succ_self _, Weak_keep 0 hm [1, 4, 5, 6, 7, 8] [0, 1, 2] _ _ rfl rfl rfl, _, _, _, rfl, rfl, h⟩
       refine ACode_exit ?_
       cases h
       exact Weak_keep 0 hm [1, 4, 5, 6, 7] [0, 1, 2] _ _ rfl rfl rfl
     refine (ACode_region ?_)
     refine kM 2 rfl ?_
     refine AOps_freezeL [7, 53] 2 0 _ (allc (rfl) (allc (rfl) (fun _ h => nomatch h))) rfl ?_
     refine AOps_buildSlice 54 _ _ _ [_] (rowsD ([s22.2])) _ rfl rfl rfl rfl rfl (by decide) Tryz.underlying30 Tryz.sizeOf40 (zero_of Tryz.typeInfo40 rfl) rfl rfl (rowsD_one _) ?_
     obtain ⟨hc23, h⟩ := guardO h
     refine AOps_append 55 _ _ _ _ _ _ _ _ _ _ _ _ rfl rfl rfl rfl rfl rfl rfl Tryz.underlying30 Tryz.type40 rfl rfl rfl (by decide) rfl rfl rfl rfl (rowsD_one _) (by rw [rowsD_length, rowsD_length]; exact hc23) ?_
     rw [rowsD_app]
     refine kN 1 rfl ?_
     cases h
     exact Weak_trans (Weak_keep 0 hm [1, 4, 5, 6] [0, 1] _ _ rfl rfl rfl) (Weak_reset 0 hm hz [1, 4, 5, 6] _ _ rfl rfl)
    refine (ACode_region ?_)
    refine kM 1 rfl ?_
    refine AOps_q 21 _ rfl rfl rfl (QOp_add _ _ _ _ _ _ _ rfl rfl rfl) ?_
    refine kN 1 rfl ?_
    exact ⟨k0, _, _, Nat.lt_succ_self _, Weak_keep 0 hm [1, 4, 5, 6] [0, 1] _ _ rfl rfl rfl, _, _, _, rfl, rfl, h⟩
   refine ACode_exit ?_
   cases h
   exact Weak_keep 0 hm [5] [1] _ _ rfl rfl rfl
 refine kR ?_
 refine kN 3 rfl ?_
 refine ACode_ret ?_
 cases h
 exact ⟨_, _, fun r a w h => ⟨r, h⟩, _, _, [], _, (.cons (ResV_tmp _ _ rfl) (.cons (ResV_tmp _ _ rfl) .nil)), rfl, rfl, rfl, rfl, rfl⟩

def laws_likeInts_l0 (p0 : List Int) (p1 : List Int) : Nat → Int → Option (Sum (Unit) (Bool))
 | 0, _ => none
 | k0 + 1, x2 => (if decide (x2 < (p0.length : Int)) then (if 0 ≤ x2 ∧ x2 < (p0.length : Int) then (if 0 ≤ x2 ∧ x2 < (p1.length : Int) then (if !decide ((p0.getD x2.toNat 0) = (p1.getD x2.toNat 0)) then some (.inr false) else laws_likeInts_l0 p0 p1 k0 (w64 (x2 + 1))) else none) else none) else some (.inl ()))
def laws_likeInts (k : Nat) (p0 : List Int) (p1 : List Int) : Option (Bool) :=
 (if !decide ((p0.length : Int) = (p1.length : Int)) then some false else (laws_likeInts_l0 p0 p1 k 0 : Option (Sum (Unit) (Bool))).bind fun os7 => (match os7 with | .inl s7 => some true | .inr rr => some rr))
theorem laws_likeInts_ac (k : Nat) (p0 : List Int) (p1 : List Int) (r : Bool) (h : laws_likeInts k p0 p1 = some r) : AC Tryz.prog 41 [.d (.sl none (intsD p0)), .d (.sl none (intsD p1))] [] (fun res H' => res = [bV r] ∧ H' = []) := by
 refine AC_of_body true Tryz.func41 rfl Tryz.ntmps41 (rvs := [.tmp 4]) rfl rfl (fun G hG => ?_)
 have hm : G.H.length = 0 := by rw [hG]; rfl
 have hz : zeroG G.H = true := by rw [hG]; rfl
 unfold laws_likeInts at h
 refine kR ?_
 refine kN 1 rfl ?_
 refine ACode_seq ?_
 refine kR ?_
 refine kM 1 rfl ?_
 refine AOps_q 7 _ rfl rfl rfl (QOp_len_sl _ _ _ _ _ _ _ (intsD_length _) rfl rfl rfl rfl Tryz.underlying40 rfl) ?_
 refine kM 1 rfl ?_
 refine AOps_q 9 _ rfl rfl rfl (QOp_len_sl _ _ _ _ _ _ _ (intsD_length _) rfl rfl rfl rfl Tryz.underlying40 rfl) ?_
 refine AOps_q 10 _ rfl rfl rfl (QOp_neq _ _ _ _ _ _ _ rfl rfl rfl) ?_
 refine AOps_nil ?_
 refine kI h rfl (fun h _ => ?_) (fun h _ => ?_)
 ·refine kR ?_
  refine kN 1 rfl ?_
  refine ACode_ret ?_
  cases h
  exact ⟨_, _, fun r a w h => ⟨r, h⟩, _, _, [], _, (.cons (ResV_tmp _ _ rfl) .nil), rfl, rfl, rfl, rfl, rfl⟩
 refine ACode_skip ?_
 refine kO (fun s7 => []) (fun s7 => []) h (fun os7 h hks7 => ?_) (fun s7 h => ?_)
 ·refine kR ?_
  refine kN 1 rfl ?_
  refine ACode_block ?_
  refine ACode_loopW (fun k0 E H => ∃ (x2 : Int), E = [(0, .d (.sl none (intsD p0))), (1, .d (.sl none (intsD p1))), (5, iV x2)] ∧ H = [] ∧ laws_likeInts_l0 p0 p1 k0 x2 = some os7) k _ _ (Weak_keep 0 hm [0, 1, 5] [] _ _ rfl rfl rfl) ⟨_, rfl, rfl, h⟩ ?_
  clear h
  rintro k0 E H ⟨x2, rfl, rfl, h⟩
  cases k0 with
  | zero => cases (show (none : Option (Sum (Unit) (Bool))) = some _ from h)
  | succ k0 =>
   rw [laws_likeInts_l0] at h
   refine ACode_seq ?_
   refine kR ?_
   refine kM 2 rfl ?_
   refine AOps_q 13 _ rfl rfl rfl (QOp_len_sl _ _ _ _ _ _ _ (intsD_length _) rfl rfl rfl rfl Tryz.underlying40 rfl) ?_
   refine AOps_q 14 _ rfl rfl rfl (QOp_lss _ _ _ _ _ _ _ rfl rfl rfl) ?_
   refine AOps_nil ?_
   refine kI h rfl (fun h _ => ?_) (fun h _ => ?_)
   ·refine ACode_skip ?_
    refine ACode_seq ?_
    refine ACode_block ?_
    refine ACode_seq (ACode_quiet mixed (by kernel_rfl) ?_)
    refine kQ 2 rfl ?_
    obtain ⟨hc4, h⟩ := guardO h
    refine AQ_q 19 _ rfl rfl rfl (QOp_indexAddr_sl _ _ _ _ _ _ _ _ rfl Tryz.underlying40 Tryz.sizeOf2 hc4.1 (by rw [intsD_length]; exact hc4.2) rfl rfl) ?_
    refine AQ_q 20 _ rfl rfl rfl (QOp_load_pv _ _ _ _ _ rfl Tryz.isAgg2 rfl (intsD_get _ _ 0 (by omega))) ?_
    refine kQ 2 rfl ?_
    obtain ⟨hc5, h⟩ := guardO h
    refine AQ_q 23 _ rfl rfl rfl (QOp_indexAddr_sl _ _ _ _ _ _ _ _ rfl Tryz.underlying40 Tryz.sizeOf2 hc5.1 (by rw [intsD_length]; exact hc5.2) rfl rfl) ?_
    refine AQ_q 24 _ rfl rfl rfl (QOp_load_pv _ _ _ _ _ rfl Tryz.isAgg2 rfl (intsD_get _ _ 0 (by omega))) ?_
    refine AQ_q 25 _ rfl rfl rfl (QOp_neq _ _ _ _ _ _ _ rfl rfl rfl) ?_
    refine AQ_nil ?_
    refine kI h rfl (fun h _ => ?_) (fun h _ => ?_)
    ·refine kR ?_
     refine kN 1 rfl ?_
     refine ACode_ret ?_
     cases h
     have h := hks7
     cases h
     exact ⟨_, _, fun r a w h => ⟨r, h⟩, _, _, [], _, (.cons (ResV_tmp _ _ rfl) .nil), rfl, rfl, rfl, rfl, rfl⟩
    refine ACode_skip ?_
    refine (ACode_region ?_)
    refine kM 1 rfl ?_
    refine AOps_q 16 _ rfl rfl rfl (QOp_add _ _ _ _ _ _ _ rfl rfl rfl) ?_
    refine kN 1 rfl ?_
    exact ⟨k0, _, _, Nat.lt_succ_self _, Weak_keep 0 hm [0, 1, 5] [] _ _ rfl rfl rfl, _, rfl, rfl, h⟩
   refine ACode_exit ?_
   cases h
   exact ⟨_, rfl, Weak_keep 0 hm [] [] _ _ rfl rfl rfl⟩
 refine kR ?_
 refine kN 1 rfl ?_
 refine ACode_ret ?_
 cases h
 exact ⟨_, _, fun r a w h => ⟨r, h⟩, _, _, [], _, (.cons (ResV_tmp _ _ rfl) .nil), rfl, rfl, rfl, rfl, rfl⟩

def laws_rows9_l0 (k : Nat) (p0 : List (List Int)) (p1 : List (List Int)) : Nat → Int → Option (Sum (Unit) (Bool))
 | 0, _ => none
 | k0 + 1, x2 => (if decide (x2 < (p0.length : Int)) then (if 0 ≤ x2 ∧ x2 < (p0.length : Int) then (if 0 ≤ x2 ∧ x2 < (p1.length : Int) then (laws_likeInts k (p0.getD x2.toNat []) (p1.getD x2.toNat [])).bind fun r6 => (if !r6 then some (.inr false) else laws_rows9_l0 k p0 p1 k0 (w64 (x2 + 1))) else none) else none) else some (.inl ()))
def laws_rows9 (k : Nat) (p0 : List (List Int)) (p1 : List (List Int)) : Option (Bool) :=
 (if !decide ((p0.length : Int) = (p1.length : Int)) then some false else (laws_rows9_l0 k p0 p1 k 0 : Option (Sum (Unit) (Bool))).bind fun os8 => (match os8 with | .inl s8 => some true | .inr rr => some rr))
theorem laws_rows9_ac (k : Nat) (p0 : List (List Int)) (p1 : List (List Int)) (r : Bool) (h : laws_rows9 k p0 p1 = some r) : AC Tryz.prog 11 [.d (.sl none (rowsD p0)), .d (.sl none (rowsD p1))] [] (fun res H' => res = [bV r] ∧ H' = []) := by
 refine AC_of_body true Tryz.func11 rfl Tryz.ntmps11 (rvs := [.tmp 4]) rfl rfl (fun G hG => ?_)
 have hm : G.H.length = 0 := by rw [hG]; rfl
 have hz : zeroG G.H = true := by rw [hG]; rfl
 unfold laws_rows9 at h
 refine kR ?_
 refine kN 1 rfl ?_
 refine ACode_seq ?_
 refine kR ?_
 refine kM 1 rfl ?_
 refine AOps_q 7 _ rfl rfl rfl (QOp_len_sl _ _ _ _ _ _ _ (rowsD_length _) rfl rfl rfl rfl Tryz.underlying30 rfl) ?_
 refine kM 1 rfl ?_
 refine AOps_q 9 _ rfl rfl rfl (QOp_len_sl _ _ _ _ _ _ _ (rowsD_length _) rfl rfl rfl rfl Tryz.underlying30 rfl) ?_
 refine AOps_q 10 _ rfl rfl rfl (QOp_neq _ _ _ _ _ _ _ rfl rfl rfl) ?_
 refine AOps_nil ?_
 refine kI h rfl (fun h _ => ?_) (fun h _ => ?_)
 ·refine kR ?_
  refine kN 1 rfl ?_
  refine ACode_ret ?_
  cases h
  exact ⟨_, _, fun r a w h => ⟨r, h⟩, _, _, [], _, (.cons (ResV_tmp _ _ rfl) .nil), rfl, rfl, rfl, rfl, rfl⟩
 refine ACode_skip ?_
 refine kO (fun s8 => []) (fun s8 => []) h (fun os8 h hks8 => ?_) (fun s8 h => ?_)
 ·refine kR ?_
  refine kN 1 rfl ?_
  refine ACode_block ?_
  refine ACode_loopW (fun k0 E H => ∃ (x2 : Int), E = [(0, .d (.sl none (rowsD p0))), (1, .d (.sl none (rowsD p1))), (5, iV x2)] ∧ H = [] ∧ laws_rows9_l0 k p0 p1 k0 x2 = some os8) k _ _ (Weak_keep 0 hm [0, 1, 5] [] _ _ rfl rfl rfl) ⟨_, rfl, rfl, h⟩ ?_
  clear h
  rintro k0 E H ⟨x2, rfl, rfl, h⟩
  cases k0 with
  | zero => cases (show (none : Option (Sum (Unit) (Bool))) = some _ from h)
  | succ k0 =>
   rw [laws_rows9_l0] at h
   refine ACode_seq ?_
   refine kR ?_
   refine kM 2 rfl ?_
   refine AOps_q 13 _ rfl rfl rfl (QOp_len_sl _ _ _ _ _ _ _ (rowsD_length _) rfl rfl rfl rfl Tryz.underlying30 rfl) ?_
   refine AOps_q 14 _ rfl rfl rfl (QOp_lss _ _ _ _ _ _ _ rfl rfl rfl) ?_
   refine AOps_nil ?_
   refine kI h rfl (fun h _ => ?_) (fun h _ => ?_)
   ·refine ACode_skip ?_
    refine ACode_seq ?_
    refine ACode_block ?_
    refine ACode_seq (ACode_quiet mixed (by kernel_rfl) ?_)
    refine kQ 2 rfl ?_
    obtain ⟨hc4, h⟩ := guardO h
    refine AQ_q 19 _ rfl rfl rfl (QOp_indexAddr_sl _ _ _ _ _ _ _ _ rfl Tryz.underlying30 Tryz.sizeOf40 hc4.1 (by rw [rowsD_length]; exact hc4.2) rfl rfl) ?_
    refine AQ_q 20 _ rfl rfl rfl (QOp_load_pv _ _ _ _ _ rfl Tryz.isAgg40 rfl (rowsD_get _ _ [] (by omega))) ?_
    refine kQ 2 rfl ?_
    obtain ⟨hc5, h⟩ := guardO h
    refine AQ_q 23 _ rfl rfl rfl (QOp_indexAddr_sl _ _ _ _ _ _ _ _ rfl Tryz.underlying30 Tryz.sizeOf40 hc5.1 (by rw [rowsD_length]; exact hc5.2) rfl rfl) ?_
    refine AQ_q 24 _ rfl rfl rfl (QOp_load_pv _ _ _ _ _ rfl Tryz.isAgg40 rfl (rowsD_get _ _ [] (by omega))) ?_
    obtain ⟨r6, hr6, h⟩ := bindO h
    refine AQ_call 25 _ _ _ _ _ _ _ _ _ rfl rfl rfl rfl rfl rfl rfl Tryz.call41 rfl rfl rfl (laws_likeInts_ac k (p0.getD x2.toNat []) (p1.getD x2.toNat []) _ hr6) ?_
    refine AQ_q 26 _ rfl rfl rfl (QOp_not _ _ _ rfl rfl) ?_
    refine AQ_nil ?_
    refine kI h rfl (fun h _ => ?_) (fun h _ => ?_)
    ·refine kR ?_
     refine kN 1 rfl ?_
     refine ACode_ret ?_
     cases h
     have h := hks8
     cases h
     exact ⟨_, _, fun r a w h => ⟨r, h⟩, _, _, [], _, (.cons (ResV_tmp _ _ rfl) .nil), rfl, rfl, rfl, rfl, rfl⟩
    refine ACode_skip ?_
    refine (ACode_region ?_)
    refine kM 1 rfl ?_
    refine AOps_q 16 _ rfl rfl rfl (QOp_add _ _ _ _ _ _ _ rfl rfl rfl) ?_
    refine kN 1 rfl ?_
    exact ⟨k0, _, _, Nat.lt_succ_self _, Weak_keep 0 hm [0, 1, 5] [] _ _ rfl rfl rfl, _, rfl, rfl, h⟩
   refine ACode_exit ?_
   cases h
   exact ⟨_, rfl, Weak_keep 0 hm [] [] _ _ rfl rfl rfl⟩
 refine kR ?_
 refine kN 1 rfl ?_
 refine ACode_ret ?_
 cases h
 exact ⟨_, _, fun r a w h => ⟨r, h⟩, _, _, [], _, (.cons (ResV_tmp _ _ rfl) .nil), rfl, rfl, rfl, rfl, rfl⟩

def impl_Colouring_that_l0 (p0 : Col) (p1 : Int → Option (Bool)) : Nat → Int → (List Int) → Option (List Int)
 | 0, _, _ => none
 | k0 + 1, x1, x2 => (if decide (x1 < p0.p) then ((p1 x1).bind fun r4 => (if r4 then (if x2.length + ([x1]).length ≤ 1099511627776 then some (x2 ++ ([x1])) else none) else some x2) : Option (List Int)).bind fun s7 => impl_Colouring_that_l0 p0 p1 k0 (w64 (x1 + 1)) s7 else some x2)
def impl_Colouring_that (k : Nat) (p0 : Col) (p1 : Int → Option (Bool)) : Option (List Int) :=
 (impl_Colouring_that_l0 p0 p1 k 0 ([] : List Int) : Option (List Int)).bind fun s8 => some s8
theorem impl_Colouring_that_ac (k : Nat) (p0 : Col) (p1 : Int → Option (Bool)) (g_p1 : FuncId) (c_p1 : List D) (hg_p1 : ∀ args w, (callFunc g_p1 args).run Tryz.prog w = .ok (.enter g_p1 args) w) (hf_p1 : ∀ (a0 : Int) (r : Bool), p1 a0 = some r → AC Tryz.prog g_p1 ([iV a0] ++ c_p1.map AV.d) [] (fun res H' => res = [bV r] ∧ H' = [])) (r : List Int) (h : impl_Colouring_that k p0 p1 = some r) : AC Tryz.prog 74 [.d (.pv (colD p0) 0), .d (.clo g_p1 c_p1)] [] (fun res H' => res = [.vec 0 0] ∧ H' = [.vec 0 (intsD r)]) := by
 refine AC_of_body true Tryz.func74 rfl Tryz.ntmps74 (rvs := [.tmp 4]) rfl rfl (fun G hG => ?_)
 have hm : G.H.length = 0 := by rw [hG]; rfl
 have hz : zeroG G.H = true := by rw [hG]; rfl
 unfold impl_Colouring_that at h
 refine kR ?_
 refine kN 1 rfl ?_
 refine kR ?_
 refine AOps_buildSlice 7 _ _ _ [] (intsD ([] : List Int)) _ rfl rfl rfl rfl rfl (by decide) Tryz.underlying40 Tryz.sizeOf2 (zero_of Tryz.typeInfo2 rfl) rfl rfl (intsD_one _) ?_
 refine kN 1 rfl ?_
 refine kB (fun s8 => [(5, .vec 0 0)]) (fun s8 => [.vec 0 (intsD s8)]) h (fun s8 h => ?_) (fun s8 h => ?_)
 ·refine kR ?_
  refine kM 1 rfl ?_
  refine AOps_q 9 _ rfl rfl rfl (QOp_nilCheck_pv _ _ _ rfl rfl) ?_
  refine AOps_q 10 _ rfl rfl rfl (QOp_fieldAddr_pv _ _ _ _ _ 0 _ _ rfl Tryz.underlying26 rfl _ Tryz.sizeOf2 rfl rfl) ?_
  refine AOps_q 11 _ rfl rfl rfl (QOp_load_pv _ _ _ _ _ rfl Tryz.isAgg2 rfl rfl) ?_
  refine kN 1 rfl ?_
  refine ACode_block ?_
  refine ACode_loopW (fun k0 E H => ∃ (x1 : Int) (x2 : List Int), E = [(1, .d (.clo g_p1 c_p1)), (5, .vec 0 0), (11, iV p0.p), (12, iV x1)] ∧ H = [.vec 0 (intsD x2)] ∧ impl_Colouring_that_l0 p0 p1 k0 x1 x2 = some s8) k _ _ (Weak_keep 0 hm [1, 5, 11, 12] [0] _ _ rfl rfl rfl) ⟨_, _, rfl, rfl, h⟩ ?_
  clear h
  rintro k0 E H ⟨x1, x2, rfl, rfl, h⟩
  cases k0 with
  | zero => cases (show (none : Option (List Int)) = some _ from h)
  | succ k0 =>
   rw [impl_Colouring_that_l0] at h
   refine kR ?_
   refine AOps_q 13 _ rfl rfl rfl (QOp_lss _ _ _ _ _ _ _ rfl rfl rfl) ?_
   refine AOps_nil ?_
   refine ACode_seq ?_
   refine kI h rfl (fun h _ => ?_) (fun h _ => ?_)
   ·refine ACode_skip ?_
    refine kB (fun s7 => [(1, .d (.clo g_p1 c_p1)), (5, .vec 0 0), (11, iV p0.p), (12, iV x1)]) (fun s7 => [.vec 0 (intsD s7)]) h (fun s7 h => ?_) (fun s7 h => ?_)
    ·refine ACode_block ?_
     refine kR ?_
     refine kN 2 rfl ?_
     refine kR ?_
     refine kM 2 rfl ?_
     obtain ⟨r4, hr4, h⟩ := bindO h
     refine kC [] 17 (bV r4) [.vec 0 (intsD x2)] rfl hg_p1 rfl (viewA_mapD _) (hf_p1 x1 _ hr4) rfl ?_
     refine AOps_nil ?_
     refine kI h rfl (fun h _ => ?_) (fun h _ => ?_)
     ·refine (ACode_region ?_)
      refine kM 2 rfl ?_
      refine AOps_buildSlice 20 _ _ _ [_] (intsD ([x1])) _ rfl rfl rfl rfl rfl (by decide) Tryz.underlying40 Tryz.sizeOf2 (zero_of Tryz.typeInfo2 rfl) rfl rfl (intsD_one _) ?_
      obtain ⟨hc6, h⟩ := guardO h
      refine AOps_append 21 _ _ _ _ _ _ _ _ _ _ _ _ rfl rfl rfl rfl rfl rfl rfl Tryz.underlying40 Tryz.type2 rfl rfl rfl (by decide) rfl rfl rfl rfl (intsD_one _) (by rw [intsD_length, intsD_length]; exact hc6) ?_
      rw [intsD_app]
      refine kN 1 rfl ?_
      cases h
      exact Weak_trans (Weak_keep 0 hm [1, 5, 11, 12] [0] _ _ rfl rfl rfl) (Weak_reset 0 hm hz [1, 5, 11, 12] _ _ rfl rfl)
     refine ACode_skip ?_
     cases h
     exact Weak_keep 0 hm [1, 5, 11, 12] [0] _ _ rfl rfl rfl
    refine (ACode_region ?_)
    refine AOps_q 22 _ rfl rfl rfl (QOp_add _ _ _ _ _ _ _ rfl rfl rfl) ?_
    refine kN 1 rfl ?_
    exact ⟨k0, _, _, Nat.lt_succ_self _, Weak_keep 0 hm [1, 5, 11, 12] [0] _ _ rfl rfl rfl, _, _, rfl, rfl, h⟩
   refine ACode_exit ?_
   cases h
   exact Weak_keep 0 hm [5] [0] _ _ rfl rfl rfl
 refine kR ?_
 refine kN 2 rfl ?_
 refine ACode_ret ?_
 cases h
 exact ⟨_, _, Weak_reset 0 hm hz [4] _ _ rfl rfl, _, _, [0], _, (.cons (ResV_tmp _ _ rfl) .nil), rfl, rfl, rfl, rfl, rfl⟩

def impl_Colouring_points_c1 (p0 : Int) : Bool :=
 true
theorem impl_Colouring_points_c1_ac (p0 : Int) : AC Tryz.prog 95 [iV p0] [] (fun res H' => res = [bV (impl_Colouring_points_c1 p0)] ∧ H' = []) := by
 refine AC_of_body true Tryz.func95 rfl Tryz.ntmps95 (rvs := [.tmp 2]) rfl rfl (fun G hG => ?_)
 have hm : G.H.length = 0 := by rw [hG]; rfl
 have hz : zeroG G.H = true := by rw [hG]; rfl
 obtain ⟨r, h⟩ : ∃ r, impl_Colouring_points_c1 p0 = r := ⟨_, rfl⟩
 rw [h]
 unfold impl_Colouring_points_c1 at h
 refine kR ?_
 refine kN 1 rfl ?_
 refine kR ?_
 refine kN 1 rfl ?_
 refine ACode_ret ?_
 cases h
 exact ⟨_, _, fun r a w h => ⟨r, h⟩, _, _, [], _, (.cons (ResV_tmp _ _ rfl) .nil), rfl, rfl, rfl, rfl, rfl⟩

def impl_Colouring_points (k : Nat) (p0 : Col) : Option (List Int) :=
 (impl_Colouring_that k p0 (fun a0 => some (impl_Colouring_points_c1 a0))).bind fun r1 => some r1
theorem impl_Colouring_points_ac (k : Nat) (p0 : Col) (r : List Int) (h : impl_Colouring_points k p0 = some r) : AC Tryz.prog 80 [.d (.pv (colD p0) 0)] [] (fun res H' => res = [.vec 0 0] ∧ H' = [.vec 0 (intsD r)]) := by
 refine AC_of_body true Tryz.func80 rfl Tryz.ntmps80 (rvs := [.tmp 2]) rfl rfl (fun G hG => ?_)
 have hm : G.H.length = 0 := by rw [hG]; rfl
 have hz : zeroG G.H = true := by rw [hG]; rfl
 unfold impl_Colouring_points at h
 refine kR ?_
 refine kN 1 rfl ?_
 refine kR ?_
 refine kM 1 rfl ?_
 obtain ⟨r1, hr1, h⟩ := bindO h
 refine kC [] 4 (.vec 0 0) [.vec 0 (intsD r1)] rfl Tryz.call74 rfl rfl (impl_Colouring_that_ac k p0 (fun a0 => some (impl_Colouring_points_c1 a0)) 95 ([]) Tryz.call95 (fun a0 r h => by cases h; exact impl_Colouring_points_c1_ac a0) _ hr1) rfl ?_
 refine kN 1 rfl ?_
 refine ACode_ret ?_
 cases h
 exact ⟨_, _, Weak_reset 0 hm hz [2] _ _ rfl rfl, _, _, [0], _, (.cons (ResV_tmp _ _ rfl) .nil), rfl, rfl, rfl, rfl, rfl⟩

def impl_Colouring_degreesAt_l0 (p0 : Col) (p1 : Int) : Nat → Int → (List Int) → Option (List Int)
 | 0, _, _ => none
 | k0 + 1, x2, x3 => (if decide (x2 < p0.p) then ((if !decide (x2 = p1) then (impl_Colouring_at p0 p1 x2).bind fun r6 => (if 0 ≤ r6 ∧ r6 < (x3.length : Int) then (if 0 ≤ r6 ∧ r6 < (x3.length : Int) then some (x3.set r6.toNat (w64 ((x3.getD r6.toNat 0) + 1))) else none) else none) else some x3) : Option (List Int)).bind fun s9 => impl_Colouring_degreesAt_l0 p0 p1 k0 (w64 (x2 + 1)) s9 else some x3)
def impl_Colouring_degreesAt (k : Nat) (p0 : Col) (p1 : Int) : Option (List Int) :=
 (if 0 ≤ p0.k ∧ p0.k ≤ p0.k ∧ p0.k ≤ 1099511627776 then (impl_Colouring_degreesAt_l0 p0 p1 k 0 (List.replicate p0.k.toNat (0 : Int)) : Option (List Int)).bind fun s10 => some s10 else none)
theorem impl_Colouring_degreesAt_ac (k : Nat) (p0 : Col) (p1 : Int) (r : List Int) (h : impl_Colouring_degreesAt k p0 p1 = some r) : AC Tryz.prog 92 [.d (.pv (colD p0) 0), iV p1] [] (fun res H' => res = [.vec 0 0] ∧ H' = [.vec 0 (intsD r)]) := by
 refine AC_of_body true Tryz.func92 rfl Tryz.ntmps92 (rvs := [.tmp 4]) rfl rfl (fun G hG => ?_)
 have hm : G.H.length = 0 := by rw [hG]; rfl
 have hz : zeroG G.H = true := by rw [hG]; rfl
 unfold impl_Colouring_degreesAt at h
 refine kR ?_
 refine kN 1 rfl ?_
 refine kR ?_
 refine kM 1 rfl ?_
 refine AOps_q 8 _ rfl rfl rfl (QOp_nilCheck_pv _ _ _ rfl rfl) ?_
 refine AOps_q 9 _ rfl rfl rfl (QOp_fieldAddr_pv _ _ _ _ _ 1 _ _ rfl Tryz.underlying26 rfl _ Tryz.sizeOf2 rfl rfl) ?_
 refine AOps_q 10 _ rfl rfl rfl (QOp_load_pv _ _ _ _ _ rfl Tryz.isAgg2 rfl rfl) ?_
 obtain ⟨hc1, h⟩ := guardO h
 refine AOps_makeSliceG intsD iD 0 (intsD_rep · _) 11 _ _ _ _ _ _ p0.k p0.k _ (.int .i64 0) rfl rfl rfl rfl rfl rfl Tryz.underlying40 Tryz.type2 rfl rfl (by decide) rfl rfl hc1.1 hc1.2.1 hc1.2.2 ?_
 refine kN 1 rfl ?_
 refine kB (fun s10 => [(5, .vec 0 0)]) (fun s10 => [.vec 0 (intsD s10)]) h (fun s10 h => ?_) (fun s10 h => ?_)
 ·refine kR ?_
  refine kM 1 rfl ?_
  refine AOps_q 13 _ rfl rfl rfl (QOp_nilCheck_pv _ _ _ rfl rfl) ?_
  refine AOps_q 14 _ rfl rfl rfl (QOp_fieldAddr_pv _ _ _ _ _ 0 _ _ rfl Tryz.underlying26 rfl _ Tryz.sizeOf2 rfl rfl) ?_
  refine AOps_q 15 _ rfl rfl rfl (QOp_load_pv _ _ _ _ _ rfl Tryz.isAgg2 rfl rfl) ?_
  refine kN 1 rfl ?_
  refine ACode_block ?_
  refine ACode_loopW (fun k0 E H => ∃ (x2 : Int) (x3 : List Int), E = [(0, .d (.pv (colD p0) 0)), (1, iV p1), (5, .vec 0 0), (15, iV p0.p), (16, iV x2)] ∧ H = [.vec 0 (intsD x3)] ∧ impl_Colouring_degreesAt_l0 p0 p1 k0 x2 x3 = some s10) k _ _ (Weak_keep 0 hm [0, 1, 5, 15, 16] [0] _ _ rfl rfl rfl) ⟨_, _, rfl, rfl, h⟩ ?_
  clear h
  rintro k0 E H ⟨x2, x3, rfl, rfl, h⟩
  cases k0 with
  | zero => cases (show (none : Option (List Int)) = some _ from h)
  | succ k0 =>
   rw [impl_Colouring_degreesAt_l0] at h
   refine kR ?_
   refine AOps_q 17 _ rfl rfl rfl (QOp_lss _ _ _ _ _ _ _ rfl rfl rfl) ?_
   refine AOps_nil ?_
   refine ACode_seq ?_
   refine kI h rfl (fun h _ => ?_) (fun h _ => ?_)
   ·refine ACode_skip ?_
    refine kB (fun s9 => [(0, .d (.pv (colD p0) 0)), (1, iV p1), (5, .vec 0 0), (15, iV p0.p), (16, iV x2)]) (fun s9 => [.vec 0 (intsD s9)]) h (fun s9 h => ?_) (fun s9 h => ?_)
    ·refine ACode_block ?_
     refine kR ?_
     refine kN 2 rfl ?_
     refine kR ?_
     refine kM 2 rfl ?_
     refine AOps_q 21 _ rfl rfl rfl (QOp_neq _ _ _ _ _ _ _ rfl rfl rfl) ?_
     refine AOps_nil ?_
     refine kI h rfl (fun h _ => ?_) (fun h _ => ?_)
     ·refine (ACode_region ?_)
      refine kM 4 rfl ?_
      obtain ⟨r6, hr6, h⟩ := bindO h
      refine kC [] 26 (iV r6) [.vec 0 (intsD x3)] rfl Tryz.call67 rfl rfl (impl_Colouring_at_ac p0 p1 x2 _ hr6) rfl ?_
      obtain ⟨hc7, h⟩ := guardO h
      refine AOps_q 27 _ rfl rfl rfl (QOp_indexAddr_vec _ _ _ _ _ _ _ _ _ rfl Tryz.underlying40 Tryz.sizeOf2 hc7.1 (by rw [intsD_length]; exact hc7.2) rfl rfl rfl) ?_
      refine AOps_q 28 _ rfl rfl rfl (QOp_load_eptr _ _ _ _ _ _ _ rfl Tryz.isAgg2 rfl rfl (intsD_get _ _ 0 (by omega))) ?_
      refine AOps_q 29 _ rfl rfl rfl (QOp_add _ _ _ _ _ _ _ rfl rfl rfl) ?_
      obtain ⟨hc8, h⟩ := guardO h
      refine AOps_q 30 _ rfl rfl rfl (QOp_indexAddr_vec _ _ _ _ _ _ _ _ _ rfl Tryz.underlying40 Tryz.sizeOf2 hc8.1 (by rw [intsD_length]; exact hc8.2) rfl rfl rfl) ?_
      refine AOps_store_eptr _ _ _ _ _ _ (intsD x3) _ rfl rfl rfl rfl rfl rfl rfl Tryz.sizeOf2 (by rw [intsD_length]; omega) ?_
      rw [intsD_set]
      refine AOps_nil ?_
      cases h
      exact Weak_keep 0 hm [0, 1, 5, 15, 16] [0] _ _ rfl rfl rfl
     refine ACode_skip ?_
     cases h
     exact Weak_keep 0 hm [0, 1, 5, 15, 16] [0] _ _ rfl rfl rfl
    refine (ACode_region ?_)
    refine AOps_q 31 _ rfl rfl rfl (QOp_add _ _ _ _ _ _ _ rfl rfl rfl) ?_
    refine kN 1 rfl ?_
    exact ⟨k0, _, _, Nat.lt_succ_self _, Weak_keep 0 hm [0, 1, 5, 15, 16] [0] _ _ rfl rfl rfl, _, _, rfl, rfl, h⟩
   refine ACode_exit ?_
   cases h
   exact Weak_keep 0 hm [5] [0] _ _ rfl rfl rfl
 refine kR ?_
 refine kN 2 rfl ?_
 refine ACode_ret ?_
 cases h
 exact ⟨_, _, Weak_reset 0 hm hz [4] _ _ rfl rfl, _, _, [0], _, (.cons (ResV_tmp _ _ rfl) .nil), rfl, rfl, rfl, rfl, rfl⟩

def slices_Equal_l0 (p0 : List Int) (p1 : List Int) : Nat → Int → Option (Sum (Unit) (Bool))
 | 0, _ => none
 | k0 + 1, x2 => (if decide (x2 < (p0.length : Int)) then (if 0 ≤ x2 ∧ x2 < (p0.length : Int) then (if 0 ≤ x2 ∧ x2 < (p1.length : Int) then (if !decide ((p0.getD x2.toNat 0) = (p1.getD x2.toNat 0)) then some (.inr false) else slices_Equal_l0 p0 p1 k0 (w64 (x2 + 1))) else none) else none) else some (.inl ()))
def slices_Equal (k : Nat) (p0 : List Int) (p1 : List Int) : Option (Bool) :=
 (if !decide ((p0.length : Int) = (p1.length : Int)) then some false else (slices_Equal_l0 p0 p1 k 0 : Option (Sum (Unit) (Bool))).bind fun os7 => (match os7 with | .inl s7 => some true | .inr rr => some rr))
theorem slices_Equal_ac (k : Nat) (p0 : List Int) (p1 : List Int) (r : Bool) (h : slices_Equal k p0 p1 = some r) : AC Tryz.prog 91 [.d (.sl none (intsD p0)), .d (.sl none (intsD p1))] [] (fun res H' => res = [bV r] ∧ H' = []) := by
 refine AC_of_body true Tryz.func91 rfl Tryz.ntmps91 (rvs := [.tmp 4]) rfl rfl (fun G hG => ?_)
 have hm : G.H.length = 0 := by rw [hG]; rfl
 have hz : zeroG G.H = true := by rw [hG]; rfl
 unfold slices_Equal at h
 refine kR ?_
 refine kN 1 rfl ?_
 refine ACode_seq ?_
 refine kR ?_
 refine kM 1 rfl ?_
 refine AOps_q 7 _ rfl rfl rfl (QOp_len_sl _ _ _ _ _ _ _ (intsD_length _) rfl rfl rfl rfl Tryz.underlying40 rfl) ?_
 refine kM 1 rfl ?_
 refine AOps_q 9 _ rfl rfl rfl (QOp_len_sl _ _ _ _ _ _ _ (intsD_length _) rfl rfl rfl rfl Tryz.underlying40 rfl) ?_
 refine AOps_q 10 _ rfl rfl rfl (QOp_neq _ _ _ _ _ _ _ rfl rfl rfl) ?_
 refine AOps_nil ?_
 refine kI h rfl (fun h _ => ?_) (fun h _ => ?_)
 ·refine kR ?_
  refine kN 1 rfl ?_
  refine ACode_ret ?_
  cases h
  exact ⟨_, _, fun r a w h => ⟨r, h⟩, _, _, [], _, (.cons (ResV_tmp _ _ rfl) .nil), rfl, rfl, rfl, rfl, rfl⟩
 refine ACode_skip ?_
 refine kO (fun s7 => []) (fun s7 => []) h (fun os7 h hks7 => ?_) (fun s7 h => ?_)
 ·refine kR ?_
  refine kM 1 rfl ?_
  refine AOps_q 12 _ rfl rfl rfl (QOp_len_sl _ _ _ _ _ _ _ (intsD_length _) rfl rfl rfl rfl Tryz.underlying40 rfl) ?_
  refine kN 1 rfl ?_
  refine ACode_block ?_
  refine ACode_loopW (fun k0 E H => ∃ (x2 : Int), E = [(0, .d (.sl none (intsD p0))), (1, .d (.sl none (intsD p1))), (12, iV (p0.length : Int)), (13, iV x2)] ∧ H = [] ∧ slices_Equal_l0 p0 p1 k0 x2 = some os7) k _ _ (Weak_keep 0 hm [0, 1, 12, 13] [] _ _ rfl rfl rfl) ⟨_, rfl, rfl, h⟩ ?_
  clear h
  rintro k0 E H ⟨x2, rfl, rfl, h⟩
  cases k0 with
  | zero => cases (show (none : Option (Sum (Unit) (Bool))) = some _ from h)
  | succ k0 =>
   rw [slices_Equal_l0] at h
   refine kR ?_
   refine AOps_q 14 _ rfl rfl rfl (QOp_lss _ _ _ _ _ _ _ rfl rfl rfl) ?_
   refine AOps_nil ?_
   refine ACode_seq ?_
   refine kI h rfl (fun h _ => ?_) (fun h _ => ?_)
   ·refine ACode_skip ?_
    refine ACode_seq ?_
    refine ACode_block ?_
    refine kR ?_
    refine kN 2 rfl ?_
    refine ACode_seq (ACode_quiet mixed (by kernel_rfl) ?_)
    refine kQ 2 rfl ?_
    obtain ⟨hc4, h⟩ := guardO h
    refine AQ_q 18 _ rfl rfl rfl (QOp_indexAddr_sl _ _ _ _ _ _ _ _ rfl Tryz.underlying40 Tryz.sizeOf2 hc4.1 (by rw [intsD_length]; exact hc4.2) rfl rfl) ?_
    refine AQ_q 19 _ rfl rfl rfl (QOp_load_pv _ _ _ _ _ rfl Tryz.isAgg2 rfl (intsD_get _ _ 0 (by omega))) ?_
    refine kQ 2 rfl ?_
    obtain ⟨hc5, h⟩ := guardO h
    refine AQ_q 22 _ rfl rfl rfl (QOp_indexAddr_sl _ _ _ _ _ _ _ _ rfl Tryz.underlying40 Tryz.sizeOf2 hc5.1 (by rw [intsD_length]; exact hc5.2) rfl rfl) ?_
    refine AQ_q 23 _ rfl rfl rfl (QOp_load_pv _ _ _ _ _ rfl Tryz.isAgg2 rfl (intsD_get _ _ 0 (by omega))) ?_
    refine AQ_q 24 _ rfl rfl rfl (QOp_neq _ _ _ _ _ _ _ rfl rfl rfl) ?_
    refine AQ_nil ?_
    refine kI h rfl (fun h _ => ?_) (fun h _ => ?_)
    ·refine kR ?_
     refine kN 1 rfl ?_
     refine ACode_ret ?_
     cases h
     have h := hks7
     cases h
     exact ⟨_, _, fun r a w h => ⟨r, h⟩, _, _, [], _, (.cons (ResV_tmp _ _ rfl) .nil), rfl, rfl, rfl, rfl, rfl⟩
    refine ACode_skip ?_
    refine (ACode_region ?_)
    refine AOps_q 25 _ rfl rfl rfl (QOp_add _ _ _ _ _ _ _ rfl rfl rfl) ?_
    refine kN 1 rfl ?_
    exact ⟨k0, _, _, Nat.lt_succ_self _, Weak_keep 0 hm [0, 1, 12, 13] [] _ _ rfl rfl rfl, _, rfl, rfl, h⟩
   refine ACode_exit ?_
   cases h
   exact ⟨_, rfl, Weak_keep 0 hm [] [] _ _ rfl rfl rfl⟩
 refine kR ?_
 refine kN 1 rfl ?_
 refine ACode_ret ?_
 cases h
 exact ⟨_, _, fun r a w h => ⟨r, h⟩, _, _, [], _, (.cons (ResV_tmp _ _ rfl) .nil), rfl, rfl, rfl, rfl, rfl⟩

def impl_newTracer_l1 (k : Nat) (p0 : Col) (p1 : Col) (x5 : Int) : Nat → Int → Tra → Option (Tra)
 | 0, _, _ => none
 | k1 + 1, x8, x9 => (if decide (x8 < p1.p) then (if 0 ≤ x5 ∧ x5 < 17 then (impl_Colouring_degreesAt k p0 x5).bind fun r12 => (impl_Colouring_degreesAt k p1 x8).bind fun r13 => (slices_Equal k r12 r13).bind fun r14 => (if 0 ≤ x8 ∧ x8 < 17 then impl_newTracer_l1 k p0 p1 x5 k1 (w64 (x8 + 1)) (x9.set (x5.toNat * 17 + x8.toNat) r14) else none) else none) else some x9)
def impl_newTracer_l0 (k : Nat) (p0 : Col) (p1 : Col) : Nat → Int → Tra → Option (Tra)
 | 0, _, _ => none
 | k0 + 1, x5, x6 => (if decide (x5 < p0.p) then (impl_newTracer_l1 k p0 p1 x5 k 0 x6 : Option (Tra)).bind fun s16 => impl_newTracer_l0 k p0 p1 k0 (w64 (x5 + 1)) s16 else some x6)
def impl_newTracer (k : Nat) (p0 : Col) (p1 : Col) (p2 : List Int) : Option (Option Tra) :=
 (letO (if !decide (p0.p = p1.p) then true else !decide (p0.k = p1.k)) fun (s2 : Bool) => (if s2 then some (.inr none) else some (.inl ())) : Option (Sum (Unit) (Option Tra))).bind fun os4 => (match os4 with | .inl s4 => (impl_newTracer_l0 k p0 p1 k 0 (⟨p0, p1, p2, S17.zero⟩ : Tra) : Option (Tra)).bind fun s17 => some (some s17) | .inr rr => some rr)
theorem impl_newTracer_ac (k : Nat) (p0 : Col) (p1 : Col) (p2 : List Int) (r : Option Tra) (h : impl_newTracer k p0 p1 p2 = some r) : AC Tryz.prog 73 [.d (.pv (colD p0) 0), .d (.pv (colD p1) 0), .d (.sl none (intsD p2))] [] (fun res H' => res = [.d (traP r)] ∧ H' = []) := by
 refine AC_of_body true Tryz.func73 rfl Tryz.ntmps73 (rvs := [.tmp 6]) rfl rfl (fun G hG => ?_)
 have hm : G.H.length = 0 := by rw [hG]; rfl
 have hz : zeroG G.H = true := by rw [hG]; rfl
 unfold impl_newTracer at h
 refine kR ?_
 refine kN 1 rfl ?_
 refine kO (fun s4 => [(0, .d (.pv (colD p0) 0)), (1, .d (.pv (colD p1) 0)), (2, .d (.sl none (intsD p2)))]) (fun s4 => []) h (fun os4 h hks4 => ?_) (fun s4 h => ?_)
 ·refine kL (fun s2 => [(0, .d (.pv (colD p0) 0)), (1, .d (.pv (colD p1) 0)), (2, .d (.sl none (intsD p2))), (29, bV s2)]) (fun s2 => []) h (fun s2 h => ?_) (fun s2 h => ?_)
  ·refine (ACode_quiet mixed (by kernel_rfl) ?_)
   refine kQ 1 rfl ?_
   refine AQ_q 11 _ rfl rfl rfl (QOp_nilCheck_pv _ _ _ rfl rfl) ?_
   refine AQ_q 12 _ rfl rfl rfl (QOp_fieldAddr_pv _ _ _ _ _ 0 _ _ rfl Tryz.underlying26 rfl _ Tryz.sizeOf2 rfl rfl) ?_
   refine AQ_q 13 _ rfl rfl rfl (QOp_load_pv _ _ _ _ _ rfl Tryz.isAgg2 rfl rfl) ?_
   refine kQ 1 rfl ?_
   refine AQ_q 15 _ rfl rfl rfl (QOp_nilCheck_pv _ _ _ rfl rfl) ?_
   refine AQ_q 16 _ rfl rfl rfl (QOp_fieldAddr_pv _ _ _ _ _ 0 _ _ rfl Tryz.underlying26 rfl _ Tryz.sizeOf2 rfl rfl) ?_
   refine AQ_q 17 _ rfl rfl rfl (QOp_load_pv _ _ _ _ _ rfl Tryz.isAgg2 rfl rfl) ?_
   refine AQ_q 18 _ rfl rfl rfl (QOp_neq _ _ _ _ _ _ _ rfl rfl rfl) ?_
   refine kQ 1 rfl ?_
   refine AQ_case 19 _ rfl (fun hb1 => ?_) (fun hb1 => ?_)
   ·have h := iteT hb1 h
    refine AQ_skip 20 rfl rfl rfl ?_
    refine AQ_skip 21 rfl rfl rfl ?_
    refine AQ_skip 22 rfl rfl rfl ?_
    refine AQ_skip 23 rfl rfl rfl ?_
    refine AQ_skip 24 rfl rfl rfl ?_
    refine AQ_skip 25 rfl rfl rfl ?_
    refine AQ_skip 26 rfl rfl rfl ?_
    refine AQ_skip 27 rfl rfl rfl ?_
    refine AQ_skip 28 rfl rfl rfl ?_
    refine kQ 1 rfl ?_
    refine AQ_nil ?_
    cases h
    exact Weak_keep 0 hm [0, 1, 2, 29] [] _ _ rfl rfl rfl
   have h := iteF hb1 h
   refine kQ 1 rfl ?_
   refine AQ_q 21 _ rfl rfl rfl (QOp_nilCheck_pv _ _ _ rfl rfl) ?_
   refine AQ_q 22 _ rfl rfl rfl (QOp_fieldAddr_pv _ _ _ _ _ 1 _ _ rfl Tryz.underlying26 rfl _ Tryz.sizeOf2 rfl rfl) ?_
   refine AQ_q 23 _ rfl rfl rfl (QOp_load_pv _ _ _ _ _ rfl Tryz.isAgg2 rfl rfl) ?_
   refine kQ 1 rfl ?_
   refine AQ_q 25 _ rfl rfl rfl (QOp_nilCheck_pv _ _ _ rfl rfl) ?_
   refine AQ_q 26 _ rfl rfl rfl (QOp_fieldAddr_pv _ _ _ _ _ 1 _ _ rfl Tryz.underlying26 rfl _ Tryz.sizeOf2 rfl rfl) ?_
   refine AQ_q 27 _ rfl rfl rfl (QOp_load_pv _ _ _ _ _ rfl Tryz.isAgg2 rfl rfl) ?_
   refine AQ_q 28 _ rfl rfl rfl (QOp_neq _ _ _ _ _ _ _ rfl rfl rfl) ?_
   refine kQ 1 rfl ?_
   refine AQ_nil ?_
   cases h
   exact Weak_keep 0 hm [0, 1, 2, 29] [] _ _ rfl rfl rfl
  refine kI h rfl (fun h _ => ?_) (fun h _ => ?_)
  ·refine kR ?_
   refine kN 1 rfl ?_
   refine ACode_ret ?_
   cases h
   have h := hks4
   cases h
   exact ⟨_, _, fun r a w h => ⟨r, h⟩, _, _, [], _, (.cons (ResV_tmp _ _ rfl) .nil), rfl, rfl, rfl, rfl, rfl⟩
  refine ACode_skip ?_
  cases h
  exact ⟨_, rfl, Weak_keep 0 hm [0, 1, 2] [] _ _ rfl rfl rfl⟩
 refine kR ?_
 refine kM 3 rfl ?_
 refine AOps_q 33 _ rfl rfl rfl (QOp_build _ _ [_, _, _] [0, 1, 2] [.pv (colD p0) 0, .pv (colD p1) 0, .sl none (intsD p2)] _ traZ (traD (⟨p0, p1, p2, S17.zero⟩ : Tra)) [(0, 1), (1, 1), (2, 1), (3, 289)] rfl rfl Tryz.underlying101 (zero_of Tryz.typeInfo101 rfl) (fun w => by simp [Tryz.sizeOf66, Tryz.sizeOf66, Tryz.sizeOf40, Tryz.sizeOf99]) rfl (by rfl) (by rfl) (allc (ok1 rfl) (allc (ok1 rfl) (allc (ok1 rfl) (fun _ h => nomatch h))))) ?_
 refine AOps_boxM 34 _ _ (.agg (traD (⟨p0, p1, p2, S17.zero⟩ : Tra))) (traD (⟨p0, p1, p2, S17.zero⟩ : Tra)) rfl (traD_one _) rfl rfl rfl rfl rfl ?_
 refine kN 1 rfl ?_
 refine kB (fun s17 => [(7, .ptr 0 0)]) (fun s17 => [.box (traD s17)]) h (fun s17 h => ?_) (fun s17 h => ?_)
 ·refine kR ?_
  refine kM 1 rfl ?_
  refine AOps_q 36 _ rfl rfl rfl (QOp_nilCheck_pv _ _ _ rfl rfl) ?_
  refine AOps_q 37 _ rfl rfl rfl (QOp_fieldAddr_pv _ _ _ _ _ 0 _ _ rfl Tryz.underlying26 rfl _ Tryz.sizeOf2 rfl rfl) ?_
  refine AOps_q 38 _ rfl rfl rfl (QOp_load_pv _ _ _ _ _ rfl Tryz.isAgg2 rfl rfl) ?_
  refine kN 1 rfl ?_
  refine ACode_block ?_
  refine ACode_loopW (fun k0 E H => ∃ (x5 : Int) (x6 : Tra), E = [(0, .d (.pv (colD p0) 0)), (1, .d (.pv (colD p1) 0)), (7, .ptr 0 0), (38, iV p0.p), (39, iV x5)] ∧ H = [.box (traD x6)] ∧ impl_newTracer_l0 k p0 p1 k0 x5 x6 = some s17) k _ _ (Weak_keep 0 hm [0, 1, 7, 38, 39] [0] _ _ rfl rfl rfl) ⟨_, _, rfl, rfl, h⟩ ?_
  clear h
  rintro k0 E H ⟨x5, x6, rfl, rfl, h⟩
  cases k0 with
  | zero => cases (show (none : Option (Tra)) = some _ from h)
  | succ k0 =>
   rw [impl_newTracer_l0] at h
   refine kR ?_
   refine AOps_q 40 _ rfl rfl rfl (QOp_lss _ _ _ _ _ _ _ rfl rfl rfl) ?_
   refine AOps_nil ?_
   refine ACode_seq ?_
   refine kI h rfl (fun h _ => ?_) (fun h _ => ?_)
   ·refine ACode_skip ?_
    refine kB (fun s16 => [(0, .d (.pv (colD p0) 0)), (1, .d (.pv (colD p1) 0)), (7, .ptr 0 0), (38, iV p0.p), (39, iV x5)]) (fun s16 => [.box (traD s16)]) h (fun s16 h => ?_) (fun s16 h => ?_)
    ·refine ACode_block ?_
     refine kR ?_
     refine kN 2 rfl ?_
     refine kR ?_
     refine kM 1 rfl ?_
     refine AOps_q 43 _ rfl rfl rfl (QOp_nilCheck_pv _ _ _ rfl rfl) ?_
     refine AOps_q 44 _ rfl rfl rfl (QOp_fieldAddr_pv _ _ _ _ _ 0 _ _ rfl Tryz.underlying26 rfl _ Tryz.sizeOf2 rfl rfl) ?_
     refine AOps_q 45 _ rfl rfl rfl (QOp_load_pv _ _ _ _ _ rfl Tryz.isAgg2 rfl rfl) ?_
     refine kN 1 rfl ?_
     refine ACode_block ?_
     refine ACode_loopW (fun k1 E H => ∃ (x8 : Int) (x9 : Tra), E = [(0, .d (.pv (colD p0) 0)), (1, .d (.pv (colD p1) 0)), (7, .ptr 0 0), (8, iV x5), (38, iV p0.p), (39, iV x5), (45, iV p1.p), (46, iV x8)] ∧ H = [.box (traD x9)] ∧ impl_newTracer_l1 k p0 p1 x5 k1 x8 x9 = some s16) k _ _ (Weak_keep 0 hm [0, 1, 7, 8, 38, 39, 45, 46] [0] _ _ rfl rfl rfl) ⟨_, _, rfl, rfl, h⟩ ?_
     clear h
     rintro k1 E H ⟨x8, x9, rfl, rfl, h⟩
     cases k1 with
     | zero => cases (show (none : Option (Tra)) = some _ from h)
     | succ k1 =>
      rw [impl_newTracer_l1] at h
      refine kR ?_
      refine AOps_q 47 _ rfl rfl rfl (QOp_lss _ _ _ _ _ _ _ rfl rfl rfl) ?_
      refine AOps_nil ?_
      refine ACode_seq ?_
      refine kI h rfl (fun h _ => ?_) (fun h _ => ?_)
      ·refine ACode_skip ?_
       refine ACode_seq ?_
       refine ACode_block ?_
       refine kR ?_
       refine kN 2 rfl ?_
       refine ACode_anyU mixed ?_
       refine AU_u 0 49 _ rfl (by kernel_rfl) rfl rfl rfl (UOp_move _ _ rfl rfl) ?_
       refine AU_u 1 50 _ rfl (by kernel_rfl) rfl rfl rfl (UOp_move _ _ rfl rfl) ?_
       refine AU_u 2 51 _ rfl (by kernel_rfl) rfl rfl rfl (UOp_move _ _ rfl rfl) ?_
       refine AU_u 3 52 _ rfl (by kernel_rfl) rfl rfl rfl (UOp_move _ _ rfl rfl) ?_
       refine AU_u 4 53 _ rfl (by kernel_rfl) rfl rfl rfl (UOp_move _ _ rfl rfl) ?_
       refine AU_u 6 55 _ rfl (by kernel_rfl) rfl rfl rfl (UOp_move _ _ rfl rfl) ?_
       refine AU_u 7 56 _ rfl (by kernel_rfl) rfl rfl rfl (UOp_move _ _ rfl rfl) ?_
       refine AU_u 10 59 _ rfl (by kernel_rfl) rfl rfl rfl (UOp_nilCheck_ptr _ _ _ _ rfl rfl rfl rfl) ?_
       refine AU_u 11 60 _ rfl (by kernel_rfl) rfl rfl rfl (UOp_fieldAddr_ptr _ _ _ _ _ _ 3 _ _ rfl Tryz.underlying101 rfl _ Tryz.sizeOf99 rfl rfl rfl rfl) ?_
       obtain ⟨hc11, h⟩ := guardO h
       refine AU_u 12 61 _ rfl (by kernel_rfl) rfl rfl rfl (UOp_indexAddrM_ptr _ _ _ _ _ _ _ _ _ _ _ rfl Tryz.underlying99 Tryz.sizeOf98 hc11.1 hc11.2 rfl rfl rfl rfl) ?_
       refine AU_all [5] (by kernel_rfl) rfl (allc ?_ (fun _ h => nomatch h))
       refine US_of 5 rfl rfl ?_
       obtain ⟨r12, hr12, h⟩ := bindO h
       refine kC [] 54 (.vec 1 0) [.box (traD x9), .vec 0 (intsD r12)] rfl Tryz.call92 rfl rfl (impl_Colouring_degreesAt_ac k p0 x5 _ hr12) rfl ?_
       refine AOps_nil ?_
       refine AU_all [8] (by kernel_rfl) rfl (allc ?_ (fun _ h => nomatch h))
       refine US_of 8 rfl rfl ?_
       obtain ⟨r13, hr13, h⟩ := bindO h
       refine kC [] 57 (.vec 2 0) [.box (traD x9), .vec 0 (intsD r12), .vec 0 (intsD r13)] rfl Tryz.call92 rfl rfl (impl_Colouring_degreesAt_ac k p1 x8 _ hr13) rfl ?_
       refine AOps_nil ?_
       refine AU_all [9] (by kernel_rfl) rfl (allc ?_ (fun _ h => nomatch h))
       refine US_of 9 rfl rfl ?_
       obtain ⟨r14, hr14, h⟩ := bindO h
       refine AOps_callL [] 58 _ _ _ _ _ _ _ _ _ _ rfl rfl rfl rfl rfl rfl rfl Tryz.call91 rfl (nodupB_sound _ rfl) rfl rfl rfl (slices_Equal_ac k r12 r13 _ hr14) ?_
       rintro _ _ ⟨rfl, rfl⟩
       refine ⟨(fun _ h => nomatch h), (allc (flat_s _) (fun _ h => nomatch h)), AOps_as 58 (v' := bV r14) (H' := [.box (traD x9), .vec 0 (intsD r12), .vec 0 (intsD r13)]) rfl rfl ?_⟩
       refine AOps_nil ?_
       obtain ⟨hc15, h⟩ := guardO h
       refine AU_u 13 62 _ rfl (by kernel_rfl) rfl rfl rfl (UOp_indexAddrA_ptr _ _ _ _ _ _ _ _ _ _ rfl Tryz.underlying98 Tryz.sizeOf4 hc15.1 hc15.2 rfl rfl rfl rfl) ?_
       refine AU_all [14] (by kernel_rfl) rfl (allc ?_ (fun _ h => nomatch h))
       refine US_of 14 rfl rfl ?_
       refine AOps_store1 _ _ _ _ _ _ (traD (x9.set (x5.toNat * 17 + x8.toNat) r14)) _ rfl rfl rfl rfl rfl rfl rfl Tryz.sizeOf4 (by rw [traD_length]; omega) (traD_set x9 (x5.toNat * 17) x8.toNat r14) ?_
       refine AOps_nil ?_
       refine AU_done (by kernel_rfl) ?_
       refine (ACode_region ?_)
       refine AOps_q 63 _ rfl rfl rfl (QOp_add _ _ _ _ _ _ _ rfl rfl rfl) ?_
       refine kN 1 rfl ?_
       exact ⟨k1, _, _, Nat.lt_succ_self _, Weak_keep 0 hm [0, 1, 7, 8, 38, 39, 45, 46] [0] _ _ rfl rfl rfl, _, _, rfl, rfl, h⟩
      refine ACode_exit ?_
      cases h
      exact Weak_keep 0 hm [0, 1, 7, 38, 39] [0] _ _ rfl rfl rfl
    refine (ACode_region ?_)
    refine AOps_q 64 _ rfl rfl rfl (QOp_add _ _ _ _ _ _ _ rfl rfl rfl) ?_
    refine kN 1 rfl ?_
    exact ⟨k0, _, _, Nat.lt_succ_self _, Weak_keep 0 hm [0, 1, 7, 38, 39] [0] _ _ rfl rfl rfl, _, _, rfl, rfl, h⟩
   refine ACode_exit ?_
   cases h
   exact Weak_keep 0 hm [7] [0] _ _ rfl rfl rfl
 refine kR ?_
 refine kN 2 rfl ?_
 refine ACode_ret ?_
 cases h
 exact ⟨_, _, Weak_frzB 0 [(6, .d (.pv (traD s17) 0))] _ rfl (allc ⟨_, rfl, rfl⟩ (fun _ h => nomatch h)), _, _, [], _, (.cons (ResV_tmp _ _ rfl) .nil), rfl, rfl, rfl, rfl, rfl⟩

def impl_CountAutomorphisms_c1 (p0 : List Int) (p0n : Nat) (p1 : Int) : Bool × List Int × Int :=
 (decide (w64 (p1 + 1) ≤ 20000), p0, w64 (p1 + 1))
theorem impl_CountAutomorphisms_c1_ac (p0 : List Int) (p0n : Nat) (p1 : Int) : AC Tryz.prog 43 [.part 0 0 0 p0n, .ptr 1 0] [.vec 0 (intsD p0), .box [iD p1]] (fun res H' => res = [bV ((impl_CountAutomorphisms_c1 p0 p0n p1).1)] ∧ H' = [.vec 0 (intsD ((impl_CountAutomorphisms_c1 p0 p0n p1).2.1)), .box [iD ((impl_CountAutomorphisms_c1 p0 p0n p1).2.2)]]) := by
 refine AC_of_body true Tryz.func43 rfl Tryz.ntmps43 (rvs := [.tmp 3]) rfl rfl (fun G hG => ?_)
 have hm : G.H.length = 2 := by rw [hG]; rfl
 have hz : zeroG G.H = true := by rw [hG]; rfl
 obtain ⟨r, h⟩ : ∃ r, impl_CountAutomorphisms_c1 p0 p0n p1 = r := ⟨_, rfl⟩
 rw [h]
 unfold impl_CountAutomorphisms_c1 at h
 refine kR ?_
 refine kN 1 rfl ?_
 refine kR ?_
 refine AOps_q 4 _ rfl rfl rfl (QOp_load_ptr _ _ _ _ _ _ rfl Tryz.isAgg2 rfl rfl rfl) ?_
 refine AOps_q 5 _ rfl rfl rfl (QOp_add _ _ _ _ _ _ _ rfl rfl rfl) ?_
 refine AOps_store1 _ _ _ _ _ _ _ _ rfl rfl rfl rfl rfl rfl rfl Tryz.sizeOf2 (Nat.le_of_ble_eq_true rfl) rfl ?_
 refine AOps_nil ?_
 refine kR ?_
 refine AOps_q 6 _ rfl rfl rfl (QOp_load_ptr _ _ _ _ _ _ rfl Tryz.isAgg2 rfl rfl rfl) ?_
 refine AOps_q 7 _ rfl rfl rfl (QOp_leq _ _ _ _ _ _ _ rfl rfl rfl) ?_
 refine kN 1 rfl ?_
 refine ACode_ret ?_
 cases h
 exact ⟨_, _, fun r a w h => ⟨r, h⟩, _, _, [], _, (.cons (ResV_tmp _ _ rfl) .nil), rfl, rfl, rfl, rfl, rfl⟩

def impl_tracer_all_on_CountAutomorphisms_c1_l1 (p0 : Tra) (p1n : Nat) (x4 : Int) (x5 : List Int) : Nat → Bool → Int → Option (Bool)
 | 0, _, _ => none
 | k1 + 1, x11, x12 => (if decide (x12 < ((p1n : Nat) : Int)) then ((if 0 ≤ x12 ∧ x12 < ((p1n : Nat) : Int) ∧ 0 + p1n ≤ x5.length then ((if decide ((x5.getD (0 + x12.toNat) 0) = x4) then some true else (if 0 ≤ x12 ∧ x12 < (p0.o.length : Int) then (impl_Colouring_at p0.x (p0.o.getD x12.toNat 0) (p0.o.getD ((p1n : Nat) : Int).toNat 0)).bind fun r17 => (impl_Colouring_at p0.y (x5.getD (0 + x12.toNat) 0) x4).bind fun r18 => some (!decide (r17 = r18)) else none)) : Option (Bool)).bind fun s19 => (if s19 then (some false).bind fun rr => some (.inr rr) else some (.inl ())) else none) : Option (Sum (Unit) (Bool))).bind fun os21 => (match os21 with | .inl s21 => impl_tracer_all_on_CountAutomorphisms_c1_l1 p0 p1n x4 x5 k1 x11 (w64 (x12 + 1)) | .inr rr => some rr) else some x11)
def impl_tracer_all_on_CountAutomorphisms_c1_l0 (k : Nat) (self : Tra → (List Int) → Nat → Int → Option (Bool × List Int × Int)) (p0 : Tra) (p1n : Nat) : Nat → Int → (List Int) → Int → Option (Sum (List Int × Int) (Bool × List Int × Int))
 | 0, _, _, _ => none
 | k0 + 1, x4, x5, x6 => (if decide (x4 < p0.y.p) then ((if 0 ≤ (p0.o.getD ((p1n : Nat) : Int).toNat 0) ∧ (p0.o.getD ((p1n : Nat) : Int).toNat 0) < 17 then (if 0 ≤ x4 ∧ x4 < 17 then (if !(p0.get ((p0.o.getD ((p1n : Nat) : Int).toNat 0).toNat * 17 + x4.toNat)) then some (.inl (x5, x6)) else (impl_tracer_all_on_CountAutomorphisms_c1_l1 p0 p1n x4 x5 k true 0 : Option (Bool)).bind fun s22 => ((if s22 then (if 0 + p1n + ([x4]).length ≤ x5.length ∧ 1 ≤ ([x4]).length then (self p0 (splicedL x5 (0 + p1n) (([x4]).length) ([x4])) (p1n + ([x4]).length) x6).bind fun r25 => some (!r25.1, r25.2.1, r25.2.2) else none) else some (false, x5, x6)) : Option (Bool × List Int × Int)).bind fun s26 => (if s26.1 then (some (.inr (false, s26.2.1, s26.2.2))).bind fun rr => some (.inr rr) else some (.inl (s26.2.1, s26.2.2)))) else none) else none) : Option (Sum (List Int × Int) (Sum (List Int × Int) (Bool × List Int × Int)))).bind fun os28 => (match os28 with | .inl s28 => impl_tracer_all_on_CountAutomorphisms_c1_l0 k self p0 p1n k0 (w64 (x4 + 1)) s28.1 s28.2 | .inr rr => some rr) else some (.inl (x5, x6)))
def impl_tracer_all_on_CountAutomorphisms_c1_body (self : Tra → (List Int) → Nat → Int → Option (Bool × List Int × Int)) (k : Nat) (p0 : Tra) (p1 : List Int) (p1n : Nat) (p2_0 : Int) : Option (Bool × List Int × Int) :=
 (if decide (((p1n : Nat) : Int) = (p0.o.length : Int)) then some ((impl_CountAutomorphisms_c1 p1 p1n p2_0).1, (impl_CountAutomorphisms_c1 p1 p1n p2_0).2.1, (impl_CountAutomorphisms_c1 p1 p1n p2_0).2.2) else (if 0 ≤ ((p1n : Nat) : Int) ∧ ((p1n : Nat) : Int) < (p0.o.length : Int) then (impl_tracer_all_on_CountAutomorphisms_c1_l0 k self p0 p1n k 0 p1 p2_0 : Option (Sum (List Int × Int) (Bool × List Int × Int))).bind fun os29 => (match os29 with | .inl s29 => some (true, s29.1, s29.2) | .inr rr => some rr) else none))
def impl_tracer_all_on_CountAutomorphisms_c1 : Nat → Tra → (List Int) → Nat → Int → Option (Bool × List Int × Int)
 | 0, _, _, _, _ => none
 | k + 1, p0, p1, p1n, p2_0 => impl_tracer_all_on_CountAutomorphisms_c1_body (impl_tracer_all_on_CountAutomorphisms_c1 k) k p0 p1 p1n p2_0
theorem impl_tracer_all_on_CountAutomorphisms_c1_ac (k : Nat) (p0 : Tra) (p1 : List Int) (p1n : Nat) (p2_0 : Int) (r : Bool × List Int × Int) (h : impl_tracer_all_on_CountAutomorphisms_c1 k p0 p1 p1n p2_0 = some r) : AC Tryz.prog 76 [.d (.pv (traD p0) 0), .part 0 0 0 p1n, .clo 43 [.ptr 1 0]] [.vec 0 (intsD p1), .box [iD p2_0]] (fun res H' => res = [bV r.1] ∧ H' = [.vec 0 (intsD r.2.1), .box [iD r.2.2]]) := by
 induction k generalizing p0 p1 p1n p2_0 r with
 | zero => simp [impl_tracer_all_on_CountAutomorphisms_c1] at h
 | succ k ih =>
  rw [impl_tracer_all_on_CountAutomorphisms_c1] at h
  obtain ⟨self, hself, hk⟩ : ∃ self : Tra → (List Int) → Nat → Int → Option (Bool × List Int × Int), (∀ (p0 : Tra) (p1 : List Int) (p1n : Nat) (p2_0 : Int) (r : Bool × List Int × Int), self p0 p1 p1n p2_0 = some r → AC Tryz.prog 76 [.d (.pv (traD p0) 0), .part 0 0 0 p1n, .clo 43 [.ptr 1 0]] [.vec 0 (intsD p1), .box [iD p2_0]] (fun res H' => res = [bV r.1] ∧ H' = [.vec 0 (intsD r.2.1), .box [iD r.2.2]])) ∧ impl_tracer_all_on_CountAutomorphisms_c1 k = self := ⟨impl_tracer_all_on_CountAutomorphisms_c1 k, fun p0 p1 p1n p2_0 r h => ih p0 p1 p1n p2_0 r h, rfl⟩
  rw [hk] at h
  clear ih hk
  refine AC_of_body true Tryz.func76 rfl Tryz.ntmps76 (rvs := [.tmp 6]) rfl rfl (fun G hG => ?_)
  have hm : G.H.length = 2 := by rw [hG]; rfl
  have hz : zeroG G.H = true := by rw [hG]; rfl
  unfold impl_tracer_all_on_CountAutomorphisms_c1_body at h
  refine kR ?_
  refine kN 1 rfl ?_
  refine kR ?_
  refine kM 1 rfl ?_
  refine AOps_q 14 _ rfl rfl rfl (QOp_len_part _ _ _ _ _ _ _ _ _ _ rfl rfl rfl rfl Tryz.underlying40 rfl rfl rfl) ?_
  refine kN 1 rfl ?_
  refine ACode_seq ?_
  refine kR ?_
  refine kM 2 rfl ?_
  refine AOps_q 17 _ rfl rfl rfl (QOp_nilCheck_pv _ _ _ rfl rfl) ?_
  refine AOps_q 18 _ rfl rfl rfl (QOp_fieldAddr_pv _ _ _ _ _ 2 _ _ rfl Tryz.underlying101 rfl _ Tryz.sizeOf40 rfl rfl) ?_
  refine AOps_q 19 _ rfl rfl rfl (QOp_load_pv _ _ _ _ _ rfl Tryz.isAgg40 rfl rfl) ?_
  refine AOps_q 20 _ rfl rfl rfl (QOp_len_sl _ _ _ _ _ _ _ (intsD_length _) rfl rfl rfl rfl Tryz.underlying40 rfl) ?_
  refine AOps_q 21 _ rfl rfl rfl (QOp_eql _ _ _ _ _ _ _ rfl rfl rfl) ?_
  refine AOps_nil ?_
  refine kI h rfl (fun h _ => ?_) (fun h _ => ?_)
  ·refine kR ?_
   refine kM 2 rfl ?_
   refine kC [0, 1] 24 (bV ((impl_CountAutomorphisms_c1 p1 p1n p2_0).1)) [.vec 0 (intsD ((impl_CountAutomorphisms_c1 p1 p1n p2_0).2.1)), .box [iD ((impl_CountAutomorphisms_c1 p1 p1n p2_0).2.2)]] rfl Tryz.call43 rfl rfl (impl_CountAutomorphisms_c1_ac p1 p1n p2_0) rfl ?_
   refine kN 1 rfl ?_
   refine ACode_ret ?_
   cases h
   exact ⟨_, _, fun r a w h => ⟨r, h⟩, _, _, [], _, (.cons (ResV_tmp _ _ rfl) .nil), rfl, rfl, rfl, rfl, rfl⟩
  refine ACode_skip ?_
  refine kR ?_
  refine kM 1 rfl ?_
  refine AOps_q 26 _ rfl rfl rfl (QOp_nilCheck_pv _ _ _ rfl rfl) ?_
  refine AOps_q 27 _ rfl rfl rfl (QOp_fieldAddr_pv _ _ _ _ _ 2 _ _ rfl Tryz.underlying101 rfl _ Tryz.sizeOf40 rfl rfl) ?_
  refine AOps_q 28 _ rfl rfl rfl (QOp_load_pv _ _ _ _ _ rfl Tryz.isAgg40 rfl rfl) ?_
  refine kM 1 rfl ?_
  obtain ⟨hc3, h⟩ := guardO h
  refine AOps_q 30 _ rfl rfl rfl (QOp_indexAddr_sl _ _ _ _ _ _ _ _ rfl Tryz.underlying40 Tryz.sizeOf2 hc3.1 (by rw [intsD_length]; exact hc3.2) rfl rfl) ?_
  refine AOps_q 31 _ rfl rfl rfl (QOp_load_pv _ _ _ _ _ rfl Tryz.isAgg2 rfl (intsD_get _ _ 0 (by omega))) ?_
  refine kN 1 rfl ?_
  refine kO (fun s29 => []) (fun s29 => [.vec 0 (intsD s29.1), .box [iD s29.2]]) h (fun os29 h hks29 => ?_) (fun s29 h => ?_)
  ·refine kR ?_
   refine kM 1 rfl ?_
   refine AOps_q 33 _ rfl rfl rfl (QOp_nilCheck_pv _ _ _ rfl rfl) ?_
   refine AOps_q 34 _ rfl rfl rfl (QOp_fieldAddr_pv _ _ _ _ _ 1 _ _ rfl Tryz.underlying101 rfl _ Tryz.sizeOf66 rfl rfl) ?_
   refine AOps_q 35 _ rfl rfl rfl (QOp_load_pv _ _ _ _ _ rfl Tryz.isAgg66 rfl rfl) ?_
   refine AOps_q 36 _ rfl rfl rfl (QOp_nilCheck_pv _ _ _ rfl rfl) ?_
   refine AOps_q 37 _ rfl rfl rfl (QOp_fieldAddr_pv _ _ _ _ _ 0 _ _ rfl Tryz.underlying26 rfl _ Tryz.sizeOf2 rfl rfl) ?_
   refine AOps_q 38 _ rfl rfl rfl (QOp_load_pv _ _ _ _ _ rfl Tryz.isAgg2 rfl rfl) ?_
   refine kN 1 rfl ?_
   refine ACode_block ?_
   refine ACode_loopW (fun k0 E H => ∃ (x4 : Int) (x5 : List Int) (x6 : Int), E = [(0, .d (.pv (traD p0) 0)), (1, .part 0 0 0 p1n), (2, .clo 43 [.ptr 1 0]), (8, iV (p0.o.getD ((p1n : Nat) : Int).toNat 0)), (38, iV p0.y.p), (39, iV x4)] ∧ H = [.vec 0 (intsD x5), .box [iD x6]] ∧ impl_tracer_all_on_CountAutomorphisms_c1_l0 k self p0 p1n k0 x4 x5 x6 = some os29) k _ _ (Weak_keep 2 hm [0, 1, 2, 8, 38, 39] [] _ _ rfl rfl rfl) ⟨_, _, _, rfl, rfl, h⟩ ?_
   clear h
   rintro k0 E H ⟨x4, x5, x6, rfl, rfl, h⟩
   cases k0 with
   | zero => cases (show (none : Option (Sum (List Int × Int) (Bool × List Int × Int))) = some _ from h)
   | succ k0 =>
    rw [impl_tracer_all_on_CountAutomorphisms_c1_l0] at h
    refine kR ?_
    refine AOps_q 40 _ rfl rfl rfl (QOp_lss _ _ _ _ _ _ _ rfl rfl rfl) ?_
    refine AOps_nil ?_
    refine ACode_seq ?_
    refine kI h rfl (fun h _ => ?_) (fun h _ => ?_)
    ·refine ACode_skip ?_
     refine kO (fun s28 => [(0, .d (.pv (traD p0) 0)), (1, .part 0 0 0 p1n), (2, .clo 43 [.ptr 1 0]), (8, iV (p0.o.getD ((p1n : Nat) : Int).toNat 0)), (38, iV p0.y.p), (39, iV x4)]) (fun s28 => [.vec 0 (intsD s28.1), .box [iD s28.2]]) h (fun os28 h hks28 => ?_) (fun s28 h => ?_)
     ·refine ACode_block ?_
      refine kR ?_
      refine kN 2 rfl ?_
      refine ACode_seq ?_
      refine kR ?_
      refine kM 3 rfl ?_
      refine AOps_q 45 _ rfl rfl rfl (QOp_nilCheck_pv _ _ _ rfl rfl) ?_
      refine AOps_q 46 _ rfl rfl rfl (QOp_fieldAddr_pv _ _ _ _ _ 3 _ _ rfl Tryz.underlying101 rfl _ Tryz.sizeOf99 rfl rfl) ?_
      obtain ⟨hc8, h⟩ := guardO h
      refine AOps_q 47 _ rfl rfl rfl (QOp_indexAddrM_pv _ _ _ _ _ _ _ _ _ _ rfl Tryz.underlying99 Tryz.sizeOf98 hc8.1 hc8.2 rfl rfl) ?_
      obtain ⟨hc9, h⟩ := guardO h
      refine AOps_q 48 _ rfl rfl rfl (QOp_indexAddrA_pv _ _ _ _ _ _ _ _ _ rfl Tryz.underlying98 Tryz.sizeOf4 hc9.1 hc9.2 rfl rfl) ?_
      refine AOps_q 49 _ rfl rfl rfl (QOp_load_pv _ _ _ _ _ rfl Tryz.isAgg4 rfl (traD_get2 _ _ _ (by omega))) ?_
      refine AOps_q 50 _ rfl rfl rfl (QOp_not _ _ _ rfl rfl) ?_
      refine AOps_nil ?_
      refine kI h rfl (fun h _ => ?_) (fun h _ => ?_)
      ·refine ACode_exit ?_
       cases h
       exact ⟨_, rfl, Weak_keep 2 hm [0, 1, 2, 8, 38, 39] [] _ _ rfl rfl rfl⟩
      refine ACode_skip ?_
      refine kR ?_
      refine kN 1 rfl ?_
      refine kB (fun s22 => [(0, .d (.pv (traD p0) 0)), (1, .part 0 0 0 p1n), (2, .clo 43 [.ptr 1 0]), (8, iV (p0.o.getD ((p1n : Nat) : Int).toNat 0)), (9, iV x4), (10, bV s22), (38, iV p0.y.p), (39, iV x4)]) (fun s22 => [.vec 0 (intsD x5), .box [iD x6]]) h (fun s22 h => ?_) (fun s22 h => ?_)
      ·refine kR ?_
       refine kM 1 rfl ?_
       refine AOps_q 52 _ rfl rfl rfl (QOp_len_part _ _ _ _ _ _ _ _ _ _ rfl rfl rfl rfl Tryz.underlying40 rfl rfl rfl) ?_
       refine kN 1 rfl ?_
       refine ACode_block ?_
       refine ACode_loopW (fun k1 E H => ∃ (x11 : Bool) (x12 : Int), E = [(0, .d (.pv (traD p0) 0)), (1, .part 0 0 0 p1n), (2, .clo 43 [.ptr 1 0]), (8, iV (p0.o.getD ((p1n : Nat) : Int).toNat 0)), (9, iV x4), (10, bV x11), (38, iV p0.y.p), (39, iV x4), (51, .part 0 0 0 p1n), (52, iV ((p1n : Nat) : Int)), (53, iV x12)] ∧ H = [.vec 0 (intsD x5), .box [iD x6]] ∧ impl_tracer_all_on_CountAutomorphisms_c1_l1 p0 p1n x4 x5 k1 x11 x12 = some s22) k _ _ (Weak_keep 2 hm [0, 1, 2, 8, 9, 10, 38, 39, 51, 52, 53] [] _ _ rfl rfl rfl) ⟨_, _, rfl, rfl, h⟩ ?_
       clear h
       rintro k1 E H ⟨x11, x12, rfl, rfl, h⟩
       cases k1 with
       | zero => cases (show (none : Option (Bool)) = some _ from h)
       | succ k1 =>
        rw [impl_tracer_all_on_CountAutomorphisms_c1_l1] at h
        refine kR ?_
        refine AOps_q 54 _ rfl rfl rfl (QOp_lss _ _ _ _ _ _ _ rfl rfl rfl) ?_
        refine AOps_nil ?_
        refine ACode_seq ?_
        refine kI h rfl (fun h _ => ?_) (fun h _ => ?_)
        ·refine ACode_skip ?_
         refine kO (fun s21 => [(0, .d (.pv (traD p0) 0)), (1, .part 0 0 0 p1n), (2, .clo 43 [.ptr 1 0]), (8, iV (p0.o.getD ((p1n : Nat) : Int).toNat 0)), (9, iV x4), (10, bV x11), (38, iV p0.y.p), (39, iV x4), (51, .part 0 0 0 p1n), (52, iV ((p1n : Nat) : Int)), (53, iV x12)]) (fun s21 => [.vec 0 (intsD x5), .box [iD x6]]) h (fun os21 h hks21 => ?_) (fun s21 h => ?_)
         ·refine ACode_block ?_
          refine kR ?_
          refine kM 1 rfl ?_
          obtain ⟨hc14, h⟩ := guardO h
          refine AOps_q 56 _ rfl rfl rfl (QOp_indexAddr_part _ _ _ _ _ _ _ _ _ _ _ _ rfl Tryz.underlying40 Tryz.sizeOf2 hc14.1 hc14.2.1 rfl rfl rfl rfl) ?_
          refine AOps_q 57 _ rfl rfl rfl (QOp_load_eptr _ _ _ _ _ _ _ rfl Tryz.isAgg2 rfl rfl (intsD_get _ _ 0 (by omega))) ?_
          refine kN 2 rfl ?_
          refine kB (fun s19 => [(0, .d (.pv (traD p0) 0)), (1, .part 0 0 0 p1n), (2, .clo 43 [.ptr 1 0]), (8, iV (p0.o.getD ((p1n : Nat) : Int).toNat 0)), (9, iV x4), (10, bV x11), (38, iV p0.y.p), (39, iV x4), (51, .part 0 0 0 p1n), (52, iV ((p1n : Nat) : Int)), (53, iV x12), (83, bV s19)]) (fun s19 => [.vec 0 (intsD x5), .box [iD x6]]) h (fun s19 h => ?_) (fun s19 h => ?_)
          ·refine (ACode_quiet mixed (by kernel_rfl) ?_)
           refine kQ 2 rfl ?_
           refine AQ_q 60 _ rfl rfl rfl (QOp_eql _ _ _ _ _ _ _ rfl rfl rfl) ?_
           refine kQ 1 rfl ?_
           refine AQ_case 61 _ rfl (fun hb15 => ?_) (fun hb15 => ?_)
           ·have h := iteT hb15 h
            refine AQ_skip 62 rfl rfl rfl ?_
            refine AQ_skip 63 rfl rfl rfl ?_
            refine AQ_skip 64 rfl rfl rfl ?_
            refine AQ_skip 65 rfl rfl rfl ?_
            refine AQ_skip 66 rfl rfl rfl ?_
            refine AQ_skip 67 rfl rfl rfl ?_
            refine AQ_skip 68 rfl rfl rfl ?_
            refine AQ_skip 69 rfl rfl rfl ?_
            refine AQ_skip 70 rfl rfl rfl ?_
            refine AQ_skip 71 rfl rfl rfl ?_
            refine AQ_skip 72 rfl rfl rfl ?_
            refine AQ_skip 73 rfl rfl rfl ?_
            refine AQ_skip 74 rfl rfl rfl ?_
            refine AQ_skip 75 rfl rfl rfl ?_
            refine AQ_skip 76 rfl rfl rfl ?_
            refine AQ_skip 77 rfl rfl rfl ?_
            refine AQ_skip 78 rfl rfl rfl ?_
            refine AQ_skip 79 rfl rfl rfl ?_
            refine AQ_skip 80 rfl rfl rfl ?_
            refine AQ_skip 81 rfl rfl rfl ?_
            refine AQ_skip 82 rfl rfl rfl ?_
            refine kQ 1 rfl ?_
            refine AQ_nil ?_
            cases h
            exact Weak_keep 2 hm [0, 1, 2, 8, 9, 10, 38, 39, 51, 52, 53, 83] [] _ _ rfl rfl rfl
           have h := iteF hb15 h
           refine kQ 1 rfl ?_
           refine AQ_q 63 _ rfl rfl rfl (QOp_nilCheck_pv _ _ _ rfl rfl) ?_
           refine AQ_q 64 _ rfl rfl rfl (QOp_fieldAddr_pv _ _ _ _ _ 0 _ _ rfl Tryz.underlying101 rfl _ Tryz.sizeOf66 rfl rfl) ?_
           refine AQ_q 65 _ rfl rfl rfl (QOp_load_pv _ _ _ _ _ rfl Tryz.isAgg66 rfl rfl) ?_
           refine kQ 1 rfl ?_
           refine AQ_q 67 _ rfl rfl rfl (QOp_nilCheck_pv _ _ _ rfl rfl) ?_
           refine AQ_q 68 _ rfl rfl rfl (QOp_fieldAddr_pv _ _ _ _ _ 2 _ _ rfl Tryz.underlying101 rfl _ Tryz.sizeOf40 rfl rfl) ?_
           refine AQ_q 69 _ rfl rfl rfl (QOp_load_pv _ _ _ _ _ rfl Tryz.isAgg40 rfl rfl) ?_
           refine kQ 1 rfl ?_
           obtain ⟨hc16, h⟩ := guardO h
           refine AQ_q 71 _ rfl rfl rfl (QOp_indexAddr_sl _ _ _ _ _ _ _ _ rfl Tryz.underlying40 Tryz.sizeOf2 hc16.1 (by rw [intsD_length]; exact hc16.2) rfl rfl) ?_
           refine AQ_q 72 _ rfl rfl rfl (QOp_load_pv _ _ _ _ _ rfl Tryz.isAgg2 rfl (intsD_get _ _ 0 (by omega))) ?_
           refine kQ 1 rfl ?_
           obtain ⟨r17, hr17, h⟩ := bindO h
           refine AQ_call 74 _ _ _ _ _ _ _ _ _ rfl rfl rfl rfl rfl rfl rfl Tryz.call67 rfl rfl rfl (impl_Colouring_at_ac p0.x (p0.o.getD x12.toNat 0) (p0.o.getD ((p1n : Nat) : Int).toNat 0) _ hr17) ?_
           refine kQ 1 rfl ?_
           refine AQ_q 76 _ rfl rfl rfl (QOp_nilCheck_pv _ _ _ rfl rfl) ?_
           refine AQ_q 77 _ rfl rfl rfl (QOp_fieldAddr_pv _ _ _ _ _ 1 _ _ rfl Tryz.underlying101 rfl _ Tryz.sizeOf66 rfl rfl) ?_
           refine AQ_q 78 _ rfl rfl rfl (QOp_load_pv _ _ _ _ _ rfl Tryz.isAgg66 rfl rfl) ?_
           refine kQ 2 rfl ?_
           obtain ⟨r18, hr18, h⟩ := bindO h
           refine AQ_call 81 _ _ _ _ _ _ _ _ _ rfl rfl rfl rfl rfl rfl rfl Tryz.call67 rfl rfl rfl (impl_Colouring_at_ac p0.y (x5.getD (0 + x12.toNat) 0) x4 _ hr18) ?_
           refine AQ_q 82 _ rfl rfl rfl (QOp_neq _ _ _ _ _ _ _ rfl rfl rfl) ?_
           refine kQ 1 rfl ?_
           refine AQ_nil ?_
           cases h
           exact Weak_keep 2 hm [0, 1, 2, 8, 9, 10, 38, 39, 51, 52, 53, 83] [] _ _ rfl rfl rfl
          refine kI h rfl (fun h _ => ?_) (fun h _ => ?_)
          ·refine kR ?_
           refine kN 1 rfl ?_
           refine ACode_exit ?_
           obtain ⟨rr, hz30, h2⟩ := bindO h
           obtain rfl := Option.some.inj h2
           obtain rfl := Option.some.inj (show some rr = some _ from hks21)
           have h := hz30
           cases h
           exact Weak_keep 2 hm [0, 1, 2, 8, 9, 10, 38, 39] [] _ _ rfl rfl rfl
          refine ACode_skip ?_
          cases h
          exact ⟨_, rfl, Weak_keep 2 hm [0, 1, 2, 8, 9, 10, 38, 39, 51, 52, 53] [] _ _ rfl rfl rfl⟩
         refine (ACode_region ?_)
         refine AOps_q 84 _ rfl rfl rfl (QOp_add _ _ _ _ _ _ _ rfl rfl rfl) ?_
         refine kN 1 rfl ?_
         exact ⟨k1, _, _, Nat.lt_succ_self _, Weak_keep 2 hm [0, 1, 2, 8, 9, 10, 38, 39, 51, 52, 53] [] _ _ rfl rfl rfl, _, _, rfl, rfl, h⟩
        refine ACode_exit ?_
        cases h
        exact Weak_keep 2 hm [0, 1, 2, 8, 9, 10, 38, 39] [] _ _ rfl rfl rfl
      refine kB (fun s26 => [(0, .d (.pv (traD p0) 0)), (1, .part 0 0 0 p1n), (2, .clo 43 [.ptr 1 0]), (8, iV (p0.o.getD ((p1n : Nat) : Int).toNat 0)), (38, iV p0.y.p), (39, iV x4), (95, bV s26.1)]) (fun s26 => [.vec 0 (intsD s26.2.1), .box [iD s26.2.2]]) h (fun s26 h => ?_) (fun s26 h => ?_)
      ·refine (ACode_region ?_)
       refine kM 2 rfl ?_
       refine AOps_case 86 _ rfl (fun hb23 => ?_) (fun hb23 => ?_)
       ·have h := iteT hb23 h
        refine kM 3 rfl ?_
        refine AOps_buildSlice 90 _ _ _ [_] (intsD ([x4])) _ rfl rfl rfl rfl rfl (by decide) Tryz.underlying40 Tryz.sizeOf2 (zero_of Tryz.typeInfo2 rfl) rfl rfl (intsD_one _) ?_
        obtain ⟨hc24, h⟩ := guardO h
        refine AOps_append_part 91 _ _ _ _ _ 0 0 0 p1n (p1n + ([x4]).length) _ (intsD x5) (intsD ([x4])) _ rfl rfl rfl rfl rfl rfl rfl Tryz.underlying40 Tryz.type2 rfl rfl rfl rfl rfl (intsD_one _) (by rw [intsD_length]; exact hc24.2) (by rw [intsD_length, intsD_length]; exact hc24.1) (by rw [intsD_length]) ?_
        rw [intsD_length, intsD_spl]
        refine kM 1 rfl ?_
        obtain ⟨r25, hr25, h⟩ := bindO h
        refine kC [0, 1] 93 (bV r25.1) [.vec 0 (intsD r25.2.1), .box [iD r25.2.2], .vec 0 (intsD ([x4]))] rfl Tryz.call76 rfl rfl (hself p0 (splicedL x5 (0 + p1n) (([x4]).length) ([x4])) (p1n + ([x4]).length) x6 _ hr25) rfl ?_
        refine AOps_q 94 _ rfl rfl rfl (QOp_not _ _ _ rfl rfl) ?_
        refine kN 1 rfl ?_
        cases h
        exact Weak_keep 2 hm [0, 1, 2, 8, 38, 39, 95] [] _ _ rfl rfl rfl
       have h := iteF hb23 h
       refine AOps_skip 87 rfl rfl rfl ?_
       refine AOps_skip 88 rfl rfl rfl ?_
       refine AOps_skip 89 rfl rfl rfl ?_
       refine AOps_skip 90 rfl rfl rfl ?_
       refine AOps_skip 91 rfl rfl rfl ?_
       refine AOps_skip 92 rfl rfl rfl ?_
       refine AOps_skip 93 rfl rfl rfl ?_
       refine AOps_skip 94 rfl rfl rfl ?_
       refine kN 1 rfl ?_
       cases h
       exact Weak_keep 2 hm [0, 1, 2, 8, 38, 39, 95] [] _ _ rfl rfl rfl
      refine kI h rfl (fun h _ => ?_) (fun h _ => ?_)
      ·refine kR ?_
       refine kN 1 rfl ?_
       refine ACode_ret ?_
       obtain ⟨rr, hz31, h2⟩ := bindO h
       obtain rfl := Option.some.inj h2
       obtain rfl := Option.some.inj (show some rr = some _ from hks28)
       have h := hz31
       cases h
       have h := hks29
       cases h
       exact ⟨_, _, fun r a w h => ⟨r, h⟩, _, _, [], _, (.cons (ResV_tmp _ _ rfl) .nil), rfl, rfl, rfl, rfl, rfl⟩
      refine ACode_skip ?_
      cases h
      exact ⟨_, rfl, Weak_keep 2 hm [0, 1, 2, 8, 38, 39] [] _ _ rfl rfl rfl⟩
     refine (ACode_region ?_)
     refine AOps_q 96 _ rfl rfl rfl (QOp_add _ _ _ _ _ _ _ rfl rfl rfl) ?_
     refine kN 1 rfl ?_
     exact ⟨k0, _, _, Nat.lt_succ_self _, Weak_keep 2 hm [0, 1, 2, 8, 38, 39] [] _ _ rfl rfl rfl, _, _, _, rfl, rfl, h⟩
    refine ACode_exit ?_
    cases h
    exact ⟨_, rfl, Weak_keep 2 hm [] [] _ _ rfl rfl rfl⟩
  refine kR ?_
  refine kN 1 rfl ?_
  refine ACode_ret ?_
  cases h
  exact ⟨_, _, fun r a w h => ⟨r, h⟩, _, _, [], _, (.cons (ResV_tmp _ _ rfl) .nil), rfl, rfl, rfl, rfl, rfl⟩

def impl_Colouring_leading_on_CountAutomorphisms_c1 (k : Nat) (p0 : Col) (p1 : Col) (p2_0 : Int) : Option (Bool × Int) :=
 (impl_Colouring_points k p0).bind fun r1 => (impl_newTracer k p0 p1 r1).bind fun r2 => (match r2 with | none => letO () fun (s5 : Unit) => some (true, p2_0) | some l3 => ((impl_tracer_all_on_CountAutomorphisms_c1 k l3 (List.replicate 17 (0 : Int)) 0 p2_0).bind fun r7 => some (r7.1, r7.2.2) : Option (Bool × Int)).bind fun s8 => some (s8.1, s8.2))
theorem impl_Colouring_leading_on_CountAutomorphisms_c1_ac (k : Nat) (p0 : Col) (p1 : Col) (p2_0 : Int) (r : Bool × Int) (h : impl_Colouring_leading_on_CountAutomorphisms_c1 k p0 p1 p2_0 = some r) : AC Tryz.prog 42 [.d (.pv (colD p0) 0), .d (.pv (colD p1) 0), .clo 43 [.ptr 0 0]] [.box [iD p2_0]] (fun res H' => res = [bV r.1] ∧ H' = [.box [iD r.2]]) := by
 refine AC_of_body true Tryz.func42 rfl Tryz.ntmps42 (rvs := [.tmp 6]) rfl rfl (fun G hG => ?_)
 have hm : G.H.length = 1 := by rw [hG]; rfl
 have hz : zeroG G.H = true := by rw [hG]; rfl
 unfold impl_Colouring_leading_on_CountAutomorphisms_c1 at h
 refine kR ?_
 refine kN 1 rfl ?_
 refine kR ?_
 refine kM 3 rfl ?_
 obtain ⟨r1, hr1, h⟩ := bindO h
 refine kC [] 11 (.vec 1 0) [.box [iD p2_0], .vec 0 (intsD r1)] rfl Tryz.call80 rfl rfl (impl_Colouring_points_ac k p0 _ hr1) rfl ?_
 refine AOps_freezeL [11] 1 0 _ (allc (rfl) (fun _ h => nomatch h)) rfl ?_
 obtain ⟨r2, hr2, h⟩ := bindO h
 refine AOps_call [] 12 _ _ _ _ _ _ _ _ _ _ rfl rfl rfl rfl rfl rfl rfl Tryz.call73 rfl (nodupB_sound _ rfl) rfl rfl rfl (impl_newTracer_ac k p0 p1 r1 _ hr2) ?_
 revert h
 cases hx4 : r2 with
 | none =>
  intro h
  rintro _ _ ⟨rfl, rfl⟩
  refine ⟨(fun _ h => nomatch h), (allc (trivial) (fun _ h => nomatch h)), AOps_as 12 (v' := .d (.s (.pointer none))) (H' := [.box [iD p2_0], .gone]) rfl rfl ?_⟩
  refine kN 1 rfl ?_
  refine kL (fun s5 => [(6, bV true)]) (fun s5 => [.box [iD p2_0]]) h (fun s5 h => ?_) (fun s5 h => ?_)
  ·refine (ACode_region ?_)
   refine kM 1 rfl ?_
   refine AOps_q 14 _ rfl rfl rfl (QOp_pnil _ _ _ _ _ rfl rfl rfl Tryz.underlying94) ?_
   refine kM 1 rfl ?_
   refine AOps_skip 16 rfl rfl rfl ?_
   refine AOps_skip 17 rfl rfl rfl ?_
   refine AOps_skip 18 rfl rfl rfl ?_
   refine AOps_skip 19 rfl rfl rfl ?_
   refine kN 2 rfl ?_
   cases h
   exact Weak_keep 1 hm [6] [] _ _ rfl rfl rfl
  refine ACode_ret ?_
  cases h
  exact ⟨_, _, fun r a w h => ⟨r, h⟩, _, _, [], _, (.cons (ResV_tmp _ _ rfl) .nil), rfl, rfl, rfl, rfl, rfl⟩
 | some l3 =>
  intro h
  rintro _ _ ⟨rfl, rfl⟩
  refine ⟨(fun _ h => nomatch h), (allc (trivial) (fun _ h => nomatch h)), AOps_as 12 (v' := .d (.pv (traD l3) 0)) (H' := [.box [iD p2_0], .gone]) rfl rfl ?_⟩
  refine kN 1 rfl ?_
  refine kB (fun s8 => [(6, bV s8.1)]) (fun s8 => [.box [iD s8.2]]) h (fun s8 h => ?_) (fun s8 h => ?_)
  ·refine (ACode_region ?_)
   refine kM 1 rfl ?_
   refine AOps_q 14 _ rfl rfl rfl (QOp_pvnil _ _ _ _ _ _ _ rfl rfl rfl Tryz.underlying94) ?_
   refine kM 2 rfl ?_
   refine AOps_makeBufG intsD iD 0 (intsD_rep · _) 17 _ _ _ _ _ _ 17 _ (.int .i64 0) rfl rfl rfl rfl rfl rfl Tryz.underlying40 Tryz.type2 rfl rfl (by decide) rfl rfl (by decide) ?_
   refine kM 1 rfl ?_
   obtain ⟨r7, hr7, h⟩ := bindO h
   refine kC [2, 0] 19 (bV r7.1) [.box [iD r7.2.2], .gone, .vec 0 (intsD r7.2.1)] rfl Tryz.call76 rfl rfl (impl_tracer_all_on_CountAutomorphisms_c1_ac k l3 (List.replicate 17 (0 : Int)) 0 p2_0 _ hr7) rfl ?_
   refine kN 2 rfl ?_
   cases h
   exact Weak_keep 1 hm [6] [] _ _ rfl rfl rfl
  refine ACode_ret ?_
  cases h
  exact ⟨_, _, fun r a w h => ⟨r, h⟩, _, _, [], _, (.cons (ResV_tmp _ _ rfl) .nil), rfl, rfl, rfl, rfl, rfl⟩

def impl_CountAutomorphisms (k : Nat) (p0 : Col) : Option (Int × Int) :=
 (impl_Colouring_code k p0 (some (impl_always))).bind fun r1 => (if !decide (r1 = 0) then some (0, r1) else (impl_Colouring_leading_on_CountAutomorphisms_c1 k p0 p0 0).bind fun r3 => (if decide (20000 < r3.2) then some (0, 3) else some (r3.2, 0)))
theorem impl_CountAutomorphisms_ac (k : Nat) (p0 : Col) (r : Int × Int) (h : impl_CountAutomorphisms k p0 = some r) : AC Tryz.prog 12 [.d (.agg (colD p0))] [] (fun res H' => res = [iV r.1, iV r.2] ∧ H' = []) := by
 refine AC_of_body true Tryz.func12 rfl Tryz.ntmps12 (rvs := [.tmp 2, .tmp 3]) rfl rfl (fun G hG => ?_)
 have hm : G.H.length = 0 := by rw [hG]; rfl
 have hz : zeroG G.H = true := by rw [hG]; rfl
 unfold impl_CountAutomorphisms at h
 refine kR ?_
 refine AOps_boxI 1 _ _ (.agg (colD p0)) (colD p0) rfl (colD_one _) rfl rfl rfl rfl rfl ?_
 refine kN 2 rfl ?_
 refine ACode_seq ?_
 refine kR ?_
 obtain ⟨r1, hr1, h⟩ := bindO h
 refine kC [] 6 (iV r1) [] rfl Tryz.call27 rfl rfl (impl_Colouring_code_ac k p0 (some (impl_always)) 28 ([]) Tryz.call28 (fun r h => by cases h; exact impl_always_ac) _ hr1) rfl ?_
 refine kN 1 rfl ?_
 refine kR ?_
 refine kM 1 rfl ?_
 refine AOps_q 8 _ rfl rfl rfl (QOp_neq _ _ _ _ _ _ _ rfl rfl rfl) ?_
 refine AOps_nil ?_
 refine kI h rfl (fun h _ => ?_) (fun h _ => ?_)
 ·refine kR ?_
  refine kN 3 rfl ?_
  refine ACode_ret ?_
  cases h
  exact ⟨_, _, fun r a w h => ⟨r, h⟩, _, _, [], _, (.cons (ResV_tmp _ _ rfl) (.cons (ResV_tmp _ _ rfl) .nil)), rfl, rfl, rfl, rfl, rfl⟩
 refine ACode_skip ?_
 refine kR ?_
 refine AOps_alloc 5 _ _ ([iD 0]) (zero_of Tryz.typeInfo2 rfl) (by rfl) rfl rfl rfl rfl ?_
 refine AOps_store1 _ _ _ _ _ _ _ _ rfl rfl rfl rfl rfl rfl rfl Tryz.sizeOf2 (Nat.le_of_ble_eq_true rfl) rfl ?_
 refine AOps_nil ?_
 refine kR ?_
 refine AOps_q 10 _ rfl rfl rfl (QOp_makeFunc _ _ _ rfl rfl) ?_
 obtain ⟨r3, hr3, h⟩ := bindO h
 refine kC [0] 11 (bV r3.1) [.box [iD r3.2]] rfl Tryz.call42 rfl rfl (impl_Colouring_leading_on_CountAutomorphisms_c1_ac k p0 p0 0 _ hr3) rfl ?_
 refine AOps_nil ?_
 refine ACode_seq ?_
 refine kR ?_
 refine AOps_q 12 _ rfl rfl rfl (QOp_load_ptr _ _ _ _ _ _ rfl Tryz.isAgg2 rfl rfl rfl) ?_
 refine AOps_q 13 _ rfl rfl rfl (QOp_gtr _ _ _ _ _ _ _ rfl rfl rfl) ?_
 refine AOps_nil ?_
 refine kI h rfl (fun h _ => ?_) (fun h _ => ?_)
 ·refine kR ?_
  refine kN 2 rfl ?_
  refine ACode_ret ?_
  cases h
  exact ⟨_, _, fun r a w h => ⟨r, h⟩, _, _, [], _, (.cons (ResV_tmp _ _ rfl) (.cons (ResV_tmp _ _ rfl) .nil)), rfl, rfl, rfl, rfl, rfl⟩
 refine ACode_skip ?_
 refine kR ?_
 refine AOps_q 14 _ rfl rfl rfl (QOp_load_ptr _ _ _ _ _ _ rfl Tryz.isAgg2 rfl rfl rfl) ?_
 refine kN 2 rfl ?_
 refine ACode_ret ?_
 cases h
 exact ⟨_, _, fun r a w h => ⟨r, h⟩, _, _, [], _, (.cons (ResV_tmp _ _ rfl) (.cons (ResV_tmp _ _ rfl) .nil)), rfl, rfl, rfl, rfl, rfl⟩

def spec_l06Between (k : Nat) (p0 : Col) (p1 : Col) (p2 : Int) : Option (Sea) :=
 (spec_l06Types k p0).bind fun r1 => (spec_l06Types k p1).bind fun r2 => (letO (if !decide (p0.p = p1.p) then true else !decide (p0.k = p1.k)) fun (s4 : Bool) => (if s4 then some (.inr (⟨p0, p1, r1, r2, p2, 0, []⟩ : Sea)) else some (.inl ())) : Option (Sum (Unit) (Sea))).bind fun os6 => (match os6 with | .inl s6 => (spec_l06Go k (⟨p0, p1, r1, r2, p2, 0, []⟩ : Sea) ([] : List Int) 0).bind fun r7 => some r7 | .inr rr => some rr)
theorem spec_l06Between_ac (k : Nat) (p0 : Col) (p1 : Col) (p2 : Int) (r : Sea) (h : spec_l06Between k p0 p1 p2 = some r) : AC Tryz.prog 44 [.d (.agg (colD p0)), .d (.agg (colD p1)), iV p2] [] (fun res H' => res = [.ptr 0 0] ∧ H' = [.box (seaD r)]) := by
 refine AC_of_body true Tryz.func44 rfl Tryz.ntmps44 (rvs := [.tmp 6]) rfl rfl (fun G hG => ?_)
 have hm : G.H.length = 0 := by rw [hG]; rfl
 have hz : zeroG G.H = true := by rw [hG]; rfl
 unfold spec_l06Between at h
 refine kR ?_
 refine AOps_boxI 3 _ _ (.agg (colD p0)) (colD p0) rfl (colD_one _) rfl rfl rfl rfl rfl ?_
 refine AOps_boxI 4 _ _ (.agg (colD p1)) (colD p1) rfl (colD_one _) rfl rfl rfl rfl rfl ?_
 refine kN 1 rfl ?_
 obtain ⟨r1, hr1, h⟩ := bindO h
 obtain ⟨r2, hr2, h⟩ := bindO h
 refine ACode_seqJ (fun E' H' => Weak 34 G E' H' [(3, .d (.pv (colD p0) 0)), (4, .d (.pv (colD p1) 0)), (7, .ptr 0 0)] [.box (seaD (⟨p0, p1, r1, r2, p2, 0, []⟩ : Sea))]) ?_ ?_
 ·refine ACode_any mixed ?_
  refine AAny_q 0 8 _ rfl (by kernel_rfl) rfl rfl rfl (QOp_loadN_pv _ _ _ _ _ _ rfl Tryz.isAgg26 Tryz.sizeOf26 rfl (colD_all _) (colD_length _)) ?_
  refine AAny_q 1 9 _ rfl (by kernel_rfl) rfl rfl rfl (QOp_loadN_pv _ _ _ _ _ _ rfl Tryz.isAgg26 Tryz.sizeOf26 rfl (colD_all _) (colD_length _)) ?_
  refine AAny_q 2 10 _ rfl (by kernel_rfl) rfl rfl rfl (QOp_loadN_pv _ _ _ _ _ _ rfl Tryz.isAgg26 Tryz.sizeOf26 rfl (colD_all _) (colD_length _)) ?_
  refine AAny_q 4 12 _ rfl (by kernel_rfl) rfl rfl rfl (QOp_loadN_pv _ _ _ _ _ _ rfl Tryz.isAgg26 Tryz.sizeOf26 rfl (colD_all _) (colD_length _)) ?_
  refine AAny_q 6 14 _ rfl (by kernel_rfl) rfl rfl rfl (QOp_move _ _ rfl rfl) ?_
  refine AAny_all [3] (by kernel_rfl) rfl (allc ?_ (fun _ h => nomatch h))
  refine AStep_callN 3 11 _ _ _ _ _ _ _ _ _ rfl rfl rfl rfl rfl rfl rfl rfl Tryz.call78 rfl rfl rfl (spec_l06Types_ac k p0 _ hr1) ?_
  rintro _ _ ⟨rfl, rfl⟩
  refine ⟨(allc (fun _ _ => trivial) (fun _ h => nomatch h)), (allc (trivial) (fun _ h => nomatch h)), AAny_as 11 (v' := .vec 0 0) (H' := [.vec 0 (intsD r1)]) rfl rfl ?_⟩
  refine AAny_all [5] (by kernel_rfl) rfl (allc ?_ (fun _ h => nomatch h))
  refine AStep_callN 5 13 _ _ _ _ _ _ _ _ _ rfl rfl rfl rfl rfl rfl rfl rfl Tryz.call78 rfl rfl rfl (spec_l06Types_ac k p1 _ hr2) ?_
  rintro _ _ ⟨rfl, rfl⟩
  refine ⟨(allc (fun _ _ => trivial) (fun _ h => nomatch h)), (allc (trivial) (fun _ h => nomatch h)), AAny_as 13 (v' := .vec 1 0) (H' := [.vec 0 (intsD r1), .vec 0 (intsD r2)]) rfl rfl ?_⟩
  refine AAny_freeze 11 0 0 _ rfl rfl ?_
  refine AAny_freeze 13 1 0 _ rfl rfl ?_
  refine AAny_q 7 15 _ rfl (by kernel_rfl) rfl rfl rfl (QOp_build _ _ [_, _, _, _, _] [0, 1, 2, 3, 4] [.agg (colD p0), .agg (colD p1), .sl none (intsD r1), .sl none (intsD r2), iD p2] _ seaZ (seaN (⟨p0, p1, r1, r2, p2, 0, []⟩ : Sea)) [(0, 138), (138, 138), (276, 1), (277, 1), (278, 1), (279, 1), (280, 1)] rfl rfl Tryz.underlying70 (zero_of Tryz.typeInfo70 rfl) (fun w => by simp [Tryz.sizeOf26, Tryz.sizeOf40, Tryz.sizeOf2]) rfl (by rfl) (sea_fillB p0 p1 r1 r2 p2) (allc (colD_cellsOK _) (allc (colD_cellsOK _) (allc (ok1 rfl) (allc (ok1 rfl) (allc (ok1 rfl) (fun _ h => nomatch h))))))) ?_
  refine AAny_all [8] (by kernel_rfl) rfl (allc ?_ (fun _ h => nomatch h))
  refine AStep_of 8 rfl rfl (Bl_box _ _ rfl) ?_
  refine AOps_weak (Weak_aggdrop 15 280 _ _ _ (seaD (⟨p0, p1, r1, r2, p2, 0, []⟩ : Sea)) rfl (seaN_f _) (seaN_drop _ rfl rfl)) ?_
  refine AOps_boxM 16 _ _ (.agg (seaD (⟨p0, p1, r1, r2, p2, 0, []⟩ : Sea))) (seaD (⟨p0, p1, r1, r2, p2, 0, []⟩ : Sea)) rfl (seaD_one _) rfl rfl rfl rfl rfl ?_
  refine AOps_nil ?_
  refine AAny_q 9 7 _ rfl (by kernel_rfl) rfl rfl rfl (QOp_assign _ _ rfl rfl) ?_
  refine AAny_done (by kernel_rfl) ?_
  exact Weak_keep 0 hm [3, 4, 7] [2] _ _ rfl rfl rfl
 intro E' H' hw
 refine ACode_weak hw ?_
 refine kO (fun s6 => [(7, .ptr 0 0)]) (fun s6 => [.box (seaD (⟨p0, p1, r1, r2, p2, 0, []⟩ : Sea))]) h (fun os6 h hks6 => ?_) (fun s6 h => ?_)
 ·refine kL (fun s4 => [(7, .ptr 0 0), (28, bV s4)]) (fun s4 => [.box (seaD (⟨p0, p1, r1, r2, p2, 0, []⟩ : Sea))]) h (fun s4 h => ?_) (fun s4 h => ?_)
  ·refine (ACode_region ?_)
   refine AOps_q 17 _ rfl rfl rfl (QOp_fieldAddr_pv _ _ _ _ _ 0 _ _ rfl Tryz.underlying26 rfl _ Tryz.sizeOf2 rfl rfl) ?_
   refine AOps_q 18 _ rfl rfl rfl (QOp_load_pv _ _ _ _ _ rfl Tryz.isAgg2 rfl rfl) ?_
   refine AOps_q 19 _ rfl rfl rfl (QOp_fieldAddr_pv _ _ _ _ _ 0 _ _ rfl Tryz.underlying26 rfl _ Tryz.sizeOf2 rfl rfl) ?_
   refine AOps_q 20 _ rfl rfl rfl (QOp_load_pv _ _ _ _ _ rfl Tryz.isAgg2 rfl rfl) ?_
   refine AOps_q 21 _ rfl rfl rfl (QOp_neq _ _ _ _ _ _ _ rfl rfl rfl) ?_
   refine kM 1 rfl ?_
   refine AOps_case 22 _ rfl (fun hb3 => ?_) (fun hb3 => ?_)
   ·have h := iteT hb3 h
    refine AOps_skip 23 rfl rfl rfl ?_
    refine AOps_skip 24 rfl rfl rfl ?_
    refine AOps_skip 25 rfl rfl rfl ?_
    refine AOps_skip 26 rfl rfl rfl ?_
    refine AOps_skip 27 rfl rfl rfl ?_
    refine kN 1 rfl ?_
    cases h
    exact Weak_keep 0 hm [7, 28] [0] _ _ rfl rfl rfl
   have h := iteF hb3 h
   refine AOps_q 23 _ rfl rfl rfl (QOp_fieldAddr_pv _ _ _ _ _ 1 _ _ rfl Tryz.underlying26 rfl _ Tryz.sizeOf2 rfl rfl) ?_
   refine AOps_q 24 _ rfl rfl rfl (QOp_load_pv _ _ _ _ _ rfl Tryz.isAgg2 rfl rfl) ?_
   refine AOps_q 25 _ rfl rfl rfl (QOp_fieldAddr_pv _ _ _ _ _ 1 _ _ rfl Tryz.underlying26 rfl _ Tryz.sizeOf2 rfl rfl) ?_
   refine AOps_q 26 _ rfl rfl rfl (QOp_load_pv _ _ _ _ _ rfl Tryz.isAgg2 rfl rfl) ?_
   refine AOps_q 27 _ rfl rfl rfl (QOp_neq _ _ _ _ _ _ _ rfl rfl rfl) ?_
   refine kN 1 rfl ?_
   cases h
   exact Weak_keep 0 hm [7, 28] [0] _ _ rfl rfl rfl
  refine kI h rfl (fun h _ => ?_) (fun h _ => ?_)
  ·refine kR ?_
   refine kN 2 rfl ?_
   refine ACode_ret ?_
   cases h
   have h := hks6
   cases h
   exact ⟨_, _, Weak_reset 0 hm hz [6] _ _ rfl rfl, _, _, [0], _, (.cons (ResV_tmp _ _ rfl) .nil), rfl, rfl, rfl, rfl, rfl⟩
  refine ACode_skip ?_
  cases h
  exact ⟨_, rfl, Weak_keep 0 hm [7] [0] _ _ rfl rfl rfl⟩
 refine kR ?_
 refine kM 1 rfl ?_
 refine AOps_buildSlice 31 _ _ _ [] (intsD ([] : List Int)) _ rfl rfl rfl rfl rfl (by decide) Tryz.underlying40 Tryz.sizeOf2 (zero_of Tryz.typeInfo2 rfl) rfl rfl (intsD_one _) ?_
 refine AOps_freezeL [31] 1 0 _ (allc (rfl) (fun _ h => nomatch h)) rfl ?_
 obtain ⟨r7, hr7, h⟩ := bindO h
 refine kC [0] 32 (.tup []) [.box (seaD r7), .gone] rfl Tryz.call79 rfl rfl (spec_l06Go_ac k (⟨p0, p1, r1, r2, p2, 0, []⟩ : Sea) ([] : List Int) 0 _ hr7) rfl ?_
 refine AOps_nil ?_
 refine kR ?_
 refine kN 2 rfl ?_
 refine ACode_ret ?_
 cases h
 exact ⟨_, _, Weak_reset 0 hm hz [6] _ _ rfl rfl, _, _, [0], _, (.cons (ResV_tmp _ _ rfl) .nil), rfl, rfl, rfl, rfl, rfl⟩

def spec_CountAutomorphisms (k : Nat) (p0 : Col) : Option (Int × Int) :=
 (spec_l01Is k p0).bind fun r1 => (if !r1 then some (0, 1) else (spec_l06Between k p0 p0 20001).bind fun r3 => (if decide (20000 < r3.count) then some (0, 3) else some (r3.count, 0)))
theorem spec_CountAutomorphisms_ac (k : Nat) (p0 : Col) (r : Int × Int) (h : spec_CountAutomorphisms k p0 = some r) : AC Tryz.prog 13 [.d (.agg (colD p0))] [] (fun res H' => res = [iV r.1, iV r.2] ∧ H' = []) := by
 refine AC_of_body true Tryz.func13 rfl Tryz.ntmps13 (rvs := [.tmp 2, .tmp 3]) rfl rfl (fun G hG => ?_)
 have hm : G.H.length = 0 := by rw [hG]; rfl
 have hz : zeroG G.H = true := by rw [hG]; rfl
 unfold spec_CountAutomorphisms at h
 refine kR ?_
 refine AOps_boxI 1 _ _ (.agg (colD p0)) (colD p0) rfl (colD_one _) rfl rfl rfl rfl rfl ?_
 refine kN 2 rfl ?_
 refine ACode_seq ?_
 refine kR ?_
 refine AOps_q 5 _ rfl rfl rfl (QOp_loadN_pv _ _ _ _ _ _ rfl Tryz.isAgg26 Tryz.sizeOf26 rfl (colD_all _) (colD_length _)) ?_
 obtain ⟨r1, hr1, h⟩ := bindO h
 refine kC [] 6 (bV r1) [] rfl Tryz.call32 rfl rfl (spec_l01Is_ac k p0 _ hr1) rfl ?_
 refine AOps_q 7 _ rfl rfl rfl (QOp_not _ _ _ rfl rfl) ?_
 refine AOps_nil ?_
 refine kI h rfl (fun h _ => ?_) (fun h _ => ?_)
 ·refine kR ?_
  refine kN 2 rfl ?_
  refine ACode_ret ?_
  cases h
  exact ⟨_, _, fun r a w h => ⟨r, h⟩, _, _, [], _, (.cons (ResV_tmp _ _ rfl) (.cons (ResV_tmp _ _ rfl) .nil)), rfl, rfl, rfl, rfl, rfl⟩
 refine ACode_skip ?_
 refine kR ?_
 refine AOps_q 8 _ rfl rfl rfl (QOp_loadN_pv _ _ _ _ _ _ rfl Tryz.isAgg26 Tryz.sizeOf26 rfl (colD_all _) (colD_length _)) ?_
 refine AOps_q 9 _ rfl rfl rfl (QOp_loadN_pv _ _ _ _ _ _ rfl Tryz.isAgg26 Tryz.sizeOf26 rfl (colD_all _) (colD_length _)) ?_
 obtain ⟨r3, hr3, h⟩ := bindO h
 refine kC [] 10 (.ptr 0 0) [.box (seaD r3)] rfl Tryz.call44 rfl rfl (spec_l06Between_ac k p0 p0 20001 _ hr3) rfl ?_
 refine kN 1 rfl ?_
 refine ACode_seq ?_
 refine kR ?_
 refine kM 1 rfl ?_
 refine AOps_q 12 _ rfl rfl rfl (QOp_nilCheck_ptr _ _ _ _ rfl rfl rfl rfl) ?_
 refine AOps_q 13 _ rfl rfl rfl (QOp_fieldAddr_ptr _ _ _ _ _ _ 279 _ _ rfl Tryz.underlying70 rfl _ Tryz.sizeOf2 rfl rfl rfl rfl) ?_
 refine AOps_q 14 _ rfl rfl rfl (QOp_load_ptr _ _ _ _ _ _ rfl Tryz.isAgg2 rfl rfl (seaD_c _)) ?_
 refine AOps_q 15 _ rfl rfl rfl (QOp_gtr _ _ _ _ _ _ _ rfl rfl rfl) ?_
 refine AOps_nil ?_
 refine kI h rfl (fun h _ => ?_) (fun h _ => ?_)
 ·refine kR ?_
  refine kN 2 rfl ?_
  refine ACode_ret ?_
  cases h
  exact ⟨_, _, fun r a w h => ⟨r, h⟩, _, _, [], _, (.cons (ResV_tmp _ _ rfl) (.cons (ResV_tmp _ _ rfl) .nil)), rfl, rfl, rfl, rfl, rfl⟩
 refine ACode_skip ?_
 refine kR ?_
 refine kM 1 rfl ?_
 refine AOps_q 17 _ rfl rfl rfl (QOp_nilCheck_ptr _ _ _ _ rfl rfl rfl rfl) ?_
 refine AOps_q 18 _ rfl rfl rfl (QOp_fieldAddr_ptr _ _ _ _ _ _ 279 _ _ rfl Tryz.underlying70 rfl _ Tryz.sizeOf2 rfl rfl rfl rfl) ?_
 refine AOps_q 19 _ rfl rfl rfl (QOp_load_ptr _ _ _ _ _ _ rfl Tryz.isAgg2 rfl rfl (seaD_c _)) ?_
 refine kN 2 rfl ?_
 refine ACode_ret ?_
 cases h
 exact ⟨_, _, fun r a w h => ⟨r, h⟩, _, _, [], _, (.cons (ResV_tmp _ _ rfl) (.cons (ResV_tmp _ _ rfl) .nil)), rfl, rfl, rfl, rfl, rfl⟩

def impl_made_l1 (p2 : Int → Int → Option (Int)) (x1 : Int) : Nat → Int → Col → Option (Col)
 | 0, _, _ => none
 | k1 + 1, x4, x5 => (if decide (x4 < x1) then (p2 x4 x1).bind fun r7 => (impl_Colouring_put x5 x4 x1 r7).bind fun r8 => impl_made_l1 p2 x1 k1 (w64 (x4 + 1)) r8 else some x5)
def impl_made_l0 (k : Nat) (p0 : Int) (p2 : Int → Int → Option (Int)) : Nat → Int → Col → Option (Col)
 | 0, _, _ => none
 | k0 + 1, x1, x2 => (if decide (x1 < p0) then (impl_made_l1 p2 x1 k 0 x2 : Option (Col)).bind fun s9 => impl_made_l0 k p0 p2 k0 (w64 (x1 + 1)) s9 else some x2)
def impl_made (k : Nat) (p0 : Int) (p1 : Int) (p2 : Int → Int → Option (Int)) : Option (Col) :=
 (impl_made_l0 k p0 p2 k 0 (⟨p0, p1, B136.zero⟩ : Col) : Option (Col)).bind fun s10 => some s10
theorem impl_made_ac (k : Nat) (p0 : Int) (p1 : Int) (p2 : Int → Int → Option (Int)) (g_p2 : FuncId) (c_p2 : List D) (hg_p2 : ∀ args w, (callFunc g_p2 args).run Tryz.prog w = .ok (.enter g_p2 args) w) (hf_p2 : ∀ (a0 : Int) (a1 : Int) (r : Int), p2 a0 a1 = some r → AC Tryz.prog g_p2 ([iV a0, iV a1] ++ c_p2.map AV.d) [] (fun res H' => res = [iV r] ∧ H' = [])) (r : Col) (h : impl_made k p0 p1 p2 = some r) : AC Tryz.prog 101 [iV p0, iV p1, .d (.clo g_p2 c_p2)] [] (fun res H' => res = [.d (.agg (colD r))] ∧ H' = []) := by
 refine AC_of_body true Tryz.func101 rfl Tryz.ntmps101 (rvs := [.cell 6 26]) rfl rfl (fun G hG => ?_)
 have hm : G.H.length = 0 := by rw [hG]; rfl
 have hz : zeroG G.H = true := by rw [hG]; rfl
 unfold impl_made at h
 refine kR ?_
 refine AOps_alloc 6 _ _ (colD Col.zero) (zero_of Tryz.typeInfo26 rfl) (by rfl) rfl rfl rfl rfl ?_
 refine AOps_nil ?_
 refine kR ?_
 refine kM 2 rfl ?_
 refine AOps_q 12 _ rfl rfl rfl (QOp_build _ _ [_, _] [0, 1] [iD p0, iD p1] _ (colD Col.zero) (colD (⟨p0, p1, B136.zero⟩ : Col)) [(0, 1), (1, 1), (2, 136)] rfl rfl Tryz.underlying26 (zero_of Tryz.typeInfo26 rfl) (fun w => by simp [Tryz.sizeOf2, Tryz.sizeOf2, Tryz.sizeOf24]) rfl (by rfl) (by rfl) (allc (ok1 rfl) (allc (ok1 rfl) (fun _ h => nomatch h)))) ?_
 refine AOps_alloc 7 _ _ (colD Col.zero) (zero_of Tryz.typeInfo26 rfl) (by rfl) rfl rfl rfl rfl ?_
 refine AOps_store _ _ _ _ _ _ (colD _) _ _ rfl rfl rfl rfl rfl rfl rfl (colD_one _) (by rw [colD_length]; exact Tryz.sizeOf26) (by rw [colD_length, colD_length]; decide) (colD_whole _ _) ?_
 refine AOps_nil ?_
 refine kB (fun s10 => [(6, .ptr 0 0), (7, .ptr 1 0)]) (fun s10 => [.box (colD Col.zero), .box (colD s10)]) h (fun s10 h => ?_) (fun s10 h => ?_)
 ·refine kR ?_
  refine kN 2 rfl ?_
  refine ACode_block ?_
  refine ACode_loopW (fun k0 E H => ∃ (x1 : Int) (x2 : Col), E = [(2, .d (.clo g_p2 c_p2)), (6, .ptr 0 0), (7, .ptr 1 0), (13, iV p0), (14, iV x1)] ∧ H = [.box (colD Col.zero), .box (colD x2)] ∧ impl_made_l0 k p0 p2 k0 x1 x2 = some s10) k _ _ (Weak_keep 0 hm [2, 6, 7, 13, 14] [0, 1] _ _ rfl rfl rfl) ⟨_, _, rfl, rfl, h⟩ ?_
  clear h
  rintro k0 E H ⟨x1, x2, rfl, rfl, h⟩
  cases k0 with
  | zero => cases (show (none : Option (Col)) = some _ from h)
  | succ k0 =>
   rw [impl_made_l0] at h
   refine kR ?_
   refine AOps_q 15 _ rfl rfl rfl (QOp_lss _ _ _ _ _ _ _ rfl rfl rfl) ?_
   refine AOps_nil ?_
   refine ACode_seq ?_
   refine kI h rfl (fun h _ => ?_) (fun h _ => ?_)
   ·refine ACode_skip ?_
    refine kB (fun s9 => [(2, .d (.clo g_p2 c_p2)), (6, .ptr 0 0), (7, .ptr 1 0), (13, iV p0), (14, iV x1)]) (fun s9 => [.box (colD Col.zero), .box (colD s9)]) h (fun s9 h => ?_) (fun s9 h => ?_)
    ·refine ACode_block ?_
     refine kR ?_
     refine kN 2 rfl ?_
     refine kR ?_
     refine kN 2 rfl ?_
     refine ACode_block ?_
     refine ACode_loopW (fun k1 E H => ∃ (x4 : Int) (x5 : Col), E = [(2, .d (.clo g_p2 c_p2)), (6, .ptr 0 0), (7, .ptr 1 0), (8, iV x1), (13, iV p0), (14, iV x1), (17, iV x1), (18, iV x4)] ∧ H = [.box (colD Col.zero), .box (colD x5)] ∧ impl_made_l1 p2 x1 k1 x4 x5 = some s9) k _ _ (Weak_keep 0 hm [2, 6, 7, 8, 13, 14, 17, 18] [0, 1] _ _ rfl rfl rfl) ⟨_, _, rfl, rfl, h⟩ ?_
     clear h
     rintro k1 E H ⟨x4, x5, rfl, rfl, h⟩
     cases k1 with
     | zero => cases (show (none : Option (Col)) = some _ from h)
     | succ k1 =>
      rw [impl_made_l1] at h
      refine kR ?_
      refine AOps_q 19 _ rfl rfl rfl (QOp_lss _ _ _ _ _ _ _ rfl rfl rfl) ?_
      refine AOps_nil ?_
      refine ACode_seq ?_
      refine kI h rfl (fun h _ => ?_) (fun h _ => ?_)
      ·refine ACode_skip ?_
       refine ACode_seq ?_
       refine ACode_block ?_
       refine kR ?_
       refine kN 2 rfl ?_
       refine (ACode_region ?_)
       refine kM 5 rfl ?_
       obtain ⟨r7, hr7, h⟩ := bindO h
       refine kC [] 26 (iV r7) [.box (colD Col.zero), .box (colD x5)] rfl hg_p2 rfl (viewA_mapD _) (hf_p2 x4 x1 _ hr7) rfl ?_
       obtain ⟨r8, hr8, h⟩ := bindO h
       refine kC [1] 27 (.tup []) [.box (colD Col.zero), .box (colD r8)] rfl Tryz.call66 rfl rfl (impl_Colouring_put_ac x5 x4 x1 r7 _ hr8) rfl ?_
       refine AOps_nil ?_
       refine (ACode_region ?_)
       refine AOps_q 28 _ rfl rfl rfl (QOp_add _ _ _ _ _ _ _ rfl rfl rfl) ?_
       refine kN 1 rfl ?_
       exact ⟨k1, _, _, Nat.lt_succ_self _, Weak_keep 0 hm [2, 6, 7, 8, 13, 14, 17, 18] [0, 1] _ _ rfl rfl rfl, _, _, rfl, rfl, h⟩
      refine ACode_exit ?_
      cases h
      exact Weak_keep 0 hm [2, 6, 7, 13, 14] [0, 1] _ _ rfl rfl rfl
    refine (ACode_region ?_)
    refine AOps_q 29 _ rfl rfl rfl (QOp_add _ _ _ _ _ _ _ rfl rfl rfl) ?_
    refine kN 1 rfl ?_
    exact ⟨k0, _, _, Nat.lt_succ_self _, Weak_keep 0 hm [2, 6, 7, 13, 14] [0, 1] _ _ rfl rfl rfl, _, _, rfl, rfl, h⟩
   refine ACode_exit ?_
   cases h
   exact Weak_keep 0 hm [6, 7] [0, 1] _ _ rfl rfl rfl
 refine kR ?_
 refine AOps_q 30 _ rfl rfl rfl (QOp_loadN_ptr _ _ _ _ _ _ _ rfl Tryz.isAgg26 Tryz.sizeOf26 rfl rfl (colD_all _) (colD_length _)) ?_
 refine AOps_store _ _ _ _ _ _ (colD _) _ _ rfl rfl rfl rfl rfl rfl rfl (colD_one _) (by rw [colD_length]; exact Tryz.sizeOf26) (by rw [colD_length, colD_length]; decide) (colD_whole _ _) ?_
 refine AOps_nil ?_
 refine ACode_ret ?_
 cases h
 exact ⟨_, _, fun r a w h => ⟨r, h⟩, _, _, [], _, (.cons (ResV_agg _ _ _ _ _ _ Tryz.isAgg26 Tryz.sizeOf26 rfl rfl (colD_take _) (colD_length _)) .nil), rfl, rfl, rfl, rfl, rfl⟩

def impl_Colouring_recoloured_c1 (p0 : Int) (p1 : Int) (p2 : Int → Option (Int)) (p3 : Col) : Option (Int) :=
 (impl_Colouring_at p3 p0 p1).bind fun r1 => (p2 r1).bind fun r2 => some r2
theorem impl_Colouring_recoloured_c1_ac (p0 : Int) (p1 : Int) (p2 : Int → Option (Int)) (p3 : Col) (g_p2 : FuncId) (c_p2 : List D) (hg_p2 : ∀ args w, (callFunc g_p2 args).run Tryz.prog w = .ok (.enter g_p2 args) w) (hf_p2 : ∀ (a0 : Int) (r : Int), p2 a0 = some r → AC Tryz.prog g_p2 ([iV a0] ++ c_p2.map AV.d) [] (fun res H' => res = [iV r] ∧ H' = [])) (r : Int) (h : impl_Colouring_recoloured_c1 p0 p1 p2 p3 = some r) : AC Tryz.prog 102 [iV p0, iV p1, .d (.pv ([.clo g_p2 c_p2]) 0), .d (.pv ([.pv (colD p3) 0]) 0)] [] (fun res H' => res = [iV r] ∧ H' = []) := by
 refine AC_of_body true Tryz.func102 rfl Tryz.ntmps102 (rvs := [.tmp 6]) rfl rfl (fun G hG => ?_)
 have hm : G.H.length = 0 := by rw [hG]; rfl
 have hz : zeroG G.H = true := by rw [hG]; rfl
 unfold impl_Colouring_recoloured_c1 at h
 refine kR ?_
 refine kN 1 rfl ?_
 refine ACode_seq (ACode_quiet mixed (by kernel_rfl) ?_)
 refine AQ_q 7 _ rfl rfl rfl (QOp_load_pv _ _ _ _ _ rfl Tryz.isAgg118 rfl rfl) ?_
 refine AQ_q 8 _ rfl rfl rfl (QOp_load_pv _ _ _ _ _ rfl Tryz.isAgg66 rfl rfl) ?_
 refine kQ 2 rfl ?_
 obtain ⟨r1, hr1, h⟩ := bindO h
 refine AQ_call 11 _ _ _ _ _ _ _ _ _ rfl rfl rfl rfl rfl rfl rfl Tryz.call67 rfl rfl rfl (impl_Colouring_at_ac p3 p0 p1 _ hr1) ?_
 obtain ⟨r2, hr2, h⟩ := bindO h
 refine AQ_call 12 _ _ _ _ _ _ _ _ _ rfl rfl rfl rfl rfl rfl rfl hg_p2 rfl rfl (viewA_mapD _) (hf_p2 r1 _ hr2) ?_
 refine kQ 1 rfl ?_
 refine AQ_nil ?_
 refine ACode_ret ?_
 cases h
 exact ⟨_, _, fun r a w h => ⟨r, h⟩, _, _, [], _, (.cons (ResV_tmp _ _ rfl) .nil), rfl, rfl, rfl, rfl, rfl⟩

def impl_Colouring_recoloured (k : Nat) (p0 : Col) (p1 : Int) (p2 : Int → Option (Int)) : Option (Col) :=
 (impl_made k p0.p p1 (fun a0 a1 => impl_Colouring_recoloured_c1 a0 a1 p2 p0)).bind fun r1 => some r1
theorem impl_Colouring_recoloured_ac (k : Nat) (p0 : Col) (p1 : Int) (p2 : Int → Option (Int)) (g_p2 : FuncId) (c_p2 : List D) (hg_p2 : ∀ args w, (callFunc g_p2 args).run Tryz.prog w = .ok (.enter g_p2 args) w) (hf_p2 : ∀ (a0 : Int) (r : Int), p2 a0 = some r → AC Tryz.prog g_p2 ([iV a0] ++ c_p2.map AV.d) [] (fun res H' => res = [iV r] ∧ H' = [])) (r : Col) (h : impl_Colouring_recoloured k p0 p1 p2 = some r) : AC Tryz.prog 96 [.d (.pv (colD p0) 0), iV p1, .d (.clo g_p2 c_p2)] [] (fun res H' => res = [.d (.agg (colD r))] ∧ H' = []) := by
 refine AC_of_body true Tryz.func96 rfl Tryz.ntmps96 (rvs := [.cell 6 26]) rfl rfl (fun G hG => ?_)
 have hm : G.H.length = 0 := by rw [hG]; rfl
 have hz : zeroG G.H = true := by rw [hG]; rfl
 unfold impl_Colouring_recoloured at h
 refine kR ?_
 refine AOps_boxI 3 _ _ (.pv (colD p0) 0) _ rfl (fun c hc => by cases hc with | head => rfl | tail _ h => cases h) rfl rfl rfl rfl rfl ?_
 refine AOps_boxI 5 _ _ (.clo g_p2 c_p2) _ rfl (fun c hc => by cases hc with | head => rfl | tail _ h => cases h) rfl rfl rfl rfl rfl ?_
 refine AOps_alloc 6 _ _ (colD Col.zero) (zero_of Tryz.typeInfo26 rfl) (by rfl) rfl rfl rfl rfl ?_
 refine AOps_nil ?_
 refine kR ?_
 refine AOps_q 7 _ rfl rfl rfl (QOp_load_pv _ _ _ _ _ rfl Tryz.isAgg66 rfl rfl) ?_
 refine AOps_q 8 _ rfl rfl rfl (QOp_nilCheck_pv _ _ _ rfl rfl) ?_
 refine AOps_q 9 _ rfl rfl rfl (QOp_fieldAddr_pv _ _ _ _ _ 0 _ _ rfl Tryz.underlying26 rfl _ Tryz.sizeOf2 rfl rfl) ?_
 refine AOps_q 10 _ rfl rfl rfl (QOp_load_pv _ _ _ _ _ rfl Tryz.isAgg2 rfl rfl) ?_
 refine kM 1 rfl ?_
 refine AOps_q 12 _ rfl rfl rfl (QOp_makeFuncD _ _ _ _ rfl rfl rfl) ?_
 obtain ⟨r1, hr1, h⟩ := bindO h
 refine kC [] 13 (.d (.agg (colD r1))) [.box (colD Col.zero)] rfl Tryz.call101 rfl rfl (impl_made_ac k p0.p p1 (fun a0 a1 => impl_Colouring_recoloured_c1 a0 a1 p2 p0) 102 ([.pv ([.clo g_p2 c_p2]) 0, .pv ([.pv (colD p0) 0]) 0]) Tryz.call102 (fun a0 a1 r h => impl_Colouring_recoloured_c1_ac a0 a1 p2 p0 g_p2 c_p2 hg_p2 hf_p2 r h) _ hr1) rfl ?_
 refine AOps_store _ _ _ _ _ _ (colD _) _ _ rfl rfl rfl rfl rfl rfl rfl (colD_one _) (by rw [colD_length]; exact Tryz.sizeOf26) (by rw [colD_length, colD_length]; decide) (colD_whole _ _) ?_
 refine AOps_nil ?_
 refine ACode_ret ?_
 cases h
 exact ⟨_, _, fun r a w h => ⟨r, h⟩, _, _, [], _, (.cons (ResV_agg _ _ _ _ _ _ Tryz.isAgg26 Tryz.sizeOf26 rfl rfl (colD_take _) (colD_length _)) .nil), rfl, rfl, rfl, rfl, rfl⟩

def impl_Colouring_alike_c1 (p0 : Int) (p1 : List Int) : Option (Int) :=
 (if 0 ≤ p0 ∧ p0 < (p1.length : Int) then some (p1.getD p0.toNat 0) else none)
theorem impl_Colouring_alike_c1_ac (p0 : Int) (p1 : List Int) (r : Int) (h : impl_Colouring_alike_c1 p0 p1 = some r) : AC Tryz.prog 97 [iV p0, .d (.pv ([.sl none (intsD p1)]) 0)] [] (fun res H' => res = [iV r] ∧ H' = []) := by
 refine AC_of_body true Tryz.func97 rfl Tryz.ntmps97 (rvs := [.tmp 3]) rfl rfl (fun G hG => ?_)
 have hm : G.H.length = 0 := by rw [hG]; rfl
 have hz : zeroG G.H = true := by rw [hG]; rfl
 unfold impl_Colouring_alike_c1 at h
 refine kR ?_
 refine kN 1 rfl ?_
 refine kR ?_
 refine AOps_q 4 _ rfl rfl rfl (QOp_load_pv _ _ _ _ _ rfl Tryz.isAgg40 rfl rfl) ?_
 refine kM 1 rfl ?_
 obtain ⟨hc1, h⟩ := guardO h
 refine AOps_q 6 _ rfl rfl rfl (QOp_indexAddr_sl _ _ _ _ _ _ _ _ rfl Tryz.underlying40 Tryz.sizeOf2 hc1.1 (by rw [intsD_length]; exact hc1.2) rfl rfl) ?_
 refine AOps_q 7 _ rfl rfl rfl (QOp_load_pv _ _ _ _ _ rfl Tryz.isAgg2 rfl (intsD_get _ _ 0 (by omega))) ?_
 refine kN 1 rfl ?_
 refine ACode_ret ?_
 cases h
 exact ⟨_, _, fun r a w h => ⟨r, h⟩, _, _, [], _, (.cons (ResV_tmp _ _ rfl) .nil), rfl, rfl, rfl, rfl, rfl⟩

def impl_Colouring_renumbering_c1 (p0 : List Int) (p0n : Nat) (p1 : List Int) : Option (Bool × List Int × List Int) :=
 (if ((p0.drop 0).take p0n).isEmpty then none else (cloneA ((p0.drop 0).take p0n)).bind fun r3 => some (false, p0, r3))
theorem impl_Colouring_renumbering_c1_ac (p0 : List Int) (p0n : Nat) (p1 : List Int) (r : Bool × List Int × List Int) (h : impl_Colouring_renumbering_c1 p0 p0n p1 = some r) : AC Tryz.prog 84 [.part 0 0 0 p0n, .ptr 1 0] [.vec 0 (intsD p0), .ref (.vec 2 0), .vec 0 (intsD p1)] (fun res H' => res = [bV r.1] ∧ H' = [.vec 0 (intsD r.2.1), .ref (.vec 2 1), .vec 1 (intsD r.2.2)]) := by
 refine AC_of_body true Tryz.func84 rfl Tryz.ntmps84 (rvs := [.tmp 3]) rfl rfl (fun G hG => ?_)
 have hm : G.H.length = 3 := by rw [hG]; rfl
 have hz : zeroG G.H = true := by rw [hG]; rfl
 refine ACode_weak (Weak_bump 1 2 _ rfl rfl _ rfl) ?_
 unfold impl_Colouring_renumbering_c1 at h
 refine kR ?_
 refine kN 1 rfl ?_
 refine kR ?_
 refine kM 1 rfl ?_
 refine bsplit (((p0.drop 0).take p0n).isEmpty) (fun hb1 => ?_) (fun hb1 => ?_)
 ·have h := iteT hb1 h
  cases h
 have h := iteF hb1 h
 obtain ⟨r3, hr3, h⟩ := bindO h
 refine AOps_callL [] 5 _ _ _ _ _ _ _ _ _ _ rfl rfl rfl rfl rfl rfl rfl Tryz.call65 rfl (nodupB_sound _ rfl) rfl rfl rfl (by have q := cloneA_ac ((p0.drop 0).take p0n) _ hb1 hr3; simp only [intsD_dt] at q; exact q) ?_
 rintro _ _ ⟨rfl, rfl⟩
 refine ⟨(allc (intsD_flat _) (fun _ h => nomatch h)), (allc (trivial) (fun _ h => nomatch h)), AOps_as 5 (v' := .vec 3 0) (H' := [.vec 0 (intsD p0), .ref (.vec 2 1), .vec 1 (intsD p1), .vec 0 (intsD r3)]) rfl rfl ?_⟩
 refine AOps_storeR 1 _ _ _ _ _ rfl rfl rfl rfl rfl rfl rfl rfl Tryz.sizeOf40 (fun r a w hr => vec_one hr rfl rfl rfl) ?_
 refine AOps_weak (Weak_move 1 2 3 _ _ _ _ rfl rfl rfl rfl _ rfl) ?_
 refine AOps_nil ?_
 refine kR ?_
 refine kN 1 rfl ?_
 refine ACode_ret ?_
 cases h
 exact ⟨_, _, Weak_reset 3 hm hz [3] _ _ rfl rfl, _, _, [], _, (.cons (ResV_tmp _ _ rfl) .nil), rfl, rfl, rfl, rfl, rfl⟩

def impl_tracer_all_on_renumbering_c1_l1 (p0 : Tra) (p1n : Nat) (x4 : Int) (x5 : List Int) : Nat → Bool → Int → Option (Bool)
 | 0, _, _ => none
 | k1 + 1, x11, x12 => (if decide (x12 < ((p1n : Nat) : Int)) then ((if 0 ≤ x12 ∧ x12 < ((p1n : Nat) : Int) ∧ 0 + p1n ≤ x5.length then ((if decide ((x5.getD (0 + x12.toNat) 0) = x4) then some true else (if 0 ≤ x12 ∧ x12 < (p0.o.length : Int) then (impl_Colouring_at p0.x (p0.o.getD x12.toNat 0) (p0.o.getD ((p1n : Nat) : Int).toNat 0)).bind fun r17 => (impl_Colouring_at p0.y (x5.getD (0 + x12.toNat) 0) x4).bind fun r18 => some (!decide (r17 = r18)) else none)) : Option (Bool)).bind fun s19 => (if s19 then (some false).bind fun rr => some (.inr rr) else some (.inl ())) else none) : Option (Sum (Unit) (Bool))).bind fun os21 => (match os21 with | .inl s21 => impl_tracer_all_on_renumbering_c1_l1 p0 p1n x4 x5 k1 x11 (w64 (x12 + 1)) | .inr rr => some rr) else some x11)
def impl_tracer_all_on_renumbering_c1_l0 (k : Nat) (self : Tra → (List Int) → Nat → (List Int) → Option (Bool × List Int × List Int)) (p0 : Tra) (p1n : Nat) : Nat → Int → (List Int) → (List Int) → Option (Sum (List Int × List Int) (Bool × List Int × List Int))
 | 0, _, _, _ => none
 | k0 + 1, x4, x5, x6 => (if decide (x4 < p0.y.p) then ((if 0 ≤ (p0.o.getD ((p1n : Nat) : Int).toNat 0) ∧ (p0.o.getD ((p1n : Nat) : Int).toNat 0) < 17 then (if 0 ≤ x4 ∧ x4 < 17 then (if !(p0.get ((p0.o.getD ((p1n : Nat) : Int).toNat 0).toNat * 17 + x4.toNat)) then some (.inl (x5, x6)) else (impl_tracer_all_on_renumbering_c1_l1 p0 p1n x4 x5 k true 0 : Option (Bool)).bind fun s22 => ((if s22 then (if 0 + p1n + ([x4]).length ≤ x5.length ∧ 1 ≤ ([x4]).length then (self p0 (splicedL x5 (0 + p1n) (([x4]).length) ([x4])) (p1n + ([x4]).length) x6).bind fun r25 => some (!r25.1, r25.2.1, r25.2.2) else none) else some (false, x5, x6)) : Option (Bool × List Int × List Int)).bind fun s26 => (if s26.1 then (some (.inr (false, s26.2.1, s26.2.2))).bind fun rr => some (.inr rr) else some (.inl (s26.2.1, s26.2.2)))) else none) else none) : Option (Sum (List Int × List Int) (Sum (List Int × List Int) (Bool × List Int × List Int)))).bind fun os28 => (match os28 with | .inl s28 => impl_tracer_all_on_renumbering_c1_l0 k self p0 p1n k0 (w64 (x4 + 1)) s28.1 s28.2 | .inr rr => some rr) else some (.inl (x5, x6)))
def impl_tracer_all_on_renumbering_c1_body (self : Tra → (List Int) → Nat → (List Int) → Option (Bool × List Int × List Int)) (k : Nat) (p0 : Tra) (p1 : List Int) (p1n : Nat) (p2_0 : List Int) : Option (Bool × List Int × List Int) :=
 (if decide (((p1n : Nat) : Int) = (p0.o.length : Int)) then (impl_Colouring_renumbering_c1 p1 p1n p2_0).bind fun r2 => some (r2.1, r2.2.1, r2.2.2) else (if 0 ≤ ((p1n : Nat) : Int) ∧ ((p1n : Nat) : Int) < (p0.o.length : Int) then (impl_tracer_all_on_renumbering_c1_l0 k self p0 p1n k 0 p1 p2_0 : Option (Sum (List Int × List Int) (Bool × List Int × List Int))).bind fun os29 => (match os29 with | .inl s29 => some (true, s29.1, s29.2) | .inr rr => some rr) else none))
def impl_tracer_all_on_renumbering_c1 : Nat → Tra → (List Int) → Nat → (List Int) → Option (Bool × List Int × List Int)
 | 0, _, _, _, _ => none
 | k + 1, p0, p1, p1n, p2_0 => impl_tracer_all_on_renumbering_c1_body (impl_tracer_all_on_renumbering_c1 k) k p0 p1 p1n p2_0
theorem impl_tracer_all_on_renumbering_c1_ac (k : Nat) (p0 : Tra) (p1 : List Int) (p1n : Nat) (p2_0 : List Int) (r : Bool × List Int × List Int) (h : impl_tracer_all_on_renumbering_c1 k p0 p1 p1n p2_0 = some r) : AC Tryz.prog 76 [.d (.pv (traD p0) 0), .part 0 0 0 p1n, .clo 84 [.ptr 1 0]] [.vec 0 (intsD p1), .ref (.vec 2 0), .vec 0 (intsD p2_0)] (fun res H' => res = [bV r.1] ∧ H' = [.vec 0 (intsD r.2.1), .ref (.vec 2 1), .vec 1 (intsD r.2.2)]) := by
 induction k generalizing p0 p1 p1n p2_0 r with
 | zero => simp [impl_tracer_all_on_renumbering_c1] at h
 | succ k ih =>
  rw [impl_tracer_all_on_renumbering_c1] at h
  obtain ⟨self, hself, hk⟩ : ∃ self : Tra → (List Int) → Nat → (List Int) → Option (Bool × List Int × List Int), (∀ (p0 : Tra) (p1 : List Int) (p1n : Nat) (p2_0 : List Int) (r : Bool × List Int × List Int), self p0 p1 p1n p2_0 = some r → AC Tryz.prog 76 [.d (.pv (traD p0) 0), .part 0 0 0 p1n, .clo 84 [.ptr 1 0]] [.vec 0 (intsD p1), .ref (.vec 2 0), .vec 0 (intsD p2_0)] (fun res H' => res = [bV r.1] ∧ H' = [.vec 0 (intsD r.2.1), .ref (.vec 2 1), .vec 1 (intsD r.2.2)])) ∧ impl_tracer_all_on_renumbering_c1 k = self := ⟨impl_tracer_all_on_renumbering_c1 k, fun p0 p1 p1n p2_0 r h => ih p0 p1 p1n p2_0 r h, rfl⟩
  rw [hk] at h
  clear ih hk
  refine AC_of_body true Tryz.func76 rfl Tryz.ntmps76 (rvs := [.tmp 6]) rfl rfl (fun G hG => ?_)
  have hm : G.H.length = 3 := by rw [hG]; rfl
  have hz : zeroG G.H = true := by rw [hG]; rfl
  refine ACode_weak (Weak_bump 1 2 _ rfl rfl _ rfl) ?_
  unfold impl_tracer_all_on_renumbering_c1_body at h
  refine kR ?_
  refine kN 1 rfl ?_
  refine kR ?_
  refine kM 1 rfl ?_
  refine AOps_q 14 _ rfl rfl rfl (QOp_len_part _ _ _ _ _ _ _ _ _ _ rfl rfl rfl rfl Tryz.underlying40 rfl rfl rfl) ?_
  refine kN 1 rfl ?_
  refine ACode_seq ?_
  refine kR ?_
  refine kM 2 rfl ?_
  refine AOps_q 17 _ rfl rfl rfl (QOp_nilCheck_pv _ _ _ rfl rfl) ?_
  refine AOps_q 18 _ rfl rfl rfl (QOp_fieldAddr_pv _ _ _ _ _ 2 _ _ rfl Tryz.underlying101 rfl _ Tryz.sizeOf40 rfl rfl) ?_
  refine AOps_q 19 _ rfl rfl rfl (QOp_load_pv _ _ _ _ _ rfl Tryz.isAgg40 rfl rfl) ?_
  refine AOps_q 20 _ rfl rfl rfl (QOp_len_sl _ _ _ _ _ _ _ (intsD_length _) rfl rfl rfl rfl Tryz.underlying40 rfl) ?_
  refine AOps_q 21 _ rfl rfl rfl (QOp_eql _ _ _ _ _ _ _ rfl rfl rfl) ?_
  refine AOps_nil ?_
  refine kI h rfl (fun h _ => ?_) (fun h _ => ?_)
  ·refine kR ?_
   refine kM 2 rfl ?_
   obtain ⟨r2, hr2, h⟩ := bindO h
   refine kC [0, 1, 2] 24 (bV r2.1) [.vec 0 (intsD r2.2.1), .ref (.vec 2 2), .vec 2 (intsD r2.2.2)] rfl Tryz.call84 rfl rfl (impl_Colouring_renumbering_c1_ac p1 p1n p2_0 _ hr2) rfl ?_
   refine kN 1 rfl ?_
   refine ACode_ret ?_
   cases h
   exact ⟨_, _, Weak_reset 3 hm hz [6] _ _ rfl rfl, _, _, [], _, (.cons (ResV_tmp _ _ rfl) .nil), rfl, rfl, rfl, rfl, rfl⟩
  refine ACode_skip ?_
  refine kR ?_
  refine kM 1 rfl ?_
  refine AOps_q 26 _ rfl rfl rfl (QOp_nilCheck_pv _ _ _ rfl rfl) ?_
  refine AOps_q 27 _ rfl rfl rfl (QOp_fieldAddr_pv _ _ _ _ _ 2 _ _ rfl Tryz.underlying101 rfl _ Tryz.sizeOf40 rfl rfl) ?_
  refine AOps_q 28 _ rfl rfl rfl (QOp_load_pv _ _ _ _ _ rfl Tryz.isAgg40 rfl rfl) ?_
  refine kM 1 rfl ?_
  obtain ⟨hc3, h⟩ := guardO h
  refine AOps_q 30 _ rfl rfl rfl (QOp_indexAddr_sl _ _ _ _ _ _ _ _ rfl Tryz.underlying40 Tryz.sizeOf2 hc3.1 (by rw [intsD_length]; exact hc3.2) rfl rfl) ?_
  refine AOps_q 31 _ rfl rfl rfl (QOp_load_pv _ _ _ _ _ rfl Tryz.isAgg2 rfl (intsD_get _ _ 0 (by omega))) ?_
  refine kN 1 rfl ?_
  refine kO (fun s29 => []) (fun s29 => [.vec 0 (intsD s29.1), .ref (.vec 2 1), .vec 1 (intsD s29.2)]) h (fun os29 h hks29 => ?_) (fun s29 h => ?_)
  ·refine kR ?_
   refine kM 1 rfl ?_
   refine AOps_q 33 _ rfl rfl rfl (QOp_nilCheck_pv _ _ _ rfl rfl) ?_
   refine AOps_q 34 _ rfl rfl rfl (QOp_fieldAddr_pv _ _ _ _ _ 1 _ _ rfl Tryz.underlying101 rfl _ Tryz.sizeOf66 rfl rfl) ?_
   refine AOps_q 35 _ rfl rfl rfl (QOp_load_pv _ _ _ _ _ rfl Tryz.isAgg66 rfl rfl) ?_
   refine AOps_q 36 _ rfl rfl rfl (QOp_nilCheck_pv _ _ _ rfl rfl) ?_
   refine AOps_q 37 _ rfl rfl rfl (QOp_fieldAddr_pv _ _ _ _ _ 0 _ _ rfl Tryz.underlying26 rfl _ Tryz.sizeOf2 rfl rfl) ?_
   refine AOps_q 38 _ rfl rfl rfl (QOp_load_pv _ _ _ _ _ rfl Tryz.isAgg2 rfl rfl) ?_
   refine kN 1 rfl ?_
   refine ACode_block ?_
   refine ACode_loopW (fun k0 E H => ∃ (x4 : Int) (x5 : List Int) (x6 : List Int), E = [(0, .d (.pv (traD p0) 0)), (1, .part 0 0 0 p1n), (2, .clo 84 [.ptr 1 0]), (8, iV (p0.o.getD ((p1n : Nat) : Int).toNat 0)), (38, iV p0.y.p), (39, iV x4)] ∧ H = [.vec 0 (intsD x5), .ref (.vec 2 1), .vec 1 (intsD x6)] ∧ impl_tracer_all_on_renumbering_c1_l0 k self p0 p1n k0 x4 x5 x6 = some os29) k _ _ (Weak_keep 3 hm [0, 1, 2, 8, 38, 39] [] _ _ rfl rfl rfl) ⟨_, _, _, rfl, rfl, h⟩ ?_
   clear h
   rintro k0 E H ⟨x4, x5, x6, rfl, rfl, h⟩
   cases k0 with
   | zero => cases (show (none : Option (Sum (List Int × List Int) (Bool × List Int × List Int))) = some _ from h)
   | succ k0 =>
    rw [impl_tracer_all_on_renumbering_c1_l0] at h
    refine kR ?_
    refine AOps_q 40 _ rfl rfl rfl (QOp_lss _ _ _ _ _ _ _ rfl rfl rfl) ?_
    refine AOps_nil ?_
    refine ACode_seq ?_
    refine kI h rfl (fun h _ => ?_) (fun h _ => ?_)
    ·refine ACode_skip ?_
     refine kO (fun s28 => [(0, .d (.pv (traD p0) 0)), (1, .part 0 0 0 p1n), (2, .clo 84 [.ptr 1 0]), (8, iV (p0.o.getD ((p1n : Nat) : Int).toNat 0)), (38, iV p0.y.p), (39, iV x4)]) (fun s28 => [.vec 0 (intsD s28.1), .ref (.vec 2 1), .vec 1 (intsD s28.2)]) h (fun os28 h hks28 => ?_) (fun s28 h => ?_)
     ·refine ACode_block ?_
      refine kR ?_
      refine kN 2 rfl ?_
      refine ACode_seq ?_
      refine kR ?_
      refine kM 3 rfl ?_
      refine AOps_q 45 _ rfl rfl rfl (QOp_nilCheck_pv _ _ _ rfl rfl) ?_
      refine AOps_q 46 _ rfl rfl rfl (QOp_fieldAddr_pv _ _ _ _ _ 3 _ _ rfl Tryz.underlying101 rfl _ Tryz.sizeOf99 rfl rfl) ?_
      obtain ⟨hc8, h⟩ := guardO h
      refine AOps_q 47 _ rfl rfl rfl (QOp_indexAddrM_pv _ _ _ _ _ _ _ _ _ _ rfl Tryz.underlying99 Tryz.sizeOf98 hc8.1 hc8.2 rfl rfl) ?_
      obtain ⟨hc9, h⟩ := guardO h
      refine AOps_q 48 _ rfl rfl rfl (QOp_indexAddrA_pv _ _ _ _ _ _ _ _ _ rfl Tryz.underlying98 Tryz.sizeOf4 hc9.1 hc9.2 rfl rfl) ?_
      refine AOps_q 49 _ rfl rfl rfl (QOp_load_pv _ _ _ _ _ rfl Tryz.isAgg4 rfl (traD_get2 _ _ _ (by omega))) ?_
      refine AOps_q 50 _ rfl rfl rfl (QOp_not _ _ _ rfl rfl) ?_
      refine AOps_nil ?_
      refine kI h rfl (fun h _ => ?_) (fun h _ => ?_)
      ·refine ACode_exit ?_
       cases h
       exact ⟨_, rfl, Weak_keep 3 hm [0, 1, 2, 8, 38, 39] [] _ _ rfl rfl rfl⟩
      refine ACode_skip ?_
      refine kR ?_
      refine kN 1 rfl ?_
      refine kB (fun s22 => [(0, .d (.pv (traD p0) 0)), (1, .part 0 0 0 p1n), (2, .clo 84 [.ptr 1 0]), (8, iV (p0.o.getD ((p1n : Nat) : Int).toNat 0)), (9, iV x4), (10, bV s22), (38, iV p0.y.p), (39, iV x4)]) (fun s22 => [.vec 0 (intsD x5), .ref (.vec 2 1), .vec 1 (intsD x6)]) h (fun s22 h => ?_) (fun s22 h => ?_)
      ·refine kR ?_
       refine kM 1 rfl ?_
       refine AOps_q 52 _ rfl rfl rfl (QOp_len_part _ _ _ _ _ _ _ _ _ _ rfl rfl rfl rfl Tryz.underlying40 rfl rfl rfl) ?_
       refine kN 1 rfl ?_
       refine ACode_block ?_
       refine ACode_loopW (fun k1 E H => ∃ (x11 : Bool) (x12 : Int), E = [(0, .d (.pv (traD p0) 0)), (1, .part 0 0 0 p1n), (2, .clo 84 [.ptr 1 0]), (8, iV (p0.o.getD ((p1n : Nat) : Int).toNat 0)), (9, iV x4), (10, bV x11), (38, iV p0.y.p), (39, iV x4), (51, .part 0 0 0 p1n), (52, iV ((p1n : Nat) : Int)), (53, iV x12)] ∧ H = [.vec 0 (intsD x5), .ref (.vec 2 1), .vec 1 (intsD x6)] ∧ impl_tracer_all_on_renumbering_c1_l1 p0 p1n x4 x5 k1 x11 x12 = some s22) k _ _ (Weak_keep 3 hm [0, 1, 2, 8, 9, 10, 38, 39, 51, 52, 53] [] _ _ rfl rfl rfl) ⟨_, _, rfl, rfl, h⟩ ?_
       clear h
       rintro k1 E H ⟨x11, x12, rfl, rfl, h⟩
       cases k1 with
       | zero => cases (show (none : Option (Bool)) = some _ from h)
       | succ k1 =>
        rw [impl_tracer_all_on_renumbering_c1_l1] at h
        refine kR ?_
        refine AOps_q 54 _ rfl rfl rfl (QOp_lss _ _ _ _ _ _ _ rfl rfl rfl) ?_
        refine AOps_nil ?_
        refine ACode_seq ?_
        refine kI h rfl (fun h _ => ?_) (fun h _ => ?_)
        ·refine ACode_skip ?_
         refine kO (fun s21 => [(0, .d (.pv (traD p0) 0)), (1, .part 0 0 0 p1n), (2, .clo 84 [.ptr 1 0]), (8, iV (p0.o.getD ((p1n : Nat) : Int).toNat 0)), (9, iV x4), (10, bV x11), (38, iV p0.y.p), (39, iV x4), (51, .part 0 0 0 p1n), (52, iV ((p1n : Nat) : Int)), (53, iV x12)]) (fun s21 => [.vec 0 (intsD x5), .ref (.vec 2 1), .vec 1 (intsD x6)]) h (fun os21 h hks21 => ?_) (fun s21 h => ?_)
         ·refine ACode_block ?_
          refine kR ?_
          refine kM 1 rfl ?_
          obtain ⟨hc14, h⟩ := guardO h
          refine AOps_q 56 _ rfl rfl rfl (QOp_indexAddr_part _ _ _ _ _ _ _ _ _ _ _ _ rfl Tryz.underlying40 Tryz.sizeOf2 hc14.1 hc14.2.1 rfl rfl rfl rfl) ?_
          refine AOps_q 57 _ rfl rfl rfl (QOp_load_eptr _ _ _ _ _ _ _ rfl Tryz.isAgg2 rfl rfl (intsD_get _ _ 0 (by omega))) ?_
          refine kN 2 rfl ?_
          refine kB (fun s19 => [(0, .d (.pv (traD p0) 0)), (1, .part 0 0 0 p1n), (2, .clo 84 [.ptr 1 0]), (8, iV (p0.o.getD ((p1n : Nat) : Int).toNat 0)), (9, iV x4), (10, bV x11), (38, iV p0.y.p), (39, iV x4), (51, .part 0 0 0 p1n), (52, iV ((p1n : Nat) : Int)), (53, iV x12), (83, bV s19)]) (fun s19 => [.vec 0 (intsD x5), .ref (.vec 2 1), .vec 1 (intsD x6)]) h (fun s19 h => ?_) (fun s19 h => ?_)
          ·refine (ACode_quiet mixed (by kernel_rfl) ?_)
           refine kQ 2 rfl ?_
           refine AQ_q 60 _ rfl rfl rfl (QOp_eql _ _ _ _ _ _ _ rfl rfl rfl) ?_
           refine kQ 1 rfl ?_
           refine AQ_case 61 _ rfl (fun hb15 => ?_) (fun hb15 => ?_)
           ·have h := iteT hb15 h
            refine AQ_skip 62 rfl rfl rfl ?_
            refine AQ_skip 63 rfl rfl rfl ?_
            refine AQ_skip 64 rfl rfl rfl ?_
            refine AQ_skip 65 rfl rfl rfl ?_
            refine AQ_skip 66 rfl rfl rfl ?_
            refine AQ_skip 67 rfl rfl rfl ?_
            refine AQ_skip 68 rfl rfl rfl ?_
            refine AQ_skip 69 rfl rfl rfl ?_
            refine AQ_skip 70 rfl rfl rfl ?_
            refine AQ_skip 71 rfl rfl rfl ?_
            refine AQ_skip 72 rfl rfl rfl ?_
            refine AQ_skip 73 rfl rfl rfl ?_
            refine AQ_skip 74 rfl rfl rfl ?_
            refine AQ_skip 75 rfl rfl rfl ?_
            refine AQ_skip 76 rfl rfl rfl ?_
            refine AQ_skip 77 rfl rfl rfl ?_
            refine AQ_skip 78 rfl rfl rfl ?_
            refine AQ_skip 79 rfl rfl rfl ?_
            refine AQ_skip 80 rfl rfl rfl ?_
            refine AQ_skip 81 rfl rfl rfl ?_
            refine AQ_skip 82 rfl rfl rfl ?_
            refine kQ 1 rfl ?_
            refine AQ_nil ?_
            cases h
            exact Weak_keep 3 hm [0, 1, 2, 8, 9, 10, 38, 39, 51, 52, 53, 83] [] _ _ rfl rfl rfl
           have h := iteF hb15 h
           refine kQ 1 rfl ?_
           refine AQ_q 63 _ rfl rfl rfl (QOp_nilCheck_pv _ _ _ rfl rfl) ?_
           refine AQ_q 64 _ rfl rfl rfl (QOp_fieldAddr_pv _ _ _ _ _ 0 _ _ rfl Tryz.underlying101 rfl _ Tryz.sizeOf66 rfl rfl) ?_
           refine AQ_q 65 _ rfl rfl rfl (QOp_load_pv _ _ _ _ _ rfl Tryz.isAgg66 rfl rfl) ?_
           refine kQ 1 rfl ?_
           refine AQ_q 67 _ rfl rfl rfl (QOp_nilCheck_pv _ _ _ rfl rfl) ?_
           refine AQ_q 68 _ rfl rfl rfl (QOp_fieldAddr_pv _ _ _ _ _ 2 _ _ rfl Tryz.underlying101 rfl _ Tryz.sizeOf40 rfl rfl) ?_
           refine AQ_q 69 _ rfl rfl rfl (QOp_load_pv _ _ _ _ _ rfl Tryz.isAgg40 rfl rfl) ?_
           refine kQ 1 rfl ?_
           obtain ⟨hc16, h⟩ := guardO h
           refine AQ_q 71 _ rfl rfl rfl (QOp_indexAddr_sl _ _ _ _ _ _ _ _ rfl Tryz.underlying40 Tryz.sizeOf2 hc16.1 (by rw [intsD_length]; exact hc16.2) rfl rfl) ?_
           refine AQ_q 72 _ rfl rfl rfl (QOp_load_pv _ _ _ _ _ rfl Tryz.isAgg2 rfl (intsD_get _ _ 0 (by omega))) ?_
           refine kQ 1 rfl ?_
           obtain ⟨r17, hr17, h⟩ := bindO h
           refine AQ_call 74 _ _ _ _ _ _ _ _ _ rfl rfl rfl rfl rfl rfl rfl Tryz.call67 rfl rfl rfl (impl_Colouring_at_ac p0.x (p0.o.getD x12.toNat 0) (p0.o.getD ((p1n : Nat) : Int).toNat 0) _ hr17) ?_
           refine kQ 1 rfl ?_
           refine AQ_q 76 _ rfl rfl rfl (QOp_nilCheck_pv _ _ _ rfl rfl) ?_
           refine AQ_q 77 _ rfl rfl rfl (QOp_fieldAddr_pv _ _ _ _ _ 1 _ _ rfl Tryz.underlying101 rfl _ Tryz.sizeOf66 rfl rfl) ?_
           refine AQ_q 78 _ rfl rfl rfl (QOp_load_pv _ _ _ _ _ rfl Tryz.isAgg66 rfl rfl) ?_
           refine kQ 2 rfl ?_
           obtain ⟨r18, hr18, h⟩ := bindO h
           refine AQ_call 81 _ _ _ _ _ _ _ _ _ rfl rfl rfl rfl rfl rfl rfl Tryz.call67 rfl rfl rfl (impl_Colouring_at_ac p0.y (x5.getD (0 + x12.toNat) 0) x4 _ hr18) ?_
           refine AQ_q 82 _ rfl rfl rfl (QOp_neq _ _ _ _ _ _ _ rfl rfl rfl) ?_
           refine kQ 1 rfl ?_
           refine AQ_nil ?_
           cases h
           exact Weak_keep 3 hm [0, 1, 2, 8, 9, 10, 38, 39, 51, 52, 53, 83] [] _ _ rfl rfl rfl
          refine kI h rfl (fun h _ => ?_) (fun h _ => ?_)
          ·refine kR ?_
           refine kN 1 rfl ?_
           refine ACode_exit ?_
           obtain ⟨rr, hz30, h2⟩ := bindO h
           obtain rfl := Option.some.inj h2
           obtain rfl := Option.some.inj (show some rr = some _ from hks21)
           have h := hz30
           cases h
           exact Weak_keep 3 hm [0, 1, 2, 8, 9, 10, 38, 39] [] _ _ rfl rfl rfl
          refine ACode_skip ?_
          cases h
          exact ⟨_, rfl, Weak_keep 3 hm [0, 1, 2, 8, 9, 10, 38, 39, 51, 52, 53] [] _ _ rfl rfl rfl⟩
         refine (ACode_region ?_)
         refine AOps_q 84 _ rfl rfl rfl (QOp_add _ _ _ _ _ _ _ rfl rfl rfl) ?_
         refine kN 1 rfl ?_
         exact ⟨k1, _, _, Nat.lt_succ_self _, Weak_keep 3 hm [0, 1, 2, 8, 9, 10, 38, 39, 51, 52, 53] [] _ _ rfl rfl rfl, _, _, rfl, rfl, h⟩
        refine ACode_exit ?_
        cases h
        exact Weak_keep 3 hm [0, 1, 2, 8, 9, 10, 38, 39] [] _ _ rfl rfl rfl
      refine kB (fun s26 => [(0, .d (.pv (traD p0) 0)), (1, .part 0 0 0 p1n), (2, .clo 84 [.ptr 1 0]), (8, iV (p0.o.getD ((p1n : Nat) : Int).toNat 0)), (38, iV p0.y.p), (39, iV x4), (95, bV s26.1)]) (fun s26 => [.vec 0 (intsD s26.2.1), .ref (.vec 2 1), .vec 1 (intsD s26.2.2)]) h (fun s26 h => ?_) (fun s26 h => ?_)
      ·refine (ACode_region ?_)
       refine kM 2 rfl ?_
       refine AOps_case 86 _ rfl (fun hb23 => ?_) (fun hb23 => ?_)
       ·have h := iteT hb23 h
        refine kM 3 rfl ?_
        refine AOps_buildSlice 90 _ _ _ [_] (intsD ([x4])) _ rfl rfl rfl rfl rfl (by decide) Tryz.underlying40 Tryz.sizeOf2 (zero_of Tryz.typeInfo2 rfl) rfl rfl (intsD_one _) ?_
        obtain ⟨hc24, h⟩ := guardO h
        refine AOps_append_part 91 _ _ _ _ _ 0 0 0 p1n (p1n + ([x4]).length) _ (intsD x5) (intsD ([x4])) _ rfl rfl rfl rfl rfl rfl rfl Tryz.underlying40 Tryz.type2 rfl rfl rfl rfl rfl (intsD_one _) (by rw [intsD_length]; exact hc24.2) (by rw [intsD_length, intsD_length]; exact hc24.1) (by rw [intsD_length]) ?_
        rw [intsD_length, intsD_spl]
        refine kM 1 rfl ?_
        obtain ⟨r25, hr25, h⟩ := bindO h
        refine kC [0, 1, 2] 93 (bV r25.1) [.vec 0 (intsD r25.2.1), .ref (.vec 2 2), .vec 2 (intsD r25.2.2), .vec 0 (intsD ([x4]))] rfl Tryz.call76 rfl rfl (hself p0 (splicedL x5 (0 + p1n) (([x4]).length) ([x4])) (p1n + ([x4]).length) x6 _ hr25) rfl ?_
        refine AOps_q 94 _ rfl rfl rfl (QOp_not _ _ _ rfl rfl) ?_
        refine kN 1 rfl ?_
        cases h
        exact Weak_trans (Weak_keep 3 hm [0, 1, 2, 8, 38, 39, 95] [] _ _ rfl rfl rfl) (Weak_reset 3 hm hz [0, 1, 2, 8, 38, 39, 95] _ _ rfl rfl)
       have h := iteF hb23 h
       refine AOps_skip 87 rfl rfl rfl ?_
       refine AOps_skip 88 rfl rfl rfl ?_
       refine AOps_skip 89 rfl rfl rfl ?_
       refine AOps_skip 90 rfl rfl rfl ?_
       refine AOps_skip 91 rfl rfl rfl ?_
       refine AOps_skip 92 rfl rfl rfl ?_
       refine AOps_skip 93 rfl rfl rfl ?_
       refine AOps_skip 94 rfl rfl rfl ?_
       refine kN 1 rfl ?_
       cases h
       exact Weak_keep 3 hm [0, 1, 2, 8, 38, 39, 95] [] _ _ rfl rfl rfl
      refine kI h rfl (fun h _ => ?_) (fun h _ => ?_)
      ·refine kR ?_
       refine kN 1 rfl ?_
       refine ACode_ret ?_
       obtain ⟨rr, hz31, h2⟩ := bindO h
       obtain rfl := Option.some.inj h2
       obtain rfl := Option.some.inj (show some rr = some _ from hks28)
       have h := hz31
       cases h
       have h := hks29
       cases h
       exact ⟨_, _, fun r a w h => ⟨r, h⟩, _, _, [], _, (.cons (ResV_tmp _ _ rfl) .nil), rfl, rfl, rfl, rfl, rfl⟩
      refine ACode_skip ?_
      cases h
      exact ⟨_, rfl, Weak_keep 3 hm [0, 1, 2, 8, 38, 39] [] _ _ rfl rfl rfl⟩
     refine (ACode_region ?_)
     refine AOps_q 96 _ rfl rfl rfl (QOp_add _ _ _ _ _ _ _ rfl rfl rfl) ?_
     refine kN 1 rfl ?_
     exact ⟨k0, _, _, Nat.lt_succ_self _, Weak_keep 3 hm [0, 1, 2, 8, 38, 39] [] _ _ rfl rfl rfl, _, _, _, rfl, rfl, h⟩
    refine ACode_exit ?_
    cases h
    exact ⟨_, rfl, Weak_keep 3 hm [] [] _ _ rfl rfl rfl⟩
  refine kR ?_
  refine kN 1 rfl ?_
  refine ACode_ret ?_
  cases h
  exact ⟨_, _, fun r a w h => ⟨r, h⟩, _, _, [], _, (.cons (ResV_tmp _ _ rfl) .nil), rfl, rfl, rfl, rfl, rfl⟩

def impl_Colouring_leading_on_renumbering_c1 (k : Nat) (p0 : Col) (p1 : Col) (p2_0 : List Int) : Option (Bool × List Int) :=
 (impl_Colouring_points k p0).bind fun r1 => (impl_newTracer k p0 p1 r1).bind fun r2 => (match r2 with | none => letO () fun (s5 : Unit) => some (true, p2_0) | some l3 => ((impl_tracer_all_on_renumbering_c1 k l3 (List.replicate 17 (0 : Int)) 0 p2_0).bind fun r7 => some (r7.1, r7.2.2) : Option (Bool × List Int)).bind fun s8 => some (s8.1, s8.2))
theorem impl_Colouring_leading_on_renumbering_c1_ac (k : Nat) (p0 : Col) (p1 : Col) (p2_0 : List Int) (r : Bool × List Int) (h : impl_Colouring_leading_on_renumbering_c1 k p0 p1 p2_0 = some r) : AC Tryz.prog 42 [.d (.pv (colD p0) 0), .d (.pv (colD p1) 0), .clo 84 [.ptr 0 0]] [.ref (.vec 1 0), .vec 0 (intsD p2_0)] (fun res H' => res = [bV r.1] ∧ H' = [.ref (.vec 1 1), .vec 1 (intsD r.2)]) := by
 refine AC_of_body true Tryz.func42 rfl Tryz.ntmps42 (rvs := [.tmp 6]) rfl rfl (fun G hG => ?_)
 have hm : G.H.length = 2 := by rw [hG]; rfl
 have hz : zeroG G.H = true := by rw [hG]; rfl
 refine ACode_weak (Weak_bump 0 1 _ rfl rfl _ rfl) ?_
 unfold impl_Colouring_leading_on_renumbering_c1 at h
 refine kR ?_
 refine kN 1 rfl ?_
 refine kR ?_
 refine kM 3 rfl ?_
 obtain ⟨r1, hr1, h⟩ := bindO h
 refine kC [] 11 (.vec 2 0) [.ref (.vec 1 1), .vec 1 (intsD p2_0), .vec 0 (intsD r1)] rfl Tryz.call80 rfl rfl (impl_Colouring_points_ac k p0 _ hr1) rfl ?_
 refine AOps_freezeL [11] 2 0 _ (allc (rfl) (fun _ h => nomatch h)) rfl ?_
 obtain ⟨r2, hr2, h⟩ := bindO h
 refine AOps_call [] 12 _ _ _ _ _ _ _ _ _ _ rfl rfl rfl rfl rfl rfl rfl Tryz.call73 rfl (nodupB_sound _ rfl) rfl rfl rfl (impl_newTracer_ac k p0 p1 r1 _ hr2) ?_
 revert h
 cases hx4 : r2 with
 | none =>
  intro h
  rintro _ _ ⟨rfl, rfl⟩
  refine ⟨(fun _ h => nomatch h), (allc (trivial) (fun _ h => nomatch h)), AOps_as 12 (v' := .d (.s (.pointer none))) (H' := [.ref (.vec 1 1), .vec 1 (intsD p2_0), .gone]) rfl rfl ?_⟩
  refine kN 1 rfl ?_
  refine kL (fun s5 => [(6, bV true)]) (fun s5 => [.ref (.vec 1 1), .vec 1 (intsD p2_0)]) h (fun s5 h => ?_) (fun s5 h => ?_)
  ·refine (ACode_region ?_)
   refine kM 1 rfl ?_
   refine AOps_q 14 _ rfl rfl rfl (QOp_pnil _ _ _ _ _ rfl rfl rfl Tryz.underlying94) ?_
   refine kM 1 rfl ?_
   refine AOps_skip 16 rfl rfl rfl ?_
   refine AOps_skip 17 rfl rfl rfl ?_
   refine AOps_skip 18 rfl rfl rfl ?_
   refine AOps_skip 19 rfl rfl rfl ?_
   refine kN 2 rfl ?_
   cases h
   exact Weak_keep 2 hm [6] [] _ _ rfl rfl rfl
  refine ACode_ret ?_
  cases h
  exact ⟨_, _, fun r a w h => ⟨r, h⟩, _, _, [], _, (.cons (ResV_tmp _ _ rfl) .nil), rfl, rfl, rfl, rfl, rfl⟩
 | some l3 =>
  intro h
  rintro _ _ ⟨rfl, rfl⟩
  refine ⟨(fun _ h => nomatch h), (allc (trivial) (fun _ h => nomatch h)), AOps_as 12 (v' := .d (.pv (traD l3) 0)) (H' := [.ref (.vec 1 1), .vec 1 (intsD p2_0), .gone]) rfl rfl ?_⟩
  refine kN 1 rfl ?_
  refine kB (fun s8 => [(6, bV s8.1)]) (fun s8 => [.ref (.vec 1 1), .vec 1 (intsD s8.2)]) h (fun s8 h => ?_) (fun s8 h => ?_)
  ·refine (ACode_region ?_)
   refine kM 1 rfl ?_
   refine AOps_q 14 _ rfl rfl rfl (QOp_pvnil _ _ _ _ _ _ _ rfl rfl rfl Tryz.underlying94) ?_
   refine kM 2 rfl ?_
   refine AOps_makeBufG intsD iD 0 (intsD_rep · _) 17 _ _ _ _ _ _ 17 _ (.int .i64 0) rfl rfl rfl rfl rfl rfl Tryz.underlying40 Tryz.type2 rfl rfl (by decide) rfl rfl (by decide) ?_
   refine kM 1 rfl ?_
   obtain ⟨r7, hr7, h⟩ := bindO h
   refine kC [3, 0, 1] 19 (bV r7.1) [.ref (.vec 1 2), .vec 2 (intsD r7.2.2), .gone, .vec 0 (intsD r7.2.1)] rfl Tryz.call76 rfl rfl (impl_tracer_all_on_renumbering_c1_ac k l3 (List.replicate 17 (0 : Int)) 0 p2_0 _ hr7) rfl ?_
   refine kN 2 rfl ?_
   cases h
   exact Weak_trans (Weak_keep 2 hm [6] [] _ _ rfl rfl rfl) (Weak_reset 2 hm hz [6] _ _ rfl rfl)
  refine ACode_ret ?_
  cases h
  exact ⟨_, _, fun r a w h => ⟨r, h⟩, _, _, [], _, (.cons (ResV_tmp _ _ rfl) .nil), rfl, rfl, rfl, rfl, rfl⟩

def impl_Colouring_renumbering (k : Nat) (p0 : Col) (p1 : Col) : Option (List Int × Bool) :=
 (impl_Colouring_leading_on_renumbering_c1 k p0 p1 ([] : List Int)).bind fun r1 => some (r1.2, !r1.1)
theorem impl_Colouring_renumbering_ac (k : Nat) (p0 : Col) (p1 : Col) (r : List Int × Bool) (h : impl_Colouring_renumbering k p0 p1 = some r) : AC Tryz.prog 55 [.d (.pv (colD p0) 0), .d (.pv (colD p1) 0)] [] (fun res H' => res = [.vec 0 0, bV r.2] ∧ H' = [.vec 0 (intsD r.1)]) := by
 refine AC_of_body true Tryz.func55 rfl Tryz.ntmps55 (rvs := [.tmp 4, .tmp 5]) rfl rfl (fun G hG => ?_)
 have hm : G.H.length = 0 := by rw [hG]; rfl
 have hz : zeroG G.H = true := by rw [hG]; rfl
 unfold impl_Colouring_renumbering at h
 refine kR ?_
 refine kN 2 rfl ?_
 refine kR ?_
 refine AOps_buildSlice 8 _ _ _ [] (intsD ([] : List Int)) _ rfl rfl rfl rfl rfl (by decide) Tryz.underlying40 Tryz.sizeOf2 (zero_of Tryz.typeInfo2 rfl) rfl rfl (intsD_one _) ?_
 refine AOps_alloc 6 _ _ ([.sl (some true) []]) (zero_of Tryz.typeInfo40 rfl) (by rfl) rfl rfl rfl rfl ?_
 refine AOps_storeR 1 _ _ _ _ _ rfl rfl rfl rfl rfl rfl rfl rfl Tryz.sizeOf40 (fun r a w hr => vec_one hr rfl rfl rfl) ?_
 refine AOps_nil ?_
 refine kR ?_
 refine kM 2 rfl ?_
 refine AOps_q 11 _ rfl rfl rfl (QOp_makeFunc _ _ _ rfl rfl) ?_
 obtain ⟨r1, hr1, h⟩ := bindO h
 refine kC [1, 0] 12 (bV r1.1) [.vec 1 (intsD r1.2), .ref (.vec 0 1)] rfl Tryz.call42 rfl rfl (impl_Colouring_leading_on_renumbering_c1_ac k p0 p1 ([] : List Int) _ hr1) rfl ?_
 refine kN 1 rfl ?_
 refine kR ?_
 refine AOps_q 13 _ rfl rfl rfl (QOp_load_ref _ _ _ _ rfl Tryz.isAgg40 rfl rfl) ?_
 refine kM 1 rfl ?_
 refine AOps_q 15 _ rfl rfl rfl (QOp_not _ _ _ rfl rfl) ?_
 refine kN 2 rfl ?_
 refine ACode_ret ?_
 cases h
 exact ⟨_, _, Weak_reset 0 hm hz [4, 5] _ _ rfl rfl, _, _, [0], _, (.cons (ResV_tmp _ _ rfl) (.cons (ResV_tmp _ _ rfl) .nil)), rfl, rfl, rfl, rfl, rfl⟩

def impl_Colouring_alike_l0 (k : Nat) (p0 : Col) (p1 : Col) (p2 : Int) (r1 : List (List Int)) : Nat → Int → Option (Sum (Unit) (List Int × Option (List Int) × Bool))
 | 0, _ => none
 | k0 + 1, x3 => (if decide (x3 < (((r1.take r1.length).drop p2.toNat).length : Int)) then (if 0 ≤ x3 ∧ x3 < (((r1.take r1.length).drop p2.toNat).length : Int) then (impl_Colouring_recoloured k p0 p0.k (fun a0 => impl_Colouring_alike_c1 a0 (((r1.take r1.length).drop p2.toNat).getD x3.toNat []))).bind fun r6 => (impl_Colouring_renumbering k r6 p1).bind fun r7 => (if r7.2 then some (.inr ((((r1.take r1.length).drop p2.toNat).getD x3.toNat []), some r7.1, true)) else impl_Colouring_alike_l0 k p0 p1 p2 r1 k0 (w64 (x3 + 1))) else none) else some (.inl ()))
def impl_Colouring_alike (k : Nat) (p0 : Col) (p1 : Col) (p2 : Int) : Option (List Int × Option (List Int) × Bool) :=
 ((impl_orders k p0.k ([])).bind fun r1 => (if 0 ≤ p2 ∧ p2 ≤ (r1.length : Int) ∧ (r1.length : Int) ≤ (r1.length : Int) then impl_Colouring_alike_l0 k p0 p1 p2 r1 k 0 else none) : Option (Sum (Unit) (List Int × Option (List Int) × Bool))).bind fun os9 => (match os9 with | .inl s9 => some ([], none, false) | .inr rr => some rr)
theorem impl_Colouring_alike_ac (k : Nat) (p0 : Col) (p1 : Col) (p2 : Int) (r : List Int × Option (List Int) × Bool) (h : impl_Colouring_alike k p0 p1 p2 = some r) : AC Tryz.prog 81 [.d (.pv (colD p0) 0), .d (.pv (colD p1) 0), iV p2] [] (fun res H' => res = [.d (.sl none (intsD r.1)), ownA 0 (r.2.1.map intsD), bV r.2.2] ∧ H' = [] ++ ownH (r.2.1.map intsD)) := by
 refine AC_of_body false Tryz.func81 rfl Tryz.ntmps81 (rvs := [.tmp 6, .tmp 7, .tmp 8]) rfl rfl (fun G hG => ?_)
 have hm : G.H.length = 0 := by rw [hG]; rfl
 have hz : zeroG G.H = true := by rw [hG]; rfl
 unfold impl_Colouring_alike at h
 refine kR ?_
 refine kN 3 rfl ?_
 refine kO (fun s9 => []) (fun s9 => []) h (fun os9 h hks9 => ?_) (fun s9 h => ?_)
 ·refine kR ?_
  refine kM 1 rfl ?_
  refine AOps_q 15 _ rfl rfl rfl (QOp_nilCheck_pv _ _ _ rfl rfl) ?_
  refine AOps_q 16 _ rfl rfl rfl (QOp_fieldAddr_pv _ _ _ _ _ 1 _ _ rfl Tryz.underlying26 rfl _ Tryz.sizeOf2 rfl rfl) ?_
  refine AOps_q 17 _ rfl rfl rfl (QOp_load_pv _ _ _ _ _ rfl Tryz.isAgg2 rfl rfl) ?_
  obtain ⟨r1, hr1, h⟩ := bindO h
  refine kC [] 18 (.d (.sl none (rowsD r1))) [] rfl Tryz.call29 rfl rfl (impl_orders_ac k p0.k ([]) _ hr1) rfl ?_
  refine kM 1 rfl ?_
  obtain ⟨hc2, h⟩ := guardO h
  refine AOps_q 20 _ rfl rfl rfl (QOp_slice_sl _ _ _ _ _ _ _ _ (p2.toNat) (r1.length) rfl Tryz.underlying30 Tryz.sizeOf40 rfl ⟨_, by rw [Int.toNat_of_nonneg (by omega)]; rfl⟩ (by rw [rowsD_length]) (by omega) (by rw [rowsD_length]; omega) (rowsD_part _ _ _)) ?_
  refine AOps_q 21 _ rfl rfl rfl (QOp_len_sl _ _ _ _ _ _ _ (rowsD_length _) rfl rfl rfl rfl Tryz.underlying30 rfl) ?_
  refine kN 1 rfl ?_
  refine ACode_block ?_
  refine ACode_loopW (fun k0 E H => ∃ (x3 : Int), E = [(0, .d (.pv (colD p0) 0)), (1, .d (.pv (colD p1) 0)), (20, .d (.sl none (rowsD ((r1.take r1.length).drop p2.toNat)))), (21, iV (((r1.take r1.length).drop p2.toNat).length : Int)), (22, iV x3)] ∧ H = [] ∧ impl_Colouring_alike_l0 k p0 p1 p2 r1 k0 x3 = some os9) k _ _ (Weak_keep 0 hm [0, 1, 20, 21, 22] [] _ _ rfl rfl rfl) ⟨_, rfl, rfl, h⟩ ?_
  clear h
  rintro k0 E H ⟨x3, rfl, rfl, h⟩
  cases k0 with
  | zero => cases (show (none : Option (Sum (Unit) (List Int × Option (List Int) × Bool))) = some _ from h)
  | succ k0 =>
   rw [impl_Colouring_alike_l0] at h
   refine kR ?_
   refine AOps_q 23 _ rfl rfl rfl (QOp_lss _ _ _ _ _ _ _ rfl rfl rfl) ?_
   refine AOps_nil ?_
   refine ACode_seq ?_
   refine kI h rfl (fun h _ => ?_) (fun h _ => ?_)
   ·refine ACode_skip ?_
    refine ACode_seq ?_
    refine ACode_block ?_
    refine kR ?_
    obtain ⟨hc5, h⟩ := guardO h
    refine AOps_q 24 _ rfl rfl rfl (QOp_indexAddr_sl _ _ _ _ _ _ _ _ rfl Tryz.underlying30 Tryz.sizeOf40 hc5.1 (by rw [rowsD_length]; exact hc5.2) rfl rfl) ?_
    refine AOps_q 25 _ rfl rfl rfl (QOp_load_pv _ _ _ _ _ rfl Tryz.isAgg40 rfl (rowsD_get _ _ [] (by omega))) ?_
    refine AOps_alloc 10 _ _ ([.sl (some true) []]) (zero_of Tryz.typeInfo40 rfl) (by rfl) rfl rfl rfl rfl ?_
    refine AOps_store1 _ _ _ _ _ _ _ _ rfl rfl rfl rfl rfl rfl rfl Tryz.sizeOf40 (Nat.le_of_ble_eq_true rfl) rfl ?_
    refine AOps_nil ?_
    refine kR ?_
    refine kM 2 rfl ?_
    refine AOps_q 28 _ rfl rfl rfl (QOp_nilCheck_pv _ _ _ rfl rfl) ?_
    refine AOps_q 29 _ rfl rfl rfl (QOp_fieldAddr_pv _ _ _ _ _ 1 _ _ rfl Tryz.underlying26 rfl _ Tryz.sizeOf2 rfl rfl) ?_
    refine AOps_q 30 _ rfl rfl rfl (QOp_load_pv _ _ _ _ _ rfl Tryz.isAgg2 rfl rfl) ?_
    refine AOps_q 31 _ rfl rfl rfl (QOp_makeFunc _ _ _ rfl rfl) ?_
    obtain ⟨r6, hr6, h⟩ := bindO h
    refine AOps_callL [] 32 _ _ _ _ _ _ _ _ _ _ rfl rfl rfl rfl rfl rfl rfl Tryz.call96 rfl (nodupB_sound _ rfl) rfl rfl rfl (impl_Colouring_recoloured_ac k p0 p0.k (fun a0 => impl_Colouring_alike_c1 a0 (((r1.take r1.length).drop p2.toNat).getD x3.toNat [])) 97 ([.pv ([.sl none (intsD (((r1.take r1.length).drop p2.toNat).getD x3.toNat []))]) 0]) Tryz.call97 (fun a0 r h => impl_Colouring_alike_c1_ac a0 (((r1.take r1.length).drop p2.toNat).getD x3.toNat []) r h) _ hr6) ?_
    rintro _ _ ⟨rfl, rfl⟩
    refine ⟨(fun _ h => nomatch h), (allc (flat_agg (colD_flat _)) (fun _ h => nomatch h)), AOps_as 32 (v' := .d (.agg (colD r6))) (H' := [.box [.sl none (intsD (((r1.take r1.length).drop p2.toNat).getD x3.toNat []))]]) rfl rfl ?_⟩
    refine AOps_alloc 11 _ _ (colD Col.zero) (zero_of Tryz.typeInfo26 rfl) (by rfl) rfl rfl rfl rfl ?_
    refine AOps_store _ _ _ _ _ _ (colD _) _ _ rfl rfl rfl rfl rfl rfl rfl (colD_one _) (by rw [colD_length]; exact Tryz.sizeOf26) (by rw [colD_length, colD_length]; decide) (colD_whole _ _) ?_
    refine AOps_nil ?_
    refine kR ?_
    refine kM 1 rfl ?_
    obtain ⟨r7, hr7, h⟩ := bindO h
    refine AOps_callL [] 35 _ _ _ _ _ _ _ _ _ _ rfl rfl rfl rfl rfl rfl rfl Tryz.call55 rfl (nodupB_sound _ rfl) rfl rfl rfl (impl_Colouring_renumbering_ac k r6 p1 _ hr7) ?_
    rintro _ _ ⟨rfl, rfl⟩
    refine ⟨(allc (intsD_flat _) (fun _ h => nomatch h)), (allc (trivial) (allc (flat_s _) (fun _ h => nomatch h))), AOps_as 35 (v' := .tup [.vec 2 0, bV r7.2]) (H' := [.box [.sl none (intsD (((r1.take r1.length).drop p2.toNat).getD x3.toNat []))], .box (colD r6), .vec 0 (intsD r7.1)]) rfl rfl ?_⟩
    refine kN 5 rfl ?_
    refine kR ?_
    refine kN 1 rfl ?_
    refine kI h rfl (fun h _ => ?_) (fun h _ => ?_)
    ·refine kR ?_
     refine AOps_q 39 _ rfl rfl rfl (QOp_load_ptr _ _ _ _ _ _ rfl Tryz.isAgg40 rfl rfl rfl) ?_
     refine kN 4 rfl ?_
     refine ACode_ret ?_
     cases h
     have h := hks9
     cases h
     exact ⟨_, _, Weak_reset 0 hm hz [6, 7, 8] _ _ rfl rfl, _, _, [2], _, (.cons (ResV_tmp _ _ rfl) (.cons (ResV_tmp _ _ rfl) (.cons (ResV_tmp _ _ rfl) .nil))), rfl, rfl, rfl, rfl, rfl⟩
    refine ACode_skip ?_
    refine (ACode_region ?_)
    refine AOps_q 41 _ rfl rfl rfl (QOp_add _ _ _ _ _ _ _ rfl rfl rfl) ?_
    refine kN 1 rfl ?_
    exact ⟨k0, _, _, Nat.lt_succ_self _, Weak_keep 0 hm [0, 1, 20, 21, 22] [] _ _ rfl rfl rfl, _, rfl, rfl, h⟩
   refine ACode_exit ?_
   cases h
   exact ⟨_, rfl, Weak_keep 0 hm [] [] _ _ rfl rfl rfl⟩
 refine kR ?_
 refine kN 3 rfl ?_
 refine ACode_ret ?_
 cases h
 exact ⟨_, _, (Weak_trans (Weak_dropF 6 _ _ rfl) (fun r a w h => ⟨r, h⟩)), _, _, [], _, (.cons (ResV_tmp _ _ rfl) (.cons (ResV_tmp _ _ rfl) (.cons (ResV_tmp _ _ rfl) .nil))), rfl, rfl, rfl, rfl, rfl⟩

def impl_Colouring_isSelfAlike (k : Nat) (p0 : Col) : Option (Bool) :=
 (impl_Colouring_alike k p0 p0 1).bind fun r1 => (match r1.2.1 with | none => some r1.2.2 | some l2 => some r1.2.2)
theorem impl_Colouring_isSelfAlike_ac (k : Nat) (p0 : Col) (r : Bool) (h : impl_Colouring_isSelfAlike k p0 = some r) : AC Tryz.prog 45 [.d (.pv (colD p0) 0)] [] (fun res H' => res = [bV r] ∧ H' = []) := by
 refine AC_of_body true Tryz.func45 rfl Tryz.ntmps45 (rvs := [.tmp 2]) rfl rfl (fun G hG => ?_)
 have hm : G.H.length = 0 := by rw [hG]; rfl
 have hz : zeroG G.H = true := by rw [hG]; rfl
 unfold impl_Colouring_isSelfAlike at h
 refine kR ?_
 refine kN 1 rfl ?_
 refine kR ?_
 refine kM 2 rfl ?_
 obtain ⟨r1, hr1, h⟩ := bindO h
 refine AOps_call [] 9 _ _ _ _ _ _ _ _ _ _ rfl rfl rfl rfl rfl rfl rfl Tryz.call81 rfl (nodupB_sound _ rfl) rfl rfl rfl (impl_Colouring_alike_ac k p0 p0 1 _ hr1) ?_
 revert h
 cases hx3 : r1.2.1 with
 | none =>
  intro h
  rintro _ _ ⟨rfl, rfl⟩
  refine ⟨(fun _ h => nomatch h), (allc (trivial) (allc (trivial) (allc (trivial) (fun _ h => nomatch h)))), AOps_as 9 (v' := .tup [.d (.sl none (intsD r1.1)), .d (.sl (some true) []), bV r1.2.2]) (H' := []) rfl rfl ?_⟩
  refine kN 7 rfl ?_
  refine kR ?_
  refine kN 2 rfl ?_
  refine ACode_ret ?_
  cases h
  exact ⟨_, _, fun r a w h => ⟨r, h⟩, _, _, [], _, (.cons (ResV_tmp _ _ rfl) .nil), rfl, rfl, rfl, rfl, rfl⟩
 | some l2 =>
  intro h
  rintro _ _ ⟨rfl, rfl⟩
  refine ⟨(allc (fun _ _ => trivial) (fun _ h => nomatch h)), (allc (trivial) (allc (trivial) (allc (trivial) (fun _ h => nomatch h)))), AOps_as 9 (v' := .tup [.d (.sl none (intsD r1.1)), .vec 0 0, bV r1.2.2]) (H' := [.vec 0 (intsD l2)]) rfl rfl ?_⟩
  refine kN 7 rfl ?_
  refine kR ?_
  refine kN 2 rfl ?_
  refine ACode_ret ?_
  cases h
  exact ⟨_, _, fun r a w h => ⟨r, h⟩, _, _, [], _, (.cons (ResV_tmp _ _ rfl) .nil), rfl, rfl, rfl, rfl, rfl⟩

def impl_IsSelfAlike (k : Nat) (p0 : Col) : Option (Bool × Int) :=
 (impl_Colouring_code k p0 (some (impl_always))).bind fun r1 => (if !decide (r1 = 0) then some (false, r1) else (impl_Colouring_isSelfAlike k p0).bind fun r3 => some (r3, 0))
theorem impl_IsSelfAlike_ac (k : Nat) (p0 : Col) (r : Bool × Int) (h : impl_IsSelfAlike k p0 = some r) : AC Tryz.prog 14 [.d (.agg (colD p0))] [] (fun res H' => res = [bV r.1, iV r.2] ∧ H' = []) := by
 refine AC_of_body true Tryz.func14 rfl Tryz.ntmps14 (rvs := [.tmp 2, .tmp 3]) rfl rfl (fun G hG => ?_)
 have hm : G.H.length = 0 := by rw [hG]; rfl
 have hz : zeroG G.H = true := by rw [hG]; rfl
 unfold impl_IsSelfAlike at h
 refine kR ?_
 refine AOps_boxI 1 _ _ (.agg (colD p0)) (colD p0) rfl (colD_one _) rfl rfl rfl rfl rfl ?_
 refine kN 2 rfl ?_
 refine ACode_seq ?_
 refine kR ?_
 obtain ⟨r1, hr1, h⟩ := bindO h
 refine kC [] 5 (iV r1) [] rfl Tryz.call27 rfl rfl (impl_Colouring_code_ac k p0 (some (impl_always)) 28 ([]) Tryz.call28 (fun r h => by cases h; exact impl_always_ac) _ hr1) rfl ?_
 refine kN 1 rfl ?_
 refine kR ?_
 refine kM 1 rfl ?_
 refine AOps_q 7 _ rfl rfl rfl (QOp_neq _ _ _ _ _ _ _ rfl rfl rfl) ?_
 refine AOps_nil ?_
 refine kI h rfl (fun h _ => ?_) (fun h _ => ?_)
 ·refine kR ?_
  refine kN 3 rfl ?_
  refine ACode_ret ?_
  cases h
  exact ⟨_, _, fun r a w h => ⟨r, h⟩, _, _, [], _, (.cons (ResV_tmp _ _ rfl) (.cons (ResV_tmp _ _ rfl) .nil)), rfl, rfl, rfl, rfl, rfl⟩
 refine ACode_skip ?_
 refine kR ?_
 obtain ⟨r3, hr3, h⟩ := bindO h
 refine kC [] 9 (bV r3) [] rfl Tryz.call45 rfl rfl (impl_Colouring_isSelfAlike_ac k p0 _ hr3) rfl ?_
 refine kN 2 rfl ?_
 refine ACode_ret ?_
 cases h
 exact ⟨_, _, fun r a w h => ⟨r, h⟩, _, _, [], _, (.cons (ResV_tmp _ _ rfl) (.cons (ResV_tmp _ _ rfl) .nil)), rfl, rfl, rfl, rfl, rfl⟩

def spec_l01Turned_l0 (p1 : List Int) : Nat → Int → Col → Option (Col)
 | 0, _, _ => none
 | k0 + 1, x1, x2 => (if decide (x1 < w64 ((w64 (x2.p * (w64 (x2.p - 1)))).tdiv 2)) then (if 0 ≤ x1 ∧ x1 < 136 then (if 0 ≤ ((x2.get x1.toNat).toNat : Int) ∧ ((x2.get x1.toNat).toNat : Int) < (p1.length : Int) then (if 0 ≤ x1 ∧ x1 < 136 then spec_l01Turned_l0 p1 k0 (w64 (x1 + 1)) (x2.set x1.toNat (toByte (p1.getD ((x2.get x1.toNat).toNat : Int).toNat 0))) else none) else none) else none) else some x2)
def spec_l01Turned (k : Nat) (p0 : Col) (p1 : List Int) : Option (Col) :=
 (spec_l01Turned_l0 p1 k 0 p0 : Option (Col)).bind fun s7 => some s7
theorem spec_l01Turned_ac (k : Nat) (p0 : Col) (p1 : List Int) (r : Col) (h : spec_l01Turned k p0 p1 = some r) : AC Tryz.prog 46 [.d (.agg (colD p0)), .d (.sl none (intsD p1))] [] (fun res H' => res = [.d (.agg (colD r))] ∧ H' = []) := by
 refine AC_of_body true Tryz.func46 rfl Tryz.ntmps46 (rvs := [.cell 4 26]) rfl rfl (fun G hG => ?_)
 have hm : G.H.length = 0 := by rw [hG]; rfl
 have hz : zeroG G.H = true := by rw [hG]; rfl
 unfold spec_l01Turned at h
 refine kR ?_
 refine AOps_boxM 2 _ _ (.agg (colD p0)) (colD p0) rfl (colD_one _) rfl rfl rfl rfl rfl ?_
 refine AOps_alloc 4 _ _ (colD Col.zero) (zero_of Tryz.typeInfo26 rfl) (by rfl) rfl rfl rfl rfl ?_
 refine AOps_nil ?_
 refine kB (fun s7 => [(2, .ptr 0 0), (4, .ptr 1 0)]) (fun s7 => [.box (colD s7), .box (colD Col.zero)]) h (fun s7 h => ?_) (fun s7 h => ?_)
 ·refine kR ?_
  refine kN 1 rfl ?_
  refine ACode_block ?_
  refine ACode_loopW (fun k0 E H => ∃ (x1 : Int) (x2 : Col), E = [(1, .d (.sl none (intsD p1))), (2, .ptr 0 0), (4, .ptr 1 0), (5, iV x1)] ∧ H = [.box (colD x2), .box (colD Col.zero)] ∧ spec_l01Turned_l0 p1 k0 x1 x2 = some s7) k _ _ (Weak_keep 0 hm [1, 2, 4, 5] [0, 1] _ _ rfl rfl rfl) ⟨_, _, rfl, rfl, h⟩ ?_
  clear h
  rintro k0 E H ⟨x1, x2, rfl, rfl, h⟩
  cases k0 with
  | zero => cases (show (none : Option (Col)) = some _ from h)
  | succ k0 =>
   rw [spec_l01Turned_l0] at h
   refine ACode_seq ?_
   refine kR ?_
   refine kM 1 rfl ?_
   refine AOps_q 7 _ rfl rfl rfl (QOp_fieldAddr_ptr _ _ _ _ _ _ 0 _ _ rfl Tryz.underlying26 rfl _ Tryz.sizeOf2 rfl rfl rfl rfl) ?_
   refine AOps_q 8 _ rfl rfl rfl (QOp_load_ptr _ _ _ _ _ _ rfl Tryz.isAgg2 rfl rfl rfl) ?_
   refine AOps_q 9 _ rfl rfl rfl (QOp_fieldAddr_ptr _ _ _ _ _ _ 0 _ _ rfl Tryz.underlying26 rfl _ Tryz.sizeOf2 rfl rfl rfl rfl) ?_
   refine AOps_q 10 _ rfl rfl rfl (QOp_load_ptr _ _ _ _ _ _ rfl Tryz.isAgg2 rfl rfl rfl) ?_
   refine AOps_q 11 _ rfl rfl rfl (QOp_sub _ _ _ _ _ _ _ rfl rfl rfl) ?_
   refine AOps_q 12 _ rfl rfl rfl (QOp_mul _ _ _ _ _ _ _ rfl rfl rfl) ?_
   refine AOps_q 13 _ rfl rfl rfl (QOp_quo _ _ _ _ _ _ _ (by decide) rfl rfl rfl) ?_
   refine AOps_q 14 _ rfl rfl rfl (QOp_lss _ _ _ _ _ _ _ rfl rfl rfl) ?_
   refine AOps_nil ?_
   refine kI h rfl (fun h _ => ?_) (fun h _ => ?_)
   ·refine ACode_skip ?_
    refine ACode_seq ?_
    refine ACode_block ?_
    refine (ACode_region ?_)
    refine kM 3 rfl ?_
    refine AOps_q 20 _ rfl rfl rfl (QOp_fieldAddr_ptr _ _ _ _ _ _ 2 _ _ rfl Tryz.underlying26 rfl _ Tryz.sizeOf24 rfl rfl rfl rfl) ?_
    obtain ⟨hc4, h⟩ := guardO h
    refine AOps_q 21 _ rfl rfl rfl (QOp_indexAddrA_ptr _ _ _ _ _ _ _ _ _ _ rfl Tryz.underlying24 Tryz.sizeOf5 hc4.1 hc4.2 rfl rfl rfl rfl) ?_
    refine AOps_q 22 _ rfl rfl rfl (QOp_load_ptr _ _ _ _ _ _ rfl Tryz.isAgg5 rfl rfl (colD_get _ _ (by omega))) ?_
    obtain ⟨hc5, h⟩ := guardO h
    refine AOps_q 23 _ rfl rfl rfl (QOp_indexAddr_sl _ _ _ _ _ _ _ _ rfl Tryz.underlying40 Tryz.sizeOf2 hc5.1 (by rw [intsD_length]; exact hc5.2) rfl rfl) ?_
    refine AOps_q 24 _ rfl rfl rfl (QOp_load_pv _ _ _ _ _ rfl Tryz.isAgg2 rfl (intsD_get _ _ 0 (by omega))) ?_
    refine AOps_q 25 _ rfl rfl rfl (QOp_toByte _ _ _ _ _ rfl rfl Tryz.underlying5 rfl) ?_
    refine AOps_q 26 _ rfl rfl rfl (QOp_fieldAddr_ptr _ _ _ _ _ _ 2 _ _ rfl Tryz.underlying26 rfl _ Tryz.sizeOf24 rfl rfl rfl rfl) ?_
    obtain ⟨hc6, h⟩ := guardO h
    refine AOps_q 27 _ rfl rfl rfl (QOp_indexAddrA_ptr _ _ _ _ _ _ _ _ _ _ rfl Tryz.underlying24 Tryz.sizeOf5 hc6.1 hc6.2 rfl rfl rfl rfl) ?_
    refine AOps_store1 _ _ _ _ _ _ (colD (x2.set x1.toNat (toByte (p1.getD ((x2.get x1.toNat).toNat : Int).toNat 0)))) _ rfl rfl rfl rfl rfl rfl rfl Tryz.sizeOf5 (by rw [colD_length]; omega) (colD_setE x2 x1.toNat (toByte (p1.getD ((x2.get x1.toNat).toNat : Int).toNat 0))) ?_
    refine AOps_nil ?_
    refine (ACode_region ?_)
    refine kM 1 rfl ?_
    refine AOps_q 16 _ rfl rfl rfl (QOp_add _ _ _ _ _ _ _ rfl rfl rfl) ?_
    refine kN 1 rfl ?_
    exact ⟨k0, _, _, Nat.lt_succ_self _, Weak_keep 0 hm [1, 2, 4, 5] [0, 1] _ _ rfl rfl rfl, _, _, rfl, rfl, h⟩
   refine ACode_exit ?_
   cases h
   exact Weak_keep 0 hm [2, 4] [0, 1] _ _ rfl rfl rfl
 refine kR ?_
 refine AOps_q 28 _ rfl rfl rfl (QOp_loadN_ptr _ _ _ _ _ _ _ rfl Tryz.isAgg26 Tryz.sizeOf26 rfl rfl (colD_all _) (colD_length _)) ?_
 refine AOps_store _ _ _ _ _ _ (colD _) _ _ rfl rfl rfl rfl rfl rfl rfl (colD_one _) (by rw [colD_length]; exact Tryz.sizeOf26) (by rw [colD_length, colD_length]; decide) (colD_whole _ _) ?_
 refine AOps_nil ?_
 refine ACode_ret ?_
 cases h
 exact ⟨_, _, fun r a w h => ⟨r, h⟩, _, _, [], _, (.cons (ResV_agg _ _ _ _ _ _ Tryz.isAgg26 Tryz.sizeOf26 rfl rfl (colD_take _) (colD_length _)) .nil), rfl, rfl, rfl, rfl, rfl⟩

def spec_IsSelfAlike_l0 (k : Nat) (p0 : Col) (r3 : List (List Int)) : Nat → Int → Option (Sum (Unit) (Bool × Int))
 | 0, _ => none
 | k0 + 1, x4 => (if decide (x4 < (r3.length : Int)) then (if 0 ≤ x4 ∧ x4 < (r3.length : Int) then (spec_l01Turned k p0 (r3.getD x4.toNat [])).bind fun r7 => (spec_l06Between k r7 p0 1).bind fun r8 => (if decide (0 < r8.count) then some (.inr (true, 0)) else spec_IsSelfAlike_l0 k p0 r3 k0 (w64 (x4 + 1))) else none) else some (.inl ()))
def spec_IsSelfAlike (k : Nat) (p0 : Col) : Option (Bool × Int) :=
 (spec_l01Is k p0).bind fun r1 => (if !r1 then some (false, 1) else (spec_l06Orders k ([] : List Int) p0.k).bind fun r3 => (spec_IsSelfAlike_l0 k p0 r3 k 1 : Option (Sum (Unit) (Bool × Int))).bind fun os10 => (match os10 with | .inl s10 => some (false, 0) | .inr rr => some rr))
theorem spec_IsSelfAlike_ac (k : Nat) (p0 : Col) (r : Bool × Int) (h : spec_IsSelfAlike k p0 = some r) : AC Tryz.prog 15 [.d (.agg (colD p0))] [] (fun res H' => res = [bV r.1, iV r.2] ∧ H' = []) := by
 refine AC_of_body true Tryz.func15 rfl Tryz.ntmps15 (rvs := [.tmp 2, .tmp 3]) rfl rfl (fun G hG => ?_)
 have hm : G.H.length = 0 := by rw [hG]; rfl
 have hz : zeroG G.H = true := by rw [hG]; rfl
 unfold spec_IsSelfAlike at h
 refine kR ?_
 refine AOps_boxI 1 _ _ (.agg (colD p0)) (colD p0) rfl (colD_one _) rfl rfl rfl rfl rfl ?_
 refine kN 2 rfl ?_
 refine ACode_seq ?_
 refine kR ?_
 refine AOps_q 6 _ rfl rfl rfl (QOp_loadN_pv _ _ _ _ _ _ rfl Tryz.isAgg26 Tryz.sizeOf26 rfl (colD_all _) (colD_length _)) ?_
 obtain ⟨r1, hr1, h⟩ := bindO h
 refine kC [] 7 (bV r1) [] rfl Tryz.call32 rfl rfl (spec_l01Is_ac k p0 _ hr1) rfl ?_
 refine AOps_q 8 _ rfl rfl rfl (QOp_not _ _ _ rfl rfl) ?_
 refine AOps_nil ?_
 refine kI h rfl (fun h _ => ?_) (fun h _ => ?_)
 ·refine kR ?_
  refine kN 2 rfl ?_
  refine ACode_ret ?_
  cases h
  exact ⟨_, _, fun r a w h => ⟨r, h⟩, _, _, [], _, (.cons (ResV_tmp _ _ rfl) (.cons (ResV_tmp _ _ rfl) .nil)), rfl, rfl, rfl, rfl, rfl⟩
 refine ACode_skip ?_
 refine kR ?_
 refine AOps_buildSlice 9 _ _ _ [] (intsD ([] : List Int)) _ rfl rfl rfl rfl rfl (by decide) Tryz.underlying40 Tryz.sizeOf2 (zero_of Tryz.typeInfo2 rfl) rfl rfl (intsD_one _) ?_
 refine AOps_q 10 _ rfl rfl rfl (QOp_fieldAddr_pv _ _ _ _ _ 1 _ _ rfl Tryz.underlying26 rfl _ Tryz.sizeOf2 rfl rfl) ?_
 refine AOps_q 11 _ rfl rfl rfl (QOp_load_pv _ _ _ _ _ rfl Tryz.isAgg2 rfl rfl) ?_
 refine AOps_freezeL [9] 0 0 _ (allc (rfl) (fun _ h => nomatch h)) rfl ?_
 obtain ⟨r3, hr3, h⟩ := bindO h
 refine kC [] 12 (.d (.sl none (rowsD r3))) [.gone] rfl Tryz.call33 rfl rfl (spec_l06Orders_ac k ([] : List Int) p0.k _ hr3) rfl ?_
 refine kN 1 rfl ?_
 refine kO (fun s10 => []) (fun s10 => []) h (fun os10 h hks10 => ?_) (fun s10 h => ?_)
 ·refine kR ?_
  refine kN 1 rfl ?_
  refine ACode_block ?_
  refine ACode_loopW (fun k0 E H => ∃ (x4 : Int), E = [(1, .d (.pv (colD p0) 0)), (4, .d (.sl none (rowsD r3))), (5, iV x4)] ∧ H = [] ∧ spec_IsSelfAlike_l0 k p0 r3 k0 x4 = some os10) k _ _ (Weak_keep 0 hm [1, 4, 5] [] _ _ rfl rfl rfl) ⟨_, rfl, rfl, h⟩ ?_
  clear h
  rintro k0 E H ⟨x4, rfl, rfl, h⟩
  cases k0 with
  | zero => cases (show (none : Option (Sum (Unit) (Bool × Int))) = some _ from h)
  | succ k0 =>
   rw [spec_IsSelfAlike_l0] at h
   refine ACode_seq ?_
   refine kR ?_
   refine kM 2 rfl ?_
   refine AOps_q 15 _ rfl rfl rfl (QOp_len_sl _ _ _ _ _ _ _ (rowsD_length _) rfl rfl rfl rfl Tryz.underlying30 rfl) ?_
   refine AOps_q 16 _ rfl rfl rfl (QOp_lss _ _ _ _ _ _ _ rfl rfl rfl) ?_
   refine AOps_nil ?_
   refine kI h rfl (fun h _ => ?_) (fun h _ => ?_)
   ·refine ACode_skip ?_
    refine ACode_seq ?_
    refine ACode_block ?_
    obtain ⟨hc6, h⟩ := guardO h
    obtain ⟨r7, hr7, h⟩ := bindO h
    obtain ⟨r8, hr8, h⟩ := bindO h
    refine ACode_seqJ (fun E' H' => Weak 31 G E' H' [(1, .d (.pv (colD p0) 0)), (4, .d (.sl none (rowsD r3))), (5, iV x4), (30, bV (decide (0 < r8.count)))] []) ?_ ?_
    ·refine ACode_any mixed ?_
     refine AAny_q 0 19 _ rfl (by kernel_rfl) rfl rfl rfl (QOp_loadN_pv _ _ _ _ _ _ rfl Tryz.isAgg26 Tryz.sizeOf26 rfl (colD_all _) (colD_length _)) ?_
     refine AAny_q 1 20 _ rfl (by kernel_rfl) rfl rfl rfl (QOp_move _ _ rfl rfl) ?_
     refine AAny_q 2 21 _ rfl (by kernel_rfl) rfl rfl rfl (QOp_move _ _ rfl rfl) ?_
     refine AAny_q 3 22 _ rfl (by kernel_rfl) rfl rfl rfl (QOp_indexAddr_sl _ _ _ _ _ _ _ _ rfl Tryz.underlying30 Tryz.sizeOf40 hc6.1 (by rw [rowsD_length]; exact hc6.2) rfl rfl) ?_
     refine AAny_q 4 23 _ rfl (by kernel_rfl) rfl rfl rfl (QOp_load_pv _ _ _ _ _ rfl Tryz.isAgg40 rfl (rowsD_get _ _ [] (by omega))) ?_
     refine AAny_q 6 25 _ rfl (by kernel_rfl) rfl rfl rfl (QOp_loadN_pv _ _ _ _ _ _ rfl Tryz.isAgg26 Tryz.sizeOf26 rfl (colD_all _) (colD_length _)) ?_
     refine AAny_all [5] (by kernel_rfl) rfl (allc ?_ (fun _ h => nomatch h))
     refine AStep_callN 5 24 _ _ _ _ _ _ _ _ _ rfl rfl rfl rfl rfl rfl rfl rfl Tryz.call46 rfl rfl rfl (spec_l01Turned_ac k p0 (r3.getD x4.toNat []) _ hr7) ?_
     rintro _ _ ⟨rfl, rfl⟩
     refine ⟨(fun _ h => nomatch h), (allc (trivial) (fun _ h => nomatch h)), AAny_as 24 (v' := .d (.agg (colD r7))) (H' := []) rfl rfl ?_⟩
     refine AAny_all [7] (by kernel_rfl) rfl (allc ?_ (fun _ h => nomatch h))
     refine AStep_callN 7 26 _ _ _ _ _ _ _ _ _ rfl rfl rfl rfl rfl rfl rfl rfl Tryz.call44 rfl rfl rfl (spec_l06Between_ac k r7 p0 1 _ hr8) ?_
     rintro _ _ ⟨rfl, rfl⟩
     refine ⟨(allc (fun _ _ => trivial) (fun _ h => nomatch h)), (allc (trivial) (fun _ h => nomatch h)), AAny_as 26 (v' := .ptr 0 0) (H' := [.box (seaD r8)]) rfl rfl ?_⟩
     refine AAny_q 8 27 _ rfl (by kernel_rfl) rfl rfl rfl (QOp_nilCheck_ptr _ _ _ _ rfl rfl rfl rfl) ?_
     refine AAny_q 9 28 _ rfl (by kernel_rfl) rfl rfl rfl (QOp_fieldAddr_ptr _ _ _ _ _ _ 279 _ _ rfl Tryz.underlying70 rfl _ Tryz.sizeOf2 rfl rfl rfl rfl) ?_
     refine AAny_q 10 29 _ rfl (by kernel_rfl) rfl rfl rfl (QOp_load_ptr _ _ _ _ _ _ rfl Tryz.isAgg2 rfl rfl (seaD_c _)) ?_
     refine AAny_q 11 30 _ rfl (by kernel_rfl) rfl rfl rfl (QOp_gtr _ _ _ _ _ _ _ rfl rfl rfl) ?_
     refine AAny_done (by kernel_rfl) ?_
     exact Weak_keep 0 hm [1, 4, 5, 30] [] _ _ rfl rfl rfl
    intro E' H' hw
    refine ACode_weak hw ?_
    refine kI h rfl (fun h _ => ?_) (fun h _ => ?_)
    ·refine kR ?_
     refine kN 2 rfl ?_
     refine ACode_ret ?_
     cases h
     have h := hks10
     cases h
     exact ⟨_, _, fun r a w h => ⟨r, h⟩, _, _, [], _, (.cons (ResV_tmp _ _ rfl) (.cons (ResV_tmp _ _ rfl) .nil)), rfl, rfl, rfl, rfl, rfl⟩
    refine ACode_skip ?_
    refine (ACode_region ?_)
    refine kM 1 rfl ?_
    refine AOps_q 18 _ rfl rfl rfl (QOp_add _ _ _ _ _ _ _ rfl rfl rfl) ?_
    refine kN 1 rfl ?_
    exact ⟨k0, _, _, Nat.lt_succ_self _, Weak_keep 0 hm [1, 4, 5] [] _ _ rfl rfl rfl, _, rfl, rfl, h⟩
   refine ACode_exit ?_
   cases h
   exact ⟨_, rfl, Weak_keep 0 hm [] [] _ _ rfl rfl rfl⟩
 refine kR ?_
 refine kN 2 rfl ?_
 refine ACode_ret ?_
 cases h
 exact ⟨_, _, fun r a w h => ⟨r, h⟩, _, _, [], _, (.cons (ResV_tmp _ _ rfl) (.cons (ResV_tmp _ _ rfl) .nil)), rfl, rfl, rfl, rfl, rfl⟩

def spec_l01Near (p0 : Src) (p1 : Int) : Option (Int × Src) :=
 (spec_l01Next p0 14).bind fun r1 => (if decide (r1.1 = 0) then (spec_l01Pick r1.2 ([(-1), w64 (p1 + 1), 1099511627776, (-4611686018427387904)])).bind fun r3 => some (r3.1, r3.2) else (spec_l01Next r1.2 (w64 (p1 + 1))).bind fun r4 => some (r4.1, r4.2))
theorem spec_l01Near_ac (p0 : Src) (p1 : Int) (r : Int × Src) (h : spec_l01Near p0 p1 = some r) : AC Tryz.prog 47 [.ptr 0 0, iV p1] [.box (srcD p0)] (fun res H' => res = [iV r.1] ∧ H' = [.box (srcD r.2)]) := by
 refine AC_of_body true Tryz.func47 rfl Tryz.ntmps47 (rvs := [.tmp 4]) rfl rfl (fun G hG => ?_)
 have hm : G.H.length = 1 := by rw [hG]; rfl
 have hz : zeroG G.H = true := by rw [hG]; rfl
 unfold spec_l01Near at h
 refine kR ?_
 refine kN 1 rfl ?_
 refine ACode_seq ?_
 refine kR ?_
 refine kM 1 rfl ?_
 obtain ⟨r1, hr1, h⟩ := bindO h
 refine kC [0] 6 (iV r1.1) [.box (srcD r1.2)] rfl Tryz.call23 rfl rfl (spec_l01Next_ac p0 14 _ hr1) rfl ?_
 refine AOps_q 7 _ rfl rfl rfl (QOp_eql _ _ _ _ _ _ _ rfl rfl rfl) ?_
 refine AOps_nil ?_
 refine kI h rfl (fun h _ => ?_) (fun h _ => ?_)
 ·refine kR ?_
  refine kM 2 rfl ?_
  refine AOps_q 10 _ rfl rfl rfl (QOp_add _ _ _ _ _ _ _ rfl rfl rfl) ?_
  refine AOps_buildSlice 11 _ _ _ [_, _, _, _] (intsD ([(-1), w64 (p1 + 1), 1099511627776, (-4611686018427387904)])) _ rfl rfl rfl rfl rfl (by decide) Tryz.underlying40 Tryz.sizeOf2 (zero_of Tryz.typeInfo2 rfl) rfl rfl (intsD_one _) ?_
  refine AOps_freezeL [11] 1 0 _ (allc (rfl) (fun _ h => nomatch h)) rfl ?_
  obtain ⟨r3, hr3, h⟩ := bindO h
  refine kC [0] 12 (iV r3.1) [.box (srcD r3.2), .gone] rfl Tryz.call59 rfl rfl (spec_l01Pick_ac r1.2 ([(-1), w64 (p1 + 1), 1099511627776, (-4611686018427387904)]) _ hr3) rfl ?_
  refine kN 1 rfl ?_
  refine ACode_ret ?_
  cases h
  exact ⟨_, _, fun r a w h => ⟨r, h⟩, _, _, [], _, (.cons (ResV_tmp _ _ rfl) .nil), rfl, rfl, rfl, rfl, rfl⟩
 refine ACode_skip ?_
 refine kR ?_
 refine kM 2 rfl ?_
 refine AOps_q 15 _ rfl rfl rfl (QOp_add _ _ _ _ _ _ _ rfl rfl rfl) ?_
 obtain ⟨r4, hr4, h⟩ := bindO h
 refine kC [0] 16 (iV r4.1) [.box (srcD r4.2)] rfl Tryz.call23 rfl rfl (spec_l01Next_ac r1.2 (w64 (p1 + 1)) _ hr4) rfl ?_
 refine kN 1 rfl ?_
 refine ACode_ret ?_
 cases h
 exact ⟨_, _, fun r a w h => ⟨r, h⟩, _, _, [], _, (.cons (ResV_tmp _ _ rfl) .nil), rfl, rfl, rfl, rfl, rfl⟩

def spec_DrawCountClasses (k : Nat) (p0 : List UInt8) : Option (Int × Int) :=
 (spec_l01From k p0).bind fun r1 => (spec_l01Near r1 7).bind fun r2 => (spec_l01Near r2.2 4).bind fun r3 => some (r2.1, r3.1)
theorem spec_DrawCountClasses_ac (k : Nat) (p0 : List UInt8) (r : Int × Int) (h : spec_DrawCountClasses k p0 = some r) : AC Tryz.prog 16 [.d (.sl none (bysD p0))] [] (fun res H' => res = [iV r.1, iV r.2] ∧ H' = []) := by
 refine AC_of_body true Tryz.func16 rfl Tryz.ntmps16 (rvs := [.tmp 2, .tmp 3]) rfl rfl (fun G hG => ?_)
 have hm : G.H.length = 0 := by rw [hG]; rfl
 have hz : zeroG G.H = true := by rw [hG]; rfl
 unfold spec_DrawCountClasses at h
 refine kR ?_
 refine kN 2 rfl ?_
 refine kR ?_
 refine kM 1 rfl ?_
 obtain ⟨r1, hr1, h⟩ := bindO h
 refine kC [] 6 (.ptr 0 0) [.box (srcD r1)] rfl Tryz.call22 rfl rfl (spec_l01From_ac k p0 _ hr1) rfl ?_
 refine kN 1 rfl ?_
 refine kR ?_
 refine kM 1 rfl ?_
 obtain ⟨r2, hr2, h⟩ := bindO h
 refine kC [0] 8 (iV r2.1) [.box (srcD r2.2)] rfl Tryz.call47 rfl rfl (spec_l01Near_ac r1 7 _ hr2) rfl ?_
 refine kM 1 rfl ?_
 obtain ⟨r3, hr3, h⟩ := bindO h
 refine kC [0] 10 (iV r3.1) [.box (srcD r3.2)] rfl Tryz.call47 rfl rfl (spec_l01Near_ac r2.2 4 _ hr3) rfl ?_
 refine kN 2 rfl ?_
 refine ACode_ret ?_
 cases h
 exact ⟨_, _, fun r a w h => ⟨r, h⟩, _, _, [], _, (.cons (ResV_tmp _ _ rfl) (.cons (ResV_tmp _ _ rfl) .nil)), rfl, rfl, rfl, rfl, rfl⟩

def impl_edgeCycles_l2 (p0 : List Int) (x6 : Int) : Nat → Int → Int → O136 → Option (Int × O136)
 | 0, _, _, _ => none
 | k2 + 1, x13, x14, x15 => (if 0 ≤ (impl_number x13 x14) ∧ (impl_number x13 x14) < 136 then (if !(x15.get ((impl_number x13 x14).toNat)) then (if 0 ≤ (impl_number x13 x14) ∧ (impl_number x13 x14) < 136 then (if 0 ≤ x13 ∧ x13 < (p0.length : Int) then (if 0 ≤ x14 ∧ x14 < (p0.length : Int) then impl_edgeCycles_l2 p0 x6 k2 (p0.getD x13.toNat 0) (p0.getD x14.toNat 0) (x15.set ((impl_number x13 x14).toNat) true) else none) else none) else none) else some (w64 (x6 + 1), x15)) else none)
def impl_edgeCycles_l1 (k : Nat) (p0 : List Int) (x3 : Int) : Nat → Int → Int → O136 → Option (Int × O136)
 | 0, _, _, _ => none
 | k1 + 1, x6, x7, x8 => (if decide (x7 < x3) then ((if 0 ≤ (impl_number x7 x3) ∧ (impl_number x7 x3) < 136 then (if (x8.get ((impl_number x7 x3).toNat)) then some (x6, x8) else impl_edgeCycles_l2 p0 x6 k x7 x3 x8) else none) : Option (Int × O136)).bind fun s23 => impl_edgeCycles_l1 k p0 x3 k1 s23.1 (w64 (x7 + 1)) s23.2 else some (x6, x8))
def impl_edgeCycles_l0 (k : Nat) (p0 : List Int) : Nat → Int → Int → O136 → Option (Int)
 | 0, _, _, _ => none
 | k0 + 1, x2, x3, x4 => (if decide (x3 < (impl_size p0)) then (impl_edgeCycles_l1 k p0 x3 k x2 0 x4 : Option (Int × O136)).bind fun s24 => impl_edgeCycles_l0 k p0 k0 s24.1 (w64 (x3 + 1)) s24.2 else some x2)
def impl_edgeCycles (k : Nat) (p0 : List Int) : Option (Int) :=
 (impl_edgeCycles_l0 k p0 k 0 0 O136.zero : Option (Int)).bind fun s25 => some s25
theorem impl_edgeCycles_ac (k : Nat) (p0 : List Int) (r : Int) (h : impl_edgeCycles k p0 = some r) : AC Tryz.prog 49 [.d (.sl none (intsD p0))] [] (fun res H' => res = [iV r] ∧ H' = []) := by
 refine AC_of_body true Tryz.func49 rfl Tryz.ntmps49 (rvs := [.tmp 2]) rfl rfl (fun G hG => ?_)
 have hm : G.H.length = 0 := by rw [hG]; rfl
 have hz : zeroG G.H = true := by rw [hG]; rfl
 unfold impl_edgeCycles at h
 refine kR ?_
 refine kN 1 rfl ?_
 refine kR ?_
 refine AOps_q 9 _ rfl rfl rfl (QOp_buildA _ _ _ [] [] [] _ (obD O136.zero) (obD O136.zero) rfl rfl Tryz.underlying107 (zero_of Tryz.typeInfo107 rfl) Tryz.sizeOf4 (by decide) rfl (by rfl) (by rfl) (fun _ h => nomatch h)) ?_
 refine AOps_alloc 4 _ _ (obD O136.zero) (zero_of Tryz.typeInfo107 rfl) (by rfl) rfl rfl rfl rfl ?_
 refine kM 1 rfl ?_
 refine AOps_store _ _ _ _ _ _ (obD _) _ _ rfl rfl rfl rfl rfl rfl rfl (obD_one _) (by rw [obD_length]; exact Tryz.sizeOf107) (by first | (rw [obD_length, obD_length]; decide) | (rw [obD_length]; decide)) (obD_whole _ _) ?_
 refine AOps_nil ?_
 refine kB (fun s25 => [(3, iV s25)]) (fun s25 => []) h (fun s25 h => ?_) (fun s25 h => ?_)
 ·refine kR ?_
  refine kM 1 rfl ?_
  refine kC [] 11 (iV (impl_size p0)) [.box (obD O136.zero)] rfl Tryz.call63 rfl rfl (impl_size_ac p0) rfl ?_
  refine kN 1 rfl ?_
  refine ACode_block ?_
  refine ACode_loopW (fun k0 E H => ∃ (x2 : Int) (x3 : Int) (x4 : O136), E = [(0, .d (.sl none (intsD p0))), (3, iV x2), (4, .ptr 0 0), (11, iV (impl_size p0)), (12, iV x3)] ∧ H = [.box (obD x4)] ∧ impl_edgeCycles_l0 k p0 k0 x2 x3 x4 = some s25) k _ _ (Weak_keep 0 hm [0, 3, 4, 11, 12] [0] _ _ rfl rfl rfl) ⟨_, _, _, rfl, rfl, h⟩ ?_
  clear h
  rintro k0 E H ⟨x2, x3, x4, rfl, rfl, h⟩
  cases k0 with
  | zero => cases (show (none : Option (Int)) = some _ from h)
  | succ k0 =>
   rw [impl_edgeCycles_l0] at h
   refine kR ?_
   refine AOps_q 13 _ rfl rfl rfl (QOp_lss _ _ _ _ _ _ _ rfl rfl rfl) ?_
   refine AOps_nil ?_
   refine ACode_seq ?_
   refine kI h rfl (fun h _ => ?_) (fun h _ => ?_)
   ·refine ACode_skip ?_
    refine kB (fun s24 => [(0, .d (.sl none (intsD p0))), (3, iV s24.1), (4, .ptr 0 0), (11, iV (impl_size p0)), (12, iV x3)]) (fun s24 => [.box (obD s24.2)]) h (fun s24 h => ?_) (fun s24 h => ?_)
    ·refine ACode_block ?_
     refine kR ?_
     refine kN 2 rfl ?_
     refine kR ?_
     refine kN 2 rfl ?_
     refine ACode_block ?_
     refine ACode_loopW (fun k1 E H => ∃ (x6 : Int) (x7 : Int) (x8 : O136), E = [(0, .d (.sl none (intsD p0))), (3, iV x6), (4, .ptr 0 0), (5, iV x3), (11, iV (impl_size p0)), (12, iV x3), (15, iV x3), (16, iV x7)] ∧ H = [.box (obD x8)] ∧ impl_edgeCycles_l1 k p0 x3 k1 x6 x7 x8 = some s24) k _ _ (Weak_keep 0 hm [0, 3, 4, 5, 11, 12, 15, 16] [0] _ _ rfl rfl rfl) ⟨_, _, _, rfl, rfl, h⟩ ?_
     clear h
     rintro k1 E H ⟨x6, x7, x8, rfl, rfl, h⟩
     cases k1 with
     | zero => cases (show (none : Option (Int × O136)) = some _ from h)
     | succ k1 =>
      rw [impl_edgeCycles_l1] at h
      refine kR ?_
      refine AOps_q 17 _ rfl rfl rfl (QOp_lss _ _ _ _ _ _ _ rfl rfl rfl) ?_
      refine AOps_nil ?_
      refine ACode_seq ?_
      refine kI h rfl (fun h _ => ?_) (fun h _ => ?_)
      ·refine ACode_skip ?_
       refine kB (fun s23 => [(0, .d (.sl none (intsD p0))), (3, iV s23.1), (4, .ptr 0 0), (5, iV x3), (11, iV (impl_size p0)), (12, iV x3), (15, iV x3), (16, iV x7)]) (fun s23 => [.box (obD s23.2)]) h (fun s23 h => ?_) (fun s23 h => ?_)
       ·refine ACode_block ?_
        refine kR ?_
        refine kN 2 rfl ?_
        refine ACode_seq ?_
        refine kR ?_
        refine kM 2 rfl ?_
        refine kC [] 21 (iV (impl_number x7 x3)) [.box (obD x8)] rfl Tryz.call82 rfl rfl (impl_number_ac x7 x3) rfl ?_
        obtain ⟨hc11, h⟩ := guardO h
        refine AOps_q 22 _ rfl rfl rfl (QOp_indexAddrA_ptr _ _ _ _ _ _ _ _ _ _ rfl Tryz.underlying107 Tryz.sizeOf4 hc11.1 hc11.2 rfl rfl rfl rfl) ?_
        refine AOps_q 23 _ rfl rfl rfl (QOp_load_ptr _ _ _ _ _ _ rfl Tryz.isAgg4 rfl rfl (by rw [Nat.zero_add]; exact obD_get _ _ (by omega))) ?_
        refine AOps_nil ?_
        refine kI h rfl (fun h _ => ?_) (fun h _ => ?_)
        ·refine ACode_exit ?_
         cases h
         exact Weak_keep 0 hm [0, 3, 4, 5, 11, 12, 15, 16] [0] _ _ rfl rfl rfl
        refine ACode_skip ?_
        refine kR ?_
        refine kM 1 rfl ?_
        refine AOps_q 25 _ rfl rfl rfl (QOp_add _ _ _ _ _ _ _ rfl rfl rfl) ?_
        refine kN 1 rfl ?_
        refine kR ?_
        refine kN 4 rfl ?_
        refine ACode_block ?_
        refine ACode_loopW (fun k2 E H => ∃ (x13 : Int) (x14 : Int) (x15 : O136), E = [(0, .d (.sl none (intsD p0))), (3, iV (w64 (x6 + 1))), (4, .ptr 0 0), (5, iV x3), (7, iV x13), (8, iV x14), (11, iV (impl_size p0)), (12, iV x3), (15, iV x3), (16, iV x7)] ∧ H = [.box (obD x15)] ∧ impl_edgeCycles_l2 p0 x6 k2 x13 x14 x15 = some s23) k _ _ (Weak_keep 0 hm [0, 3, 4, 5, 7, 8, 11, 12, 15, 16] [0] _ _ rfl rfl rfl) ⟨_, _, _, rfl, rfl, h⟩ ?_
        clear h
        rintro k2 E H ⟨x13, x14, x15, rfl, rfl, h⟩
        cases k2 with
        | zero => cases (show (none : Option (Int × O136)) = some _ from h)
        | succ k2 =>
         rw [impl_edgeCycles_l2] at h
         refine ACode_seq ?_
         refine kR ?_
         refine kM 2 rfl ?_
         refine kC [] 30 (iV (impl_number x13 x14)) [.box (obD x15)] rfl Tryz.call82 rfl rfl (impl_number_ac x13 x14) rfl ?_
         obtain ⟨hc17, h⟩ := guardO h
         refine AOps_q 31 _ rfl rfl rfl (QOp_indexAddrA_ptr _ _ _ _ _ _ _ _ _ _ rfl Tryz.underlying107 Tryz.sizeOf4 hc17.1 hc17.2 rfl rfl rfl rfl) ?_
         refine AOps_q 32 _ rfl rfl rfl (QOp_load_ptr _ _ _ _ _ _ rfl Tryz.isAgg4 rfl rfl (by rw [Nat.zero_add]; exact obD_get _ _ (by omega))) ?_
         refine AOps_q 33 _ rfl rfl rfl (QOp_not _ _ _ rfl rfl) ?_
         refine AOps_nil ?_
         refine kI h rfl (fun h _ => ?_) (fun h _ => ?_)
         ·refine ACode_skip ?_
          refine ACode_seq ?_
          refine ACode_block ?_
          refine (ACode_region ?_)
          refine kM 2 rfl ?_
          refine kC [] 44 (iV (impl_number x13 x14)) [.box (obD x15)] rfl Tryz.call82 rfl rfl (impl_number_ac x13 x14) rfl ?_
          obtain ⟨hc20, h⟩ := guardO h
          refine AOps_q 45 _ rfl rfl rfl (QOp_indexAddrA_ptr _ _ _ _ _ _ _ _ _ _ rfl Tryz.underlying107 Tryz.sizeOf4 hc20.1 hc20.2 rfl rfl rfl rfl) ?_
          refine AOps_store1 _ _ _ _ _ _ (obD (x15.set ((impl_number x13 x14).toNat) true)) _ rfl rfl rfl rfl rfl rfl rfl Tryz.sizeOf4 (by rw [obD_length]; omega) (obD_set0 x15 ((impl_number x13 x14).toNat) true) ?_
          refine AOps_nil ?_
          refine (ACode_quiet mixed (by kernel_rfl) ?_)
          refine kQ 2 rfl ?_
          obtain ⟨hc21, h⟩ := guardO h
          refine AQ_q 36 _ rfl rfl rfl (QOp_indexAddr_sl _ _ _ _ _ _ _ _ rfl Tryz.underlying40 Tryz.sizeOf2 hc21.1 (by rw [intsD_length]; exact hc21.2) rfl rfl) ?_
          refine AQ_q 37 _ rfl rfl rfl (QOp_load_pv _ _ _ _ _ rfl Tryz.isAgg2 rfl (intsD_get _ _ 0 (by omega))) ?_
          refine kQ 2 rfl ?_
          obtain ⟨hc22, h⟩ := guardO h
          refine AQ_q 40 _ rfl rfl rfl (QOp_indexAddr_sl _ _ _ _ _ _ _ _ rfl Tryz.underlying40 Tryz.sizeOf2 hc22.1 (by rw [intsD_length]; exact hc22.2) rfl rfl) ?_
          refine AQ_q 41 _ rfl rfl rfl (QOp_load_pv _ _ _ _ _ rfl Tryz.isAgg2 rfl (intsD_get _ _ 0 (by omega))) ?_
          refine kQ 2 rfl ?_
          refine AQ_nil ?_
          exact ⟨k2, _, _, Nat.lt_succ_self _, Weak_keep 0 hm [0, 3, 4, 5, 7, 8, 11, 12, 15, 16] [0] _ _ rfl rfl rfl, _, _, _, rfl, rfl, h⟩
         refine ACode_exit ?_
         cases h
         exact Weak_keep 0 hm [0, 3, 4, 5, 11, 12, 15, 16] [0] _ _ rfl rfl rfl
       refine (ACode_region ?_)
       refine AOps_q 46 _ rfl rfl rfl (QOp_add _ _ _ _ _ _ _ rfl rfl rfl) ?_
       refine kN 1 rfl ?_
       exact ⟨k1, _, _, Nat.lt_succ_self _, Weak_keep 0 hm [0, 3, 4, 5, 11, 12, 15, 16] [0] _ _ rfl rfl rfl, _, _, _, rfl, rfl, h⟩
      refine ACode_exit ?_
      cases h
      exact Weak_keep 0 hm [0, 3, 4, 11, 12] [0] _ _ rfl rfl rfl
    refine (ACode_region ?_)
    refine AOps_q 47 _ rfl rfl rfl (QOp_add _ _ _ _ _ _ _ rfl rfl rfl) ?_
    refine kN 1 rfl ?_
    exact ⟨k0, _, _, Nat.lt_succ_self _, Weak_keep 0 hm [0, 3, 4, 11, 12] [0] _ _ rfl rfl rfl, _, _, _, rfl, rfl, h⟩
   refine ACode_exit ?_
   cases h
   exact Weak_keep 0 hm [3] [] _ _ rfl rfl rfl
 refine kR ?_
 refine kN 2 rfl ?_
 refine ACode_ret ?_
 cases h
 exact ⟨_, _, fun r a w h => ⟨r, h⟩, _, _, [], _, (.cons (ResV_tmp _ _ rfl) .nil), rfl, rfl, rfl, rfl, rfl⟩

def impl_size_R (p0 : List (List Int)) : Int :=
 (p0.length : Int)
theorem impl_size_R_ac (p0 : List (List Int)) : AC Tryz.prog 50 [.d (.sl none (rowsD p0))] [] (fun res H' => res = [iV (impl_size_R p0)] ∧ H' = []) := by
 refine AC_of_body true Tryz.func50 rfl Tryz.ntmps50 (rvs := [.tmp 2]) rfl rfl (fun G hG => ?_)
 have hm : G.H.length = 0 := by rw [hG]; rfl
 have hz : zeroG G.H = true := by rw [hG]; rfl
 obtain ⟨r, h⟩ : ∃ r, impl_size_R p0 = r := ⟨_, rfl⟩
 rw [h]
 unfold impl_size_R at h
 refine kR ?_
 refine kN 1 rfl ?_
 refine kR ?_
 refine kM 1 rfl ?_
 refine AOps_q 4 _ rfl rfl rfl (QOp_len_sl _ _ _ _ _ _ _ (rowsD_length _) rfl rfl rfl rfl Tryz.underlying30 rfl) ?_
 refine kN 1 rfl ?_
 refine ACode_ret ?_
 cases h
 exact ⟨_, _, fun r a w h => ⟨r, h⟩, _, _, [], _, (.cons (ResV_tmp _ _ rfl) .nil), rfl, rfl, rfl, rfl, rfl⟩

def impl_CountClasses_l1 (p1 : Int) (r12 : Int) : Nat → Int → Int → Option (Int)
 | 0, _, _ => none
 | k1 + 1, x13, x14 => (if decide (x14 < r12) then impl_CountClasses_l1 p1 r12 k1 (w64 (x13 * p1)) (w64 (x14 + 1)) else some x13)
def impl_CountClasses_l0 (k : Nat) (p1 : Int) (r7 : List (List Int)) : Nat → Int → Int → Option (Int)
 | 0, _, _ => none
 | k0 + 1, x8, x9 => (if decide (x9 < (r7.length : Int)) then ((if 0 ≤ x9 ∧ x9 < (r7.length : Int) then ((impl_edgeCycles k (r7.getD x9.toNat [])).bind fun r12 => impl_CountClasses_l1 p1 r12 k 1 0 : Option (Int)).bind fun s16 => some (w64 (x8 + s16)) else none) : Option (Int)).bind fun s17 => impl_CountClasses_l0 k p1 r7 k0 s17 (w64 (x9 + 1)) else some x8)
def impl_CountClasses (k : Nat) (p0 : Int) (p1 : Int) : Option (Int × Int) :=
 (letO (if !(impl_in p0 1 7) then true else !(impl_in p1 1 4)) fun (s4 : Bool) => (if s4 then some (.inr (0, 2)) else some (.inl ())) : Option (Sum (Unit) (Int × Int))).bind fun os6 => (match os6 with | .inl s6 => (impl_orders k p0 ([])).bind fun r7 => (impl_CountClasses_l0 k p1 r7 k 0 0 : Option (Int)).bind fun s18 => (if (impl_size_R r7) ≠ 0 then some (w64 (s18.tdiv (impl_size_R r7)), 0) else none) | .inr rr => some rr)
theorem impl_CountClasses_ac (k : Nat) (p0 : Int) (p1 : Int) (r : Int × Int) (h : impl_CountClasses k p0 p1 = some r) : AC Tryz.prog 17 [iV p0, iV p1] [] (fun res H' => res = [iV r.1, iV r.2] ∧ H' = []) := by
 refine AC_of_body true Tryz.func17 rfl Tryz.ntmps17 (rvs := [.tmp 4, .tmp 5]) rfl rfl (fun G hG => ?_)
 have hm : G.H.length = 0 := by rw [hG]; rfl
 have hz : zeroG G.H = true := by rw [hG]; rfl
 unfold impl_CountClasses at h
 refine kR ?_
 refine kN 2 rfl ?_
 refine kO (fun s6 => [(0, iV p0), (1, iV p1)]) (fun s6 => []) h (fun os6 h hks6 => ?_) (fun s6 h => ?_)
 ·refine kL (fun s4 => [(0, iV p0), (1, iV p1), (18, bV s4)]) (fun s4 => []) h (fun s4 h => ?_) (fun s4 h => ?_)
  ·refine (ACode_region ?_)
   refine kM 1 rfl ?_
   refine kC [] 12 (bV (impl_in p0 1 7)) [] rfl Tryz.call48 rfl rfl (impl_in_ac p0 1 7) rfl ?_
   refine AOps_q 13 _ rfl rfl rfl (QOp_not _ _ _ rfl rfl) ?_
   refine kM 1 rfl ?_
   refine AOps_case 14 _ rfl (fun hb2 => ?_) (fun hb2 => ?_)
   ·have h := iteT hb2 h
    refine AOps_skip 15 rfl rfl rfl ?_
    refine AOps_skip 16 rfl rfl rfl ?_
    refine AOps_skip 17 rfl rfl rfl ?_
    refine kN 1 rfl ?_
    cases h
    exact Weak_keep 0 hm [0, 1, 18] [] _ _ rfl rfl rfl
   have h := iteF hb2 h
   refine kM 1 rfl ?_
   refine kC [] 16 (bV (impl_in p1 1 4)) [] rfl Tryz.call48 rfl rfl (impl_in_ac p1 1 4) rfl ?_
   refine AOps_q 17 _ rfl rfl rfl (QOp_not _ _ _ rfl rfl) ?_
   refine kN 1 rfl ?_
   cases h
   exact Weak_keep 0 hm [0, 1, 18] [] _ _ rfl rfl rfl
  refine kI h rfl (fun h _ => ?_) (fun h _ => ?_)
  ·refine kR ?_
   refine kN 2 rfl ?_
   refine ACode_ret ?_
   cases h
   have h := hks6
   cases h
   exact ⟨_, _, fun r a w h => ⟨r, h⟩, _, _, [], _, (.cons (ResV_tmp _ _ rfl) (.cons (ResV_tmp _ _ rfl) .nil)), rfl, rfl, rfl, rfl, rfl⟩
  refine ACode_skip ?_
  cases h
  exact ⟨_, rfl, Weak_keep 0 hm [0, 1] [] _ _ rfl rfl rfl⟩
 refine kR ?_
 refine kM 1 rfl ?_
 obtain ⟨r7, hr7, h⟩ := bindO h
 refine kC [] 20 (.d (.sl none (rowsD r7))) [] rfl Tryz.call29 rfl rfl (impl_orders_ac k p0 ([]) _ hr7) rfl ?_
 refine kN 2 rfl ?_
 refine kB (fun s18 => [(6, iV s18), (7, .d (.sl none (rowsD r7)))]) (fun s18 => []) h (fun s18 h => ?_) (fun s18 h => ?_)
 ·refine kR ?_
  refine kM 1 rfl ?_
  refine AOps_q 22 _ rfl rfl rfl (QOp_len_sl _ _ _ _ _ _ _ (rowsD_length _) rfl rfl rfl rfl Tryz.underlying30 rfl) ?_
  refine kN 1 rfl ?_
  refine ACode_block ?_
  refine ACode_loopW (fun k0 E H => ∃ (x8 : Int) (x9 : Int), E = [(1, iV p1), (6, iV x8), (7, .d (.sl none (rowsD r7))), (21, .d (.sl none (rowsD r7))), (22, iV (r7.length : Int)), (23, iV x9)] ∧ H = [] ∧ impl_CountClasses_l0 k p1 r7 k0 x8 x9 = some s18) k _ _ (Weak_keep 0 hm [1, 6, 7, 21, 22, 23] [] _ _ rfl rfl rfl) ⟨_, _, rfl, rfl, h⟩ ?_
  clear h
  rintro k0 E H ⟨x8, x9, rfl, rfl, h⟩
  cases k0 with
  | zero => cases (show (none : Option (Int)) = some _ from h)
  | succ k0 =>
   rw [impl_CountClasses_l0] at h
   refine kR ?_
   refine AOps_q 24 _ rfl rfl rfl (QOp_lss _ _ _ _ _ _ _ rfl rfl rfl) ?_
   refine AOps_nil ?_
   refine ACode_seq ?_
   refine kI h rfl (fun h _ => ?_) (fun h _ => ?_)
   ·refine ACode_skip ?_
    refine kB (fun s17 => [(1, iV p1), (6, iV s17), (7, .d (.sl none (rowsD r7))), (21, .d (.sl none (rowsD r7))), (22, iV (r7.length : Int)), (23, iV x9)]) (fun s17 => []) h (fun s17 h => ?_) (fun s17 h => ?_)
    ·refine ACode_block ?_
     refine kR ?_
     obtain ⟨hc11, h⟩ := guardO h
     refine AOps_q 25 _ rfl rfl rfl (QOp_indexAddr_sl _ _ _ _ _ _ _ _ rfl Tryz.underlying30 Tryz.sizeOf40 hc11.1 (by rw [rowsD_length]; exact hc11.2) rfl rfl) ?_
     refine AOps_q 26 _ rfl rfl rfl (QOp_load_pv _ _ _ _ _ rfl Tryz.isAgg40 rfl (rowsD_get _ _ [] (by omega))) ?_
     refine kN 1 rfl ?_
     refine kR ?_
     refine kN 1 rfl ?_
     refine kB (fun s16 => [(1, iV p1), (6, iV x8), (7, .d (.sl none (rowsD r7))), (10, iV s16), (21, .d (.sl none (rowsD r7))), (22, iV (r7.length : Int)), (23, iV x9)]) (fun s16 => []) h (fun s16 h => ?_) (fun s16 h => ?_)
     ·refine kR ?_
      refine kM 1 rfl ?_
      obtain ⟨r12, hr12, h⟩ := bindO h
      refine kC [] 28 (iV r12) [] rfl Tryz.call49 rfl rfl (impl_edgeCycles_ac k (r7.getD x9.toNat []) _ hr12) rfl ?_
      refine kN 1 rfl ?_
      refine ACode_block ?_
      refine ACode_loopW (fun k1 E H => ∃ (x13 : Int) (x14 : Int), E = [(1, iV p1), (6, iV x8), (7, .d (.sl none (rowsD r7))), (10, iV x13), (21, .d (.sl none (rowsD r7))), (22, iV (r7.length : Int)), (23, iV x9), (28, iV r12), (29, iV x14)] ∧ H = [] ∧ impl_CountClasses_l1 p1 r12 k1 x13 x14 = some s16) k _ _ (Weak_keep 0 hm [1, 6, 7, 10, 21, 22, 23, 28, 29] [] _ _ rfl rfl rfl) ⟨_, _, rfl, rfl, h⟩ ?_
      clear h
      rintro k1 E H ⟨x13, x14, rfl, rfl, h⟩
      cases k1 with
      | zero => cases (show (none : Option (Int)) = some _ from h)
      | succ k1 =>
       rw [impl_CountClasses_l1] at h
       refine kR ?_
       refine AOps_q 30 _ rfl rfl rfl (QOp_lss _ _ _ _ _ _ _ rfl rfl rfl) ?_
       refine AOps_nil ?_
       refine ACode_seq ?_
       refine kI h rfl (fun h _ => ?_) (fun h _ => ?_)
       ·refine ACode_skip ?_
        refine ACode_seq ?_
        refine ACode_block ?_
        refine (ACode_region ?_)
        refine kM 2 rfl ?_
        refine AOps_q 33 _ rfl rfl rfl (QOp_mul _ _ _ _ _ _ _ rfl rfl rfl) ?_
        refine kN 1 rfl ?_
        refine (ACode_region ?_)
        refine AOps_q 34 _ rfl rfl rfl (QOp_add _ _ _ _ _ _ _ rfl rfl rfl) ?_
        refine kN 1 rfl ?_
        exact ⟨k1, _, _, Nat.lt_succ_self _, Weak_keep 0 hm [1, 6, 7, 10, 21, 22, 23, 28, 29] [] _ _ rfl rfl rfl, _, _, rfl, rfl, h⟩
       refine ACode_exit ?_
       cases h
       exact Weak_keep 0 hm [1, 6, 7, 10, 21, 22, 23] [] _ _ rfl rfl rfl
     refine (ACode_region ?_)
     refine kM 2 rfl ?_
     refine AOps_q 37 _ rfl rfl rfl (QOp_add _ _ _ _ _ _ _ rfl rfl rfl) ?_
     refine kN 1 rfl ?_
     cases h
     exact Weak_keep 0 hm [1, 6, 7, 21, 22, 23] [] _ _ rfl rfl rfl
    refine (ACode_region ?_)
    refine AOps_q 38 _ rfl rfl rfl (QOp_add _ _ _ _ _ _ _ rfl rfl rfl) ?_
    refine kN 1 rfl ?_
    exact ⟨k0, _, _, Nat.lt_succ_self _, Weak_keep 0 hm [1, 6, 7, 21, 22, 23] [] _ _ rfl rfl rfl, _, _, rfl, rfl, h⟩
   refine ACode_exit ?_
   cases h
   exact Weak_keep 0 hm [6, 7] [] _ _ rfl rfl rfl
 refine kR ?_
 refine kM 2 rfl ?_
 refine kC [] 41 (iV (impl_size_R r7)) [] rfl Tryz.call50 rfl rfl (impl_size_R_ac r7) rfl ?_
 obtain ⟨hc20, h⟩ := guardO h
 refine AOps_q 42 _ rfl rfl rfl (QOp_quo _ _ _ _ _ _ _ hc20 rfl rfl rfl) ?_
 refine kN 2 rfl ?_
 refine ACode_ret ?_
 cases h
 exact ⟨_, _, fun r a w h => ⟨r, h⟩, _, _, [], _, (.cons (ResV_tmp _ _ rfl) (.cons (ResV_tmp _ _ rfl) .nil)), rfl, rfl, rfl, rfl, rfl⟩

end Go.Proofs.YtldgmcghdohmeaaGreat
