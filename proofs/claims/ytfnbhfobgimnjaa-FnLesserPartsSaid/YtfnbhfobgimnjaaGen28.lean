/- Plain functions of the program and that the program computes them: printed by the own tool gen.py. No conditions. -/
import Derived.Test.YtfnbhfobgimnjaaGen28b
set_option linter.unusedVariables false
set_option linter.unusedSimpArgs false
namespace Go.Proofs.Ytfnbhfobgimnjaa
open Go Go.RowKit Ab

-- loop.example/g01362/spec.l10Row
def spec_l10Row_l0 (p0 : List (List Int)) : Nat → Int → Option (Sum (Unit) (Bool))
 | 0, _ => none
 | k0 + 1, x5 => (if decide (x5 < (p0.length : Int)) then (((if 0 ≤ x5 ∧ x5 < (p0.length : Int) then (if !decide (((p0.getD x5.toNat []).length : Int) = 2) then some true else (if 0 ≤ x5 ∧ x5 < (p0.length : Int) then (if 0 ≤ (0 : Int) ∧ (0 : Int) < ((p0.getD x5.toNat []).length : Int) then (if !(spec_l01In ((p0.getD x5.toNat []).getD (0 : Int).toNat 0) (-1000) 1000) then some true else (if 0 ≤ x5 ∧ x5 < (p0.length : Int) then (if 0 ≤ (1 : Int) ∧ (1 : Int) < ((p0.getD x5.toNat []).length : Int) then (if !(spec_l01In ((p0.getD x5.toNat []).getD (1 : Int).toNat 0) (-1000) 1000) then some true else (if decide (0 < x5) then (if 0 ≤ x5 ∧ x5 < (p0.length : Int) then (if 0 ≤ (0 : Int) ∧ (0 : Int) < ((p0.getD x5.toNat []).length : Int) then (if 0 ≤ w64 (x5 - 1) ∧ w64 (x5 - 1) < (p0.length : Int) then (if 0 ≤ (0 : Int) ∧ (0 : Int) < ((p0.getD (w64 (x5 - 1)).toNat []).length : Int) then some (decide (((p0.getD x5.toNat []).getD (0 : Int).toNat 0) ≤ ((p0.getD (w64 (x5 - 1)).toNat []).getD (0 : Int).toNat 0))) else none) else none) else none) else none) else some false)) else none) else none)) else none) else none)) else none) : Option (Bool)).bind fun s22 => (if s22 then (some (.inr false)).bind fun rr => some (.inr rr) else some (.inl ())) : Option (Sum (Unit) (Sum (Unit) (Bool)))).bind fun os24 => (match os24 with | .inl s24 => spec_l10Row_l0 p0 k0 (w64 (x5 + 1)) | .inr rr => some rr) else some (.inl ()))
def spec_l10Row (k : Nat) (p0 : List (List Int)) : Option (Bool) :=
 (letO (if decide ((p0.length : Int) < 1) then true else decide (17 < (p0.length : Int))) fun (s2 : Bool) => (if s2 then some (.inr false) else some (.inl ())) : Option (Sum (Unit) (Bool))).bind fun os4 => (match os4 with | .inl s4 => (spec_l10Row_l0 p0 k 0 : Option (Sum (Unit) (Bool))).bind fun os25 => (match os25 with | .inl s25 => some true | .inr rr => some rr) | .inr rr => some rr)
set_option maxRecDepth 100000 in
theorem spec_l10Row_ac (k : Nat) (p0 : List (List Int)) (r : Bool) (h : spec_l10Row k p0 = some r) : AC Try.prog 86 [.d (.sl none (rowsD p0))] [] (fun res H' => res = [bV r] ∧ H' = []) := by
 refine AC_of_body true Try.func86 rfl Try.ntmps86 (rvs := [.tmp 2]) rfl rfl (fun G hG => ?_)
 have hm : G.H.length = 0 := by rw [hG]; rfl
 have hz : zeroG G.H = true := by rw [hG]; rfl
 unfold spec_l10Row at h
 refine kR ?_
 refine kN 1 rfl ?_
 refine kO (fun s4 => [(0, .d (.sl none (rowsD p0)))]) (fun s4 => []) h (fun os4 h hks4 => ?_) (fun s4 h => ?_)
 ·refine kL (fun s2 => [(0, .d (.sl none (rowsD p0))), (11, bV s2)]) (fun s2 => []) h (fun s2 h => ?_) (fun s2 h => ?_)
  ·refine (ACode_region ?_)
   refine kM 1 rfl ?_
   refine AOps_q 5 _ rfl rfl rfl (QOp_len_sl _ _ _ _ _ _ _ (rowsD_length _) rfl rfl rfl rfl Try.underlying41 rfl) ?_
   refine AOps_q 6 _ rfl rfl rfl (QOp_lss _ _ _ _ _ _ _ rfl rfl rfl) ?_
   refine kM 1 rfl ?_
   refine AOps_case 7 _ rfl (fun hb1 => ?_) (fun hb1 => ?_)
   ·have h := iteT hb1 h
    refine AOps_skip 8 rfl rfl rfl ?_
    refine AOps_skip 9 rfl rfl rfl ?_
    refine AOps_skip 10 rfl rfl rfl ?_
    refine kN 1 rfl ?_
    cases h
    exact Weak_keep 0 hm [0, 11] [] _ _ rfl rfl rfl
   have h := iteF hb1 h
   refine kM 1 rfl ?_
   refine AOps_q 9 _ rfl rfl rfl (QOp_len_sl _ _ _ _ _ _ _ (rowsD_length _) rfl rfl rfl rfl Try.underlying41 rfl) ?_
   refine AOps_q 10 _ rfl rfl rfl (QOp_gtr _ _ _ _ _ _ _ rfl rfl rfl) ?_
   refine kN 1 rfl ?_
   cases h
   exact Weak_keep 0 hm [0, 11] [] _ _ rfl rfl rfl
  refine kI h rfl (fun h _ => ?_) (fun h _ => ?_)
  ·refine kR ?_
   refine kN 1 rfl ?_
   refine ACode_ret ?_
   cases h
   have h := hks4
   cases h
   exact ⟨_, _, fun r a w h => ⟨r, h⟩, _, _, [], _, (.cons (ResV_tmp _ _ rfl) .nil), rfl, rfl, rfl, rfl, rfl⟩
  refine ACode_skip ?_
  cases h
  exact ⟨_, rfl, Weak_keep 0 hm [0] [] _ _ rfl rfl rfl⟩
 refine kO (fun s25 => []) (fun s25 => []) h (fun os25 h hks25 => ?_) (fun s25 h => ?_)
 ·refine kR ?_
  refine kN 1 rfl ?_
  refine ACode_block ?_
  refine ACode_loopW (fun k0 E H => ∃ (x5 : Int), E = [(0, .d (.sl none (rowsD p0))), (3, iV x5)] ∧ H = [] ∧ spec_l10Row_l0 p0 k0 x5 = some os25) k _ _ (Weak_keep 0 hm [0, 3] [] _ _ rfl rfl rfl) ⟨_, rfl, rfl, h⟩ ?_
  clear h
  rintro k0 E H ⟨x5, rfl, rfl, h⟩
  cases k0 with
  | zero => cases (show (none : Option (Sum (Unit) (Bool))) = some _ from h)
  | succ k0 =>
   rw [spec_l10Row_l0] at h
   refine ACode_seq ?_
   refine kR ?_
   refine kM 2 rfl ?_
   refine AOps_q 14 _ rfl rfl rfl (QOp_len_sl _ _ _ _ _ _ _ (rowsD_length _) rfl rfl rfl rfl Try.underlying41 rfl) ?_
   refine AOps_q 15 _ rfl rfl rfl (QOp_lss _ _ _ _ _ _ _ rfl rfl rfl) ?_
   refine AOps_nil ?_
   refine kI h rfl (fun h _ => ?_) (fun h _ => ?_)
   ·refine ACode_skip ?_
    refine kO (fun s24 => [(0, .d (.sl none (rowsD p0))), (3, iV x5)]) (fun s24 => []) h (fun os24 h hks24 => ?_) (fun s24 h => ?_)
    ·refine ACode_block ?_
     refine kB (fun s22 => [(0, .d (.sl none (rowsD p0))), (3, iV x5), (63, bV s22)]) (fun s22 => []) h (fun s22 h => ?_) (fun s22 h => ?_)
     ·refine (ACode_quiet mixed (by kernel_rfl) ?_)
      refine kQ 2 rfl ?_
      obtain ⟨hc7, h⟩ := guardO h
      refine AQ_q 20 _ rfl rfl rfl (QOp_indexAddr_sl _ _ _ _ _ _ _ _ rfl Try.underlying41 Try.sizeOf24 hc7.1 (by rw [rowsD_length]; exact hc7.2) rfl rfl) ?_
      refine AQ_q 21 _ rfl rfl rfl (QOp_load_pv _ _ _ _ _ rfl Try.isAgg24 rfl (rowsD_get _ _ [] (by omega))) ?_
      refine AQ_q 22 _ rfl rfl rfl (QOp_len_sl _ _ _ _ _ _ _ (intsD_length _) rfl rfl rfl rfl Try.underlying24 rfl) ?_
      refine AQ_q 23 _ rfl rfl rfl (QOp_neq _ _ _ _ _ _ _ rfl rfl rfl) ?_
      refine kQ 1 rfl ?_
      refine AQ_case 24 _ rfl (fun hb8 => ?_) (fun hb8 => ?_)
      ·have h := iteT hb8 h
       refine AQ_skip 25 rfl rfl rfl ?_
       refine AQ_skip 26 rfl rfl rfl ?_
       refine AQ_skip 27 rfl rfl rfl ?_
       refine AQ_skip 28 rfl rfl rfl ?_
       refine AQ_skip 29 rfl rfl rfl ?_
       refine AQ_skip 30 rfl rfl rfl ?_
       refine AQ_skip 31 rfl rfl rfl ?_
       refine AQ_skip 32 rfl rfl rfl ?_
       refine kQ 2 rfl ?_
       refine AQ_skip 35 rfl rfl rfl ?_
       refine AQ_skip 36 rfl rfl rfl ?_
       refine AQ_skip 37 rfl rfl rfl ?_
       refine AQ_skip 38 rfl rfl rfl ?_
       refine AQ_skip 39 rfl rfl rfl ?_
       refine AQ_skip 40 rfl rfl rfl ?_
       refine AQ_skip 41 rfl rfl rfl ?_
       refine AQ_skip 42 rfl rfl rfl ?_
       refine kQ 2 rfl ?_
       refine AQ_skip 45 rfl rfl rfl ?_
       refine AQ_skip 46 rfl rfl rfl ?_
       refine AQ_skip 47 rfl rfl rfl ?_
       refine AQ_skip 48 rfl rfl rfl ?_
       refine AQ_skip 49 rfl rfl rfl ?_
       refine AQ_skip 50 rfl rfl rfl ?_
       refine AQ_skip 51 rfl rfl rfl ?_
       refine AQ_skip 52 rfl rfl rfl ?_
       refine AQ_skip 53 rfl rfl rfl ?_
       refine AQ_skip 54 rfl rfl rfl ?_
       refine AQ_skip 55 rfl rfl rfl ?_
       refine AQ_skip 56 rfl rfl rfl ?_
       refine AQ_skip 57 rfl rfl rfl ?_
       refine AQ_skip 58 rfl rfl rfl ?_
       refine AQ_skip 59 rfl rfl rfl ?_
       refine AQ_skip 60 rfl rfl rfl ?_
       refine AQ_skip 61 rfl rfl rfl ?_
       refine AQ_skip 62 rfl rfl rfl ?_
       refine kQ 1 rfl ?_
       refine AQ_nil ?_
       cases h
       exact Weak_keep 0 hm [0, 3, 63] [] _ _ rfl rfl rfl
      have h := iteF hb8 h
      refine kQ 2 rfl ?_
      obtain ⟨hc9, h⟩ := guardO h
      refine AQ_q 27 _ rfl rfl rfl (QOp_indexAddr_sl _ _ _ _ _ _ _ _ rfl Try.underlying41 Try.sizeOf24 hc9.1 (by rw [rowsD_length]; exact hc9.2) rfl rfl) ?_
      refine AQ_q 28 _ rfl rfl rfl (QOp_load_pv _ _ _ _ _ rfl Try.isAgg24 rfl (rowsD_get _ _ [] (by omega))) ?_
      obtain ⟨hc10, h⟩ := guardO h
      refine AQ_q 29 _ rfl rfl rfl (QOp_indexAddr_sl _ _ _ _ _ _ _ _ rfl Try.underlying24 Try.sizeOf2 hc10.1 (by rw [intsD_length]; exact hc10.2) rfl rfl) ?_
      refine AQ_q 30 _ rfl rfl rfl (QOp_load_pv _ _ _ _ _ rfl Try.isAgg2 rfl (intsD_get _ _ 0 (by omega))) ?_
      refine AQ_call 31 _ _ _ _ _ _ _ _ _ rfl rfl rfl rfl rfl rfl rfl Try.call40 rfl rfl rfl (spec_l01In_ac ((p0.getD x5.toNat []).getD (0 : Int).toNat 0) (-1000) 1000) ?_
      refine AQ_q 32 _ rfl rfl rfl (QOp_not _ _ _ rfl rfl) ?_
      refine kQ 2 rfl ?_
      refine AQ_case 34 _ rfl (fun hb12 => ?_) (fun hb12 => ?_)
      ·have h := iteT hb12 h
       refine AQ_skip 35 rfl rfl rfl ?_
       refine AQ_skip 36 rfl rfl rfl ?_
       refine AQ_skip 37 rfl rfl rfl ?_
       refine AQ_skip 38 rfl rfl rfl ?_
       refine AQ_skip 39 rfl rfl rfl ?_
       refine AQ_skip 40 rfl rfl rfl ?_
       refine AQ_skip 41 rfl rfl rfl ?_
       refine AQ_skip 42 rfl rfl rfl ?_
       refine kQ 2 rfl ?_
       refine AQ_skip 45 rfl rfl rfl ?_
       refine AQ_skip 46 rfl rfl rfl ?_
       refine AQ_skip 47 rfl rfl rfl ?_
       refine AQ_skip 48 rfl rfl rfl ?_
       refine AQ_skip 49 rfl rfl rfl ?_
       refine AQ_skip 50 rfl rfl rfl ?_
       refine AQ_skip 51 rfl rfl rfl ?_
       refine AQ_skip 52 rfl rfl rfl ?_
       refine AQ_skip 53 rfl rfl rfl ?_
       refine AQ_skip 54 rfl rfl rfl ?_
       refine AQ_skip 55 rfl rfl rfl ?_
       refine AQ_skip 56 rfl rfl rfl ?_
       refine AQ_skip 57 rfl rfl rfl ?_
       refine AQ_skip 58 rfl rfl rfl ?_
       refine AQ_skip 59 rfl rfl rfl ?_
       refine AQ_skip 60 rfl rfl rfl ?_
       refine AQ_skip 61 rfl rfl rfl ?_
       refine AQ_skip 62 rfl rfl rfl ?_
       refine kQ 1 rfl ?_
       refine AQ_nil ?_
       cases h
       exact Weak_keep 0 hm [0, 3, 63] [] _ _ rfl rfl rfl
      have h := iteF hb12 h
      refine kQ 2 rfl ?_
      obtain ⟨hc13, h⟩ := guardO h
      refine AQ_q 37 _ rfl rfl rfl (QOp_indexAddr_sl _ _ _ _ _ _ _ _ rfl Try.underlying41 Try.sizeOf24 hc13.1 (by rw [rowsD_length]; exact hc13.2) rfl rfl) ?_
      refine AQ_q 38 _ rfl rfl rfl (QOp_load_pv _ _ _ _ _ rfl Try.isAgg24 rfl (rowsD_get _ _ [] (by omega))) ?_
      obtain ⟨hc14, h⟩ := guardO h
      refine AQ_q 39 _ rfl rfl rfl (QOp_indexAddr_sl _ _ _ _ _ _ _ _ rfl Try.underlying24 Try.sizeOf2 hc14.1 (by rw [intsD_length]; exact hc14.2) rfl rfl) ?_
      refine AQ_q 40 _ rfl rfl rfl (QOp_load_pv _ _ _ _ _ rfl Try.isAgg2 rfl (intsD_get _ _ 0 (by omega))) ?_
      refine AQ_call 41 _ _ _ _ _ _ _ _ _ rfl rfl rfl rfl rfl rfl rfl Try.call40 rfl rfl rfl (spec_l01In_ac ((p0.getD x5.toNat []).getD (1 : Int).toNat 0) (-1000) 1000) ?_
      refine AQ_q 42 _ rfl rfl rfl (QOp_not _ _ _ rfl rfl) ?_
      refine kQ 2 rfl ?_
      refine AQ_case 44 _ rfl (fun hb16 => ?_) (fun hb16 => ?_)
      ·have h := iteT hb16 h
       refine AQ_skip 45 rfl rfl rfl ?_
       refine AQ_skip 46 rfl rfl rfl ?_
       refine AQ_skip 47 rfl rfl rfl ?_
       refine AQ_skip 48 rfl rfl rfl ?_
       refine AQ_skip 49 rfl rfl rfl ?_
       refine AQ_skip 50 rfl rfl rfl ?_
       refine AQ_skip 51 rfl rfl rfl ?_
       refine AQ_skip 52 rfl rfl rfl ?_
       refine AQ_skip 53 rfl rfl rfl ?_
       refine AQ_skip 54 rfl rfl rfl ?_
       refine AQ_skip 55 rfl rfl rfl ?_
       refine AQ_skip 56 rfl rfl rfl ?_
       refine AQ_skip 57 rfl rfl rfl ?_
       refine AQ_skip 58 rfl rfl rfl ?_
       refine AQ_skip 59 rfl rfl rfl ?_
       refine AQ_skip 60 rfl rfl rfl ?_
       refine AQ_skip 61 rfl rfl rfl ?_
       refine AQ_skip 62 rfl rfl rfl ?_
       refine kQ 1 rfl ?_
       refine AQ_nil ?_
       cases h
       exact Weak_keep 0 hm [0, 3, 63] [] _ _ rfl rfl rfl
      have h := iteF hb16 h
      refine kQ 1 rfl ?_
      refine AQ_q 46 _ rfl rfl rfl (QOp_gtr _ _ _ _ _ _ _ rfl rfl rfl) ?_
      refine kQ 1 rfl ?_
      refine AQ_case 47 _ rfl (fun hb17 => ?_) (fun hb17 => ?_)
      ·have h := iteT hb17 h
       refine kQ 2 rfl ?_
       obtain ⟨hc18, h⟩ := guardO h
       refine AQ_q 50 _ rfl rfl rfl (QOp_indexAddr_sl _ _ _ _ _ _ _ _ rfl Try.underlying41 Try.sizeOf24 hc18.1 (by rw [rowsD_length]; exact hc18.2) rfl rfl) ?_
       refine AQ_q 51 _ rfl rfl rfl (QOp_load_pv _ _ _ _ _ rfl Try.isAgg24 rfl (rowsD_get _ _ [] (by omega))) ?_
       obtain ⟨hc19, h⟩ := guardO h
       refine AQ_q 52 _ rfl rfl rfl (QOp_indexAddr_sl _ _ _ _ _ _ _ _ rfl Try.underlying24 Try.sizeOf2 hc19.1 (by rw [intsD_length]; exact hc19.2) rfl rfl) ?_
       refine AQ_q 53 _ rfl rfl rfl (QOp_load_pv _ _ _ _ _ rfl Try.isAgg2 rfl (intsD_get _ _ 0 (by omega))) ?_
       refine kQ 2 rfl ?_
       refine AQ_q 56 _ rfl rfl rfl (QOp_sub _ _ _ _ _ _ _ rfl rfl rfl) ?_
       obtain ⟨hc20, h⟩ := guardO h
       refine AQ_q 57 _ rfl rfl rfl (QOp_indexAddr_sl _ _ _ _ _ _ _ _ rfl Try.underlying41 Try.sizeOf24 hc20.1 (by rw [rowsD_length]; exact hc20.2) rfl rfl) ?_
       refine AQ_q 58 _ rfl rfl rfl (QOp_load_pv _ _ _ _ _ rfl Try.isAgg24 rfl (rowsD_get _ _ [] (by omega))) ?_
       obtain ⟨hc21, h⟩ := guardO h
       refine AQ_q 59 _ rfl rfl rfl (QOp_indexAddr_sl _ _ _ _ _ _ _ _ rfl Try.underlying24 Try.sizeOf2 hc21.1 (by rw [intsD_length]; exact hc21.2) rfl rfl) ?_
       refine AQ_q 60 _ rfl rfl rfl (QOp_load_pv _ _ _ _ _ rfl Try.isAgg2 rfl (intsD_get _ _ 0 (by omega))) ?_
       refine AQ_q 61 _ rfl rfl rfl (QOp_leq _ _ _ _ _ _ _ rfl rfl rfl) ?_
       refine kQ 2 rfl ?_
       refine AQ_nil ?_
       cases h
       exact Weak_keep 0 hm [0, 3, 63] [] _ _ rfl rfl rfl
      have h := iteF hb17 h
      refine AQ_skip 48 rfl rfl rfl ?_
      refine AQ_skip 49 rfl rfl rfl ?_
      refine AQ_skip 50 rfl rfl rfl ?_
      refine AQ_skip 51 rfl rfl rfl ?_
      refine AQ_skip 52 rfl rfl rfl ?_
      refine AQ_skip 53 rfl rfl rfl ?_
      refine AQ_skip 54 rfl rfl rfl ?_
      refine AQ_skip 55 rfl rfl rfl ?_
      refine AQ_skip 56 rfl rfl rfl ?_
      refine AQ_skip 57 rfl rfl rfl ?_
      refine AQ_skip 58 rfl rfl rfl ?_
      refine AQ_skip 59 rfl rfl rfl ?_
      refine AQ_skip 60 rfl rfl rfl ?_
      refine AQ_skip 61 rfl rfl rfl ?_
      refine kQ 2 rfl ?_
      refine AQ_nil ?_
      cases h
      exact Weak_keep 0 hm [0, 3, 63] [] _ _ rfl rfl rfl
     refine kI h rfl (fun h _ => ?_) (fun h _ => ?_)
     ·refine kR ?_
      refine kN 1 rfl ?_
      refine ACode_ret ?_
      obtain ⟨rr, hz26, h2⟩ := bindO h
      obtain rfl := Option.some.inj h2
      obtain rfl := Option.some.inj (show some rr = some _ from hks24)
      have h := hz26
      cases h
      have h := hks25
      cases h
      exact ⟨_, _, fun r a w h => ⟨r, h⟩, _, _, [], _, (.cons (ResV_tmp _ _ rfl) .nil), rfl, rfl, rfl, rfl, rfl⟩
     refine ACode_skip ?_
     cases h
     exact ⟨_, rfl, Weak_keep 0 hm [0, 3] [] _ _ rfl rfl rfl⟩
    refine (ACode_region ?_)
    refine kM 1 rfl ?_
    refine AOps_q 17 _ rfl rfl rfl (QOp_add _ _ _ _ _ _ _ rfl rfl rfl) ?_
    refine kN 1 rfl ?_
    exact ⟨k0, _, _, Nat.lt_succ_self _, Weak_keep 0 hm [0, 3] [] _ _ rfl rfl rfl, _, rfl, rfl, h⟩
   refine ACode_exit ?_
   cases h
   exact ⟨_, rfl, Weak_keep 0 hm [] [] _ _ rfl rfl rfl⟩
 refine kR ?_
 refine kN 1 rfl ?_
 refine ACode_ret ?_
 cases h
 exact ⟨_, _, fun r a w h => ⟨r, h⟩, _, _, [], _, (.cons (ResV_tmp _ _ rfl) .nil), rfl, rfl, rfl, rfl, rfl⟩

-- loop.example/g01362/spec.CupsAndCaps
def spec_CupsAndCaps (k : Nat) (p0 : List (List Int)) : Option (Int × Int × Int) :=
 (spec_l10Row k p0).bind fun r1 => (if !r1 then some (0, 0, 2) else (spec_l10Chain k p0 1).bind fun r3 => (spec_l10Chain k p0 (-1)).bind fun r4 => some (r3, r4, 0))
set_option maxRecDepth 100000 in
theorem spec_CupsAndCaps_ac (k : Nat) (p0 : List (List Int)) (r : Int × Int × Int) (h : spec_CupsAndCaps k p0 = some r) : AC Try.prog 28 [.d (.sl none (rowsD p0))] [] (fun res H' => res = [iV r.1, iV r.2.1, iV r.2.2] ∧ H' = []) := by
 refine AC_of_body true Try.func28 rfl Try.ntmps28 (rvs := [.tmp 2, .tmp 3, .tmp 4]) rfl rfl (fun G hG => ?_)
 have hm : G.H.length = 0 := by rw [hG]; rfl
 have hz : zeroG G.H = true := by rw [hG]; rfl
 unfold spec_CupsAndCaps at h
 refine kR ?_
 refine kN 3 rfl ?_
 refine ACode_seq ?_
 refine kR ?_
 refine kM 1 rfl ?_
 obtain ⟨r1, hr1, h⟩ := bindO h
 refine kC [] 6 (bV r1) [] rfl Try.call86 rfl rfl (spec_l10Row_ac k p0 _ hr1) rfl ?_
 refine AOps_q 7 _ rfl rfl rfl (QOp_not _ _ _ rfl rfl) ?_
 refine AOps_nil ?_
 refine kI h rfl (fun h _ => ?_) (fun h _ => ?_)
 ·refine kR ?_
  refine kN 3 rfl ?_
  refine ACode_ret ?_
  cases h
  exact ⟨_, _, fun r a w h => ⟨r, h⟩, _, _, [], _, (.cons (ResV_tmp _ _ rfl) (.cons (ResV_tmp _ _ rfl) (.cons (ResV_tmp _ _ rfl) .nil))), rfl, rfl, rfl, rfl, rfl⟩
 refine ACode_skip ?_
 refine kR ?_
 refine kM 1 rfl ?_
 obtain ⟨r3, hr3, h⟩ := bindO h
 refine kC [] 9 (iV r3) [] rfl Try.call87 rfl rfl (spec_l10Chain_ac k p0 1 _ hr3) rfl ?_
 refine kM 1 rfl ?_
 obtain ⟨r4, hr4, h⟩ := bindO h
 refine kC [] 11 (iV r4) [] rfl Try.call87 rfl rfl (spec_l10Chain_ac k p0 (-1) _ hr4) rfl ?_
 refine kN 3 rfl ?_
 refine ACode_ret ?_
 cases h
 exact ⟨_, _, fun r a w h => ⟨r, h⟩, _, _, [], _, (.cons (ResV_tmp _ _ rfl) (.cons (ResV_tmp _ _ rfl) (.cons (ResV_tmp _ _ rfl) .nil))), rfl, rfl, rfl, rfl, rfl⟩

-- loop.example/g01362/spec.l08Two
def spec_l08Two (k : Nat) (p0 : List UInt8) (p1 : Int) (p2 : Int) : Option (Int × Int) :=
 (spec_l01From k p0).bind fun r1 => (spec_l01Next r1 (w64 ((w64 (p2 - p1)) + 1))).bind fun r2 => (spec_l01Pick r2.2 ([4, w64 ((w64 (p2 - p1)) + 1)])).bind fun r3 => (spec_l01Next r3.2 r3.1).bind fun r4 => ((spec_l01Next r4.2 24).bind fun r5 => (if decide (r5.1 = 0) then (spec_l01Pick r5.2 ([w64 (p1 - 1), w64 (p2 + 1), (-4611686018427387904)])).bind fun r7 => some (r7.1, w64 (p1 + r4.1)) else (if decide (r5.1 = 1) then (spec_l01Pick r5.2 ([w64 (p1 - 1), w64 (p2 + 1), 1099511627776])).bind fun r9 => some (w64 (p1 + r2.1), r9.1) else some (w64 (p1 + r2.1), w64 (p1 + r4.1)))) : Option (Int × Int)).bind fun s10 => some (s10.1, s10.2)
set_option maxRecDepth 100000 in
theorem spec_l08Two_ac (k : Nat) (p0 : List UInt8) (p1 : Int) (p2 : Int) (r : Int × Int) (h : spec_l08Two k p0 p1 p2 = some r) : AC Try.prog 88 [.d (.sl none (bysD p0)), iV p1, iV p2] [] (fun res H' => res = [iV r.1, iV r.2] ∧ H' = []) := by
 refine AC_of_body true Try.func88 rfl Try.ntmps88 (rvs := [.tmp 6, .tmp 7]) rfl rfl (fun G hG => ?_)
 have hm : G.H.length = 0 := by rw [hG]; rfl
 have hz : zeroG G.H = true := by rw [hG]; rfl
 unfold spec_l08Two at h
 refine kR ?_
 refine kN 2 rfl ?_
 refine kR ?_
 refine kM 1 rfl ?_
 obtain ⟨r1, hr1, h⟩ := bindO h
 refine kC [] 12 (.ptr 0 0) [.box (srcD r1)] rfl Try.call33 rfl rfl (spec_l01From_ac k p0 _ hr1) rfl ?_
 refine kN 1 rfl ?_
 refine kR ?_
 refine kM 4 rfl ?_
 refine AOps_q 17 _ rfl rfl rfl (QOp_sub _ _ _ _ _ _ _ rfl rfl rfl) ?_
 refine AOps_q 18 _ rfl rfl rfl (QOp_add _ _ _ _ _ _ _ rfl rfl rfl) ?_
 obtain ⟨r2, hr2, h⟩ := bindO h
 refine kC [0] 19 (iV r2.1) [.box (srcD r2.2)] rfl Try.call34 rfl rfl (spec_l01Next_ac r1 (w64 ((w64 (p2 - p1)) + 1)) _ hr2) rfl ?_
 refine AOps_q 20 _ rfl rfl rfl (QOp_add _ _ _ _ _ _ _ rfl rfl rfl) ?_
 refine kM 5 rfl ?_
 refine AOps_q 26 _ rfl rfl rfl (QOp_sub _ _ _ _ _ _ _ rfl rfl rfl) ?_
 refine AOps_q 27 _ rfl rfl rfl (QOp_add _ _ _ _ _ _ _ rfl rfl rfl) ?_
 refine AOps_buildSlice 28 _ _ _ [_, _] (intsD ([4, w64 ((w64 (p2 - p1)) + 1)])) _ rfl rfl rfl rfl rfl (by decide) Try.underlying24 Try.sizeOf2 (zero_of Try.typeInfo2 rfl) rfl rfl (intsD_one _) ?_
 refine AOps_freezeL [28] 1 0 _ (allc (rfl) (fun _ h => nomatch h)) rfl ?_
 obtain ⟨r3, hr3, h⟩ := bindO h
 refine kC [0] 29 (iV r3.1) [.box (srcD r3.2), .gone] rfl Try.call36 rfl rfl (spec_l01Pick_ac r2.2 ([4, w64 ((w64 (p2 - p1)) + 1)]) _ hr3) rfl ?_
 obtain ⟨r4, hr4, h⟩ := bindO h
 refine kC [0] 30 (iV r4.1) [.box (srcD r4.2), .gone] rfl Try.call34 rfl rfl (spec_l01Next_ac r3.2 r3.1 _ hr4) rfl ?_
 refine AOps_q 31 _ rfl rfl rfl (QOp_add _ _ _ _ _ _ _ rfl rfl rfl) ?_
 refine kN 2 rfl ?_
 refine kB (fun s10 => [(9, iV s10.1), (10, iV s10.2)]) (fun s10 => []) h (fun s10 h => ?_) (fun s10 h => ?_)
 ·refine kR ?_
  refine kM 1 rfl ?_
  obtain ⟨r5, hr5, h⟩ := bindO h
  refine kC [0] 33 (iV r5.1) [.box (srcD r5.2), .gone] rfl Try.call34 rfl rfl (spec_l01Next_ac r4.2 24 _ hr5) rfl ?_
  refine AOps_nil ?_
  refine ACode_block ?_
  refine kR ?_
  refine AOps_q 35 _ rfl rfl rfl (QOp_eql _ _ _ _ _ _ _ rfl rfl rfl) ?_
  refine kN 1 rfl ?_
  refine kI h rfl (fun h _ => ?_) (fun h _ => ?_)
  ·refine (ACode_region ?_)
   refine kM 2 rfl ?_
   refine AOps_q 38 _ rfl rfl rfl (QOp_sub _ _ _ _ _ _ _ rfl rfl rfl) ?_
   refine kM 1 rfl ?_
   refine AOps_q 40 _ rfl rfl rfl (QOp_add _ _ _ _ _ _ _ rfl rfl rfl) ?_
   refine AOps_buildSlice 41 _ _ _ [_, _, _] (intsD ([w64 (p1 - 1), w64 (p2 + 1), (-4611686018427387904)])) _ rfl rfl rfl rfl rfl (by decide) Try.underlying24 Try.sizeOf2 (zero_of Try.typeInfo2 rfl) rfl rfl (intsD_one _) ?_
   refine AOps_freezeL [41] 2 0 _ (allc (rfl) (fun _ h => nomatch h)) rfl ?_
   obtain ⟨r7, hr7, h⟩ := bindO h
   refine kC [0] 42 (iV r7.1) [.box (srcD r7.2), .gone, .gone] rfl Try.call36 rfl rfl (spec_l01Pick_ac r5.2 ([w64 (p1 - 1), w64 (p2 + 1), (-4611686018427387904)]) _ hr7) rfl ?_
   refine kN 1 rfl ?_
   cases h
   exact Weak_keep 0 hm [9, 10] [] _ _ rfl rfl rfl
  refine kR ?_
  refine AOps_q 44 _ rfl rfl rfl (QOp_eql _ _ _ _ _ _ _ rfl rfl rfl) ?_
  refine kN 1 rfl ?_
  refine kI h rfl (fun h _ => ?_) (fun h _ => ?_)
  ·refine (ACode_region ?_)
   refine kM 2 rfl ?_
   refine AOps_q 47 _ rfl rfl rfl (QOp_sub _ _ _ _ _ _ _ rfl rfl rfl) ?_
   refine kM 1 rfl ?_
   refine AOps_q 49 _ rfl rfl rfl (QOp_add _ _ _ _ _ _ _ rfl rfl rfl) ?_
   refine AOps_buildSlice 50 _ _ _ [_, _, _] (intsD ([w64 (p1 - 1), w64 (p2 + 1), 1099511627776])) _ rfl rfl rfl rfl rfl (by decide) Try.underlying24 Try.sizeOf2 (zero_of Try.typeInfo2 rfl) rfl rfl (intsD_one _) ?_
   refine AOps_freezeL [50] 2 0 _ (allc (rfl) (fun _ h => nomatch h)) rfl ?_
   obtain ⟨r9, hr9, h⟩ := bindO h
   refine kC [0] 51 (iV r9.1) [.box (srcD r9.2), .gone, .gone] rfl Try.call36 rfl rfl (spec_l01Pick_ac r5.2 ([w64 (p1 - 1), w64 (p2 + 1), 1099511627776]) _ hr9) rfl ?_
   refine kN 1 rfl ?_
   cases h
   exact Weak_keep 0 hm [9, 10] [] _ _ rfl rfl rfl
  refine ACode_skip ?_
  cases h
  exact Weak_keep 0 hm [9, 10] [] _ _ rfl rfl rfl
 refine kR ?_
 refine kN 4 rfl ?_
 refine ACode_ret ?_
 cases h
 exact ⟨_, _, fun r a w h => ⟨r, h⟩, _, _, [], _, (.cons (ResV_tmp _ _ rfl) (.cons (ResV_tmp _ _ rfl) .nil)), rfl, rfl, rfl, rfl, rfl⟩

-- loop.example/g01362/spec.DrawCupNumber
def spec_DrawCupNumber (k : Nat) (p0 : List UInt8) : Option (Int × Int) :=
 (spec_l08Two k p0 2 16).bind fun r1 => some (r1.1, r1.2)
set_option maxRecDepth 100000 in
theorem spec_DrawCupNumber_ac (k : Nat) (p0 : List UInt8) (r : Int × Int) (h : spec_DrawCupNumber k p0 = some r) : AC Try.prog 29 [.d (.sl none (bysD p0))] [] (fun res H' => res = [iV r.1, iV r.2] ∧ H' = []) := by
 refine AC_of_body true Try.func29 rfl Try.ntmps29 (rvs := [.tmp 2, .tmp 3]) rfl rfl (fun G hG => ?_)
 have hm : G.H.length = 0 := by rw [hG]; rfl
 have hz : zeroG G.H = true := by rw [hG]; rfl
 unfold spec_DrawCupNumber at h
 refine kR ?_
 refine kN 2 rfl ?_
 refine kR ?_
 refine kM 1 rfl ?_
 obtain ⟨r1, hr1, h⟩ := bindO h
 refine kC [] 5 (.tup [iV r1.1, iV r1.2]) [] rfl Try.call88 rfl rfl (spec_l08Two_ac k p0 2 16 _ hr1) rfl ?_
 refine kN 4 rfl ?_
 refine ACode_ret ?_
 cases h
 exact ⟨_, _, fun r a w h => ⟨r, h⟩, _, _, [], _, (.cons (ResV_tmp _ _ rfl) (.cons (ResV_tmp _ _ rfl) .nil)), rfl, rfl, rfl, rfl, rfl⟩

-- loop.example/g01362/impl.binomial
def impl_binomial_l0 (p0 : Int) (p1 : Int) : Nat → Int → Int → Option (Int)
 | 0, _, _ => none
 | k0 + 1, x1, x2 => (if decide (x2 < p1) then (if w64 (x2 + 1) ≠ 0 then impl_binomial_l0 p0 p1 k0 (w64 ((w64 (x1 * (w64 (p0 - x2)))).tdiv (w64 (x2 + 1)))) (w64 (x2 + 1)) else none) else some x1)
def impl_binomial (k : Nat) (p0 : Int) (p1 : Int) : Option (Int) :=
 (impl_binomial_l0 p0 p1 k 1 0 : Option (Int)).bind fun s5 => some s5
set_option maxRecDepth 100000 in
theorem impl_binomial_ac (k : Nat) (p0 : Int) (p1 : Int) (r : Int) (h : impl_binomial k p0 p1 = some r) : AC Try.prog 89 [iV p0, iV p1] [] (fun res H' => res = [iV r] ∧ H' = []) := by
 refine AC_of_body true Try.func89 rfl Try.ntmps89 (rvs := [.tmp 4]) rfl rfl (fun G hG => ?_)
 have hm : G.H.length = 0 := by rw [hG]; rfl
 have hz : zeroG G.H = true := by rw [hG]; rfl
 unfold impl_binomial at h
 refine kR ?_
 refine kN 1 rfl ?_
 refine kR ?_
 refine kN 1 rfl ?_
 refine kB (fun s5 => [(5, iV s5)]) (fun s5 => []) h (fun s5 h => ?_) (fun s5 h => ?_)
 ·refine kR ?_
  refine kN 2 rfl ?_
  refine ACode_block ?_
  refine ACode_loopW (fun k0 E H => ∃ (x1 : Int) (x2 : Int), E = [(0, iV p0), (5, iV x1), (7, iV p1), (8, iV x2)] ∧ H = [] ∧ impl_binomial_l0 p0 p1 k0 x1 x2 = some s5) k _ _ (Weak_keep 0 hm [0, 5, 7, 8] [] _ _ rfl rfl rfl) ⟨_, _, rfl, rfl, h⟩ ?_
  clear h
  rintro k0 E H ⟨x1, x2, rfl, rfl, h⟩
  cases k0 with
  | zero => cases (show (none : Option (Int)) = some _ from h)
  | succ k0 =>
   rw [impl_binomial_l0] at h
   refine kR ?_
   refine AOps_q 9 _ rfl rfl rfl (QOp_lss _ _ _ _ _ _ _ rfl rfl rfl) ?_
   refine AOps_nil ?_
   refine ACode_seq ?_
   refine kI h rfl (fun h _ => ?_) (fun h _ => ?_)
   ·refine ACode_skip ?_
    refine ACode_seq ?_
    refine ACode_block ?_
    refine kR ?_
    refine kN 2 rfl ?_
    refine (ACode_region ?_)
    refine kM 3 rfl ?_
    refine AOps_q 14 _ rfl rfl rfl (QOp_sub _ _ _ _ _ _ _ rfl rfl rfl) ?_
    refine AOps_q 15 _ rfl rfl rfl (QOp_mul _ _ _ _ _ _ _ rfl rfl rfl) ?_
    refine kM 1 rfl ?_
    refine AOps_q 17 _ rfl rfl rfl (QOp_add _ _ _ _ _ _ _ rfl rfl rfl) ?_
    obtain ⟨hc4, h⟩ := guardO h
    refine AOps_q 18 _ rfl rfl rfl (QOp_quo _ _ _ _ _ _ _ hc4 rfl rfl rfl) ?_
    refine kN 1 rfl ?_
    refine (ACode_region ?_)
    refine AOps_q 19 _ rfl rfl rfl (QOp_add _ _ _ _ _ _ _ rfl rfl rfl) ?_
    refine kN 1 rfl ?_
    exact ⟨k0, _, _, Nat.lt_succ_self _, Weak_keep 0 hm [0, 5, 7, 8] [] _ _ rfl rfl rfl, _, _, rfl, rfl, h⟩
   refine ACode_exit ?_
   cases h
   exact Weak_keep 0 hm [5] [] _ _ rfl rfl rfl
 refine kR ?_
 refine kN 2 rfl ?_
 refine ACode_ret ?_
 cases h
 exact ⟨_, _, fun r a w h => ⟨r, h⟩, _, _, [], _, (.cons (ResV_tmp _ _ rfl) .nil), rfl, rfl, rfl, rfl, rfl⟩

-- loop.example/g01362/impl.CupNumber
def impl_CupNumber (k : Nat) (p0 : Int) (p1 : Int) : Option (Int × Int) :=
 (letO (if !(impl_in p0 2 16) then true else !(impl_in p1 2 16)) fun (s4 : Bool) => (if s4 then some (.inr (0, 2)) else some (.inl ())) : Option (Sum (Unit) (Int × Int))).bind fun os6 => (match os6 with | .inl s6 => (impl_binomial k (w64 ((w64 (p0 + p1)) - 4)) (w64 (p0 - 2))).bind fun r7 => some (w64 (r7 + 1), 0) | .inr rr => some rr)
set_option maxRecDepth 100000 in
theorem impl_CupNumber_ac (k : Nat) (p0 : Int) (p1 : Int) (r : Int × Int) (h : impl_CupNumber k p0 p1 = some r) : AC Try.prog 30 [iV p0, iV p1] [] (fun res H' => res = [iV r.1, iV r.2] ∧ H' = []) := by
 refine AC_of_body true Try.func30 rfl Try.ntmps30 (rvs := [.tmp 4, .tmp 5]) rfl rfl (fun G hG => ?_)
 have hm : G.H.length = 0 := by rw [hG]; rfl
 have hz : zeroG G.H = true := by rw [hG]; rfl
 unfold impl_CupNumber at h
 refine kR ?_
 refine kN 2 rfl ?_
 refine kO (fun s6 => [(0, iV p0), (1, iV p1)]) (fun s6 => []) h (fun os6 h hks6 => ?_) (fun s6 h => ?_)
 ·refine kL (fun s4 => [(0, iV p0), (1, iV p1), (13, bV s4)]) (fun s4 => []) h (fun s4 h => ?_) (fun s4 h => ?_)
  ·refine (ACode_region ?_)
   refine kM 1 rfl ?_
   refine kC [] 7 (bV (impl_in p0 2 16)) [] rfl Try.call37 rfl rfl (impl_in_ac p0 2 16) rfl ?_
   refine AOps_q 8 _ rfl rfl rfl (QOp_not _ _ _ rfl rfl) ?_
   refine kM 1 rfl ?_
   refine AOps_case 9 _ rfl (fun hb2 => ?_) (fun hb2 => ?_)
   ·have h := iteT hb2 h
    refine AOps_skip 10 rfl rfl rfl ?_
    refine AOps_skip 11 rfl rfl rfl ?_
    refine AOps_skip 12 rfl rfl rfl ?_
    refine kN 1 rfl ?_
    cases h
    exact Weak_keep 0 hm [0, 1, 13] [] _ _ rfl rfl rfl
   have h := iteF hb2 h
   refine kM 1 rfl ?_
   refine kC [] 11 (bV (impl_in p1 2 16)) [] rfl Try.call37 rfl rfl (impl_in_ac p1 2 16) rfl ?_
   refine AOps_q 12 _ rfl rfl rfl (QOp_not _ _ _ rfl rfl) ?_
   refine kN 1 rfl ?_
   cases h
   exact Weak_keep 0 hm [0, 1, 13] [] _ _ rfl rfl rfl
  refine kI h rfl (fun h _ => ?_) (fun h _ => ?_)
  ·refine kR ?_
   refine kN 2 rfl ?_
   refine ACode_ret ?_
   cases h
   have h := hks6
   cases h
   exact ⟨_, _, fun r a w h => ⟨r, h⟩, _, _, [], _, (.cons (ResV_tmp _ _ rfl) (.cons (ResV_tmp _ _ rfl) .nil)), rfl, rfl, rfl, rfl, rfl⟩
  refine ACode_skip ?_
  cases h
  exact ⟨_, rfl, Weak_keep 0 hm [0, 1] [] _ _ rfl rfl rfl⟩
 refine kR ?_
 refine kM 2 rfl ?_
 refine AOps_q 16 _ rfl rfl rfl (QOp_add _ _ _ _ _ _ _ rfl rfl rfl) ?_
 refine AOps_q 17 _ rfl rfl rfl (QOp_sub _ _ _ _ _ _ _ rfl rfl rfl) ?_
 refine kM 1 rfl ?_
 refine AOps_q 19 _ rfl rfl rfl (QOp_sub _ _ _ _ _ _ _ rfl rfl rfl) ?_
 obtain ⟨r7, hr7, h⟩ := bindO h
 refine kC [] 20 (iV r7) [] rfl Try.call89 rfl rfl (impl_binomial_ac k (w64 ((w64 (p0 + p1)) - 4)) (w64 (p0 - 2)) _ hr7) rfl ?_
 refine AOps_q 21 _ rfl rfl rfl (QOp_add _ _ _ _ _ _ _ rfl rfl rfl) ?_
 refine kN 2 rfl ?_
 refine ACode_ret ?_
 cases h
 exact ⟨_, _, fun r a w h => ⟨r, h⟩, _, _, [], _, (.cons (ResV_tmp _ _ rfl) (.cons (ResV_tmp _ _ rfl) .nil)), rfl, rfl, rfl, rfl, rfl⟩

-- loop.example/g01362/spec.l08Choose
def spec_l08Choose_l0 (p0 : Int) (p1 : Int) : Nat → Int → Int → Option (Int)
 | 0, _, _ => none
 | k0 + 1, x1, x2 => (if decide (x2 < p1) then (if w64 (x2 + 1) ≠ 0 then spec_l08Choose_l0 p0 p1 k0 (w64 ((w64 (x1 * (w64 (p0 - x2)))).tdiv (w64 (x2 + 1)))) (w64 (x2 + 1)) else none) else some x1)
def spec_l08Choose (k : Nat) (p0 : Int) (p1 : Int) : Option (Int) :=
 (spec_l08Choose_l0 p0 p1 k 1 0 : Option (Int)).bind fun s5 => some s5
set_option maxRecDepth 100000 in
theorem spec_l08Choose_ac (k : Nat) (p0 : Int) (p1 : Int) (r : Int) (h : spec_l08Choose k p0 p1 = some r) : AC Try.prog 90 [iV p0, iV p1] [] (fun res H' => res = [iV r] ∧ H' = []) := by
 refine AC_of_body true Try.func90 rfl Try.ntmps90 (rvs := [.tmp 4]) rfl rfl (fun G hG => ?_)
 have hm : G.H.length = 0 := by rw [hG]; rfl
 have hz : zeroG G.H = true := by rw [hG]; rfl
 unfold spec_l08Choose at h
 refine kR ?_
 refine kN 1 rfl ?_
 refine kR ?_
 refine kN 1 rfl ?_
 refine kB (fun s5 => [(5, iV s5)]) (fun s5 => []) h (fun s5 h => ?_) (fun s5 h => ?_)
 ·refine kR ?_
  refine kN 1 rfl ?_
  refine ACode_block ?_
  refine ACode_loopW (fun k0 E H => ∃ (x1 : Int) (x2 : Int), E = [(0, iV p0), (1, iV p1), (5, iV x1), (6, iV x2)] ∧ H = [] ∧ spec_l08Choose_l0 p0 p1 k0 x1 x2 = some s5) k _ _ (Weak_keep 0 hm [0, 1, 5, 6] [] _ _ rfl rfl rfl) ⟨_, _, rfl, rfl, h⟩ ?_
  clear h
  rintro k0 E H ⟨x1, x2, rfl, rfl, h⟩
  cases k0 with
  | zero => cases (show (none : Option (Int)) = some _ from h)
  | succ k0 =>
   rw [spec_l08Choose_l0] at h
   refine ACode_seq ?_
   refine kR ?_
   refine kM 2 rfl ?_
   refine AOps_q 9 _ rfl rfl rfl (QOp_lss _ _ _ _ _ _ _ rfl rfl rfl) ?_
   refine AOps_nil ?_
   refine kI h rfl (fun h _ => ?_) (fun h _ => ?_)
   ·refine ACode_skip ?_
    refine ACode_seq ?_
    refine ACode_block ?_
    refine (ACode_region ?_)
    refine kM 3 rfl ?_
    refine AOps_q 15 _ rfl rfl rfl (QOp_sub _ _ _ _ _ _ _ rfl rfl rfl) ?_
    refine AOps_q 16 _ rfl rfl rfl (QOp_mul _ _ _ _ _ _ _ rfl rfl rfl) ?_
    refine kM 1 rfl ?_
    refine AOps_q 18 _ rfl rfl rfl (QOp_add _ _ _ _ _ _ _ rfl rfl rfl) ?_
    obtain ⟨hc4, h⟩ := guardO h
    refine AOps_q 19 _ rfl rfl rfl (QOp_quo _ _ _ _ _ _ _ hc4 rfl rfl rfl) ?_
    refine kN 1 rfl ?_
    refine (ACode_region ?_)
    refine kM 1 rfl ?_
    refine AOps_q 11 _ rfl rfl rfl (QOp_add _ _ _ _ _ _ _ rfl rfl rfl) ?_
    refine kN 1 rfl ?_
    exact ⟨k0, _, _, Nat.lt_succ_self _, Weak_keep 0 hm [0, 1, 5, 6] [] _ _ rfl rfl rfl, _, _, rfl, rfl, h⟩
   refine ACode_exit ?_
   cases h
   exact Weak_keep 0 hm [5] [] _ _ rfl rfl rfl
 refine kR ?_
 refine kN 2 rfl ?_
 refine ACode_ret ?_
 cases h
 exact ⟨_, _, fun r a w h => ⟨r, h⟩, _, _, [], _, (.cons (ResV_tmp _ _ rfl) .nil), rfl, rfl, rfl, rfl, rfl⟩

-- loop.example/g01362/spec.CupNumber
def spec_CupNumber (k : Nat) (p0 : Int) (p1 : Int) : Option (Int × Int) :=
 (letO (if !(spec_l01In p0 2 16) then true else !(spec_l01In p1 2 16)) fun (s4 : Bool) => (if s4 then some (.inr (0, 2)) else some (.inl ())) : Option (Sum (Unit) (Int × Int))).bind fun os6 => (match os6 with | .inl s6 => (spec_l08Choose k (w64 ((w64 (p0 + p1)) - 4)) (w64 (p0 - 2))).bind fun r7 => some (w64 (r7 + 1), 0) | .inr rr => some rr)
set_option maxRecDepth 100000 in
theorem spec_CupNumber_ac (k : Nat) (p0 : Int) (p1 : Int) (r : Int × Int) (h : spec_CupNumber k p0 p1 = some r) : AC Try.prog 31 [iV p0, iV p1] [] (fun res H' => res = [iV r.1, iV r.2] ∧ H' = []) := by
 refine AC_of_body true Try.func31 rfl Try.ntmps31 (rvs := [.tmp 4, .tmp 5]) rfl rfl (fun G hG => ?_)
 have hm : G.H.length = 0 := by rw [hG]; rfl
 have hz : zeroG G.H = true := by rw [hG]; rfl
 unfold spec_CupNumber at h
 refine kR ?_
 refine kN 2 rfl ?_
 refine kO (fun s6 => [(0, iV p0), (1, iV p1)]) (fun s6 => []) h (fun os6 h hks6 => ?_) (fun s6 h => ?_)
 ·refine kL (fun s4 => [(0, iV p0), (1, iV p1), (13, bV s4)]) (fun s4 => []) h (fun s4 h => ?_) (fun s4 h => ?_)
  ·refine (ACode_region ?_)
   refine kM 1 rfl ?_
   refine kC [] 7 (bV (spec_l01In p0 2 16)) [] rfl Try.call40 rfl rfl (spec_l01In_ac p0 2 16) rfl ?_
   refine AOps_q 8 _ rfl rfl rfl (QOp_not _ _ _ rfl rfl) ?_
   refine kM 1 rfl ?_
   refine AOps_case 9 _ rfl (fun hb2 => ?_) (fun hb2 => ?_)
   ·have h := iteT hb2 h
    refine AOps_skip 10 rfl rfl rfl ?_
    refine AOps_skip 11 rfl rfl rfl ?_
    refine AOps_skip 12 rfl rfl rfl ?_
    refine kN 1 rfl ?_
    cases h
    exact Weak_keep 0 hm [0, 1, 13] [] _ _ rfl rfl rfl
   have h := iteF hb2 h
   refine kM 1 rfl ?_
   refine kC [] 11 (bV (spec_l01In p1 2 16)) [] rfl Try.call40 rfl rfl (spec_l01In_ac p1 2 16) rfl ?_
   refine AOps_q 12 _ rfl rfl rfl (QOp_not _ _ _ rfl rfl) ?_
   refine kN 1 rfl ?_
   cases h
   exact Weak_keep 0 hm [0, 1, 13] [] _ _ rfl rfl rfl
  refine kI h rfl (fun h _ => ?_) (fun h _ => ?_)
  ·refine kR ?_
   refine kN 2 rfl ?_
   refine ACode_ret ?_
   cases h
   have h := hks6
   cases h
   exact ⟨_, _, fun r a w h => ⟨r, h⟩, _, _, [], _, (.cons (ResV_tmp _ _ rfl) (.cons (ResV_tmp _ _ rfl) .nil)), rfl, rfl, rfl, rfl, rfl⟩
  refine ACode_skip ?_
  cases h
  exact ⟨_, rfl, Weak_keep 0 hm [0, 1] [] _ _ rfl rfl rfl⟩
 refine kR ?_
 refine kM 2 rfl ?_
 refine AOps_q 16 _ rfl rfl rfl (QOp_add _ _ _ _ _ _ _ rfl rfl rfl) ?_
 refine AOps_q 17 _ rfl rfl rfl (QOp_sub _ _ _ _ _ _ _ rfl rfl rfl) ?_
 refine kM 1 rfl ?_
 refine AOps_q 19 _ rfl rfl rfl (QOp_sub _ _ _ _ _ _ _ rfl rfl rfl) ?_
 obtain ⟨r7, hr7, h⟩ := bindO h
 refine kC [] 20 (iV r7) [] rfl Try.call90 rfl rfl (spec_l08Choose_ac k (w64 ((w64 (p0 + p1)) - 4)) (w64 (p0 - 2)) _ hr7) rfl ?_
 refine AOps_q 21 _ rfl rfl rfl (QOp_add _ _ _ _ _ _ _ rfl rfl rfl) ?_
 refine kN 2 rfl ?_
 refine ACode_ret ?_
 cases h
 exact ⟨_, _, fun r a w h => ⟨r, h⟩, _, _, [], _, (.cons (ResV_tmp _ _ rfl) (.cons (ResV_tmp _ _ rfl) .nil)), rfl, rfl, rfl, rfl, rfl⟩

-- (*loop.example/g01362/impl.Colouring).greatest$1
def impl_Colouring_greatest_c1 (p0 : List Int) (p1 : List Int) : Bool × List Int :=
 letO (if decide ((p1.length : Int) < (p0.length : Int)) then p0 else p1) fun (s2 : List Int) => (true, s2)
set_option maxRecDepth 100000 in
theorem impl_Colouring_greatest_c1_ac (p0 : List Int) (p1 : List Int) : AC Try.prog 136 [.d (.sl none (intsD p0)), .ptr 0 0] [.box [.sl none (intsD p1)]] (fun res H' => res = [bV ((impl_Colouring_greatest_c1 p0 p1).1)] ∧ H' = [.box [.sl none (intsD ((impl_Colouring_greatest_c1 p0 p1).2))]]) := by
 refine AC_of_body true Try.func136 rfl Try.ntmps136 (rvs := [.tmp 3]) rfl rfl (fun G hG => ?_)
 have hm : G.H.length = 1 := by rw [hG]; rfl
 have hz : zeroG G.H = true := by rw [hG]; rfl
 obtain ⟨r, h⟩ : ∃ r, impl_Colouring_greatest_c1 p0 p1 = r := ⟨_, rfl⟩
 rw [h]
 unfold impl_Colouring_greatest_c1 at h
 refine kR ?_
 refine kN 1 rfl ?_
 refine kL (fun s2 => []) (fun s2 => [.box [.sl none (intsD s2)]]) h (fun s2 h => ?_) (fun s2 h => ?_)
 ·refine kR ?_
  refine kM 1 rfl ?_
  refine AOps_q 5 _ rfl rfl rfl (QOp_len_sl _ _ _ _ _ _ _ (intsD_length _) rfl rfl rfl rfl Try.underlying24 rfl) ?_
  refine AOps_q 6 _ rfl rfl rfl (QOp_load_ptr _ _ _ _ _ _ rfl Try.isAgg24 rfl rfl rfl) ?_
  refine AOps_q 7 _ rfl rfl rfl (QOp_len_sl _ _ _ _ _ _ _ (intsD_length _) rfl rfl rfl rfl Try.underlying24 rfl) ?_
  refine AOps_q 8 _ rfl rfl rfl (QOp_gtr _ _ _ _ _ _ _ rfl rfl rfl) ?_
  refine AOps_nil ?_
  refine kI h rfl (fun h _ => ?_) (fun h _ => ?_)
  ·refine (ACode_region ?_)
   refine kM 1 rfl ?_
   refine AOps_store1 _ _ _ _ _ _ _ _ rfl rfl rfl rfl rfl rfl rfl Try.sizeOf24 (Nat.le_of_ble_eq_true rfl) rfl ?_
   refine AOps_nil ?_
   cases h
   exact Weak_keep 1 hm [] [] _ _ rfl rfl rfl
  refine ACode_skip ?_
  cases h
  exact Weak_keep 1 hm [] [] _ _ rfl rfl rfl
 refine kR ?_
 refine kN 1 rfl ?_
 refine ACode_ret ?_
 cases h
 exact ⟨_, _, fun r a w h => ⟨r, h⟩, _, _, [], _, (.cons (ResV_tmp _ _ rfl) .nil), rfl, rfl, rfl, rfl, rfl⟩

-- (*loop.example/g01362/impl.Colouring).joins
def impl_Colouring_joins (p0 : Col) (p1 : Int) (p2 : Int) (p3 : Int) : Option (Bool) :=
 ((if !decide (p1 = p2) then (impl_Colouring_at p0 p1 p2).bind fun r2 => some (decide (r2 = p3)) else some false) : Option (Bool)).bind fun s3 => some s3
set_option maxRecDepth 100000 in
theorem impl_Colouring_joins_ac (p0 : Col) (p1 : Int) (p2 : Int) (p3 : Int) (r : Bool) (h : impl_Colouring_joins p0 p1 p2 p3 = some r) : AC Try.prog 62 [.d (.pv (colD p0) 0), iV p1, iV p2, iV p3] [] (fun res H' => res = [bV r] ∧ H' = []) := by
 refine AC_of_body true Try.func62 rfl Try.ntmps62 (rvs := [.tmp 8]) rfl rfl (fun G hG => ?_)
 have hm : G.H.length = 0 := by rw [hG]; rfl
 have hz : zeroG G.H = true := by rw [hG]; rfl
 unfold impl_Colouring_joins at h
 refine kR ?_
 refine kN 1 rfl ?_
 refine kB (fun s3 => [(8, bV s3)]) (fun s3 => []) h (fun s3 h => ?_) (fun s3 h => ?_)
 ·refine (ACode_region ?_)
  refine kM 2 rfl ?_
  refine AOps_q 11 _ rfl rfl rfl (QOp_neq _ _ _ _ _ _ _ rfl rfl rfl) ?_
  refine kM 1 rfl ?_
  refine AOps_case 12 _ rfl (fun hb1 => ?_) (fun hb1 => ?_)
  ·have h := iteT hb1 h
   refine kM 3 rfl ?_
   obtain ⟨r2, hr2, h⟩ := bindO h
   refine kC [] 16 (iV r2) [] rfl Try.call63 rfl rfl (impl_Colouring_at_ac p0 p1 p2 _ hr2) rfl ?_
   refine kM 1 rfl ?_
   refine AOps_q 18 _ rfl rfl rfl (QOp_eql _ _ _ _ _ _ _ rfl rfl rfl) ?_
   refine kN 2 rfl ?_
   cases h
   exact Weak_keep 0 hm [8] [] _ _ rfl rfl rfl
  have h := iteF hb1 h
  refine AOps_skip 13 rfl rfl rfl ?_
  refine AOps_skip 14 rfl rfl rfl ?_
  refine AOps_skip 15 rfl rfl rfl ?_
  refine AOps_skip 16 rfl rfl rfl ?_
  refine AOps_skip 17 rfl rfl rfl ?_
  refine AOps_skip 18 rfl rfl rfl ?_
  refine kN 2 rfl ?_
  cases h
  exact Weak_keep 0 hm [8] [] _ _ rfl rfl rfl
 refine ACode_ret ?_
 cases h
 exact ⟨_, _, fun r a w h => ⟨r, h⟩, _, _, [], _, (.cons (ResV_tmp _ _ rfl) .nil), rfl, rfl, rfl, rfl, rfl⟩

-- (*loop.example/g01362/impl.Colouring).goesWith$1
def impl_Colouring_goesWith_c1 (p0 : Int) (p1 : Col) (p2 : Int) (p3 : Int) : Option (Bool) :=
 (impl_Colouring_joins p1 p0 p2 p3).bind fun r1 => some (!r1)
set_option maxRecDepth 100000 in
theorem impl_Colouring_goesWith_c1_ac (p0 : Int) (p1 : Col) (p2 : Int) (p3 : Int) (r : Bool) (h : impl_Colouring_goesWith_c1 p0 p1 p2 p3 = some r) : AC Try.prog 140 [iV p0, .d (.pv ([.pv (colD p1) 0]) 0), .d (.pv ([iD p2]) 0), .d (.pv ([iD p3]) 0)] [] (fun res H' => res = [bV r] ∧ H' = []) := by
 refine AC_of_body true Try.func140 rfl Try.ntmps140 (rvs := [.tmp 5]) rfl rfl (fun G hG => ?_)
 have hm : G.H.length = 0 := by rw [hG]; rfl
 have hz : zeroG G.H = true := by rw [hG]; rfl
 unfold impl_Colouring_goesWith_c1 at h
 refine kR ?_
 refine kN 1 rfl ?_
 refine kR ?_
 refine AOps_q 6 _ rfl rfl rfl (QOp_load_pv _ _ _ _ _ rfl Try.isAgg78 rfl rfl) ?_
 refine kM 1 rfl ?_
 refine AOps_q 8 _ rfl rfl rfl (QOp_load_pv _ _ _ _ _ rfl Try.isAgg2 rfl rfl) ?_
 refine AOps_q 9 _ rfl rfl rfl (QOp_load_pv _ _ _ _ _ rfl Try.isAgg2 rfl rfl) ?_
 obtain ⟨r1, hr1, h⟩ := bindO h
 refine kC [] 10 (bV r1) [] rfl Try.call62 rfl rfl (impl_Colouring_joins_ac p1 p0 p2 p3 _ hr1) rfl ?_
 refine AOps_q 11 _ rfl rfl rfl (QOp_not _ _ _ rfl rfl) ?_
 refine kN 1 rfl ?_
 refine ACode_ret ?_
 cases h
 exact ⟨_, _, fun r a w h => ⟨r, h⟩, _, _, [], _, (.cons (ResV_tmp _ _ rfl) .nil), rfl, rfl, rfl, rfl, rfl⟩

-- (*loop.example/g01362/impl.Colouring).goesWith
def impl_Colouring_goesWith (k : Nat) (p0 : Col) (p1 : Int) (p2 : List Int) (p3 : Int) : Option (Bool) :=
 (slices_ContainsFunc k p2 (fun a0 => impl_Colouring_goesWith_c1 a0 p0 p3 p1)).bind fun r1 => some (!r1)
set_option maxRecDepth 100000 in
theorem impl_Colouring_goesWith_ac (k : Nat) (p0 : Col) (p1 : Int) (p2 : List Int) (p3 : Int) (r : Bool) (h : impl_Colouring_goesWith k p0 p1 p2 p3 = some r) : AC Try.prog 138 [.d (.pv (colD p0) 0), iV p1, .d (.sl none (intsD p2)), iV p3] [] (fun res H' => res = [bV r] ∧ H' = []) := by
 refine AC_of_body true Try.func138 rfl Try.ntmps138 (rvs := [.tmp 8]) rfl rfl (fun G hG => ?_)
 have hm : G.H.length = 0 := by rw [hG]; rfl
 have hz : zeroG G.H = true := by rw [hG]; rfl
 unfold impl_Colouring_goesWith at h
 refine kR ?_
 refine AOps_boxI 4 _ _ (.pv (colD p0) 0) _ rfl (fun c hc => by cases hc with | head => rfl | tail _ h => cases h) rfl rfl rfl rfl rfl ?_
 refine AOps_boxI 5 _ _ (iD p1) _ rfl (fun c hc => by cases hc with | head => rfl | tail _ h => cases h) rfl rfl rfl rfl rfl ?_
 refine AOps_boxI 7 _ _ (iD p3) _ rfl (fun c hc => by cases hc with | head => rfl | tail _ h => cases h) rfl rfl rfl rfl rfl ?_
 refine kN 1 rfl ?_
 refine kR ?_
 refine kM 1 rfl ?_
 refine AOps_q 10 _ rfl rfl rfl (QOp_makeFuncD _ _ _ _ rfl rfl rfl) ?_
 obtain ⟨r1, hr1, h⟩ := bindO h
 refine kC [] 11 (bV r1) [] rfl Try.call119 rfl rfl (slices_ContainsFunc_ac k p2 (fun a0 => impl_Colouring_goesWith_c1 a0 p0 p3 p1) 140 ([.pv ([.pv (colD p0) 0]) 0, .pv ([iD p3]) 0, .pv ([iD p1]) 0]) Try.call140 (fun a0 r h => impl_Colouring_goesWith_c1_ac a0 p0 p3 p1 r h) _ hr1) rfl ?_
 refine AOps_q 12 _ rfl rfl rfl (QOp_not _ _ _ rfl rfl) ?_
 refine kN 1 rfl ?_
 refine ACode_ret ?_
 cases h
 exact ⟨_, _, fun r a w h => ⟨r, h⟩, _, _, [], _, (.cons (ResV_tmp _ _ rfl) .nil), rfl, rfl, rfl, rfl, rfl⟩

-- (*loop.example/g01362/impl.Colouring).cliques
def impl_Colouring_cliques_on_greatest_c1_l0 (k : Nat) (self : Col → Int → (List Int) → (List Int) → Option (Bool × List Int)) (p0 : Col) (p1 : Int) (p2 : List Int) : Nat → Int → (List Int) → Option (Sum (List Int) (Bool × List Int))
 | 0, _, _ => none
 | k0 + 1, x6, x7 => (if decide (x6 < p0.p) then (((impl_Colouring_goesWith k p0 p1 p2 x6).bind fun r9 => (if r9 then (if p2.isEmpty then (if ([x6]).length ≤ 1099511627776 ∧ ([x6]).length ≠ 0 then (self p0 p1 ([x6]) x7).bind fun r14 => some (!r14.1, r14.2) else none) else (cloneA p2).bind fun r15 => (if r15.length + ([x6]).length ≤ 1099511627776 then (self p0 p1 (r15 ++ ([x6])) x7).bind fun r17 => some (!r17.1, r17.2) else none)) else some (false, x7)) : Option (Bool × List Int)).bind fun s18 => (if s18.1 then (some (.inr (false, s18.2))).bind fun rr => some (.inr rr) else some (.inl s18.2)) : Option (Sum (List Int) (Sum (List Int) (Bool × List Int)))).bind fun os20 => (match os20 with | .inl s20 => impl_Colouring_cliques_on_greatest_c1_l0 k self p0 p1 p2 k0 (w64 (x6 + 1)) s20 | .inr rr => some rr) else some (.inl x7))
def impl_Colouring_cliques_on_greatest_c1_body (self : Col → Int → (List Int) → (List Int) → Option (Bool × List Int)) (k : Nat) (p0 : Col) (p1 : Int) (p2 : List Int) (p3_0 : List Int) : Option (Bool × List Int) :=
 (if !((impl_Colouring_greatest_c1 p2 p3_0).1) then some (false, (impl_Colouring_greatest_c1 p2 p3_0).2) else ((if decide (0 < (p2.length : Int)) then (if 0 ≤ w64 ((p2.length : Int) - 1) ∧ w64 ((p2.length : Int) - 1) < (p2.length : Int) then some (w64 ((p2.getD (w64 ((p2.length : Int) - 1)).toNat 0) + 1)) else none) else some 0) : Option (Int)).bind fun s5 => (impl_Colouring_cliques_on_greatest_c1_l0 k self p0 p1 p2 k s5 ((impl_Colouring_greatest_c1 p2 p3_0).2) : Option (Sum (List Int) (Bool × List Int))).bind fun os21 => (match os21 with | .inl s21 => some (true, s21) | .inr rr => some rr))
def impl_Colouring_cliques_on_greatest_c1 : Nat → Col → Int → (List Int) → (List Int) → Option (Bool × List Int)
 | 0, _, _, _, _ => none
 | k + 1, p0, p1, p2, p3_0 => impl_Colouring_cliques_on_greatest_c1_body (impl_Colouring_cliques_on_greatest_c1 k) k p0 p1 p2 p3_0
set_option maxRecDepth 100000 in
theorem impl_Colouring_cliques_on_greatest_c1_ac (k : Nat) (p0 : Col) (p1 : Int) (p2 : List Int) (p3_0 : List Int) (r : Bool × List Int) (h : impl_Colouring_cliques_on_greatest_c1 k p0 p1 p2 p3_0 = some r) : AC Try.prog 122 [.d (.pv (colD p0) 0), iV p1, .d (.sl none (intsD p2)), .clo 136 [.ptr 0 0]] [.box [.sl none (intsD p3_0)]] (fun res H' => res = [bV r.1] ∧ H' = [.box [.sl none (intsD r.2)]]) := by
 induction k generalizing p0 p1 p2 p3_0 r with
 | zero => simp [impl_Colouring_cliques_on_greatest_c1] at h
 | succ k ih =>
  rw [impl_Colouring_cliques_on_greatest_c1] at h
  obtain ⟨self, hself, hk⟩ : ∃ self : Col → Int → (List Int) → (List Int) → Option (Bool × List Int), (∀ (p0 : Col) (p1 : Int) (p2 : List Int) (p3_0 : List Int) (r : Bool × List Int), self p0 p1 p2 p3_0 = some r → AC Try.prog 122 [.d (.pv (colD p0) 0), iV p1, .d (.sl none (intsD p2)), .clo 136 [.ptr 0 0]] [.box [.sl none (intsD p3_0)]] (fun res H' => res = [bV r.1] ∧ H' = [.box [.sl none (intsD r.2)]])) ∧ impl_Colouring_cliques_on_greatest_c1 k = self := ⟨impl_Colouring_cliques_on_greatest_c1 k, fun p0 p1 p2 p3_0 r h => ih p0 p1 p2 p3_0 r h, rfl⟩
  rw [hk] at h
  clear ih hk
  refine AC_of_body true Try.func122 rfl Try.ntmps122 (rvs := [.tmp 8]) rfl rfl (fun G hG => ?_)
  have hm : G.H.length = 1 := by rw [hG]; rfl
  have hz : zeroG G.H = true := by rw [hG]; rfl
  unfold impl_Colouring_cliques_on_greatest_c1_body at h
  refine kR ?_
  refine kN 1 rfl ?_
  refine ACode_seq ?_
  refine kR ?_
  refine kM 2 rfl ?_
  refine kC [0] 13 (bV ((impl_Colouring_greatest_c1 p2 p3_0).1)) [.box [.sl none (intsD ((impl_Colouring_greatest_c1 p2 p3_0).2))]] rfl Try.call136 rfl rfl (impl_Colouring_greatest_c1_ac p2 p3_0) rfl ?_
  refine AOps_q 14 _ rfl rfl rfl (QOp_not _ _ _ rfl rfl) ?_
  refine AOps_nil ?_
  refine kI h rfl (fun h _ => ?_) (fun h _ => ?_)
  ·refine kR ?_
   refine kN 1 rfl ?_
   refine ACode_ret ?_
   cases h
   exact ⟨_, _, fun r a w h => ⟨r, h⟩, _, _, [], _, (.cons (ResV_tmp _ _ rfl) .nil), rfl, rfl, rfl, rfl, rfl⟩
  refine ACode_skip ?_
  refine kR ?_
  refine kN 1 rfl ?_
  refine kB (fun s5 => [(0, .d (.pv (colD p0) 0)), (1, iV p1), (2, .d (.sl none (intsD p2))), (3, .clo 136 [.ptr 0 0]), (9, iV s5)]) (fun s5 => [.box [.sl none (intsD ((impl_Colouring_greatest_c1 p2 p3_0).2))]]) h (fun s5 h => ?_) (fun s5 h => ?_)
  ·refine kR ?_
   refine kM 1 rfl ?_
   refine AOps_q 16 _ rfl rfl rfl (QOp_len_sl _ _ _ _ _ _ _ (intsD_length _) rfl rfl rfl rfl Try.underlying24 rfl) ?_
   refine AOps_q 17 _ rfl rfl rfl (QOp_gtr _ _ _ _ _ _ _ rfl rfl rfl) ?_
   refine AOps_nil ?_
   refine kI h rfl (fun h _ => ?_) (fun h _ => ?_)
   ·refine (ACode_region ?_)
    refine kM 2 rfl ?_
    refine AOps_q 20 _ rfl rfl rfl (QOp_len_sl _ _ _ _ _ _ _ (intsD_length _) rfl rfl rfl rfl Try.underlying24 rfl) ?_
    refine AOps_q 21 _ rfl rfl rfl (QOp_sub _ _ _ _ _ _ _ rfl rfl rfl) ?_
    obtain ⟨hc4, h⟩ := guardO h
    refine AOps_q 22 _ rfl rfl rfl (QOp_indexAddr_sl _ _ _ _ _ _ _ _ rfl Try.underlying24 Try.sizeOf2 hc4.1 (by rw [intsD_length]; exact hc4.2) rfl rfl) ?_
    refine AOps_q 23 _ rfl rfl rfl (QOp_load_pv _ _ _ _ _ rfl Try.isAgg2 rfl (intsD_get _ _ 0 (by omega))) ?_
    refine AOps_q 24 _ rfl rfl rfl (QOp_add _ _ _ _ _ _ _ rfl rfl rfl) ?_
    refine kN 1 rfl ?_
    cases h
    exact Weak_keep 1 hm [0, 1, 2, 3, 9] [] _ _ rfl rfl rfl
   refine ACode_skip ?_
   cases h
   exact Weak_keep 1 hm [0, 1, 2, 3, 9] [] _ _ rfl rfl rfl
  refine kO (fun s21 => []) (fun s21 => [.box [.sl none (intsD s21)]]) h (fun os21 h hks21 => ?_) (fun s21 h => ?_)
  ·refine kR ?_
   refine kN 2 rfl ?_
   refine ACode_block ?_
   refine ACode_loopW (fun k0 E H => ∃ (x6 : Int) (x7 : List Int), E = [(0, .d (.pv (colD p0) 0)), (1, iV p1), (2, .d (.sl none (intsD p2))), (3, .clo 136 [.ptr 0 0]), (10, iV x6)] ∧ H = [.box [.sl none (intsD x7)]] ∧ impl_Colouring_cliques_on_greatest_c1_l0 k self p0 p1 p2 k0 x6 x7 = some os21) k _ _ (Weak_keep 1 hm [0, 1, 2, 3, 10] [] _ _ rfl rfl rfl) ⟨_, _, rfl, rfl, h⟩ ?_
   clear h
   rintro k0 E H ⟨x6, x7, rfl, rfl, h⟩
   cases k0 with
   | zero => cases (show (none : Option (Sum (List Int) (Bool × List Int))) = some _ from h)
   | succ k0 =>
    rw [impl_Colouring_cliques_on_greatest_c1_l0] at h
    refine ACode_seq ?_
    refine kR ?_
    refine kM 2 rfl ?_
    refine AOps_q 28 _ rfl rfl rfl (QOp_nilCheck_pv _ _ _ rfl rfl) ?_
    refine AOps_q 29 _ rfl rfl rfl (QOp_fieldAddr_pv _ _ _ _ _ 0 _ _ rfl Try.underlying29 rfl _ Try.sizeOf2 rfl rfl) ?_
    refine AOps_q 30 _ rfl rfl rfl (QOp_load_pv _ _ _ _ _ rfl Try.isAgg2 rfl rfl) ?_
    refine AOps_q 31 _ rfl rfl rfl (QOp_lss _ _ _ _ _ _ _ rfl rfl rfl) ?_
    refine AOps_nil ?_
    refine kI h rfl (fun h _ => ?_) (fun h _ => ?_)
    ·refine ACode_skip ?_
     refine kO (fun s20 => [(0, .d (.pv (colD p0) 0)), (1, iV p1), (2, .d (.sl none (intsD p2))), (3, .clo 136 [.ptr 0 0]), (10, iV x6)]) (fun s20 => [.box [.sl none (intsD s20)]]) h (fun os20 h hks20 => ?_) (fun s20 h => ?_)
     ·refine ACode_block ?_
      refine kB (fun s18 => [(0, .d (.pv (colD p0) 0)), (1, iV p1), (2, .d (.sl none (intsD p2))), (3, .clo 136 [.ptr 0 0]), (10, iV x6), (50, bV s18.1)]) (fun s18 => [.box [.sl none (intsD s18.2)]]) h (fun s18 h => ?_) (fun s18 h => ?_)
      ·refine (ACode_region ?_)
       refine kM 4 rfl ?_
       obtain ⟨r9, hr9, h⟩ := bindO h
       refine kC [] 38 (bV r9) [.box [.sl none (intsD x7)]] rfl Try.call138 rfl rfl (impl_Colouring_goesWith_ac k p0 p1 p2 x6 _ hr9) rfl ?_
       refine kM 1 rfl ?_
       refine AOps_case 39 _ rfl (fun hb10 => ?_) (fun hb10 => ?_)
       ·have h := iteT hb10 h
        refine kM 3 rfl ?_
        refine bsplit (p2.isEmpty) (fun hb11 => ?_) (fun hb11 => ?_)
        ·have h := iteT hb11 h
         refine kC [] 43 (.d (.se none)) [.box [.sl none (intsD x7)]] rfl Try.call103 rfl rfl (cloneB_ac p2 hb11) rfl ?_
         refine kM 1 rfl ?_
         refine AOps_buildSlice 45 _ _ _ [_] (intsD ([x6])) _ rfl rfl rfl rfl rfl (by decide) Try.underlying24 Try.sizeOf2 (zero_of Try.typeInfo2 rfl) rfl rfl (intsD_one _) ?_
         obtain ⟨hc13, h⟩ := guardO h
         refine AOps_append0 46 _ _ _ _ _ _ _ _ _ _ rfl rfl rfl rfl rfl rfl rfl Try.underlying24 Try.type2 rfl rfl rfl (by decide) rfl rfl rfl (intsD_one _) (by rw [intsD_length]; exact hc13.1) (by rw [intsD_length]; exact hc13.2) ?_
         refine kM 1 rfl ?_
         refine AOps_freezeL [46] 2 0 _ (allc (rfl) (fun _ h => nomatch h)) rfl ?_
         obtain ⟨r14, hr14, h⟩ := bindO h
         refine kC [0] 48 (bV r14.1) [.box [.sl none (intsD r14.2)], .vec 0 (intsD ([x6])), .gone] rfl Try.call122 rfl rfl (hself p0 p1 ([x6]) x7 _ hr14) rfl ?_
         refine AOps_q 49 _ rfl rfl rfl (QOp_not _ _ _ rfl rfl) ?_
         refine kN 1 rfl ?_
         cases h
         exact Weak_keep 1 hm [0, 1, 2, 3, 10, 50] [] _ _ rfl rfl rfl
        have h := iteF hb11 h
        obtain ⟨r15, hr15, h⟩ := bindO h
        refine kC [] 43 (.vec 1 0) [.box [.sl none (intsD x7)], .vec 0 (intsD r15)] rfl Try.call103 rfl rfl (cloneA_ac p2 _ hb11 hr15) rfl ?_
        refine kM 1 rfl ?_
        refine AOps_buildSlice 45 _ _ _ [_] (intsD ([x6])) _ rfl rfl rfl rfl rfl (by decide) Try.underlying24 Try.sizeOf2 (zero_of Try.typeInfo2 rfl) rfl rfl (intsD_one _) ?_
        obtain ⟨hc16, h⟩ := guardO h
        refine AOps_append 46 _ _ _ _ _ _ _ _ _ _ _ _ rfl rfl rfl rfl rfl rfl rfl Try.underlying24 Try.type2 rfl rfl rfl (by decide) rfl rfl rfl rfl (intsD_one _) (by rw [intsD_length, intsD_length]; exact hc16) ?_
        rw [intsD_app]
        refine kM 1 rfl ?_
        refine AOps_freezeL [46] 1 1 _ (allc (rfl) (fun _ h => nomatch h)) rfl ?_
        obtain ⟨r17, hr17, h⟩ := bindO h
        refine kC [0] 48 (bV r17.1) [.box [.sl none (intsD r17.2)], .gone, .vec 0 (intsD ([x6]))] rfl Try.call122 rfl rfl (hself p0 p1 (r15 ++ ([x6])) x7 _ hr17) rfl ?_
        refine AOps_q 49 _ rfl rfl rfl (QOp_not _ _ _ rfl rfl) ?_
        refine kN 1 rfl ?_
        cases h
        exact Weak_keep 1 hm [0, 1, 2, 3, 10, 50] [] _ _ rfl rfl rfl
       have h := iteF hb10 h
       refine AOps_skip 40 rfl rfl rfl ?_
       refine AOps_skip 41 rfl rfl rfl ?_
       refine AOps_skip 42 rfl rfl rfl ?_
       refine AOps_skip 43 rfl rfl rfl ?_
       refine AOps_skip 44 rfl rfl rfl ?_
       refine AOps_skip 45 rfl rfl rfl ?_
       refine AOps_skip 46 rfl rfl rfl ?_
       refine AOps_skip 47 rfl rfl rfl ?_
       refine AOps_skip 48 rfl rfl rfl ?_
       refine AOps_skip 49 rfl rfl rfl ?_
       refine kN 1 rfl ?_
       cases h
       exact Weak_keep 1 hm [0, 1, 2, 3, 10, 50] [] _ _ rfl rfl rfl
      refine kI h rfl (fun h _ => ?_) (fun h _ => ?_)
      ·refine kR ?_
       refine kN 1 rfl ?_
       refine ACode_ret ?_
       obtain ⟨rr, hz22, h2⟩ := bindO h
       obtain rfl := Option.some.inj h2
       obtain rfl := Option.some.inj (show some rr = some _ from hks20)
       have h := hz22
       cases h
       have h := hks21
       cases h
       exact ⟨_, _, fun r a w h => ⟨r, h⟩, _, _, [], _, (.cons (ResV_tmp _ _ rfl) .nil), rfl, rfl, rfl, rfl, rfl⟩
      refine ACode_skip ?_
      cases h
      exact ⟨_, rfl, Weak_keep 1 hm [0, 1, 2, 3, 10] [] _ _ rfl rfl rfl⟩
     refine (ACode_region ?_)
     refine kM 1 rfl ?_
     refine AOps_q 33 _ rfl rfl rfl (QOp_add _ _ _ _ _ _ _ rfl rfl rfl) ?_
     refine kN 1 rfl ?_
     exact ⟨k0, _, _, Nat.lt_succ_self _, Weak_keep 1 hm [0, 1, 2, 3, 10] [] _ _ rfl rfl rfl, _, _, rfl, rfl, h⟩
    refine ACode_exit ?_
    cases h
    exact ⟨_, rfl, Weak_keep 1 hm [] [] _ _ rfl rfl rfl⟩
  refine kR ?_
  refine kN 1 rfl ?_
  refine ACode_ret ?_
  cases h
  exact ⟨_, _, fun r a w h => ⟨r, h⟩, _, _, [], _, (.cons (ResV_tmp _ _ rfl) .nil), rfl, rfl, rfl, rfl, rfl⟩

-- (*loop.example/g01362/impl.Colouring).greatest
def impl_Colouring_greatest (k : Nat) (p0 : Col) (p1 : Int) : Option (List Int) :=
 (impl_Colouring_cliques_on_greatest_c1 k p0 p1 ([]) ([] : List Int)).bind fun r1 => some r1.2
set_option maxRecDepth 100000 in
theorem impl_Colouring_greatest_ac (k : Nat) (p0 : Col) (p1 : Int) (r : List Int) (h : impl_Colouring_greatest k p0 p1 = some r) : AC Try.prog 118 [.d (.pv (colD p0) 0), iV p1] [] (fun res H' => res = [.d (.sl none (intsD r))] ∧ H' = []) := by
 refine AC_of_body true Try.func118 rfl Try.ntmps118 (rvs := [.tmp 4]) rfl rfl (fun G hG => ?_)
 have hm : G.H.length = 0 := by rw [hG]; rfl
 have hz : zeroG G.H = true := by rw [hG]; rfl
 unfold impl_Colouring_greatest at h
 refine kR ?_
 refine kN 1 rfl ?_
 refine kR ?_
 refine AOps_buildSlice 6 _ _ _ [] (intsD ([] : List Int)) _ rfl rfl rfl rfl rfl (by decide) Try.underlying24 Try.sizeOf2 (zero_of Try.typeInfo2 rfl) rfl rfl (intsD_one _) ?_
 refine AOps_alloc 5 _ _ ([.sl (some true) []]) (zero_of Try.typeInfo24 rfl) (by rfl) rfl rfl rfl rfl ?_
 refine AOps_freeze 6 0 0 _ rfl rfl ?_
 refine AOps_store1 _ _ _ _ _ _ _ _ rfl rfl rfl rfl rfl rfl rfl Try.sizeOf24 (Nat.le_of_ble_eq_true rfl) rfl ?_
 refine AOps_nil ?_
 refine kR ?_
 refine kM 2 rfl ?_
 refine AOps_q 9 _ rfl rfl rfl (QOp_makeFunc _ _ _ rfl rfl) ?_
 obtain ⟨r1, hr1, h⟩ := bindO h
 refine kC [1] 10 (bV r1.1) [.gone, .box [.sl none (intsD r1.2)]] rfl Try.call122 rfl rfl (impl_Colouring_cliques_on_greatest_c1_ac k p0 p1 ([]) ([] : List Int) _ hr1) rfl ?_
 refine AOps_nil ?_
 refine kR ?_
 refine AOps_q 11 _ rfl rfl rfl (QOp_load_ptr _ _ _ _ _ _ rfl Try.isAgg24 rfl rfl rfl) ?_
 refine kN 1 rfl ?_
 refine ACode_ret ?_
 cases h
 exact ⟨_, _, fun r a w h => ⟨r, h⟩, _, _, [], _, (.cons (ResV_tmp _ _ rfl) .nil), rfl, rfl, rfl, rfl, rfl⟩

-- (*loop.example/g01362/impl.Colouring).cliqueNumbers
def impl_Colouring_cliqueNumbers_l0 (k : Nat) (p0 : Col) : Nat → Int → (List Int) → Option (List Int)
 | 0, _, _ => none
 | k0 + 1, x1, x2 => (if decide (x1 < p0.k) then (impl_Colouring_greatest k p0 x1).bind fun r4 => (if x2.length + ([(impl_size r4)]).length ≤ 1099511627776 then impl_Colouring_cliqueNumbers_l0 k p0 k0 (w64 (x1 + 1)) (x2 ++ ([(impl_size r4)])) else none) else some x2)
def impl_Colouring_cliqueNumbers (k : Nat) (p0 : Col) : Option (List Int) :=
 (impl_Colouring_cliqueNumbers_l0 k p0 k 0 ([] : List Int) : Option (List Int)).bind fun s7 => some s7
set_option maxRecDepth 100000 in
theorem impl_Colouring_cliqueNumbers_ac (k : Nat) (p0 : Col) (r : List Int) (h : impl_Colouring_cliqueNumbers k p0 = some r) : AC Try.prog 91 [.d (.pv (colD p0) 0)] [] (fun res H' => res = [.vec 0 0] ∧ H' = [.vec 0 (intsD r)]) := by
 refine AC_of_body true Try.func91 rfl Try.ntmps91 (rvs := [.tmp 2]) rfl rfl (fun G hG => ?_)
 have hm : G.H.length = 0 := by rw [hG]; rfl
 have hz : zeroG G.H = true := by rw [hG]; rfl
 unfold impl_Colouring_cliqueNumbers at h
 refine kR ?_
 refine kN 1 rfl ?_
 refine kR ?_
 refine AOps_buildSlice 5 _ _ _ [] (intsD ([] : List Int)) _ rfl rfl rfl rfl rfl (by decide) Try.underlying24 Try.sizeOf2 (zero_of Try.typeInfo2 rfl) rfl rfl (intsD_one _) ?_
 refine kN 1 rfl ?_
 refine kB (fun s7 => [(3, .vec 0 0)]) (fun s7 => [.vec 0 (intsD s7)]) h (fun s7 h => ?_) (fun s7 h => ?_)
 ·refine kR ?_
  refine kM 1 rfl ?_
  refine AOps_q 7 _ rfl rfl rfl (QOp_nilCheck_pv _ _ _ rfl rfl) ?_
  refine AOps_q 8 _ rfl rfl rfl (QOp_fieldAddr_pv _ _ _ _ _ 1 _ _ rfl Try.underlying29 rfl _ Try.sizeOf2 rfl rfl) ?_
  refine AOps_q 9 _ rfl rfl rfl (QOp_load_pv _ _ _ _ _ rfl Try.isAgg2 rfl rfl) ?_
  refine kN 1 rfl ?_
  refine ACode_block ?_
  refine ACode_loopW (fun k0 E H => ∃ (x1 : Int) (x2 : List Int), E = [(0, .d (.pv (colD p0) 0)), (3, .vec 0 0), (9, iV p0.k), (10, iV x1)] ∧ H = [.vec 0 (intsD x2)] ∧ impl_Colouring_cliqueNumbers_l0 k p0 k0 x1 x2 = some s7) k _ _ (Weak_keep 0 hm [0, 3, 9, 10] [0] _ _ rfl rfl rfl) ⟨_, _, rfl, rfl, h⟩ ?_
  clear h
  rintro k0 E H ⟨x1, x2, rfl, rfl, h⟩
  cases k0 with
  | zero => cases (show (none : Option (List Int)) = some _ from h)
  | succ k0 =>
   rw [impl_Colouring_cliqueNumbers_l0] at h
   refine kR ?_
   refine AOps_q 11 _ rfl rfl rfl (QOp_lss _ _ _ _ _ _ _ rfl rfl rfl) ?_
   refine AOps_nil ?_
   refine ACode_seq ?_
   refine kI h rfl (fun h _ => ?_) (fun h _ => ?_)
   ·refine ACode_skip ?_
    refine ACode_seq ?_
    refine ACode_block ?_
    refine kR ?_
    refine kN 2 rfl ?_
    refine (ACode_region ?_)
    refine kM 3 rfl ?_
    obtain ⟨r4, hr4, h⟩ := bindO h
    refine kC [] 16 (.d (.sl none (intsD r4))) [.vec 0 (intsD x2)] rfl Try.call118 rfl rfl (impl_Colouring_greatest_ac k p0 x1 _ hr4) rfl ?_
    refine kC [] 17 (iV (impl_size r4)) [.vec 0 (intsD x2)] rfl Try.call55 rfl rfl (impl_size_ac r4) rfl ?_
    refine AOps_buildSlice 18 _ _ _ [_] (intsD ([(impl_size r4)])) _ rfl rfl rfl rfl rfl (by decide) Try.underlying24 Try.sizeOf2 (zero_of Try.typeInfo2 rfl) rfl rfl (intsD_one _) ?_
    obtain ⟨hc6, h⟩ := guardO h
    refine AOps_append 19 _ _ _ _ _ _ _ _ _ _ _ _ rfl rfl rfl rfl rfl rfl rfl Try.underlying24 Try.type2 rfl rfl rfl (by decide) rfl rfl rfl rfl (intsD_one _) (by rw [intsD_length, intsD_length]; exact hc6) ?_
    rw [intsD_app]
    refine kN 1 rfl ?_
    refine (ACode_region ?_)
    refine AOps_q 20 _ rfl rfl rfl (QOp_add _ _ _ _ _ _ _ rfl rfl rfl) ?_
    refine kN 1 rfl ?_
    exact ⟨k0, _, _, Nat.lt_succ_self _, Weak_trans (Weak_keep 0 hm [0, 3, 9, 10] [0] _ _ rfl rfl rfl) (Weak_reset 0 hm hz [0, 3, 9, 10] _ _ rfl rfl), _, _, rfl, rfl, h⟩
   refine ACode_exit ?_
   cases h
   exact Weak_keep 0 hm [3] [0] _ _ rfl rfl rfl
 refine kR ?_
 refine kN 2 rfl ?_
 refine ACode_ret ?_
 cases h
 exact ⟨_, _, Weak_reset 0 hm hz [2] _ _ rfl rfl, _, _, [0], _, (.cons (ResV_tmp _ _ rfl) .nil), rfl, rfl, rfl, rfl, rfl⟩

-- loop.example/g01362/impl.CliqueNumbers
def impl_CliqueNumbers (k : Nat) (p0 : Col) : Option (Option (List Int) × Int) :=
 (impl_Colouring_code k p0 (some (impl_always))).bind fun r1 => (if !decide (r1 = 0) then some (none, r1) else (impl_Colouring_cliqueNumbers k p0).bind fun r3 => some (some r3, 0))
set_option maxRecDepth 100000 in
theorem impl_CliqueNumbers_ac (k : Nat) (p0 : Col) (r : Option (List Int) × Int) (h : impl_CliqueNumbers k p0 = some r) : AC Try.prog 32 [.d (.agg (colD p0))] [] (fun res H' => res = [ownA 0 (r.1.map intsD), iV r.2] ∧ H' = [] ++ ownH (r.1.map intsD)) := by
 refine AC_of_body false Try.func32 rfl Try.ntmps32 (rvs := [.tmp 2, .tmp 3]) rfl rfl (fun G hG => ?_)
 have hm : G.H.length = 0 := by rw [hG]; rfl
 have hz : zeroG G.H = true := by rw [hG]; rfl
 unfold impl_CliqueNumbers at h
 refine kR ?_
 refine AOps_boxI 1 _ _ (.agg (colD p0)) (colD p0) rfl (colD_one _) rfl rfl rfl rfl rfl ?_
 refine kN 2 rfl ?_
 refine ACode_seq ?_
 refine kR ?_
 obtain ⟨r1, hr1, h⟩ := bindO h
 refine kC [] 5 (iV r1) [] rfl Try.call47 rfl rfl (impl_Colouring_code_ac k p0 (some (impl_always)) 45 ([]) Try.call45 (fun r h => by cases h; exact impl_always_ac) _ hr1) rfl ?_
 refine kN 1 rfl ?_
 refine kR ?_
 refine kM 1 rfl ?_
 refine AOps_q 7 _ rfl rfl rfl (QOp_neq _ _ _ _ _ _ _ rfl rfl rfl) ?_
 refine AOps_nil ?_
 refine kI h rfl (fun h _ => ?_) (fun h _ => ?_)
 ·refine kR ?_
  refine kN 3 rfl ?_
  refine ACode_ret ?_
  cases h
  exact ⟨_, _, fun r a w h => ⟨r, h⟩, _, _, [], _, (.cons (ResV_tmp _ _ rfl) (.cons (ResV_tmp _ _ rfl) .nil)), rfl, rfl, rfl, rfl, rfl⟩
 refine ACode_skip ?_
 refine kR ?_
 obtain ⟨r3, hr3, h⟩ := bindO h
 refine kC [] 9 (.vec 0 0) [.vec 0 (intsD r3)] rfl Try.call91 rfl rfl (impl_Colouring_cliqueNumbers_ac k p0 _ hr3) rfl ?_
 refine kN 2 rfl ?_
 refine ACode_ret ?_
 cases h
 exact ⟨_, _, Weak_reset 0 hm hz [2, 3] _ _ rfl rfl, _, _, [0], _, (.cons (ResV_tmp _ _ rfl) (.cons (ResV_tmp _ _ rfl) .nil)), rfl, rfl, rfl, rfl, rfl⟩

-- loop.example/g01362/laws.FnLesserParts
def laws_FnLesserParts_l0 (r17 : List (List Int)) : Nat → Int → (List (List Int)) → Option (List (List Int))
 | 0, _, _ => none
 | k0 + 1, x43, x44 => (if decide (x43 < (r17.length : Int)) then (if 0 ≤ x43 ∧ x43 < (r17.length : Int) then (if 0 ≤ x43 ∧ x43 < (r17.length : Int) then (if 0 ≤ (0 : Int) ∧ (0 : Int) < ((r17.getD x43.toNat []).length : Int) then (if 0 ≤ (1 : Int) ∧ (1 : Int) < ((r17.getD x43.toNat []).length : Int) then (if x44.length + ([[((r17.getD x43.toNat []).getD (0 : Int).toNat 0), w64 (0 - ((r17.getD x43.toNat []).getD (1 : Int).toNat 0))]]).length ≤ 1099511627776 then laws_FnLesserParts_l0 r17 k0 (w64 (x43 + 1)) (x44 ++ ([[((r17.getD x43.toNat []).getD (0 : Int).toNat 0), w64 (0 - ((r17.getD x43.toNat []).getD (1 : Int).toNat 0))]])) else none) else none) else none) else none) else none) else some x44)
def laws_FnLesserParts_l1 (r10 : Option (List Int) × Int) (r74 : Option (List Int) × Int) : Nat → Int → Option (Sum (Unit) (Bool))
 | 0, _ => none
 | k1 + 1, x75 => (if decide (x75 < ((r74.1.getD []).length : Int)) then (if 0 ≤ x75 ∧ x75 < ((r74.1.getD []).length : Int) then (if decide (((r10.1.getD []).length : Int) < ((r74.1.getD []).getD x75.toNat 0)) then some (.inr false) else laws_FnLesserParts_l1 r10 r74 k1 (w64 (x75 + 1))) else none) else some (.inl ()))
def laws_FnLesserParts (k : Nat) (p0 : List UInt8) : Option (Bool) :=
 (if (laws_big p0) then some true else (spec_DrawIsLesserColoured k p0).bind fun r3 => (impl_IsLesserColoured k r3.1 r3.2).bind fun r4 => ((spec_IsLesserColoured k r3.1 r3.2).bind fun r5 => letO (if !decide (r4.2 = r5.2) then true else !(r4.1 == r5.1)) fun (s7 : Bool) => (if s7 then some (.inr false) else some (.inl ())) : Option (Sum (Unit) (Bool))).bind fun os9 => (match os9 with | .inl s9 => (impl_LesserPart k r3.1).bind fun r10 => ((spec_LesserPart k r3.1).bind fun r11 => ((if !decide (r10.2 = r11.2) then some true else (laws_likeInts k (r10.1.getD []) r11.1).bind fun r13 => some (!r13)) : Option (Bool)).bind fun s14 => (if s14 then some (.inr false) else some (.inl ())) : Option (Sum (Unit) (Bool))).bind fun os16 => (match os16 with | .inl s16 => (spec_DrawCupsAndCaps k p0).bind fun r17 => (impl_CupsAndCaps k r17).bind fun r18 => ((spec_CupsAndCaps k r17).bind fun r19 => letO (if !decide (r18.2.2 = r19.2.2) then true else (if !decide (r18.1 = r19.1) then true else !decide (r18.2.1 = r19.2.1))) fun (s22 : Bool) => (if s22 then some (.inr false) else some (.inl ())) : Option (Sum (Unit) (Bool))).bind fun os24 => (match os24 with | .inl s24 => (spec_DrawCupNumber k p0).bind fun r25 => (impl_CupNumber k r25.1 r25.2).bind fun r26 => ((spec_CupNumber k r25.1 r25.2).bind fun r27 => letO (if !decide (r26.2 = r27.2) then true else !decide (r26.1 = r27.1)) fun (s29 : Bool) => (if s29 then some (.inr false) else some (.inl ())) : Option (Sum (Unit) (Bool))).bind fun os31 => (match os31 with | .inl s31 => ((if decide (r18.2.2 = 0) then (letO (if decide (r18.1 < 1) then true else (if decide (r18.2.1 < 1) then true else (if decide (1 < (r17.length : Int)) then (if decide (r18.1 < 2) then true else (if decide (r18.2.1 < 2) then true else (if decide ((r17.length : Int) < r18.1) then true else decide ((r17.length : Int) < r18.2.1)))) else (if decide ((r17.length : Int) < r18.1) then true else decide ((r17.length : Int) < r18.2.1))))) fun (s40 : Bool) => (if s40 then (some (.inr false)).bind fun rr => some (.inr rr) else some (.inl ())) : Option (Sum (Unit) (Sum (Unit) (Bool)))).bind fun os42 => (match os42 with | .inl s42 => (laws_FnLesserParts_l0 r17 k 0 ([] : List (List Int)) : Option (List (List Int))).bind fun s51 => (impl_CupsAndCaps k s51).bind fun r52 => letO (if !decide (r52.2.2 = 0) then true else (if !decide (r52.1 = r18.2.1) then true else !decide (r52.2.1 = r18.1))) fun (s55 : Bool) => (if s55 then some (.inr false) else some (.inl ())) | .inr rr => some rr) else some (.inl ())) : Option (Sum (Unit) (Bool))).bind fun os57 => (match os57 with | .inl s57 => (if !decide (r10.2 = 0) then letO (if decide (((r10.1.getD []).length : Int) = 0) then decide (r4.2 = r10.2) else false) fun (s60 : Bool) => some s60 else (impl_IsLesserColoured k r3.1 (r10.1.getD [])).bind fun r61 => (letO (if !decide (r61.2 = 0) then true else (if !r61.1 then true else (if decide (((r10.1.getD []).length : Int) < 1) then true else (if decide (1 < r3.1.p) then decide (((r10.1.getD []).length : Int) < 2) else false)))) fun (s66 : Bool) => (if s66 then some (.inr false) else some (.inl ())) : Option (Sum (Unit) (Bool))).bind fun os68 => (match os68 with | .inl s68 => (letO (if decide (r4.2 = 0) then (if r4.1 then decide (((r10.1.getD []).length : Int) < (r3.2.length : Int)) else false) else false) fun (s71 : Bool) => (if s71 then some (.inr false) else some (.inl ())) : Option (Sum (Unit) (Bool))).bind fun os73 => (match os73 with | .inl s73 => (impl_CliqueNumbers k r3.1).bind fun r74 => (laws_FnLesserParts_l1 r10 r74 k 0 : Option (Sum (Unit) (Bool))).bind fun os79 => (match os79 with | .inl s79 => some (decide (r74.2 = 0)) | .inr rr => some rr) | .inr rr => some rr) | .inr rr => some rr)) | .inr rr => some rr) | .inr rr => some rr) | .inr rr => some rr) | .inr rr => some rr) | .inr rr => some rr))
set_option maxHeartbeats 2000000 in
set_option maxRecDepth 100000 in
theorem laws_FnLesserParts_ac (k : Nat) (p0 : List UInt8) (r : Bool) (h : laws_FnLesserParts k p0 = some r) : AC Try.prog 4 [.d (.sl none (bysD p0))] [] (fun res H' => res = [bV r] ∧ H' = []) := by
 refine AC_of_body true Try.func4 rfl Try.ntmps4 (rvs := [.tmp 2]) rfl rfl (fun G hG => ?_)
 have hm : G.H.length = 0 := by rw [hG]; rfl
 have hz : zeroG G.H = true := by rw [hG]; rfl
 unfold laws_FnLesserParts at h
 refine kR ?_
 refine kN 1 rfl ?_
 refine ACode_seq ?_
 refine kR ?_
 refine kM 1 rfl ?_
 refine kC [] 37 (bV (laws_big p0)) [] rfl Try.call5 rfl rfl (laws_big_ac p0) rfl ?_
 refine AOps_nil ?_
 refine kI h rfl (fun h _ => ?_) (fun h _ => ?_)
 ·refine kR ?_
  refine kN 1 rfl ?_
  refine ACode_ret ?_
  cases h
  exact ⟨_, _, fun r a w h => ⟨r, h⟩, _, _, [], _, (.cons (ResV_tmp _ _ rfl) .nil), rfl, rfl, rfl, rfl, rfl⟩
 refine ACode_skip ?_
 refine kR ?_
 refine kM 1 rfl ?_
 obtain ⟨r3, hr3, h⟩ := bindO h
 refine kC [] 40 (.tup [.d (.agg (colD r3.1)), .d (.sl none (intsD r3.2))]) [] rfl Try.call20 rfl rfl (spec_DrawIsLesserColoured_ac k p0 _ hr3) rfl ?_
 refine kM 3 rfl ?_
 refine AOps_alloc 3 _ _ (colD Col.zero) (zero_of Try.typeInfo29 rfl) (by rfl) rfl rfl rfl rfl ?_
 refine AOps_store _ _ _ _ _ _ (colD _) _ _ rfl rfl rfl rfl rfl rfl rfl (colD_one _) (by rw [colD_length]; exact Try.sizeOf29) (by rw [colD_length, colD_length]; decide) (colD_whole _ _) ?_
 refine kN 1 rfl ?_
 refine kR ?_
 refine AOps_q 44 _ rfl rfl rfl (QOp_loadN_ptr _ _ _ _ _ _ _ rfl Try.isAgg29 Try.sizeOf29 rfl rfl (colD_all _) (colD_length _)) ?_
 refine kM 1 rfl ?_
 obtain ⟨r4, hr4, h⟩ := bindO h
 refine kC [] 46 (.tup [bV r4.1, iV r4.2]) [.box (colD r3.1)] rfl Try.call21 rfl rfl (impl_IsLesserColoured_ac k r3.1 r3.2 _ hr4) rfl ?_
 refine kN 5 rfl ?_
 refine kO (fun s9 => [(0, .d (.sl none (bysD p0))), (3, .ptr 0 0), (4, .d (.sl none (intsD r3.2))), (5, bV r4.1), (6, iV r4.2)]) (fun s9 => [.box (colD r3.1)]) h (fun os9 h hks9 => ?_) (fun s9 h => ?_)
 ·refine kR ?_
  refine AOps_q 50 _ rfl rfl rfl (QOp_loadN_ptr _ _ _ _ _ _ _ rfl Try.isAgg29 Try.sizeOf29 rfl rfl (colD_all _) (colD_length _)) ?_
  refine kM 1 rfl ?_
  obtain ⟨r5, hr5, h⟩ := bindO h
  refine kC [] 52 (.tup [bV r5.1, iV r5.2]) [.box (colD r3.1)] rfl Try.call22 rfl rfl (spec_IsLesserColoured_ac k r3.1 r3.2 _ hr5) rfl ?_
  refine kN 5 rfl ?_
  refine kL (fun s7 => [(0, .d (.sl none (bysD p0))), (3, .ptr 0 0), (4, .d (.sl none (intsD r3.2))), (5, bV r4.1), (6, iV r4.2), (62, bV s7)]) (fun s7 => [.box (colD r3.1)]) h (fun s7 h => ?_) (fun s7 h => ?_)
  ·refine (ACode_region ?_)
   refine kM 2 rfl ?_
   refine AOps_q 57 _ rfl rfl rfl (QOp_neq _ _ _ _ _ _ _ rfl rfl rfl) ?_
   refine kM 1 rfl ?_
   refine AOps_case 58 _ rfl (fun hb6 => ?_) (fun hb6 => ?_)
   ·have h := iteT hb6 h
    refine AOps_skip 59 rfl rfl rfl ?_
    refine AOps_skip 60 rfl rfl rfl ?_
    refine AOps_skip 61 rfl rfl rfl ?_
    refine kN 1 rfl ?_
    cases h
    exact Weak_keep 0 hm [0, 3, 4, 5, 6, 62] [0] _ _ rfl rfl rfl
   have h := iteF hb6 h
   refine kM 2 rfl ?_
   refine AOps_q 61 _ rfl rfl rfl (QOp_bneq _ _ _ _ _ _ rfl rfl rfl Try.underlying4) ?_
   refine kN 1 rfl ?_
   cases h
   exact Weak_keep 0 hm [0, 3, 4, 5, 6, 62] [0] _ _ rfl rfl rfl
  refine kI h rfl (fun h _ => ?_) (fun h _ => ?_)
  ·refine kR ?_
   refine kN 1 rfl ?_
   refine ACode_ret ?_
   cases h
   have h := hks9
   cases h
   exact ⟨_, _, fun r a w h => ⟨r, h⟩, _, _, [], _, (.cons (ResV_tmp _ _ rfl) .nil), rfl, rfl, rfl, rfl, rfl⟩
  refine ACode_skip ?_
  cases h
  exact ⟨_, rfl, Weak_keep 0 hm [0, 3, 4, 5, 6] [0] _ _ rfl rfl rfl⟩
 refine kR ?_
 refine AOps_q 64 _ rfl rfl rfl (QOp_loadN_ptr _ _ _ _ _ _ _ rfl Try.isAgg29 Try.sizeOf29 rfl rfl (colD_all _) (colD_length _)) ?_
 obtain ⟨r10, hr10, h⟩ := bindO h
 refine kC [] 65 (.tup [.d (.sl none (intsD (r10.1.getD []))), iV r10.2]) [.box (colD r3.1)] rfl Try.call23 rfl rfl (AC_frz rfl (frz_cons frz_nil) (impl_LesserPart_ac k r3.1 _ hr10)) rfl ?_
 refine kN 5 rfl ?_
 refine kO (fun s16 => [(0, .d (.sl none (bysD p0))), (3, .ptr 0 0), (4, .d (.sl none (intsD r3.2))), (5, bV r4.1), (6, iV r4.2), (9, .d (.sl none (intsD (r10.1.getD [])))), (10, iV r10.2)]) (fun s16 => [.box (colD r3.1)]) h (fun os16 h hks16 => ?_) (fun s16 h => ?_)
 ·refine kR ?_
  refine AOps_q 69 _ rfl rfl rfl (QOp_loadN_ptr _ _ _ _ _ _ _ rfl Try.isAgg29 Try.sizeOf29 rfl rfl (colD_all _) (colD_length _)) ?_
  obtain ⟨r11, hr11, h⟩ := bindO h
  refine kC [] 70 (.tup [.d (.sl none (intsD r11.1)), iV r11.2]) [.box (colD r3.1)] rfl Try.call24 rfl rfl (spec_LesserPart_ac k r3.1 _ hr11) rfl ?_
  refine kN 5 rfl ?_
  refine kB (fun s14 => [(0, .d (.sl none (bysD p0))), (3, .ptr 0 0), (4, .d (.sl none (intsD r3.2))), (5, bV r4.1), (6, iV r4.2), (9, .d (.sl none (intsD (r10.1.getD [])))), (10, iV r10.2), (81, bV s14)]) (fun s14 => [.box (colD r3.1)]) h (fun s14 h => ?_) (fun s14 h => ?_)
  ·refine (ACode_region ?_)
   refine kM 2 rfl ?_
   refine AOps_q 75 _ rfl rfl rfl (QOp_neq _ _ _ _ _ _ _ rfl rfl rfl) ?_
   refine kM 1 rfl ?_
   refine AOps_case 76 _ rfl (fun hb12 => ?_) (fun hb12 => ?_)
   ·have h := iteT hb12 h
    refine AOps_skip 77 rfl rfl rfl ?_
    refine AOps_skip 78 rfl rfl rfl ?_
    refine AOps_skip 79 rfl rfl rfl ?_
    refine AOps_skip 80 rfl rfl rfl ?_
    refine kN 1 rfl ?_
    cases h
    exact Weak_keep 0 hm [0, 3, 4, 5, 6, 9, 10, 81] [0] _ _ rfl rfl rfl
   have h := iteF hb12 h
   refine kM 2 rfl ?_
   obtain ⟨r13, hr13, h⟩ := bindO h
   refine kC [] 79 (bV r13) [.box (colD r3.1)] rfl Try.call25 rfl rfl (laws_likeInts_ac k (r10.1.getD []) r11.1 _ hr13) rfl ?_
   refine AOps_q 80 _ rfl rfl rfl (QOp_not _ _ _ rfl rfl) ?_
   refine kN 1 rfl ?_
   cases h
   exact Weak_keep 0 hm [0, 3, 4, 5, 6, 9, 10, 81] [0] _ _ rfl rfl rfl
  refine kI h rfl (fun h _ => ?_) (fun h _ => ?_)
  ·refine kR ?_
   refine kN 1 rfl ?_
   refine ACode_ret ?_
   cases h
   have h := hks16
   cases h
   exact ⟨_, _, fun r a w h => ⟨r, h⟩, _, _, [], _, (.cons (ResV_tmp _ _ rfl) .nil), rfl, rfl, rfl, rfl, rfl⟩
  refine ACode_skip ?_
  cases h
  exact ⟨_, rfl, Weak_keep 0 hm [0, 3, 4, 5, 6, 9, 10] [0] _ _ rfl rfl rfl⟩
 refine kR ?_
 refine kM 1 rfl ?_
 obtain ⟨r17, hr17, h⟩ := bindO h
 refine kC [] 83 (.d (.sl none (rowsD r17))) [.box (colD r3.1)] rfl Try.call26 rfl rfl (AC_frzV frz_nil (spec_DrawCupsAndCaps_ac k p0 _ hr17)) rfl ?_
 refine kN 1 rfl ?_
 refine kR ?_
 refine kM 1 rfl ?_
 obtain ⟨r18, hr18, h⟩ := bindO h
 refine kC [] 86 (.tup [iV r18.1, iV r18.2.1, iV r18.2.2]) [.box (colD r3.1)] rfl Try.call27 rfl rfl (impl_CupsAndCaps_ac k r17 _ hr18) rfl ?_
 refine kN 7 rfl ?_
 refine kO (fun s24 => [(0, .d (.sl none (bysD p0))), (3, .ptr 0 0), (4, .d (.sl none (intsD r3.2))), (5, bV r4.1), (6, iV r4.2), (9, .d (.sl none (intsD (r10.1.getD [])))), (10, iV r10.2), (13, .d (.sl none (rowsD r17))), (14, iV r18.1), (15, iV r18.2.1), (16, iV r18.2.2)]) (fun s24 => [.box (colD r3.1)]) h (fun os24 h hks24 => ?_) (fun s24 h => ?_)
 ·refine kR ?_
  refine kM 1 rfl ?_
  obtain ⟨r19, hr19, h⟩ := bindO h
  refine kC [] 92 (.tup [iV r19.1, iV r19.2.1, iV r19.2.2]) [.box (colD r3.1)] rfl Try.call28 rfl rfl (spec_CupsAndCaps_ac k r17 _ hr19) rfl ?_
  refine kN 7 rfl ?_
  refine kL (fun s22 => [(0, .d (.sl none (bysD p0))), (3, .ptr 0 0), (4, .d (.sl none (intsD r3.2))), (5, bV r4.1), (6, iV r4.2), (9, .d (.sl none (intsD (r10.1.getD [])))), (10, iV r10.2), (13, .d (.sl none (rowsD r17))), (14, iV r18.1), (15, iV r18.2.1), (16, iV r18.2.2), (108, bV s22)]) (fun s22 => [.box (colD r3.1)]) h (fun s22 h => ?_) (fun s22 h => ?_)
  ·refine (ACode_region ?_)
   refine kM 2 rfl ?_
   refine AOps_q 98 _ rfl rfl rfl (QOp_neq _ _ _ _ _ _ _ rfl rfl rfl) ?_
   refine kM 1 rfl ?_
   refine AOps_case 99 _ rfl (fun hb20 => ?_) (fun hb20 => ?_)
   ·have h := iteT hb20 h
    refine AOps_skip 100 rfl rfl rfl ?_
    refine AOps_skip 101 rfl rfl rfl ?_
    refine AOps_skip 102 rfl rfl rfl ?_
    refine kM 2 rfl ?_
    refine AOps_skip 105 rfl rfl rfl ?_
    refine AOps_skip 106 rfl rfl rfl ?_
    refine AOps_skip 107 rfl rfl rfl ?_
    refine kN 1 rfl ?_
    cases h
    exact Weak_keep 0 hm [0, 3, 4, 5, 6, 9, 10, 13, 14, 15, 16, 108] [0] _ _ rfl rfl rfl
   have h := iteF hb20 h
   refine kM 2 rfl ?_
   refine AOps_q 102 _ rfl rfl rfl (QOp_neq _ _ _ _ _ _ _ rfl rfl rfl) ?_
   refine kM 2 rfl ?_
   refine AOps_case 104 _ rfl (fun hb21 => ?_) (fun hb21 => ?_)
   ·have h := iteT hb21 h
    refine AOps_skip 105 rfl rfl rfl ?_
    refine AOps_skip 106 rfl rfl rfl ?_
    refine AOps_skip 107 rfl rfl rfl ?_
    refine kN 1 rfl ?_
    cases h
    exact Weak_keep 0 hm [0, 3, 4, 5, 6, 9, 10, 13, 14, 15, 16, 108] [0] _ _ rfl rfl rfl
   have h := iteF hb21 h
   refine kM 2 rfl ?_
   refine AOps_q 107 _ rfl rfl rfl (QOp_neq _ _ _ _ _ _ _ rfl rfl rfl) ?_
   refine kN 1 rfl ?_
   cases h
   exact Weak_keep 0 hm [0, 3, 4, 5, 6, 9, 10, 13, 14, 15, 16, 108] [0] _ _ rfl rfl rfl
  refine kI h rfl (fun h _ => ?_) (fun h _ => ?_)
  ·refine kR ?_
   refine kN 1 rfl ?_
   refine ACode_ret ?_
   cases h
   have h := hks24
   cases h
   exact ⟨_, _, fun r a w h => ⟨r, h⟩, _, _, [], _, (.cons (ResV_tmp _ _ rfl) .nil), rfl, rfl, rfl, rfl, rfl⟩
  refine ACode_skip ?_
  cases h
  exact ⟨_, rfl, Weak_keep 0 hm [0, 3, 4, 5, 6, 9, 10, 13, 14, 15, 16] [0] _ _ rfl rfl rfl⟩
 refine kR ?_
 refine kM 1 rfl ?_
 obtain ⟨r25, hr25, h⟩ := bindO h
 refine kC [] 111 (.tup [iV r25.1, iV r25.2]) [.box (colD r3.1)] rfl Try.call29 rfl rfl (spec_DrawCupNumber_ac k p0 _ hr25) rfl ?_
 refine kN 5 rfl ?_
 refine kR ?_
 refine kM 2 rfl ?_
 obtain ⟨r26, hr26, h⟩ := bindO h
 refine kC [] 117 (.tup [iV r26.1, iV r26.2]) [.box (colD r3.1)] rfl Try.call30 rfl rfl (impl_CupNumber_ac k r25.1 r25.2 _ hr26) rfl ?_
 refine kN 5 rfl ?_
 refine kO (fun s31 => [(3, .ptr 0 0), (4, .d (.sl none (intsD r3.2))), (5, bV r4.1), (6, iV r4.2), (9, .d (.sl none (intsD (r10.1.getD [])))), (10, iV r10.2), (13, .d (.sl none (rowsD r17))), (14, iV r18.1), (15, iV r18.2.1), (16, iV r18.2.2)]) (fun s31 => [.box (colD r3.1)]) h (fun os31 h hks31 => ?_) (fun s31 h => ?_)
 ·refine kR ?_
  refine kM 2 rfl ?_
  obtain ⟨r27, hr27, h⟩ := bindO h
  refine kC [] 123 (.tup [iV r27.1, iV r27.2]) [.box (colD r3.1)] rfl Try.call31 rfl rfl (spec_CupNumber_ac k r25.1 r25.2 _ hr27) rfl ?_
  refine kN 5 rfl ?_
  refine kL (fun s29 => [(3, .ptr 0 0), (4, .d (.sl none (intsD r3.2))), (5, bV r4.1), (6, iV r4.2), (9, .d (.sl none (intsD (r10.1.getD [])))), (10, iV r10.2), (13, .d (.sl none (rowsD r17))), (14, iV r18.1), (15, iV r18.2.1), (16, iV r18.2.2), (133, bV s29)]) (fun s29 => [.box (colD r3.1)]) h (fun s29 h => ?_) (fun s29 h => ?_)
  ·refine (ACode_region ?_)
   refine kM 2 rfl ?_
   refine AOps_q 128 _ rfl rfl rfl (QOp_neq _ _ _ _ _ _ _ rfl rfl rfl) ?_
   refine kM 1 rfl ?_
   refine AOps_case 129 _ rfl (fun hb28 => ?_) (fun hb28 => ?_)
   ·have h := iteT hb28 h
    refine AOps_skip 130 rfl rfl rfl ?_
    refine AOps_skip 131 rfl rfl rfl ?_
    refine AOps_skip 132 rfl rfl rfl ?_
    refine kN 1 rfl ?_
    cases h
    exact Weak_keep 0 hm [3, 4, 5, 6, 9, 10, 13, 14, 15, 16, 133] [0] _ _ rfl rfl rfl
   have h := iteF hb28 h
   refine kM 2 rfl ?_
   refine AOps_q 132 _ rfl rfl rfl (QOp_neq _ _ _ _ _ _ _ rfl rfl rfl) ?_
   refine kN 1 rfl ?_
   cases h
   exact Weak_keep 0 hm [3, 4, 5, 6, 9, 10, 13, 14, 15, 16, 133] [0] _ _ rfl rfl rfl
  refine kI h rfl (fun h _ => ?_) (fun h _ => ?_)
  ·refine kR ?_
   refine kN 1 rfl ?_
   refine ACode_ret ?_
   cases h
   have h := hks31
   cases h
   exact ⟨_, _, fun r a w h => ⟨r, h⟩, _, _, [], _, (.cons (ResV_tmp _ _ rfl) .nil), rfl, rfl, rfl, rfl, rfl⟩
  refine ACode_skip ?_
  cases h
  exact ⟨_, rfl, Weak_keep 0 hm [3, 4, 5, 6, 9, 10, 13, 14, 15, 16] [0] _ _ rfl rfl rfl⟩
 refine kO (fun s57 => [(3, .ptr 0 0), (4, .d (.sl none (intsD r3.2))), (5, bV r4.1), (6, iV r4.2), (9, .d (.sl none (intsD (r10.1.getD [])))), (10, iV r10.2)]) (fun s57 => [.box (colD r3.1)]) h (fun os57 h hks57 => ?_) (fun s57 h => ?_)
 ·refine kR ?_
  refine kM 1 rfl ?_
  refine AOps_q 135 _ rfl rfl rfl (QOp_eql _ _ _ _ _ _ _ rfl rfl rfl) ?_
  refine AOps_nil ?_
  refine kI h rfl (fun h _ => ?_) (fun h _ => ?_)
  ·refine kO (fun s42 => [(3, .ptr 0 0), (4, .d (.sl none (intsD r3.2))), (5, bV r4.1), (6, iV r4.2), (9, .d (.sl none (intsD (r10.1.getD [])))), (10, iV r10.2), (13, .d (.sl none (rowsD r17))), (14, iV r18.1), (15, iV r18.2.1)]) (fun s42 => [.box (colD r3.1)]) h (fun os42 h hks42 => ?_) (fun s42 h => ?_)
   ·refine kL (fun s40 => [(3, .ptr 0 0), (4, .d (.sl none (intsD r3.2))), (5, bV r4.1), (6, iV r4.2), (9, .d (.sl none (intsD (r10.1.getD [])))), (10, iV r10.2), (13, .d (.sl none (rowsD r17))), (14, iV r18.1), (15, iV r18.2.1), (166, bV s40)]) (fun s40 => [.box (colD r3.1)]) h (fun s40 h => ?_) (fun s40 h => ?_)
    ·refine (ACode_region ?_)
     refine kM 1 rfl ?_
     refine AOps_q 137 _ rfl rfl rfl (QOp_lss _ _ _ _ _ _ _ rfl rfl rfl) ?_
     refine kM 1 rfl ?_
     refine AOps_case 138 _ rfl (fun hb33 => ?_) (fun hb33 => ?_)
     ·have h := iteT hb33 h
      refine AOps_skip 139 rfl rfl rfl ?_
      refine AOps_skip 140 rfl rfl rfl ?_
      refine kM 2 rfl ?_
      refine AOps_skip 143 rfl rfl rfl ?_
      refine AOps_skip 144 rfl rfl rfl ?_
      refine AOps_skip 145 rfl rfl rfl ?_
      refine AOps_skip 146 rfl rfl rfl ?_
      refine AOps_skip 147 rfl rfl rfl ?_
      refine AOps_skip 148 rfl rfl rfl ?_
      refine AOps_skip 149 rfl rfl rfl ?_
      refine AOps_skip 150 rfl rfl rfl ?_
      refine AOps_skip 151 rfl rfl rfl ?_
      refine AOps_skip 152 rfl rfl rfl ?_
      refine AOps_skip 153 rfl rfl rfl ?_
      refine kM 2 rfl ?_
      refine AOps_skip 156 rfl rfl rfl ?_
      refine AOps_skip 157 rfl rfl rfl ?_
      refine AOps_skip 158 rfl rfl rfl ?_
      refine AOps_skip 159 rfl rfl rfl ?_
      refine kM 2 rfl ?_
      refine AOps_skip 162 rfl rfl rfl ?_
      refine AOps_skip 163 rfl rfl rfl ?_
      refine AOps_skip 164 rfl rfl rfl ?_
      refine AOps_skip 165 rfl rfl rfl ?_
      refine kN 1 rfl ?_
      cases h
      exact Weak_keep 0 hm [3, 4, 5, 6, 9, 10, 13, 14, 15, 166] [0] _ _ rfl rfl rfl
     have h := iteF hb33 h
     refine kM 1 rfl ?_
     refine AOps_q 140 _ rfl rfl rfl (QOp_lss _ _ _ _ _ _ _ rfl rfl rfl) ?_
     refine kM 2 rfl ?_
     refine AOps_case 142 _ rfl (fun hb34 => ?_) (fun hb34 => ?_)
     ·have h := iteT hb34 h
      refine AOps_skip 143 rfl rfl rfl ?_
      refine AOps_skip 144 rfl rfl rfl ?_
      refine AOps_skip 145 rfl rfl rfl ?_
      refine AOps_skip 146 rfl rfl rfl ?_
      refine AOps_skip 147 rfl rfl rfl ?_
      refine AOps_skip 148 rfl rfl rfl ?_
      refine AOps_skip 149 rfl rfl rfl ?_
      refine AOps_skip 150 rfl rfl rfl ?_
      refine AOps_skip 151 rfl rfl rfl ?_
      refine AOps_skip 152 rfl rfl rfl ?_
      refine AOps_skip 153 rfl rfl rfl ?_
      refine kM 2 rfl ?_
      refine AOps_skip 156 rfl rfl rfl ?_
      refine AOps_skip 157 rfl rfl rfl ?_
      refine AOps_skip 158 rfl rfl rfl ?_
      refine AOps_skip 159 rfl rfl rfl ?_
      refine kM 2 rfl ?_
      refine AOps_skip 162 rfl rfl rfl ?_
      refine AOps_skip 163 rfl rfl rfl ?_
      refine AOps_skip 164 rfl rfl rfl ?_
      refine AOps_skip 165 rfl rfl rfl ?_
      refine kN 1 rfl ?_
      cases h
      exact Weak_keep 0 hm [3, 4, 5, 6, 9, 10, 13, 14, 15, 166] [0] _ _ rfl rfl rfl
     have h := iteF hb34 h
     refine kM 1 rfl ?_
     refine AOps_q 144 _ rfl rfl rfl (QOp_len_sl _ _ _ _ _ _ _ (rowsD_length _) rfl rfl rfl rfl Try.underlying41 rfl) ?_
     refine AOps_q 145 _ rfl rfl rfl (QOp_gtr _ _ _ _ _ _ _ rfl rfl rfl) ?_
     refine kM 1 rfl ?_
     refine AOps_case 146 _ rfl (fun hb35 => ?_) (fun hb35 => ?_)
     ·have h := iteT hb35 h
      refine kM 1 rfl ?_
      refine AOps_q 148 _ rfl rfl rfl (QOp_lss _ _ _ _ _ _ _ rfl rfl rfl) ?_
      refine kM 1 rfl ?_
      refine AOps_case 149 _ rfl (fun hb36 => ?_) (fun hb36 => ?_)
      ·have h := iteT hb36 h
       refine AOps_skip 150 rfl rfl rfl ?_
       refine AOps_skip 151 rfl rfl rfl ?_
       refine kM 4 rfl ?_
       refine AOps_skip 156 rfl rfl rfl ?_
       refine AOps_skip 157 rfl rfl rfl ?_
       refine AOps_skip 158 rfl rfl rfl ?_
       refine AOps_skip 159 rfl rfl rfl ?_
       refine kM 2 rfl ?_
       refine AOps_skip 162 rfl rfl rfl ?_
       refine AOps_skip 163 rfl rfl rfl ?_
       refine AOps_skip 164 rfl rfl rfl ?_
       refine AOps_skip 165 rfl rfl rfl ?_
       refine kN 1 rfl ?_
       cases h
       exact Weak_keep 0 hm [3, 4, 5, 6, 9, 10, 13, 14, 15, 166] [0] _ _ rfl rfl rfl
      have h := iteF hb36 h
      refine kM 1 rfl ?_
      refine AOps_q 151 _ rfl rfl rfl (QOp_lss _ _ _ _ _ _ _ rfl rfl rfl) ?_
      refine kM 4 rfl ?_
      refine AOps_case 155 _ rfl (fun hb37 => ?_) (fun hb37 => ?_)
      ·have h := iteT hb37 h
       refine AOps_skip 156 rfl rfl rfl ?_
       refine AOps_skip 157 rfl rfl rfl ?_
       refine AOps_skip 158 rfl rfl rfl ?_
       refine AOps_skip 159 rfl rfl rfl ?_
       refine kM 2 rfl ?_
       refine AOps_skip 162 rfl rfl rfl ?_
       refine AOps_skip 163 rfl rfl rfl ?_
       refine AOps_skip 164 rfl rfl rfl ?_
       refine AOps_skip 165 rfl rfl rfl ?_
       refine kN 1 rfl ?_
       cases h
       exact Weak_keep 0 hm [3, 4, 5, 6, 9, 10, 13, 14, 15, 166] [0] _ _ rfl rfl rfl
      have h := iteF hb37 h
      refine kM 2 rfl ?_
      refine AOps_q 158 _ rfl rfl rfl (QOp_len_sl _ _ _ _ _ _ _ (rowsD_length _) rfl rfl rfl rfl Try.underlying41 rfl) ?_
      refine AOps_q 159 _ rfl rfl rfl (QOp_gtr _ _ _ _ _ _ _ rfl rfl rfl) ?_
      refine kM 2 rfl ?_
      refine AOps_case 161 _ rfl (fun hb38 => ?_) (fun hb38 => ?_)
      ·have h := iteT hb38 h
       refine AOps_skip 162 rfl rfl rfl ?_
       refine AOps_skip 163 rfl rfl rfl ?_
       refine AOps_skip 164 rfl rfl rfl ?_
       refine AOps_skip 165 rfl rfl rfl ?_
       refine kN 1 rfl ?_
       cases h
       exact Weak_keep 0 hm [3, 4, 5, 6, 9, 10, 13, 14, 15, 166] [0] _ _ rfl rfl rfl
      have h := iteF hb38 h
      refine kM 2 rfl ?_
      refine AOps_q 164 _ rfl rfl rfl (QOp_len_sl _ _ _ _ _ _ _ (rowsD_length _) rfl rfl rfl rfl Try.underlying41 rfl) ?_
      refine AOps_q 165 _ rfl rfl rfl (QOp_gtr _ _ _ _ _ _ _ rfl rfl rfl) ?_
      refine kN 1 rfl ?_
      cases h
      exact Weak_keep 0 hm [3, 4, 5, 6, 9, 10, 13, 14, 15, 166] [0] _ _ rfl rfl rfl
     have h := iteF hb35 h
     refine AOps_skip 147 rfl rfl rfl ?_
     refine AOps_skip 148 rfl rfl rfl ?_
     refine AOps_skip 149 rfl rfl rfl ?_
     refine AOps_skip 150 rfl rfl rfl ?_
     refine AOps_skip 151 rfl rfl rfl ?_
     refine AOps_skip 152 rfl rfl rfl ?_
     refine kM 5 rfl ?_
     refine AOps_q 158 _ rfl rfl rfl (QOp_len_sl _ _ _ _ _ _ _ (rowsD_length _) rfl rfl rfl rfl Try.underlying41 rfl) ?_
     refine AOps_q 159 _ rfl rfl rfl (QOp_gtr _ _ _ _ _ _ _ rfl rfl rfl) ?_
     refine kM 2 rfl ?_
     refine AOps_case 161 _ rfl (fun hb39 => ?_) (fun hb39 => ?_)
     ·have h := iteT hb39 h
      refine AOps_skip 162 rfl rfl rfl ?_
      refine AOps_skip 163 rfl rfl rfl ?_
      refine AOps_skip 164 rfl rfl rfl ?_
      refine AOps_skip 165 rfl rfl rfl ?_
      refine kN 1 rfl ?_
      cases h
      exact Weak_keep 0 hm [3, 4, 5, 6, 9, 10, 13, 14, 15, 166] [0] _ _ rfl rfl rfl
     have h := iteF hb39 h
     refine kM 2 rfl ?_
     refine AOps_q 164 _ rfl rfl rfl (QOp_len_sl _ _ _ _ _ _ _ (rowsD_length _) rfl rfl rfl rfl Try.underlying41 rfl) ?_
     refine AOps_q 165 _ rfl rfl rfl (QOp_gtr _ _ _ _ _ _ _ rfl rfl rfl) ?_
     refine kN 1 rfl ?_
     cases h
     exact Weak_keep 0 hm [3, 4, 5, 6, 9, 10, 13, 14, 15, 166] [0] _ _ rfl rfl rfl
    refine kI h rfl (fun h _ => ?_) (fun h _ => ?_)
    ·refine kR ?_
     refine kN 1 rfl ?_
     refine ACode_ret ?_
     obtain ⟨rr, hz80, h2⟩ := bindO h
     obtain rfl := Option.some.inj h2
     obtain rfl := Option.some.inj (show some rr = some _ from hks42)
     have h := hz80
     cases h
     have h := hks57
     cases h
     exact ⟨_, _, fun r a w h => ⟨r, h⟩, _, _, [], _, (.cons (ResV_tmp _ _ rfl) .nil), rfl, rfl, rfl, rfl, rfl⟩
    refine ACode_skip ?_
    cases h
    exact ⟨_, rfl, Weak_keep 0 hm [3, 4, 5, 6, 9, 10, 13, 14, 15] [0] _ _ rfl rfl rfl⟩
   refine kR ?_
   refine AOps_buildSlice 167 _ _ _ [] (rowsD ([] : List (List Int))) _ rfl rfl rfl rfl rfl (by decide) Try.underlying41 Try.sizeOf24 (zero_of Try.typeInfo24 rfl) rfl rfl (rowsD_one _) ?_
   refine kN 1 rfl ?_
   refine kB (fun s51 => [(3, .ptr 0 0), (4, .d (.sl none (intsD r3.2))), (5, bV r4.1), (6, iV r4.2), (9, .d (.sl none (intsD (r10.1.getD [])))), (10, iV r10.2), (14, iV r18.1), (15, iV r18.2.1), (26, .vec 1 0)]) (fun s51 => [.box (colD r3.1), .vec 0 (rowsD s51)]) h (fun s51 h => ?_) (fun s51 h => ?_)
   ·refine kR ?_
    refine kN 1 rfl ?_
    refine ACode_block ?_
    refine ACode_loopW (fun k0 E H => ∃ (x43 : Int) (x44 : List (List Int)), E = [(3, .ptr 0 0), (4, .d (.sl none (intsD r3.2))), (5, bV r4.1), (6, iV r4.2), (9, .d (.sl none (intsD (r10.1.getD [])))), (10, iV r10.2), (13, .d (.sl none (rowsD r17))), (14, iV r18.1), (15, iV r18.2.1), (26, .vec 1 0), (27, iV x43)] ∧ H = [.box (colD r3.1), .vec 0 (rowsD x44)] ∧ laws_FnLesserParts_l0 r17 k0 x43 x44 = some s51) k _ _ (Weak_keep 0 hm [3, 4, 5, 6, 9, 10, 13, 14, 15, 26, 27] [0, 1] _ _ rfl rfl rfl) ⟨_, _, rfl, rfl, h⟩ ?_
    clear h
    rintro k0 E H ⟨x43, x44, rfl, rfl, h⟩
    cases k0 with
    | zero => cases (show (none : Option (List (List Int))) = some _ from h)
    | succ k0 =>
     rw [laws_FnLesserParts_l0] at h
     refine ACode_seq ?_
     refine kR ?_
     refine kM 2 rfl ?_
     refine AOps_q 170 _ rfl rfl rfl (QOp_len_sl _ _ _ _ _ _ _ (rowsD_length _) rfl rfl rfl rfl Try.underlying41 rfl) ?_
     refine AOps_q 171 _ rfl rfl rfl (QOp_lss _ _ _ _ _ _ _ rfl rfl rfl) ?_
     refine AOps_nil ?_
     refine kI h rfl (fun h _ => ?_) (fun h _ => ?_)
     ·refine ACode_skip ?_
      refine ACode_seq ?_
      refine ACode_block ?_
      obtain ⟨hc46, h⟩ := guardO h
      obtain ⟨hc47, h⟩ := guardO h
      obtain ⟨hc48, h⟩ := guardO h
      obtain ⟨hc49, h⟩ := guardO h
      obtain ⟨hc50, h⟩ := guardO h
      refine ACode_reg [(3, .ptr 0 0), (4, .d (.sl none (intsD r3.2))), (5, bV r4.1), (6, iV r4.2), (9, .d (.sl none (intsD (r10.1.getD [])))), (10, iV r10.2), (13, .d (.sl none (rowsD r17))), (14, iV r18.1), (15, iV r18.2.1), (26, .vec 1 0), (27, iV x43)] [.box (colD r3.1), .vec 0 (rowsD (x44 ++ ([[((r17.getD x43.toNat []).getD (0 : Int).toNat 0), w64 (0 - ((r17.getD x43.toNat []).getD (1 : Int).toNat 0))]])))] ?_ ?_
      ·refine ACode_anyU mixed ?_
       refine AU_cut 4 #[true, true, true, true, true, true, true, true, true, true, true, true, true, true, false, false, false, false] [(3, .ptr 0 0), (4, .d (.sl none (intsD r3.2))), (5, bV r4.1), (6, iV r4.2), (9, .d (.sl none (intsD (r10.1.getD [])))), (10, iV r10.2), (13, .d (.sl none (rowsD r17))), (14, iV r18.1), (15, iV r18.2.1), (26, .vec 1 0), (27, iV x43), (174, .vec 1 0), (180, iV ((r17.getD x43.toNat []).getD (0 : Int).toNat 0)), (187, iV (w64 (0 - ((r17.getD x43.toNat []).getD (1 : Int).toNat 0))))] [.box (colD r3.1), .vec 0 (rowsD x44)] ?_ (fun hS0 => ?_)
       ·refine AU_one 14 (by kernel_rfl) rfl rfl ?_
        refine AOps_buildSlice 188 _ _ _ [_, _] (intsD ([((r17.getD x43.toNat []).getD (0 : Int).toNat 0), w64 (0 - ((r17.getD x43.toNat []).getD (1 : Int).toNat 0))])) _ rfl rfl rfl rfl rfl (by decide) Try.underlying24 Try.sizeOf2 (zero_of Try.typeInfo2 rfl) rfl rfl (intsD_one _) ?_
        refine AOps_nil ?_
        refine AU_one 15 (by kernel_rfl) rfl rfl ?_
        refine AOps_freeze 188 2 0 _ rfl rfl ?_
        refine AOps_buildSlice 189 _ _ _ [_] (rowsD ([[((r17.getD x43.toNat []).getD (0 : Int).toNat 0), w64 (0 - ((r17.getD x43.toNat []).getD (1 : Int).toNat 0))]])) _ rfl rfl rfl rfl rfl (by decide) Try.underlying41 Try.sizeOf24 (zero_of Try.typeInfo24 rfl) rfl rfl (rowsD_one _) ?_
        refine AOps_nil ?_
        refine AU_one 16 (by kernel_rfl) rfl rfl ?_
        refine AOps_append 190 _ _ _ _ _ _ _ _ _ _ _ _ rfl rfl rfl rfl rfl rfl rfl Try.underlying41 Try.type24 rfl rfl rfl (by decide) rfl rfl rfl rfl (rowsD_one _) (by rw [rowsD_length, rowsD_length]; exact hc50) ?_
        rw [rowsD_app]
        refine AOps_nil ?_
        refine AU_u 17 26 _ rfl (by kernel_rfl) rfl rfl rfl (UOp_assign _ _ rfl rfl) ?_
        refine AU_done (by kernel_rfl) ?_
        exact ⟨rfl, Weak_trans (Weak_keep 0 hm [3, 4, 5, 6, 9, 10, 13, 14, 15, 26, 27] [0, 1] _ _ rfl rfl rfl) (Weak_reset 0 hm hz [3, 4, 5, 6, 9, 10, 13, 14, 15, 26, 27] _ _ rfl rfl)⟩
       refine AU_cut 5 #[true, true, true, true, true, true, false, true, true, true, true, true, true, true, false, false, false, false] [(3, .ptr 0 0), (4, .d (.sl none (intsD r3.2))), (5, bV r4.1), (6, iV r4.2), (9, .d (.sl none (intsD (r10.1.getD [])))), (10, iV r10.2), (13, .d (.sl none (rowsD r17))), (14, iV r18.1), (15, iV r18.2.1), (26, .vec 1 0), (27, iV x43), (174, .vec 1 0), (179, .d (.pv (intsD (r17.getD x43.toNat [])) (0 : Int).toNat)), (187, iV (w64 (0 - ((r17.getD x43.toNat []).getD (1 : Int).toNat 0))))] [.box (colD r3.1), .vec 0 (rowsD x44)] ?_ (fun hS1 => ?_)
       ·refine AU_one 6 (by kernel_rfl) rfl rfl ?_
        refine AOps_q 180 _ rfl rfl rfl (QOp_load_pv _ _ _ _ _ rfl Try.isAgg2 rfl (intsD_get _ _ 0 (by omega))) ?_
        refine AOps_nil ?_
        exact AU_to (by kernel_rfl) hS0 (Weak_keep 0 hm [3, 4, 5, 6, 9, 10, 13, 14, 15, 26, 27, 174, 180, 187] [0, 1] _ _ rfl rfl rfl)
       refine AU_cut 6 #[true, true, true, true, true, true, true, true, true, true, true, true, false, false, false, false, false, false] [(3, .ptr 0 0), (4, .d (.sl none (intsD r3.2))), (5, bV r4.1), (6, iV r4.2), (9, .d (.sl none (intsD (r10.1.getD [])))), (10, iV r10.2), (13, .d (.sl none (rowsD r17))), (14, iV r18.1), (15, iV r18.2.1), (26, .vec 1 0), (27, iV x43), (174, .vec 1 0), (180, iV ((r17.getD x43.toNat []).getD (0 : Int).toNat 0)), (185, .d (.pv (intsD (r17.getD x43.toNat [])) (1 : Int).toNat))] [.box (colD r3.1), .vec 0 (rowsD x44)] ?_ (fun hS2 => ?_)
       ·refine AU_one 12 (by kernel_rfl) rfl rfl ?_
        refine AOps_q 186 _ rfl rfl rfl (QOp_load_pv _ _ _ _ _ rfl Try.isAgg2 rfl (intsD_get _ _ 0 (by omega))) ?_
        refine AOps_nil ?_
        refine AU_u 13 187 _ rfl (by kernel_rfl) rfl rfl rfl (UOp_neg _ _ _ _ rfl rfl) ?_
        exact AU_to (by kernel_rfl) hS0 (Weak_keep 0 hm [3, 4, 5, 6, 9, 10, 13, 14, 15, 26, 27, 174, 180, 187] [0, 1] _ _ rfl rfl rfl)
       refine AU_cut 7 #[true, true, true, true, true, true, false, true, true, true, true, true, false, false, false, false, false, false] [(3, .ptr 0 0), (4, .d (.sl none (intsD r3.2))), (5, bV r4.1), (6, iV r4.2), (9, .d (.sl none (intsD (r10.1.getD [])))), (10, iV r10.2), (13, .d (.sl none (rowsD r17))), (14, iV r18.1), (15, iV r18.2.1), (26, .vec 1 0), (27, iV x43), (174, .vec 1 0), (179, .d (.pv (intsD (r17.getD x43.toNat [])) (0 : Int).toNat)), (185, .d (.pv (intsD (r17.getD x43.toNat [])) (1 : Int).toNat))] [.box (colD r3.1), .vec 0 (rowsD x44)] ?_ (fun hS3 => ?_)
       ·refine AU_all [6, 12] (by kernel_rfl) rfl (allc ?_ (allc ?_ (fun _ h => nomatch h)))
        ·refine US_of 6 rfl rfl ?_
         refine AOps_q 180 _ rfl rfl rfl (QOp_load_pv _ _ _ _ _ rfl Try.isAgg2 rfl (intsD_get _ _ 0 (by omega))) ?_
         refine AOps_nil ?_
         exact AU_to (by kernel_rfl) hS2 (Weak_keep 0 hm [3, 4, 5, 6, 9, 10, 13, 14, 15, 26, 27, 174, 180, 185] [0, 1] _ _ rfl rfl rfl)
        refine US_of 12 rfl rfl ?_
        refine AOps_q 186 _ rfl rfl rfl (QOp_load_pv _ _ _ _ _ rfl Try.isAgg2 rfl (intsD_get _ _ 0 (by omega))) ?_
        refine AOps_nil ?_
        refine AU_u 13 187 _ rfl (by kernel_rfl) rfl rfl rfl (UOp_neg _ _ _ _ rfl rfl) ?_
        exact AU_to (by kernel_rfl) hS1 (Weak_keep 0 hm [3, 4, 5, 6, 9, 10, 13, 14, 15, 26, 27, 174, 179, 187] [0, 1] _ _ rfl rfl rfl)
       refine AU_u 0 174 _ rfl (by kernel_rfl) rfl rfl rfl (UOp_move _ _ rfl rfl) ?_
       refine AU_u 1 175 _ rfl (by kernel_rfl) rfl rfl rfl (UOp_move _ _ rfl rfl) ?_
       refine AU_u 2 176 _ rfl (by kernel_rfl) rfl rfl rfl (UOp_move _ _ rfl rfl) ?_
       refine AU_u 3 177 _ rfl (by kernel_rfl) rfl rfl rfl (UOp_indexAddr_sl _ _ _ _ _ _ _ _ rfl Try.underlying41 Try.sizeOf24 hc46.1 (by rw [rowsD_length]; exact hc46.2) rfl rfl) ?_
       refine AU_u 7 181 _ rfl (by kernel_rfl) rfl rfl rfl (UOp_move _ _ rfl rfl) ?_
       refine AU_u 8 182 _ rfl (by kernel_rfl) rfl rfl rfl (UOp_move _ _ rfl rfl) ?_
       refine AU_u 9 183 _ rfl (by kernel_rfl) rfl rfl rfl (UOp_indexAddr_sl _ _ _ _ _ _ _ _ rfl Try.underlying41 Try.sizeOf24 hc47.1 (by rw [rowsD_length]; exact hc47.2) rfl rfl) ?_
       refine AU_all [4, 10] (by kernel_rfl) rfl (allc ?_ (allc ?_ (fun _ h => nomatch h)))
       ·refine US_of 4 rfl rfl ?_
        refine AOps_q 178 _ rfl rfl rfl (QOp_load_pv _ _ _ _ _ rfl Try.isAgg24 rfl (rowsD_get _ _ [] (by omega))) ?_
        refine AOps_nil ?_
        refine AU_u 5 179 _ rfl (by kernel_rfl) rfl rfl rfl (UOp_indexAddr_sl _ _ _ _ _ _ _ _ rfl Try.underlying24 Try.sizeOf2 hc48.1 (by rw [intsD_length]; exact hc48.2) rfl rfl) ?_
        refine AU_all [6, 10] (by kernel_rfl) rfl (allc ?_ (allc ?_ (fun _ h => nomatch h)))
        ·refine US_of 6 rfl rfl ?_
         refine AOps_q 180 _ rfl rfl rfl (QOp_load_pv _ _ _ _ _ rfl Try.isAgg2 rfl (intsD_get _ _ 0 (by omega))) ?_
         refine AOps_nil ?_
         refine AU_one 10 (by kernel_rfl) rfl rfl ?_
         refine AOps_q 184 _ rfl rfl rfl (QOp_load_pv _ _ _ _ _ rfl Try.isAgg24 rfl (rowsD_get _ _ [] (by omega))) ?_
         refine AOps_nil ?_
         refine AU_u 11 185 _ rfl (by kernel_rfl) rfl rfl rfl (UOp_indexAddr_sl _ _ _ _ _ _ _ _ rfl Try.underlying24 Try.sizeOf2 hc49.1 (by rw [intsD_length]; exact hc49.2) rfl rfl) ?_
         exact AU_to (by kernel_rfl) hS2 (Weak_keep 0 hm [3, 4, 5, 6, 9, 10, 13, 14, 15, 26, 27, 174, 180, 185] [0, 1] _ _ rfl rfl rfl)
        refine US_of 10 rfl rfl ?_
        refine AOps_q 184 _ rfl rfl rfl (QOp_load_pv _ _ _ _ _ rfl Try.isAgg24 rfl (rowsD_get _ _ [] (by omega))) ?_
        refine AOps_nil ?_
        refine AU_u 11 185 _ rfl (by kernel_rfl) rfl rfl rfl (UOp_indexAddr_sl _ _ _ _ _ _ _ _ rfl Try.underlying24 Try.sizeOf2 hc49.1 (by rw [intsD_length]; exact hc49.2) rfl rfl) ?_
        exact AU_to (by kernel_rfl) hS3 (Weak_keep 0 hm [3, 4, 5, 6, 9, 10, 13, 14, 15, 26, 27, 174, 179, 185] [0, 1] _ _ rfl rfl rfl)
       refine US_of 10 rfl rfl ?_
       refine AOps_q 184 _ rfl rfl rfl (QOp_load_pv _ _ _ _ _ rfl Try.isAgg24 rfl (rowsD_get _ _ [] (by omega))) ?_
       refine AOps_nil ?_
       refine AU_u 11 185 _ rfl (by kernel_rfl) rfl rfl rfl (UOp_indexAddr_sl _ _ _ _ _ _ _ _ rfl Try.underlying24 Try.sizeOf2 hc49.1 (by rw [intsD_length]; exact hc49.2) rfl rfl) ?_
       refine AU_all [4, 12] (by kernel_rfl) rfl (allc ?_ (allc ?_ (fun _ h => nomatch h)))
       ·refine US_of 4 rfl rfl ?_
        refine AOps_q 178 _ rfl rfl rfl (QOp_load_pv _ _ _ _ _ rfl Try.isAgg24 rfl (rowsD_get _ _ [] (by omega))) ?_
        refine AOps_nil ?_
        refine AU_u 5 179 _ rfl (by kernel_rfl) rfl rfl rfl (UOp_indexAddr_sl _ _ _ _ _ _ _ _ rfl Try.underlying24 Try.sizeOf2 hc48.1 (by rw [intsD_length]; exact hc48.2) rfl rfl) ?_
        exact AU_to (by kernel_rfl) hS3 (Weak_keep 0 hm [3, 4, 5, 6, 9, 10, 13, 14, 15, 26, 27, 174, 179, 185] [0, 1] _ _ rfl rfl rfl)
       refine US_of 12 rfl rfl ?_
       refine AOps_q 186 _ rfl rfl rfl (QOp_load_pv _ _ _ _ _ rfl Try.isAgg2 rfl (intsD_get _ _ 0 (by omega))) ?_
       refine AOps_nil ?_
       refine AU_u 13 187 _ rfl (by kernel_rfl) rfl rfl rfl (UOp_neg _ _ _ _ rfl rfl) ?_
       refine AU_one 4 (by kernel_rfl) rfl rfl ?_
       refine AOps_q 178 _ rfl rfl rfl (QOp_load_pv _ _ _ _ _ rfl Try.isAgg24 rfl (rowsD_get _ _ [] (by omega))) ?_
       refine AOps_nil ?_
       refine AU_u 5 179 _ rfl (by kernel_rfl) rfl rfl rfl (UOp_indexAddr_sl _ _ _ _ _ _ _ _ rfl Try.underlying24 Try.sizeOf2 hc48.1 (by rw [intsD_length]; exact hc48.2) rfl rfl) ?_
       exact AU_to (by kernel_rfl) hS1 (Weak_keep 0 hm [3, 4, 5, 6, 9, 10, 13, 14, 15, 26, 27, 174, 179, 187] [0, 1] _ _ rfl rfl rfl)
      refine (ACode_region ?_)
      refine kM 1 rfl ?_
      refine AOps_q 173 _ rfl rfl rfl (QOp_add _ _ _ _ _ _ _ rfl rfl rfl) ?_
      refine kN 1 rfl ?_
      exact ⟨k0, _, _, Nat.lt_succ_self _, Weak_keep 0 hm [3, 4, 5, 6, 9, 10, 13, 14, 15, 26, 27] [0, 1] _ _ rfl rfl rfl, _, _, rfl, rfl, h⟩
     refine ACode_exit ?_
     cases h
     exact Weak_keep 0 hm [3, 4, 5, 6, 9, 10, 14, 15, 26] [0, 1] _ _ rfl rfl rfl
   refine kR ?_
   refine kM 1 rfl ?_
   obtain ⟨r52, hr52, h⟩ := bindO h
   refine AOps_callL [] 193 _ _ _ _ _ _ _ _ _ _ rfl rfl rfl rfl rfl rfl rfl Try.call27 rfl (nodupB_sound _ rfl) rfl rfl rfl (impl_CupsAndCaps_ac k s51 _ hr52) ?_
   rintro _ _ ⟨rfl, rfl⟩
   refine ⟨(fun _ h => nomatch h), (allc (flat_s _) (allc (flat_s _) (allc (flat_s _) (fun _ h => nomatch h)))), AOps_as 193 (v' := .tup [iV r52.1, iV r52.2.1, iV r52.2.2]) (H' := [.box (colD r3.1), .vec 0 (rowsD s51)]) rfl rfl ?_⟩
   refine kN 7 rfl ?_
   refine kL (fun s55 => [(3, .ptr 0 0), (4, .d (.sl none (intsD r3.2))), (5, bV r4.1), (6, iV r4.2), (9, .d (.sl none (intsD (r10.1.getD [])))), (10, iV r10.2), (208, bV s55)]) (fun s55 => [.box (colD r3.1)]) h (fun s55 h => ?_) (fun s55 h => ?_)
   ·refine (ACode_region ?_)
    refine kM 1 rfl ?_
    refine AOps_q 198 _ rfl rfl rfl (QOp_neq _ _ _ _ _ _ _ rfl rfl rfl) ?_
    refine kM 1 rfl ?_
    refine AOps_case 199 _ rfl (fun hb53 => ?_) (fun hb53 => ?_)
    ·have h := iteT hb53 h
     refine AOps_skip 200 rfl rfl rfl ?_
     refine AOps_skip 201 rfl rfl rfl ?_
     refine AOps_skip 202 rfl rfl rfl ?_
     refine kM 2 rfl ?_
     refine AOps_skip 205 rfl rfl rfl ?_
     refine AOps_skip 206 rfl rfl rfl ?_
     refine AOps_skip 207 rfl rfl rfl ?_
     refine kN 1 rfl ?_
     cases h
     exact Weak_keep 0 hm [3, 4, 5, 6, 9, 10, 208] [0] _ _ rfl rfl rfl
    have h := iteF hb53 h
    refine kM 2 rfl ?_
    refine AOps_q 202 _ rfl rfl rfl (QOp_neq _ _ _ _ _ _ _ rfl rfl rfl) ?_
    refine kM 2 rfl ?_
    refine AOps_case 204 _ rfl (fun hb54 => ?_) (fun hb54 => ?_)
    ·have h := iteT hb54 h
     refine AOps_skip 205 rfl rfl rfl ?_
     refine AOps_skip 206 rfl rfl rfl ?_
     refine AOps_skip 207 rfl rfl rfl ?_
     refine kN 1 rfl ?_
     cases h
     exact Weak_keep 0 hm [3, 4, 5, 6, 9, 10, 208] [0] _ _ rfl rfl rfl
    have h := iteF hb54 h
    refine kM 2 rfl ?_
    refine AOps_q 207 _ rfl rfl rfl (QOp_neq _ _ _ _ _ _ _ rfl rfl rfl) ?_
    refine kN 1 rfl ?_
    cases h
    exact Weak_keep 0 hm [3, 4, 5, 6, 9, 10, 208] [0] _ _ rfl rfl rfl
   refine kI h rfl (fun h _ => ?_) (fun h _ => ?_)
   ·refine kR ?_
    refine kN 1 rfl ?_
    refine ACode_ret ?_
    cases h
    have h := hks57
    cases h
    exact ⟨_, _, fun r a w h => ⟨r, h⟩, _, _, [], _, (.cons (ResV_tmp _ _ rfl) .nil), rfl, rfl, rfl, rfl, rfl⟩
   refine ACode_skip ?_
   cases h
   exact ⟨_, rfl, Weak_keep 0 hm [3, 4, 5, 6, 9, 10] [0] _ _ rfl rfl rfl⟩
  refine ACode_skip ?_
  cases h
  exact ⟨_, rfl, Weak_keep 0 hm [3, 4, 5, 6, 9, 10] [0] _ _ rfl rfl rfl⟩
 refine ACode_seq ?_
 refine kR ?_
 refine kM 1 rfl ?_
 refine AOps_q 210 _ rfl rfl rfl (QOp_neq _ _ _ _ _ _ _ rfl rfl rfl) ?_
 refine AOps_nil ?_
 refine kI h rfl (fun h _ => ?_) (fun h _ => ?_)
 ·refine kL (fun s60 => [(2, bV s60)]) (fun s60 => []) h (fun s60 h => ?_) (fun s60 h => ?_)
  ·refine (ACode_region ?_)
   refine kM 1 rfl ?_
   refine AOps_q 212 _ rfl rfl rfl (QOp_len_sl _ _ _ _ _ _ _ (intsD_length _) rfl rfl rfl rfl Try.underlying24 rfl) ?_
   refine AOps_q 213 _ rfl rfl rfl (QOp_eql _ _ _ _ _ _ _ rfl rfl rfl) ?_
   refine kM 1 rfl ?_
   refine AOps_case 214 _ rfl (fun hb59 => ?_) (fun hb59 => ?_)
   ·have h := iteT hb59 h
    refine kM 2 rfl ?_
    refine AOps_q 217 _ rfl rfl rfl (QOp_eql _ _ _ _ _ _ _ rfl rfl rfl) ?_
    refine kN 2 rfl ?_
    cases h
    exact Weak_keep 0 hm [2] [] _ _ rfl rfl rfl
   have h := iteF hb59 h
   refine AOps_skip 215 rfl rfl rfl ?_
   refine AOps_skip 216 rfl rfl rfl ?_
   refine AOps_skip 217 rfl rfl rfl ?_
   refine kN 2 rfl ?_
   cases h
   exact Weak_keep 0 hm [2] [] _ _ rfl rfl rfl
  refine ACode_ret ?_
  cases h
  exact ⟨_, _, fun r a w h => ⟨r, h⟩, _, _, [], _, (.cons (ResV_tmp _ _ rfl) .nil), rfl, rfl, rfl, rfl, rfl⟩
 refine ACode_skip ?_
 refine kR ?_
 refine AOps_q 220 _ rfl rfl rfl (QOp_loadN_ptr _ _ _ _ _ _ _ rfl Try.isAgg29 Try.sizeOf29 rfl rfl (colD_all _) (colD_length _)) ?_
 refine kM 1 rfl ?_
 obtain ⟨r61, hr61, h⟩ := bindO h
 refine kC [] 222 (.tup [bV r61.1, iV r61.2]) [.box (colD r3.1)] rfl Try.call21 rfl rfl (impl_IsLesserColoured_ac k r3.1 (r10.1.getD []) _ hr61) rfl ?_
 refine kN 5 rfl ?_
 refine kO (fun s68 => [(3, .ptr 0 0), (4, .d (.sl none (intsD r3.2))), (5, bV r4.1), (6, iV r4.2), (9, .d (.sl none (intsD (r10.1.getD []))))]) (fun s68 => [.box (colD r3.1)]) h (fun os68 h hks68 => ?_) (fun s68 h => ?_)
 ·refine kL (fun s66 => [(3, .ptr 0 0), (4, .d (.sl none (intsD r3.2))), (5, bV r4.1), (6, iV r4.2), (9, .d (.sl none (intsD (r10.1.getD [])))), (245, bV s66)]) (fun s66 => [.box (colD r3.1)]) h (fun s66 h => ?_) (fun s66 h => ?_)
  ·refine (ACode_region ?_)
   refine kM 1 rfl ?_
   refine AOps_q 226 _ rfl rfl rfl (QOp_neq _ _ _ _ _ _ _ rfl rfl rfl) ?_
   refine kM 1 rfl ?_
   refine AOps_case 227 _ rfl (fun hb62 => ?_) (fun hb62 => ?_)
   ·have h := iteT hb62 h
    refine AOps_skip 228 rfl rfl rfl ?_
    refine AOps_skip 229 rfl rfl rfl ?_
    refine kM 2 rfl ?_
    refine AOps_skip 232 rfl rfl rfl ?_
    refine AOps_skip 233 rfl rfl rfl ?_
    refine AOps_skip 234 rfl rfl rfl ?_
    refine kM 2 rfl ?_
    refine AOps_skip 237 rfl rfl rfl ?_
    refine AOps_skip 238 rfl rfl rfl ?_
    refine AOps_skip 239 rfl rfl rfl ?_
    refine AOps_skip 240 rfl rfl rfl ?_
    refine AOps_skip 241 rfl rfl rfl ?_
    refine AOps_skip 242 rfl rfl rfl ?_
    refine AOps_skip 243 rfl rfl rfl ?_
    refine AOps_skip 244 rfl rfl rfl ?_
    refine kN 1 rfl ?_
    cases h
    exact Weak_keep 0 hm [3, 4, 5, 6, 9, 245] [0] _ _ rfl rfl rfl
   have h := iteF hb62 h
   refine kM 1 rfl ?_
   refine AOps_q 229 _ rfl rfl rfl (QOp_not _ _ _ rfl rfl) ?_
   refine kM 2 rfl ?_
   refine AOps_case 231 _ rfl (fun hb63 => ?_) (fun hb63 => ?_)
   ·have h := iteT hb63 h
    refine AOps_skip 232 rfl rfl rfl ?_
    refine AOps_skip 233 rfl rfl rfl ?_
    refine AOps_skip 234 rfl rfl rfl ?_
    refine kM 2 rfl ?_
    refine AOps_skip 237 rfl rfl rfl ?_
    refine AOps_skip 238 rfl rfl rfl ?_
    refine AOps_skip 239 rfl rfl rfl ?_
    refine AOps_skip 240 rfl rfl rfl ?_
    refine AOps_skip 241 rfl rfl rfl ?_
    refine AOps_skip 242 rfl rfl rfl ?_
    refine AOps_skip 243 rfl rfl rfl ?_
    refine AOps_skip 244 rfl rfl rfl ?_
    refine kN 1 rfl ?_
    cases h
    exact Weak_keep 0 hm [3, 4, 5, 6, 9, 245] [0] _ _ rfl rfl rfl
   have h := iteF hb63 h
   refine kM 1 rfl ?_
   refine AOps_q 233 _ rfl rfl rfl (QOp_len_sl _ _ _ _ _ _ _ (intsD_length _) rfl rfl rfl rfl Try.underlying24 rfl) ?_
   refine AOps_q 234 _ rfl rfl rfl (QOp_lss _ _ _ _ _ _ _ rfl rfl rfl) ?_
   refine kM 2 rfl ?_
   refine AOps_case 236 _ rfl (fun hb64 => ?_) (fun hb64 => ?_)
   ·have h := iteT hb64 h
    refine AOps_skip 237 rfl rfl rfl ?_
    refine AOps_skip 238 rfl rfl rfl ?_
    refine AOps_skip 239 rfl rfl rfl ?_
    refine AOps_skip 240 rfl rfl rfl ?_
    refine AOps_skip 241 rfl rfl rfl ?_
    refine AOps_skip 242 rfl rfl rfl ?_
    refine AOps_skip 243 rfl rfl rfl ?_
    refine AOps_skip 244 rfl rfl rfl ?_
    refine kN 1 rfl ?_
    cases h
    exact Weak_keep 0 hm [3, 4, 5, 6, 9, 245] [0] _ _ rfl rfl rfl
   have h := iteF hb64 h
   refine AOps_q 237 _ rfl rfl rfl (QOp_fieldAddr_ptr _ _ _ _ _ _ 0 _ _ rfl Try.underlying29 rfl _ Try.sizeOf2 rfl rfl rfl rfl) ?_
   refine AOps_q 238 _ rfl rfl rfl (QOp_load_ptr _ _ _ _ _ _ rfl Try.isAgg2 rfl rfl rfl) ?_
   refine AOps_q 239 _ rfl rfl rfl (QOp_gtr _ _ _ _ _ _ _ rfl rfl rfl) ?_
   refine kM 1 rfl ?_
   refine AOps_case 240 _ rfl (fun hb65 => ?_) (fun hb65 => ?_)
   ·have h := iteT hb65 h
    refine kM 1 rfl ?_
    refine AOps_q 242 _ rfl rfl rfl (QOp_len_sl _ _ _ _ _ _ _ (intsD_length _) rfl rfl rfl rfl Try.underlying24 rfl) ?_
    refine AOps_q 243 _ rfl rfl rfl (QOp_lss _ _ _ _ _ _ _ rfl rfl rfl) ?_
    refine kN 2 rfl ?_
    cases h
    exact Weak_keep 0 hm [3, 4, 5, 6, 9, 245] [0] _ _ rfl rfl rfl
   have h := iteF hb65 h
   refine AOps_skip 241 rfl rfl rfl ?_
   refine AOps_skip 242 rfl rfl rfl ?_
   refine AOps_skip 243 rfl rfl rfl ?_
   refine kN 2 rfl ?_
   cases h
   exact Weak_keep 0 hm [3, 4, 5, 6, 9, 245] [0] _ _ rfl rfl rfl
  refine kI h rfl (fun h _ => ?_) (fun h _ => ?_)
  ·refine kR ?_
   refine kN 1 rfl ?_
   refine ACode_ret ?_
   cases h
   have h := hks68
   cases h
   exact ⟨_, _, fun r a w h => ⟨r, h⟩, _, _, [], _, (.cons (ResV_tmp _ _ rfl) .nil), rfl, rfl, rfl, rfl, rfl⟩
  refine ACode_skip ?_
  cases h
  exact ⟨_, rfl, Weak_keep 0 hm [3, 4, 5, 6, 9] [0] _ _ rfl rfl rfl⟩
 refine kO (fun s73 => [(3, .ptr 0 0), (9, .d (.sl none (intsD (r10.1.getD []))))]) (fun s73 => [.box (colD r3.1)]) h (fun os73 h hks73 => ?_) (fun s73 h => ?_)
 ·refine kL (fun s71 => [(3, .ptr 0 0), (9, .d (.sl none (intsD (r10.1.getD [])))), (257, bV s71)]) (fun s71 => [.box (colD r3.1)]) h (fun s71 h => ?_) (fun s71 h => ?_)
  ·refine (ACode_region ?_)
   refine kM 1 rfl ?_
   refine AOps_q 247 _ rfl rfl rfl (QOp_eql _ _ _ _ _ _ _ rfl rfl rfl) ?_
   refine kM 1 rfl ?_
   refine AOps_case 248 _ rfl (fun hb69 => ?_) (fun hb69 => ?_)
   ·have h := iteT hb69 h
    refine kM 3 rfl ?_
    refine AOps_case 251 _ rfl (fun hb70 => ?_) (fun hb70 => ?_)
    ·have h := iteT hb70 h
     refine kM 1 rfl ?_
     refine AOps_q 253 _ rfl rfl rfl (QOp_len_sl _ _ _ _ _ _ _ (intsD_length _) rfl rfl rfl rfl Try.underlying24 rfl) ?_
     refine kM 1 rfl ?_
     refine AOps_q 255 _ rfl rfl rfl (QOp_len_sl _ _ _ _ _ _ _ (intsD_length _) rfl rfl rfl rfl Try.underlying24 rfl) ?_
     refine AOps_q 256 _ rfl rfl rfl (QOp_gtr _ _ _ _ _ _ _ rfl rfl rfl) ?_
     refine kN 1 rfl ?_
     cases h
     exact Weak_keep 0 hm [3, 9, 257] [0] _ _ rfl rfl rfl
    have h := iteF hb70 h
    refine AOps_skip 252 rfl rfl rfl ?_
    refine AOps_skip 253 rfl rfl rfl ?_
    refine AOps_skip 254 rfl rfl rfl ?_
    refine AOps_skip 255 rfl rfl rfl ?_
    refine AOps_skip 256 rfl rfl rfl ?_
    refine kN 1 rfl ?_
    cases h
    exact Weak_keep 0 hm [3, 9, 257] [0] _ _ rfl rfl rfl
   have h := iteF hb69 h
   refine AOps_skip 249 rfl rfl rfl ?_
   refine kM 2 rfl ?_
   refine AOps_skip 252 rfl rfl rfl ?_
   refine AOps_skip 253 rfl rfl rfl ?_
   refine AOps_skip 254 rfl rfl rfl ?_
   refine AOps_skip 255 rfl rfl rfl ?_
   refine AOps_skip 256 rfl rfl rfl ?_
   refine kN 1 rfl ?_
   cases h
   exact Weak_keep 0 hm [3, 9, 257] [0] _ _ rfl rfl rfl
  refine kI h rfl (fun h _ => ?_) (fun h _ => ?_)
  ·refine kR ?_
   refine kN 1 rfl ?_
   refine ACode_ret ?_
   cases h
   have h := hks73
   cases h
   exact ⟨_, _, fun r a w h => ⟨r, h⟩, _, _, [], _, (.cons (ResV_tmp _ _ rfl) .nil), rfl, rfl, rfl, rfl, rfl⟩
  refine ACode_skip ?_
  cases h
  exact ⟨_, rfl, Weak_keep 0 hm [3, 9] [0] _ _ rfl rfl rfl⟩
 refine kR ?_
 refine AOps_q 259 _ rfl rfl rfl (QOp_loadN_ptr _ _ _ _ _ _ _ rfl Try.isAgg29 Try.sizeOf29 rfl rfl (colD_all _) (colD_length _)) ?_
 obtain ⟨r74, hr74, h⟩ := bindO h
 refine kC [] 260 (.tup [.d (.sl none (intsD (r74.1.getD []))), iV r74.2]) [.box (colD r3.1)] rfl Try.call32 rfl rfl (AC_frz rfl (frz_cons frz_nil) (impl_CliqueNumbers_ac k r3.1 _ hr74)) rfl ?_
 refine kN 5 rfl ?_
 refine kO (fun s79 => [(34, iV r74.2)]) (fun s79 => []) h (fun os79 h hks79 => ?_) (fun s79 h => ?_)
 ·refine kR ?_
  refine kN 1 rfl ?_
  refine ACode_block ?_
  refine ACode_loopW (fun k1 E H => ∃ (x75 : Int), E = [(9, .d (.sl none (intsD (r10.1.getD [])))), (33, .d (.sl none (intsD (r74.1.getD [])))), (34, iV r74.2), (35, iV x75)] ∧ H = [] ∧ laws_FnLesserParts_l1 r10 r74 k1 x75 = some os79) k _ _ (Weak_keep 0 hm [9, 33, 34, 35] [] _ _ rfl rfl rfl) ⟨_, rfl, rfl, h⟩ ?_
  clear h
  rintro k1 E H ⟨x75, rfl, rfl, h⟩
  cases k1 with
  | zero => cases (show (none : Option (Sum (Unit) (Bool))) = some _ from h)
  | succ k1 =>
   rw [laws_FnLesserParts_l1] at h
   refine ACode_seq ?_
   refine kR ?_
   refine kM 2 rfl ?_
   refine AOps_q 265 _ rfl rfl rfl (QOp_len_sl _ _ _ _ _ _ _ (intsD_length _) rfl rfl rfl rfl Try.underlying24 rfl) ?_
   refine AOps_q 266 _ rfl rfl rfl (QOp_lss _ _ _ _ _ _ _ rfl rfl rfl) ?_
   refine AOps_nil ?_
   refine kI h rfl (fun h _ => ?_) (fun h _ => ?_)
   ·refine ACode_skip ?_
    refine ACode_seq ?_
    refine ACode_block ?_
    refine kR ?_
    refine kM 2 rfl ?_
    obtain ⟨hc77, h⟩ := guardO h
    refine AOps_q 271 _ rfl rfl rfl (QOp_indexAddr_sl _ _ _ _ _ _ _ _ rfl Try.underlying24 Try.sizeOf2 hc77.1 (by rw [intsD_length]; exact hc77.2) rfl rfl) ?_
    refine AOps_q 272 _ rfl rfl rfl (QOp_load_pv _ _ _ _ _ rfl Try.isAgg2 rfl (intsD_get _ _ 0 (by omega))) ?_
    refine kM 1 rfl ?_
    refine AOps_q 274 _ rfl rfl rfl (QOp_len_sl _ _ _ _ _ _ _ (intsD_length _) rfl rfl rfl rfl Try.underlying24 rfl) ?_
    refine AOps_q 275 _ rfl rfl rfl (QOp_gtr _ _ _ _ _ _ _ rfl rfl rfl) ?_
    refine AOps_nil ?_
    refine kI h rfl (fun h _ => ?_) (fun h _ => ?_)
    ·refine kR ?_
     refine kN 1 rfl ?_
     refine ACode_ret ?_
     cases h
     have h := hks79
     cases h
     exact ⟨_, _, fun r a w h => ⟨r, h⟩, _, _, [], _, (.cons (ResV_tmp _ _ rfl) .nil), rfl, rfl, rfl, rfl, rfl⟩
    refine ACode_skip ?_
    refine (ACode_region ?_)
    refine kM 1 rfl ?_
    refine AOps_q 268 _ rfl rfl rfl (QOp_add _ _ _ _ _ _ _ rfl rfl rfl) ?_
    refine kN 1 rfl ?_
    exact ⟨k1, _, _, Nat.lt_succ_self _, Weak_keep 0 hm [9, 33, 34, 35] [] _ _ rfl rfl rfl, _, rfl, rfl, h⟩
   refine ACode_exit ?_
   cases h
   exact ⟨_, rfl, Weak_keep 0 hm [34] [] _ _ rfl rfl rfl⟩
 refine kR ?_
 refine kM 1 rfl ?_
 refine AOps_q 277 _ rfl rfl rfl (QOp_eql _ _ _ _ _ _ _ rfl rfl rfl) ?_
 refine kN 1 rfl ?_
 refine ACode_ret ?_
 cases h
 exact ⟨_, _, fun r a w h => ⟨r, h⟩, _, _, [], _, (.cons (ResV_tmp _ _ rfl) .nil), rfl, rfl, rfl, rfl, rfl⟩

end Go.Proofs.Ytfnbhfobgimnjaa
