/- Plain functions of the program and that the program computes them: printed by the own tool gen.py. No conditions. -/
import Derived.Test.YtldgmcghdohmeaaCloV
import Derived.Test.YtldgmcghdohmeaaAb18
import Derived.Test.YtldgmcghdohmeaaAb27
import Derived.Test.YtldgmcghdohmeaaGenC
set_option linter.unusedVariables false
set_option linter.unusedSimpArgs false
namespace Go.Proofs.Ytldgmcghdohmeaa
open Go Go.RowKit Ab

-- loop.example/g01362/laws.toByteA136
def laws_toByteA136_l0 (p0 : B136) : Nat → Int → B136 → Option (B136)
 | 0, _, _ => none
 | k0 + 1, x1, x2 => (if decide (x1 < 136) then (if 0 ≤ x1 ∧ x1 < 136 then (if 0 ≤ x1 ∧ x1 < 136 then laws_toByteA136_l0 p0 k0 (w64 (x1 + 1)) (x2.set x1.toNat (p0.get x1.toNat)) else none) else none) else some x2)
def laws_toByteA136 (k : Nat) (p0 : B136) : Option (B136) :=
 (laws_toByteA136_l0 p0 k 0 B136.zero : Option (B136)).bind fun s6 => some s6
set_option maxRecDepth 100000 in
theorem laws_toByteA136_ac (k : Nat) (p0 : B136) (r : B136) (h : laws_toByteA136 k p0 = some r) : AC Try.prog 15 [.d (.agg (byD p0))] [] (fun res H' => res = [.d (.agg (byD r))] ∧ H' = []) := by
 refine AC_of_body true Try.func15 rfl Try.ntmps15 (rvs := [.cell 2 22]) rfl rfl (fun G hG => ?_)
 have hm : G.H.length = 0 := by rw [hG]; rfl
 have hz : zeroG G.H = true := by rw [hG]; rfl
 unfold laws_toByteA136 at h
 refine kR ?_
 refine AOps_boxI 1 _ _ (.agg (byD p0)) (byD p0) rfl (byD_one _) rfl rfl rfl rfl rfl ?_
 refine AOps_alloc 2 _ _ (byD B136.zero) (zero_of Try.typeInfo22 rfl) (by rfl) rfl rfl rfl rfl ?_
 refine AOps_nil ?_
 refine kR ?_
 refine AOps_alloc 3 _ _ (byD B136.zero) (zero_of Try.typeInfo22 rfl) (by rfl) rfl rfl rfl rfl ?_
 refine AOps_nil ?_
 refine kB (fun s6 => [(2, .ptr 0 0), (3, .ptr 1 0)]) (fun s6 => [.box (byD B136.zero), .box (byD s6)]) h (fun s6 h => ?_) (fun s6 h => ?_)
 ·refine kR ?_
  refine kN 1 rfl ?_
  refine ACode_block ?_
  refine ACode_loopW (fun k0 E H => ∃ (x1 : Int) (x2 : B136), E = [(1, .d (.pv (byD p0) 0)), (2, .ptr 0 0), (3, .ptr 1 0), (4, iV x1)] ∧ H = [.box (byD B136.zero), .box (byD x2)] ∧ laws_toByteA136_l0 p0 k0 x1 x2 = some s6) k _ _ (Weak_keep 0 hm [1, 2, 3, 4] [0, 1] _ _ rfl rfl rfl) ⟨_, _, rfl, rfl, h⟩ ?_
  clear h
  rintro k0 E H ⟨x1, x2, rfl, rfl, h⟩
  cases k0 with
  | zero => cases (show (none : Option (B136)) = some _ from h)
  | succ k0 =>
   rw [laws_toByteA136_l0] at h
   refine ACode_seq ?_
   refine kR ?_
   refine kM 1 rfl ?_
   refine AOps_q 6 _ rfl rfl rfl (QOp_lss _ _ _ _ _ _ _ rfl rfl rfl) ?_
   refine AOps_nil ?_
   refine kI h rfl (fun h _ => ?_) (fun h _ => ?_)
   ·refine ACode_skip ?_
    refine ACode_seq ?_
    refine ACode_block ?_
    refine (ACode_region ?_)
    refine kM 2 rfl ?_
    obtain ⟨hc4, h⟩ := guardO h
    refine AOps_q 11 _ rfl rfl rfl (QOp_indexAddrA_pv _ _ _ _ _ _ _ _ _ rfl Try.underlying22 Try.sizeOf5 hc4.1 hc4.2 rfl rfl) ?_
    refine AOps_q 12 _ rfl rfl rfl (QOp_load_pv _ _ _ _ _ rfl Try.isAgg5 rfl (by rw [Nat.zero_add]; exact byD_get _ _ (by omega))) ?_
    obtain ⟨hc5, h⟩ := guardO h
    refine AOps_q 13 _ rfl rfl rfl (QOp_indexAddrA_ptr _ _ _ _ _ _ _ _ _ _ rfl Try.underlying22 Try.sizeOf5 hc5.1 hc5.2 rfl rfl rfl rfl) ?_
    refine AOps_store1 _ _ _ _ _ _ (byD (x2.set x1.toNat (p0.get x1.toNat))) _ rfl rfl rfl rfl rfl rfl rfl Try.sizeOf5 (by rw [byD_length]; omega) (byD_set0 x2 x1.toNat (p0.get x1.toNat)) ?_
    refine AOps_nil ?_
    refine (ACode_region ?_)
    refine kM 1 rfl ?_
    refine AOps_q 8 _ rfl rfl rfl (QOp_add _ _ _ _ _ _ _ rfl rfl rfl) ?_
    refine kN 1 rfl ?_
    exact ⟨k0, _, _, Nat.lt_succ_self _, Weak_keep 0 hm [1, 2, 3, 4] [0, 1] _ _ rfl rfl rfl, _, _, rfl, rfl, h⟩
   refine ACode_exit ?_
   cases h
   exact Weak_keep 0 hm [2, 3] [0, 1] _ _ rfl rfl rfl
 refine kR ?_
 refine AOps_q 14 _ rfl rfl rfl (QOp_loadN_ptr _ _ _ _ _ _ _ rfl Try.isAgg22 Try.sizeOf22 rfl rfl (byD_all _) (byD_length _)) ?_
 refine AOps_store _ _ _ _ _ _ (byD _) _ _ rfl rfl rfl rfl rfl rfl rfl (byD_one _) (by rw [byD_length]; exact Try.sizeOf22) (by rw [byD_length, byD_length]; decide) (byD_whole _ _) ?_
 refine AOps_nil ?_
 refine ACode_ret ?_
 cases h
 exact ⟨_, _, fun r a w h => ⟨r, h⟩, _, _, [], _, (.cons (ResV_agg _ _ _ _ _ _ Try.isAgg22 Try.sizeOf22 rfl rfl (byD_take _) (byD_length _)) .nil), rfl, rfl, rfl, rfl, rfl⟩

-- loop.example/g01362/laws.toColouring
def laws_toColouring (k : Nat) (p0 : Col) : Option (Col) :=
 (laws_toByteA136 k p0.e).bind fun r1 => some (⟨(⟨(⟨p0.p, Col.zero.k, Col.zero.e⟩ : Col).p, p0.k, (⟨p0.p, Col.zero.k, Col.zero.e⟩ : Col).e⟩ : Col).p, (⟨(⟨p0.p, Col.zero.k, Col.zero.e⟩ : Col).p, p0.k, (⟨p0.p, Col.zero.k, Col.zero.e⟩ : Col).e⟩ : Col).k, r1⟩ : Col)
set_option maxRecDepth 100000 in
theorem laws_toColouring_ac (k : Nat) (p0 : Col) (r : Col) (h : laws_toColouring k p0 = some r) : AC Try.prog 5 [.d (.agg (colD p0))] [] (fun res H' => res = [.d (.agg (colD r))] ∧ H' = []) := by
 refine AC_of_body true Try.func5 rfl Try.ntmps5 (rvs := [.cell 2 29]) rfl rfl (fun G hG => ?_)
 have hm : G.H.length = 0 := by rw [hG]; rfl
 have hz : zeroG G.H = true := by rw [hG]; rfl
 unfold laws_toColouring at h
 refine kR ?_
 refine AOps_boxI 1 _ _ (.agg (colD p0)) (colD p0) rfl (colD_one _) rfl rfl rfl rfl rfl ?_
 refine AOps_alloc 2 _ _ (colD Col.zero) (zero_of Try.typeInfo29 rfl) (by rfl) rfl rfl rfl rfl ?_
 refine AOps_nil ?_
 refine kR ?_
 refine AOps_alloc 3 _ _ (colD Col.zero) (zero_of Try.typeInfo29 rfl) (by rfl) rfl rfl rfl rfl ?_
 refine AOps_nil ?_
 refine kR ?_
 refine AOps_q 4 _ rfl rfl rfl (QOp_fieldAddr_pv _ _ _ _ _ 0 _ _ rfl Try.underlying24 rfl _ Try.sizeOf2 rfl rfl) ?_
 refine AOps_q 5 _ rfl rfl rfl (QOp_load_pv _ _ _ _ _ rfl Try.isAgg2 rfl rfl) ?_
 refine AOps_q 6 _ rfl rfl rfl (QOp_fieldAddr_ptr _ _ _ _ _ _ 0 _ _ rfl Try.underlying29 rfl _ Try.sizeOf2 rfl rfl rfl rfl) ?_
 refine AOps_store1 _ _ _ _ _ _ (colD (⟨p0.p, Col.zero.k, Col.zero.e⟩ : Col)) _ rfl rfl rfl rfl rfl rfl rfl Try.sizeOf2 (by rw [colD_length]; omega) (colD_set0 _ _) ?_
 refine AOps_nil ?_
 refine kR ?_
 refine AOps_q 7 _ rfl rfl rfl (QOp_fieldAddr_pv _ _ _ _ _ 1 _ _ rfl Try.underlying24 rfl _ Try.sizeOf2 rfl rfl) ?_
 refine AOps_q 8 _ rfl rfl rfl (QOp_load_pv _ _ _ _ _ rfl Try.isAgg2 rfl rfl) ?_
 refine AOps_q 9 _ rfl rfl rfl (QOp_fieldAddr_ptr _ _ _ _ _ _ 1 _ _ rfl Try.underlying29 rfl _ Try.sizeOf2 rfl rfl rfl rfl) ?_
 refine AOps_store1 _ _ _ _ _ _ (colD (⟨(⟨p0.p, Col.zero.k, Col.zero.e⟩ : Col).p, p0.k, (⟨p0.p, Col.zero.k, Col.zero.e⟩ : Col).e⟩ : Col)) _ rfl rfl rfl rfl rfl rfl rfl Try.sizeOf2 (by rw [colD_length]; omega) (colD_set1 _ _) ?_
 refine AOps_nil ?_
 refine kR ?_
 refine AOps_q 10 _ rfl rfl rfl (QOp_fieldAddr_pv _ _ _ _ _ 2 _ _ rfl Try.underlying24 rfl _ Try.sizeOf22 rfl rfl) ?_
 refine AOps_q 11 _ rfl rfl rfl (QOp_loadN_pv _ _ _ _ _ _ rfl Try.isAgg22 Try.sizeOf22 rfl (colD_edges _) (byD_length _)) ?_
 obtain ⟨r1, hr1, h⟩ := bindO h
 refine kC [] 12 (.d (.agg (byD r1))) [.box (colD Col.zero), .box (colD (⟨(⟨p0.p, Col.zero.k, Col.zero.e⟩ : Col).p, p0.k, (⟨p0.p, Col.zero.k, Col.zero.e⟩ : Col).e⟩ : Col))] rfl Try.call15 rfl rfl (laws_toByteA136_ac k p0.e _ hr1) rfl ?_
 refine AOps_q 13 _ rfl rfl rfl (QOp_fieldAddr_ptr _ _ _ _ _ _ 2 _ _ rfl Try.underlying29 rfl _ Try.sizeOf22 rfl rfl rfl rfl) ?_
 refine AOps_store _ _ _ _ _ _ (byD _) _ _ rfl rfl rfl rfl rfl rfl rfl (byD_one _) (by rw [byD_length]; exact Try.sizeOf22) (by rw [colD_length, byD_length]; decide) (colD_setA _ _) ?_
 refine AOps_nil ?_
 refine kR ?_
 refine AOps_q 14 _ rfl rfl rfl (QOp_loadN_ptr _ _ _ _ _ _ _ rfl Try.isAgg29 Try.sizeOf29 rfl rfl (colD_all _) (colD_length _)) ?_
 refine AOps_store _ _ _ _ _ _ (colD _) _ _ rfl rfl rfl rfl rfl rfl rfl (colD_one _) (by rw [colD_length]; exact Try.sizeOf29) (by rw [colD_length, colD_length]; decide) (colD_whole _ _) ?_
 refine AOps_nil ?_
 refine ACode_ret ?_
 cases h
 exact ⟨_, _, fun r a w h => ⟨r, h⟩, _, _, [], _, (.cons (ResV_agg _ _ _ _ _ _ Try.isAgg29 Try.sizeOf29 rfl rfl (colD_take _) (colD_length _)) .nil), rfl, rfl, rfl, rfl, rfl⟩

-- loop.example/g01362/laws.toInt64S
def laws_toInt64S_l0 (p0 : List Int) : Nat → Int → (List Int) → Option (List Int)
 | 0, _, _ => none
 | k0 + 1, x2, x3 => (if decide (x2 < (p0.length : Int)) then (if 0 ≤ x2 ∧ x2 < (p0.length : Int) then (if 0 ≤ x2 ∧ x2 < (x3.length : Int) then laws_toInt64S_l0 p0 k0 (w64 (x2 + 1)) (x3.set x2.toNat (p0.getD x2.toNat 0)) else none) else none) else some x3)
def laws_toInt64S (k : Nat) (p0 : List Int) : Option (List Int) :=
 (if 0 ≤ (p0.length : Int) ∧ (p0.length : Int) ≤ (p0.length : Int) ∧ (p0.length : Int) ≤ 1099511627776 then (laws_toInt64S_l0 p0 k 0 (List.replicate (p0.length : Int).toNat (0 : Int)) : Option (List Int)).bind fun s7 => some s7 else none)
set_option maxRecDepth 100000 in
theorem laws_toInt64S_ac (k : Nat) (p0 : List Int) (r : List Int) (h : laws_toInt64S k p0 = some r) : AC Try.prog 6 [.d (.sl none (intsD p0))] [] (fun res H' => res = [.vec 0 0] ∧ H' = [.vec 0 (intsD r)]) := by
 refine AC_of_body true Try.func6 rfl Try.ntmps6 (rvs := [.tmp 2]) rfl rfl (fun G hG => ?_)
 have hm : G.H.length = 0 := by rw [hG]; rfl
 have hz : zeroG G.H = true := by rw [hG]; rfl
 unfold laws_toInt64S at h
 refine kR ?_
 refine kN 1 rfl ?_
 refine kR ?_
 refine kM 1 rfl ?_
 refine AOps_q 6 _ rfl rfl rfl (QOp_len_sl _ _ _ _ _ _ _ (intsD_length _) rfl rfl rfl rfl Try.underlying25 rfl) ?_
 obtain ⟨hc1, h⟩ := guardO h
 refine AOps_makeSliceG intsD iD 0 (intsD_rep · _) 7 _ _ _ _ _ _ (p0.length : Int) (p0.length : Int) _ (.int .i64 0) rfl rfl rfl rfl rfl rfl Try.underlying25 Try.type2 rfl rfl (by decide) rfl rfl hc1.1 hc1.2.1 hc1.2.2 ?_
 refine kN 1 rfl ?_
 refine kB (fun s7 => [(3, .vec 0 0)]) (fun s7 => [.vec 0 (intsD s7)]) h (fun s7 h => ?_) (fun s7 h => ?_)
 ·refine kR ?_
  refine kN 1 rfl ?_
  refine ACode_block ?_
  refine ACode_loopW (fun k0 E H => ∃ (x2 : Int) (x3 : List Int), E = [(0, .d (.sl none (intsD p0))), (3, .vec 0 0), (4, iV x2)] ∧ H = [.vec 0 (intsD x3)] ∧ laws_toInt64S_l0 p0 k0 x2 x3 = some s7) k _ _ (Weak_keep 0 hm [0, 3, 4] [0] _ _ rfl rfl rfl) ⟨_, _, rfl, rfl, h⟩ ?_
  clear h
  rintro k0 E H ⟨x2, x3, rfl, rfl, h⟩
  cases k0 with
  | zero => cases (show (none : Option (List Int)) = some _ from h)
  | succ k0 =>
   rw [laws_toInt64S_l0] at h
   refine ACode_seq ?_
   refine kR ?_
   refine kM 2 rfl ?_
   refine AOps_q 10 _ rfl rfl rfl (QOp_len_sl _ _ _ _ _ _ _ (intsD_length _) rfl rfl rfl rfl Try.underlying25 rfl) ?_
   refine AOps_q 11 _ rfl rfl rfl (QOp_lss _ _ _ _ _ _ _ rfl rfl rfl) ?_
   refine AOps_nil ?_
   refine kI h rfl (fun h _ => ?_) (fun h _ => ?_)
   ·refine ACode_skip ?_
    refine ACode_seq ?_
    refine ACode_block ?_
    refine (ACode_region ?_)
    refine kM 4 rfl ?_
    obtain ⟨hc5, h⟩ := guardO h
    refine AOps_q 18 _ rfl rfl rfl (QOp_indexAddr_sl _ _ _ _ _ _ _ _ rfl Try.underlying25 Try.sizeOf2 hc5.1 (by rw [intsD_length]; exact hc5.2) rfl rfl) ?_
    refine AOps_q 19 _ rfl rfl rfl (QOp_load_pv _ _ _ _ _ rfl Try.isAgg2 rfl (intsD_get _ _ 0 (by omega))) ?_
    obtain ⟨hc6, h⟩ := guardO h
    refine AOps_q 20 _ rfl rfl rfl (QOp_indexAddr_vec _ _ _ _ _ _ _ _ _ rfl Try.underlying25 Try.sizeOf2 hc6.1 (by rw [intsD_length]; exact hc6.2) rfl rfl rfl) ?_
    refine AOps_store_eptr _ _ _ _ _ _ (intsD x3) _ rfl rfl rfl rfl rfl rfl rfl Try.sizeOf2 (by rw [intsD_length]; omega) ?_
    rw [intsD_set]
    refine AOps_nil ?_
    refine (ACode_region ?_)
    refine kM 1 rfl ?_
    refine AOps_q 13 _ rfl rfl rfl (QOp_add _ _ _ _ _ _ _ rfl rfl rfl) ?_
    refine kN 1 rfl ?_
    exact ⟨k0, _, _, Nat.lt_succ_self _, Weak_keep 0 hm [0, 3, 4] [0] _ _ rfl rfl rfl, _, _, rfl, rfl, h⟩
   refine ACode_exit ?_
   cases h
   exact Weak_keep 0 hm [3] [0] _ _ rfl rfl rfl
 refine kR ?_
 refine kN 2 rfl ?_
 refine ACode_ret ?_
 cases h
 exact ⟨_, _, Weak_reset 0 hm hz [2] _ _ rfl rfl, _, _, [0], _, (.cons (ResV_tmp _ _ rfl) .nil), rfl, rfl, rfl, rfl, rfl⟩

-- loop.example/g01362/spec.l01In
def spec_l01In (p0 : Int) (p1 : Int) (p2 : Int) : Bool :=
 letO (if decide (p1 ≤ p0) then decide (p0 ≤ p2) else false) fun (s2 : Bool) => s2
set_option maxRecDepth 100000 in
theorem spec_l01In_ac (p0 : Int) (p1 : Int) (p2 : Int) : AC Try.prog 48 [iV p0, iV p1, iV p2] [] (fun res H' => res = [bV (spec_l01In p0 p1 p2)] ∧ H' = []) := by
 refine AC_of_body true Try.func48 rfl Try.ntmps48 (rvs := [.tmp 6]) rfl rfl (fun G hG => ?_)
 have hm : G.H.length = 0 := by rw [hG]; rfl
 have hz : zeroG G.H = true := by rw [hG]; rfl
 obtain ⟨r, h⟩ : ∃ r, spec_l01In p0 p1 p2 = r := ⟨_, rfl⟩
 rw [h]
 unfold spec_l01In at h
 refine kR ?_
 refine kN 1 rfl ?_
 refine kL (fun s2 => [(6, bV s2)]) (fun s2 => []) h (fun s2 h => ?_) (fun s2 h => ?_)
 ·refine (ACode_region ?_)
  refine kM 2 rfl ?_
  refine AOps_q 9 _ rfl rfl rfl (QOp_geq _ _ _ _ _ _ _ rfl rfl rfl) ?_
  refine kM 1 rfl ?_
  refine AOps_case 10 _ rfl (fun hb1 => ?_) (fun hb1 => ?_)
  ·have h := iteT hb1 h
   refine kM 2 rfl ?_
   refine AOps_q 13 _ rfl rfl rfl (QOp_leq _ _ _ _ _ _ _ rfl rfl rfl) ?_
   refine kN 2 rfl ?_
   cases h
   exact Weak_keep 0 hm [6] [] _ _ rfl rfl rfl
  have h := iteF hb1 h
  refine AOps_skip 11 rfl rfl rfl ?_
  refine AOps_skip 12 rfl rfl rfl ?_
  refine AOps_skip 13 rfl rfl rfl ?_
  refine kN 2 rfl ?_
  cases h
  exact Weak_keep 0 hm [6] [] _ _ rfl rfl rfl
 refine ACode_ret ?_
 cases h
 exact ⟨_, _, fun r a w h => ⟨r, h⟩, _, _, [], _, (.cons (ResV_tmp _ _ rfl) .nil), rfl, rfl, rfl, rfl, rfl⟩

-- loop.example/g01362/spec.l01Is
def spec_l01Is_l0 (k : Nat) (p0 : Col) : Nat → Int → Option (Sum (Unit) (Bool))
 | 0, _ => none
 | k0 + 1, x7 => (if decide (x7 < 136) then (((if decide (x7 < w64 ((w64 (p0.p * (w64 (p0.p - 1)))).tdiv 2)) then (if 0 ≤ x7 ∧ x7 < 136 then (if decide (p0.k ≤ ((p0.get x7.toNat).toNat : Int)) then some true else (if decide (w64 ((w64 (p0.p * (w64 (p0.p - 1)))).tdiv 2) ≤ x7) then (if 0 ≤ x7 ∧ x7 < 136 then some (!decide (((p0.get x7.toNat).toNat : Int) = 0)) else none) else some false)) else none) else (if decide (w64 ((w64 (p0.p * (w64 (p0.p - 1)))).tdiv 2) ≤ x7) then (if 0 ≤ x7 ∧ x7 < 136 then some (!decide (((p0.get x7.toNat).toNat : Int) = 0)) else none) else some false)) : Option (Bool)).bind fun s16 => (if s16 then (some (.inr false)).bind fun rr => some (.inr rr) else some (.inl ())) : Option (Sum (Unit) (Sum (Unit) (Bool)))).bind fun os18 => (match os18 with | .inl s18 => spec_l01Is_l0 k p0 k0 (w64 (x7 + 1)) | .inr rr => some rr) else some (.inl ()))
def spec_l01Is (k : Nat) (p0 : Col) : Option (Bool) :=
 (letO (if !(spec_l01In p0.p 1 17) then true else !(spec_l01In p0.k 1 4)) fun (s4 : Bool) => (if s4 then some (.inr false) else some (.inl ())) : Option (Sum (Unit) (Bool))).bind fun os6 => (match os6 with | .inl s6 => (spec_l01Is_l0 k p0 k 0 : Option (Sum (Unit) (Bool))).bind fun os19 => (match os19 with | .inl s19 => some true | .inr rr => some rr) | .inr rr => some rr)
set_option maxRecDepth 100000 in
theorem spec_l01Is_ac (k : Nat) (p0 : Col) (r : Bool) (h : spec_l01Is k p0 = some r) : AC Try.prog 39 [.d (.agg (colD p0))] [] (fun res H' => res = [bV r] ∧ H' = []) := by
 refine AC_of_body true Try.func39 rfl Try.ntmps39 (rvs := [.tmp 2]) rfl rfl (fun G hG => ?_)
 have hm : G.H.length = 0 := by rw [hG]; rfl
 have hz : zeroG G.H = true := by rw [hG]; rfl
 unfold spec_l01Is at h
 refine kR ?_
 refine AOps_boxI 1 _ _ (.agg (colD p0)) (colD p0) rfl (colD_one _) rfl rfl rfl rfl rfl ?_
 refine kN 1 rfl ?_
 refine kO (fun s6 => [(1, .d (.pv (colD p0) 0))]) (fun s6 => []) h (fun os6 h hks6 => ?_) (fun s6 h => ?_)
 ·refine kL (fun s4 => [(1, .d (.pv (colD p0) 0)), (14, bV s4)]) (fun s4 => []) h (fun s4 h => ?_) (fun s4 h => ?_)
  ·refine (ACode_region ?_)
   refine AOps_q 5 _ rfl rfl rfl (QOp_fieldAddr_pv _ _ _ _ _ 0 _ _ rfl Try.underlying29 rfl _ Try.sizeOf2 rfl rfl) ?_
   refine AOps_q 6 _ rfl rfl rfl (QOp_load_pv _ _ _ _ _ rfl Try.isAgg2 rfl rfl) ?_
   refine kC [] 7 (bV (spec_l01In p0.p 1 17)) [] rfl Try.call48 rfl rfl (spec_l01In_ac p0.p 1 17) rfl ?_
   refine AOps_q 8 _ rfl rfl rfl (QOp_not _ _ _ rfl rfl) ?_
   refine kM 1 rfl ?_
   refine AOps_case 9 _ rfl (fun hb2 => ?_) (fun hb2 => ?_)
   ·have h := iteT hb2 h
    refine AOps_skip 10 rfl rfl rfl ?_
    refine AOps_skip 11 rfl rfl rfl ?_
    refine AOps_skip 12 rfl rfl rfl ?_
    refine AOps_skip 13 rfl rfl rfl ?_
    refine kN 1 rfl ?_
    cases h
    exact Weak_keep 0 hm [1, 14] [] _ _ rfl rfl rfl
   have h := iteF hb2 h
   refine AOps_q 10 _ rfl rfl rfl (QOp_fieldAddr_pv _ _ _ _ _ 1 _ _ rfl Try.underlying29 rfl _ Try.sizeOf2 rfl rfl) ?_
   refine AOps_q 11 _ rfl rfl rfl (QOp_load_pv _ _ _ _ _ rfl Try.isAgg2 rfl rfl) ?_
   refine kC [] 12 (bV (spec_l01In p0.k 1 4)) [] rfl Try.call48 rfl rfl (spec_l01In_ac p0.k 1 4) rfl ?_
   refine AOps_q 13 _ rfl rfl rfl (QOp_not _ _ _ rfl rfl) ?_
   refine kN 1 rfl ?_
   cases h
   exact Weak_keep 0 hm [1, 14] [] _ _ rfl rfl rfl
  refine kI h rfl (fun h _ => ?_) (fun h _ => ?_)
  ·refine kR ?_
   refine kN 1 rfl ?_
   refine ACode_ret ?_
   cases h
   have h := hks6
   cases h
   exact ⟨_, _, fun r a w h => ⟨r, h⟩, _, _, [], _, (.cons (ResV_tmp _ _ rfl) .nil), rfl, rfl, rfl, rfl, rfl⟩
  refine ACode_skip ?_
  cases h
  exact ⟨_, rfl, Weak_keep 0 hm [1] [] _ _ rfl rfl rfl⟩
 refine kR ?_
 refine AOps_q 15 _ rfl rfl rfl (QOp_fieldAddr_pv _ _ _ _ _ 0 _ _ rfl Try.underlying29 rfl _ Try.sizeOf2 rfl rfl) ?_
 refine AOps_q 16 _ rfl rfl rfl (QOp_load_pv _ _ _ _ _ rfl Try.isAgg2 rfl rfl) ?_
 refine AOps_q 17 _ rfl rfl rfl (QOp_fieldAddr_pv _ _ _ _ _ 0 _ _ rfl Try.underlying29 rfl _ Try.sizeOf2 rfl rfl) ?_
 refine AOps_q 18 _ rfl rfl rfl (QOp_load_pv _ _ _ _ _ rfl Try.isAgg2 rfl rfl) ?_
 refine AOps_q 19 _ rfl rfl rfl (QOp_sub _ _ _ _ _ _ _ rfl rfl rfl) ?_
 refine AOps_q 20 _ rfl rfl rfl (QOp_mul _ _ _ _ _ _ _ rfl rfl rfl) ?_
 refine AOps_q 21 _ rfl rfl rfl (QOp_quo _ _ _ _ _ _ _ (by decide) rfl rfl rfl) ?_
 refine kN 1 rfl ?_
 refine kO (fun s19 => []) (fun s19 => []) h (fun os19 h hks19 => ?_) (fun s19 h => ?_)
 ·refine kR ?_
  refine kN 1 rfl ?_
  refine ACode_block ?_
  refine ACode_loopW (fun k0 E H => ∃ (x7 : Int), E = [(1, .d (.pv (colD p0) 0)), (3, iV (w64 ((w64 (p0.p * (w64 (p0.p - 1)))).tdiv 2))), (4, iV x7)] ∧ H = [] ∧ spec_l01Is_l0 k p0 k0 x7 = some os19) k _ _ (Weak_keep 0 hm [1, 3, 4] [] _ _ rfl rfl rfl) ⟨_, rfl, rfl, h⟩ ?_
  clear h
  rintro k0 E H ⟨x7, rfl, rfl, h⟩
  cases k0 with
  | zero => cases (show (none : Option (Sum (Unit) (Bool))) = some _ from h)
  | succ k0 =>
   rw [spec_l01Is_l0] at h
   refine ACode_seq ?_
   refine kR ?_
   refine kM 1 rfl ?_
   refine AOps_q 23 _ rfl rfl rfl (QOp_lss _ _ _ _ _ _ _ rfl rfl rfl) ?_
   refine AOps_nil ?_
   refine kI h rfl (fun h _ => ?_) (fun h _ => ?_)
   ·refine ACode_skip ?_
    refine kO (fun s18 => [(1, .d (.pv (colD p0) 0)), (3, iV (w64 ((w64 (p0.p * (w64 (p0.p - 1)))).tdiv 2))), (4, iV x7)]) (fun s18 => []) h (fun os18 h hks18 => ?_) (fun s18 h => ?_)
    ·refine ACode_block ?_
     refine kB (fun s16 => [(1, .d (.pv (colD p0) 0)), (3, iV (w64 ((w64 (p0.p * (w64 (p0.p - 1)))).tdiv 2))), (4, iV x7), (50, bV s16)]) (fun s16 => []) h (fun s16 h => ?_) (fun s16 h => ?_)
     ·refine (ACode_quiet mixed (by kernel_rfl) ?_)
      refine kQ 2 rfl ?_
      refine AQ_q 28 _ rfl rfl rfl (QOp_lss _ _ _ _ _ _ _ rfl rfl rfl) ?_
      refine kQ 1 rfl ?_
      refine AQ_case 29 _ rfl (fun hb9 => ?_) (fun hb9 => ?_)
      ·have h := iteT hb9 h
       refine kQ 1 rfl ?_
       refine AQ_q 31 _ rfl rfl rfl (QOp_fieldAddr_pv _ _ _ _ _ 2 _ _ rfl Try.underlying29 rfl _ Try.sizeOf22 rfl rfl) ?_
       obtain ⟨hc10, h⟩ := guardO h
       refine AQ_q 32 _ rfl rfl rfl (QOp_indexAddrA_pv _ _ _ _ _ _ _ _ _ rfl Try.underlying22 Try.sizeOf5 hc10.1 hc10.2 rfl rfl) ?_
       refine AQ_q 33 _ rfl rfl rfl (QOp_load_pv _ _ _ _ _ rfl Try.isAgg5 rfl (colD_get _ _ (by omega))) ?_
       refine AQ_q 34 _ rfl rfl rfl (QOp_fromByte _ _ _ _ _ rfl rfl Try.underlying2 wrap_i64_byte rfl) ?_
       refine AQ_q 35 _ rfl rfl rfl (QOp_fieldAddr_pv _ _ _ _ _ 1 _ _ rfl Try.underlying29 rfl _ Try.sizeOf2 rfl rfl) ?_
       refine AQ_q 36 _ rfl rfl rfl (QOp_load_pv _ _ _ _ _ rfl Try.isAgg2 rfl rfl) ?_
       refine AQ_q 37 _ rfl rfl rfl (QOp_geq _ _ _ _ _ _ _ rfl rfl rfl) ?_
       refine kQ 2 rfl ?_
       refine AQ_case 39 _ rfl (fun hb11 => ?_) (fun hb11 => ?_)
       ·have h := iteT hb11 h
        refine AQ_skip 40 rfl rfl rfl ?_
        refine AQ_skip 41 rfl rfl rfl ?_
        refine AQ_skip 42 rfl rfl rfl ?_
        refine AQ_skip 43 rfl rfl rfl ?_
        refine AQ_skip 44 rfl rfl rfl ?_
        refine AQ_skip 45 rfl rfl rfl ?_
        refine AQ_skip 46 rfl rfl rfl ?_
        refine AQ_skip 47 rfl rfl rfl ?_
        refine AQ_skip 48 rfl rfl rfl ?_
        refine AQ_skip 49 rfl rfl rfl ?_
        refine kQ 1 rfl ?_
        refine AQ_nil ?_
        cases h
        exact Weak_keep 0 hm [1, 3, 4, 50] [] _ _ rfl rfl rfl
       have h := iteF hb11 h
       refine kQ 2 rfl ?_
       refine AQ_q 42 _ rfl rfl rfl (QOp_geq _ _ _ _ _ _ _ rfl rfl rfl) ?_
       refine kQ 1 rfl ?_
       refine AQ_case 43 _ rfl (fun hb12 => ?_) (fun hb12 => ?_)
       ·have h := iteT hb12 h
        refine kQ 1 rfl ?_
        refine AQ_q 45 _ rfl rfl rfl (QOp_fieldAddr_pv _ _ _ _ _ 2 _ _ rfl Try.underlying29 rfl _ Try.sizeOf22 rfl rfl) ?_
        obtain ⟨hc13, h⟩ := guardO h
        refine AQ_q 46 _ rfl rfl rfl (QOp_indexAddrA_pv _ _ _ _ _ _ _ _ _ rfl Try.underlying22 Try.sizeOf5 hc13.1 hc13.2 rfl rfl) ?_
        refine AQ_q 47 _ rfl rfl rfl (QOp_load_pv _ _ _ _ _ rfl Try.isAgg5 rfl (colD_get _ _ (by omega))) ?_
        refine AQ_q 48 _ rfl rfl rfl (QOp_neq _ _ _ _ _ _ _ rfl rfl rfl) ?_
        refine kQ 2 rfl ?_
        refine AQ_nil ?_
        cases h
        exact Weak_keep 0 hm [1, 3, 4, 50] [] _ _ rfl rfl rfl
       have h := iteF hb12 h
       refine AQ_skip 44 rfl rfl rfl ?_
       refine AQ_skip 45 rfl rfl rfl ?_
       refine AQ_skip 46 rfl rfl rfl ?_
       refine AQ_skip 47 rfl rfl rfl ?_
       refine AQ_skip 48 rfl rfl rfl ?_
       refine kQ 2 rfl ?_
       refine AQ_nil ?_
       cases h
       exact Weak_keep 0 hm [1, 3, 4, 50] [] _ _ rfl rfl rfl
      have h := iteF hb9 h
      refine AQ_skip 30 rfl rfl rfl ?_
      refine AQ_skip 31 rfl rfl rfl ?_
      refine AQ_skip 32 rfl rfl rfl ?_
      refine AQ_skip 33 rfl rfl rfl ?_
      refine AQ_skip 34 rfl rfl rfl ?_
      refine AQ_skip 35 rfl rfl rfl ?_
      refine AQ_skip 36 rfl rfl rfl ?_
      refine AQ_skip 37 rfl rfl rfl ?_
      refine kQ 4 rfl ?_
      refine AQ_q 42 _ rfl rfl rfl (QOp_geq _ _ _ _ _ _ _ rfl rfl rfl) ?_
      refine kQ 1 rfl ?_
      refine AQ_case 43 _ rfl (fun hb14 => ?_) (fun hb14 => ?_)
      ·have h := iteT hb14 h
       refine kQ 1 rfl ?_
       refine AQ_q 45 _ rfl rfl rfl (QOp_fieldAddr_pv _ _ _ _ _ 2 _ _ rfl Try.underlying29 rfl _ Try.sizeOf22 rfl rfl) ?_
       obtain ⟨hc15, h⟩ := guardO h
       refine AQ_q 46 _ rfl rfl rfl (QOp_indexAddrA_pv _ _ _ _ _ _ _ _ _ rfl Try.underlying22 Try.sizeOf5 hc15.1 hc15.2 rfl rfl) ?_
       refine AQ_q 47 _ rfl rfl rfl (QOp_load_pv _ _ _ _ _ rfl Try.isAgg5 rfl (colD_get _ _ (by omega))) ?_
       refine AQ_q 48 _ rfl rfl rfl (QOp_neq _ _ _ _ _ _ _ rfl rfl rfl) ?_
       refine kQ 2 rfl ?_
       refine AQ_nil ?_
       cases h
       exact Weak_keep 0 hm [1, 3, 4, 50] [] _ _ rfl rfl rfl
      have h := iteF hb14 h
      refine AQ_skip 44 rfl rfl rfl ?_
      refine AQ_skip 45 rfl rfl rfl ?_
      refine AQ_skip 46 rfl rfl rfl ?_
      refine AQ_skip 47 rfl rfl rfl ?_
      refine AQ_skip 48 rfl rfl rfl ?_
      refine kQ 2 rfl ?_
      refine AQ_nil ?_
      cases h
      exact Weak_keep 0 hm [1, 3, 4, 50] [] _ _ rfl rfl rfl
     refine kI h rfl (fun h _ => ?_) (fun h _ => ?_)
     ·refine kR ?_
      refine kN 1 rfl ?_
      refine ACode_ret ?_
      obtain ⟨rr, hz20, h2⟩ := bindO h
      obtain rfl := Option.some.inj h2
      obtain rfl := Option.some.inj (show some rr = some _ from hks18)
      have h := hz20
      cases h
      have h := hks19
      cases h
      exact ⟨_, _, fun r a w h => ⟨r, h⟩, _, _, [], _, (.cons (ResV_tmp _ _ rfl) .nil), rfl, rfl, rfl, rfl, rfl⟩
     refine ACode_skip ?_
     cases h
     exact ⟨_, rfl, Weak_keep 0 hm [1, 3, 4] [] _ _ rfl rfl rfl⟩
    refine (ACode_region ?_)
    refine kM 1 rfl ?_
    refine AOps_q 25 _ rfl rfl rfl (QOp_add _ _ _ _ _ _ _ rfl rfl rfl) ?_
    refine kN 1 rfl ?_
    exact ⟨k0, _, _, Nat.lt_succ_self _, Weak_keep 0 hm [1, 3, 4] [] _ _ rfl rfl rfl, _, rfl, rfl, h⟩
   refine ACode_exit ?_
   cases h
   exact ⟨_, rfl, Weak_keep 0 hm [] [] _ _ rfl rfl rfl⟩
 refine kR ?_
 refine kN 1 rfl ?_
 refine ACode_ret ?_
 cases h
 exact ⟨_, _, fun r a w h => ⟨r, h⟩, _, _, [], _, (.cons (ResV_tmp _ _ rfl) .nil), rfl, rfl, rfl, rfl, rfl⟩

-- loop.example/g01362/spec.l05Sizes
def spec_l05Sizes_l0 (p0 : List Int) : Nat → Int → Option (Sum (Unit) (Int))
 | 0, _ => none
 | k0 + 1, x2 => (if decide (x2 < (p0.length : Int)) then (if 0 ≤ x2 ∧ x2 < (p0.length : Int) then (if !(spec_l01In (p0.getD x2.toNat 0) 1 17) then some (.inr 2) else spec_l05Sizes_l0 p0 k0 (w64 (x2 + 1))) else none) else some (.inl ()))
def spec_l05Sizes (k : Nat) (p0 : List Int) (p1 : Int) : Option (Int) :=
 (if !decide ((p0.length : Int) = p1) then some 2 else (spec_l05Sizes_l0 p0 k 0 : Option (Sum (Unit) (Int))).bind fun os7 => (match os7 with | .inl s7 => some 0 | .inr rr => some rr))
set_option maxRecDepth 100000 in
theorem spec_l05Sizes_ac (k : Nat) (p0 : List Int) (p1 : Int) (r : Int) (h : spec_l05Sizes k p0 p1 = some r) : AC Try.prog 40 [.d (.sl none (intsD p0)), iV p1] [] (fun res H' => res = [iV r] ∧ H' = []) := by
 refine AC_of_body true Try.func40 rfl Try.ntmps40 (rvs := [.tmp 4]) rfl rfl (fun G hG => ?_)
 have hm : G.H.length = 0 := by rw [hG]; rfl
 have hz : zeroG G.H = true := by rw [hG]; rfl
 unfold spec_l05Sizes at h
 refine kR ?_
 refine kN 1 rfl ?_
 refine ACode_seq ?_
 refine kR ?_
 refine kM 1 rfl ?_
 refine AOps_q 7 _ rfl rfl rfl (QOp_len_sl _ _ _ _ _ _ _ (intsD_length _) rfl rfl rfl rfl Try.underlying25 rfl) ?_
 refine kM 1 rfl ?_
 refine AOps_q 9 _ rfl rfl rfl (QOp_neq _ _ _ _ _ _ _ rfl rfl rfl) ?_
 refine AOps_nil ?_
 refine kI h rfl (fun h _ => ?_) (fun h _ => ?_)
 ·refine kR ?_
  refine kN 1 rfl ?_
  refine ACode_ret ?_
  cases h
  exact ⟨_, _, fun r a w h => ⟨r, h⟩, _, _, [], _, (.cons (ResV_tmp _ _ rfl) .nil), rfl, rfl, rfl, rfl, rfl⟩
 refine ACode_skip ?_
 refine kO (fun s7 => []) (fun s7 => []) h (fun os7 h hks7 => ?_) (fun s7 h => ?_)
 ·refine kR ?_
  refine kN 1 rfl ?_
  refine ACode_block ?_
  refine ACode_loopW (fun k0 E H => ∃ (x2 : Int), E = [(0, .d (.sl none (intsD p0))), (5, iV x2)] ∧ H = [] ∧ spec_l05Sizes_l0 p0 k0 x2 = some os7) k _ _ (Weak_keep 0 hm [0, 5] [] _ _ rfl rfl rfl) ⟨_, rfl, rfl, h⟩ ?_
  clear h
  rintro k0 E H ⟨x2, rfl, rfl, h⟩
  cases k0 with
  | zero => cases (show (none : Option (Sum (Unit) (Int))) = some _ from h)
  | succ k0 =>
   rw [spec_l05Sizes_l0] at h
   refine ACode_seq ?_
   refine kR ?_
   refine kM 2 rfl ?_
   refine AOps_q 12 _ rfl rfl rfl (QOp_len_sl _ _ _ _ _ _ _ (intsD_length _) rfl rfl rfl rfl Try.underlying25 rfl) ?_
   refine AOps_q 13 _ rfl rfl rfl (QOp_lss _ _ _ _ _ _ _ rfl rfl rfl) ?_
   refine AOps_nil ?_
   refine kI h rfl (fun h _ => ?_) (fun h _ => ?_)
   ·refine ACode_skip ?_
    refine ACode_seq ?_
    refine ACode_block ?_
    refine kR ?_
    refine kM 2 rfl ?_
    obtain ⟨hc4, h⟩ := guardO h
    refine AOps_q 18 _ rfl rfl rfl (QOp_indexAddr_sl _ _ _ _ _ _ _ _ rfl Try.underlying25 Try.sizeOf2 hc4.1 (by rw [intsD_length]; exact hc4.2) rfl rfl) ?_
    refine AOps_q 19 _ rfl rfl rfl (QOp_load_pv _ _ _ _ _ rfl Try.isAgg2 rfl (intsD_get _ _ 0 (by omega))) ?_
    refine kC [] 20 (bV (spec_l01In (p0.getD x2.toNat 0) 1 17)) [] rfl Try.call48 rfl rfl (spec_l01In_ac (p0.getD x2.toNat 0) 1 17) rfl ?_
    refine AOps_q 21 _ rfl rfl rfl (QOp_not _ _ _ rfl rfl) ?_
    refine AOps_nil ?_
    refine kI h rfl (fun h _ => ?_) (fun h _ => ?_)
    ·refine kR ?_
     refine kN 1 rfl ?_
     refine ACode_ret ?_
     cases h
     have h := hks7
     cases h
     exact ⟨_, _, fun r a w h => ⟨r, h⟩, _, _, [], _, (.cons (ResV_tmp _ _ rfl) .nil), rfl, rfl, rfl, rfl, rfl⟩
    refine ACode_skip ?_
    refine (ACode_region ?_)
    refine kM 1 rfl ?_
    refine AOps_q 15 _ rfl rfl rfl (QOp_add _ _ _ _ _ _ _ rfl rfl rfl) ?_
    refine kN 1 rfl ?_
    exact ⟨k0, _, _, Nat.lt_succ_self _, Weak_keep 0 hm [0, 5] [] _ _ rfl rfl rfl, _, rfl, rfl, h⟩
   refine ACode_exit ?_
   cases h
   exact ⟨_, rfl, Weak_keep 0 hm [] [] _ _ rfl rfl rfl⟩
 refine kR ?_
 refine kN 1 rfl ?_
 refine ACode_ret ?_
 cases h
 exact ⟨_, _, fun r a w h => ⟨r, h⟩, _, _, [], _, (.cons (ResV_tmp _ _ rfl) .nil), rfl, rfl, rfl, rfl, rfl⟩

-- loop.example/g01362/spec.l05Code
def spec_l05Code (k : Nat) (p0 : Col) (p1 : List Int) : Option (Int) :=
 (spec_l01Is k p0).bind fun r1 => (if !r1 then some 1 else (spec_l05Sizes k p1 p0.k).bind fun r3 => some r3)
set_option maxRecDepth 100000 in
theorem spec_l05Code_ac (k : Nat) (p0 : Col) (p1 : List Int) (r : Int) (h : spec_l05Code k p0 p1 = some r) : AC Try.prog 27 [.d (.agg (colD p0)), .d (.sl none (intsD p1))] [] (fun res H' => res = [iV r] ∧ H' = []) := by
 refine AC_of_body true Try.func27 rfl Try.ntmps27 (rvs := [.tmp 4]) rfl rfl (fun G hG => ?_)
 have hm : G.H.length = 0 := by rw [hG]; rfl
 have hz : zeroG G.H = true := by rw [hG]; rfl
 unfold spec_l05Code at h
 refine kR ?_
 refine AOps_boxI 2 _ _ (.agg (colD p0)) (colD p0) rfl (colD_one _) rfl rfl rfl rfl rfl ?_
 refine kN 1 rfl ?_
 refine ACode_seq ?_
 refine kR ?_
 refine AOps_q 5 _ rfl rfl rfl (QOp_loadN_pv _ _ _ _ _ _ rfl Try.isAgg29 Try.sizeOf29 rfl (colD_all _) (colD_length _)) ?_
 obtain ⟨r1, hr1, h⟩ := bindO h
 refine kC [] 6 (bV r1) [] rfl Try.call39 rfl rfl (spec_l01Is_ac k p0 _ hr1) rfl ?_
 refine AOps_q 7 _ rfl rfl rfl (QOp_not _ _ _ rfl rfl) ?_
 refine AOps_nil ?_
 refine kI h rfl (fun h _ => ?_) (fun h _ => ?_)
 ·refine kR ?_
  refine kN 1 rfl ?_
  refine ACode_ret ?_
  cases h
  exact ⟨_, _, fun r a w h => ⟨r, h⟩, _, _, [], _, (.cons (ResV_tmp _ _ rfl) .nil), rfl, rfl, rfl, rfl, rfl⟩
 refine ACode_skip ?_
 refine kR ?_
 refine kM 1 rfl ?_
 refine AOps_q 9 _ rfl rfl rfl (QOp_fieldAddr_pv _ _ _ _ _ 1 _ _ rfl Try.underlying29 rfl _ Try.sizeOf2 rfl rfl) ?_
 refine AOps_q 10 _ rfl rfl rfl (QOp_load_pv _ _ _ _ _ rfl Try.isAgg2 rfl rfl) ?_
 obtain ⟨r3, hr3, h⟩ := bindO h
 refine kC [] 11 (iV r3) [] rfl Try.call40 rfl rfl (spec_l05Sizes_ac k p1 p0.k _ hr3) rfl ?_
 refine kN 1 rfl ?_
 refine ACode_ret ?_
 cases h
 exact ⟨_, _, fun r a w h => ⟨r, h⟩, _, _, [], _, (.cons (ResV_tmp _ _ rfl) .nil), rfl, rfl, rfl, rfl, rfl⟩

-- loop.example/g01362/spec.l01Ones
def spec_l01Ones_l0 : Nat → Int → Int → Option (Int)
 | 0, _, _ => none
 | k0 + 1, x1, x2 => (if decide (0 < x1) then spec_l01Ones_l0 k0 (w64 (x1.tdiv 2)) (w64 (x2 + (x1.tmod 2))) else some x2)
def spec_l01Ones (k : Nat) (p0 : Int) : Option (Int) :=
 (spec_l01Ones_l0 k p0 0 : Option (Int)).bind fun s4 => some s4
set_option maxRecDepth 100000 in
theorem spec_l01Ones_ac (k : Nat) (p0 : Int) (r : Int) (h : spec_l01Ones k p0 = some r) : AC Try.prog 41 [iV p0] [] (fun res H' => res = [iV r] ∧ H' = []) := by
 refine AC_of_body true Try.func41 rfl Try.ntmps41 (rvs := [.tmp 2]) rfl rfl (fun G hG => ?_)
 have hm : G.H.length = 0 := by rw [hG]; rfl
 have hz : zeroG G.H = true := by rw [hG]; rfl
 unfold spec_l01Ones at h
 refine kR ?_
 refine kN 1 rfl ?_
 refine kR ?_
 refine kN 1 rfl ?_
 refine kB (fun s4 => [(3, iV s4)]) (fun s4 => []) h (fun s4 h => ?_) (fun s4 h => ?_)
 ·refine ACode_block ?_
  refine ACode_loopW (fun k0 E H => ∃ (x1 : Int) (x2 : Int), E = [(0, iV x1), (3, iV x2)] ∧ H = [] ∧ spec_l01Ones_l0 k0 x1 x2 = some s4) k _ _ (Weak_keep 0 hm [0, 3] [] _ _ rfl rfl rfl) ⟨_, _, rfl, rfl, h⟩ ?_
  clear h
  rintro k0 E H ⟨x1, x2, rfl, rfl, h⟩
  cases k0 with
  | zero => cases (show (none : Option (Int)) = some _ from h)
  | succ k0 =>
   rw [spec_l01Ones_l0] at h
   refine ACode_seq ?_
   refine kR ?_
   refine kM 1 rfl ?_
   refine AOps_q 5 _ rfl rfl rfl (QOp_gtr _ _ _ _ _ _ _ rfl rfl rfl) ?_
   refine AOps_nil ?_
   refine kI h rfl (fun h _ => ?_) (fun h _ => ?_)
   ·refine ACode_skip ?_
    refine ACode_seq ?_
    refine ACode_block ?_
    refine (ACode_region ?_)
    refine kM 2 rfl ?_
    refine AOps_q 10 _ rfl rfl rfl (QOp_rem _ _ _ _ _ _ _ (by decide) rfl rfl rfl) ?_
    refine AOps_q 11 _ rfl rfl rfl (QOp_add _ _ _ _ _ _ _ rfl rfl rfl) ?_
    refine kN 1 rfl ?_
    refine (ACode_region ?_)
    refine kM 1 rfl ?_
    refine AOps_q 7 _ rfl rfl rfl (QOp_quo _ _ _ _ _ _ _ (by decide) rfl rfl rfl) ?_
    refine kN 1 rfl ?_
    exact ⟨k0, _, _, Nat.lt_succ_self _, Weak_keep 0 hm [0, 3] [] _ _ rfl rfl rfl, _, _, rfl, rfl, h⟩
   refine ACode_exit ?_
   cases h
   exact Weak_keep 0 hm [3] [] _ _ rfl rfl rfl
 refine kR ?_
 refine kN 2 rfl ?_
 refine ACode_ret ?_
 cases h
 exact ⟨_, _, fun r a w h => ⟨r, h⟩, _, _, [], _, (.cons (ResV_tmp _ _ rfl) .nil), rfl, rfl, rfl, rfl, rfl⟩

-- loop.example/g01362/spec.l01Edge
def spec_l01Edge (p0 : Int) (p1 : Int) : Int :=
 (if decide (p1 < p0) then w64 ((w64 ((w64 (p0 * (w64 (p0 - 1)))).tdiv 2)) + p1) else w64 ((w64 ((w64 (p1 * (w64 (p1 - 1)))).tdiv 2)) + p0))
set_option maxRecDepth 100000 in
theorem spec_l01Edge_ac (p0 : Int) (p1 : Int) : AC Try.prog 49 [iV p0, iV p1] [] (fun res H' => res = [iV (spec_l01Edge p0 p1)] ∧ H' = []) := by
 refine AC_of_body true Try.func49 rfl Try.ntmps49 (rvs := [.tmp 4]) rfl rfl (fun G hG => ?_)
 have hm : G.H.length = 0 := by rw [hG]; rfl
 have hz : zeroG G.H = true := by rw [hG]; rfl
 obtain ⟨r, h⟩ : ∃ r, spec_l01Edge p0 p1 = r := ⟨_, rfl⟩
 rw [h]
 unfold spec_l01Edge at h
 refine kR ?_
 refine kN 1 rfl ?_
 refine ACode_seq ?_
 refine kR ?_
 refine kM 2 rfl ?_
 refine AOps_q 7 _ rfl rfl rfl (QOp_gtr _ _ _ _ _ _ _ rfl rfl rfl) ?_
 refine AOps_nil ?_
 refine kI h rfl (fun h _ => ?_) (fun h _ => ?_)
 ·refine kR ?_
  refine kM 2 rfl ?_
  refine AOps_q 10 _ rfl rfl rfl (QOp_sub _ _ _ _ _ _ _ rfl rfl rfl) ?_
  refine AOps_q 11 _ rfl rfl rfl (QOp_mul _ _ _ _ _ _ _ rfl rfl rfl) ?_
  refine AOps_q 12 _ rfl rfl rfl (QOp_quo _ _ _ _ _ _ _ (by decide) rfl rfl rfl) ?_
  refine kM 1 rfl ?_
  refine AOps_q 14 _ rfl rfl rfl (QOp_add _ _ _ _ _ _ _ rfl rfl rfl) ?_
  refine kN 1 rfl ?_
  refine ACode_ret ?_
  cases h
  exact ⟨_, _, fun r a w h => ⟨r, h⟩, _, _, [], _, (.cons (ResV_tmp _ _ rfl) .nil), rfl, rfl, rfl, rfl, rfl⟩
 refine ACode_skip ?_
 refine kR ?_
 refine kM 2 rfl ?_
 refine AOps_q 17 _ rfl rfl rfl (QOp_sub _ _ _ _ _ _ _ rfl rfl rfl) ?_
 refine AOps_q 18 _ rfl rfl rfl (QOp_mul _ _ _ _ _ _ _ rfl rfl rfl) ?_
 refine AOps_q 19 _ rfl rfl rfl (QOp_quo _ _ _ _ _ _ _ (by decide) rfl rfl rfl) ?_
 refine kM 1 rfl ?_
 refine AOps_q 21 _ rfl rfl rfl (QOp_add _ _ _ _ _ _ _ rfl rfl rfl) ?_
 refine kN 1 rfl ?_
 refine ACode_ret ?_
 cases h
 exact ⟨_, _, fun r a w h => ⟨r, h⟩, _, _, [], _, (.cons (ResV_tmp _ _ rfl) .nil), rfl, rfl, rfl, rfl, rfl⟩

-- loop.example/g01362/spec.l01At
def spec_l01At (p0 : Col) (p1 : Int) (p2 : Int) : Option (Int) :=
 (if 0 ≤ (spec_l01Edge p1 p2) ∧ (spec_l01Edge p1 p2) < 136 then some ((p0.get ((spec_l01Edge p1 p2).toNat)).toNat : Int) else none)
set_option maxRecDepth 100000 in
theorem spec_l01At_ac (p0 : Col) (p1 : Int) (p2 : Int) (r : Int) (h : spec_l01At p0 p1 p2 = some r) : AC Try.prog 42 [.d (.agg (colD p0)), iV p1, iV p2] [] (fun res H' => res = [iV r] ∧ H' = []) := by
 refine AC_of_body true Try.func42 rfl Try.ntmps42 (rvs := [.tmp 6]) rfl rfl (fun G hG => ?_)
 have hm : G.H.length = 0 := by rw [hG]; rfl
 have hz : zeroG G.H = true := by rw [hG]; rfl
 unfold spec_l01At at h
 refine kR ?_
 refine AOps_boxI 3 _ _ (.agg (colD p0)) (colD p0) rfl (colD_one _) rfl rfl rfl rfl rfl ?_
 refine kN 1 rfl ?_
 refine kR ?_
 refine kM 2 rfl ?_
 refine kC [] 9 (iV (spec_l01Edge p1 p2)) [] rfl Try.call49 rfl rfl (spec_l01Edge_ac p1 p2) rfl ?_
 refine AOps_q 10 _ rfl rfl rfl (QOp_fieldAddr_pv _ _ _ _ _ 2 _ _ rfl Try.underlying29 rfl _ Try.sizeOf22 rfl rfl) ?_
 obtain ⟨hc2, h⟩ := guardO h
 refine AOps_q 11 _ rfl rfl rfl (QOp_indexAddrA_pv _ _ _ _ _ _ _ _ _ rfl Try.underlying22 Try.sizeOf5 hc2.1 hc2.2 rfl rfl) ?_
 refine AOps_q 12 _ rfl rfl rfl (QOp_load_pv _ _ _ _ _ rfl Try.isAgg5 rfl (colD_get _ _ (by omega))) ?_
 refine AOps_q 13 _ rfl rfl rfl (QOp_fromByte _ _ _ _ _ rfl rfl Try.underlying2 wrap_i64_byte rfl) ?_
 refine kN 1 rfl ?_
 refine ACode_ret ?_
 cases h
 exact ⟨_, _, fun r a w h => ⟨r, h⟩, _, _, [], _, (.cons (ResV_tmp _ _ rfl) .nil), rfl, rfl, rfl, rfl, rfl⟩

-- loop.example/g01362/spec.l01Around
def spec_l01Around_l0 (p0 : Col) (p1 : Int) (p2 : Int) : Nat → Int → Int → Option (Int)
 | 0, _, _ => none
 | k0 + 1, x1, x2 => (if decide (x2 < p0.p) then (((if !decide (x2 = p1) then (spec_l01At p0 p1 x2).bind fun r5 => some (decide (r5 = p2)) else some false) : Option (Bool)).bind fun s6 => (if s6 then (if 0 ≤ IntKind.u64.wrap x2 then some (bOr .i64 x1 (bShl .i64 1 (IntKind.u64.wrap x2))) else none) else some x1) : Option (Int)).bind fun s9 => spec_l01Around_l0 p0 p1 p2 k0 s9 (w64 (x2 + 1)) else some x1)
def spec_l01Around (k : Nat) (p0 : Col) (p1 : Int) (p2 : Int) : Option (Int) :=
 (spec_l01Around_l0 p0 p1 p2 k 0 0 : Option (Int)).bind fun s10 => some s10
set_option maxRecDepth 100000 in
theorem spec_l01Around_ac (k : Nat) (p0 : Col) (p1 : Int) (p2 : Int) (r : Int) (h : spec_l01Around k p0 p1 p2 = some r) : AC Try.prog 30 [.d (.agg (colD p0)), iV p1, iV p2] [] (fun res H' => res = [iV r] ∧ H' = []) := by
 refine AC_of_body true Try.func30 rfl Try.ntmps30 (rvs := [.tmp 6]) rfl rfl (fun G hG => ?_)
 have hm : G.H.length = 0 := by rw [hG]; rfl
 have hz : zeroG G.H = true := by rw [hG]; rfl
 unfold spec_l01Around at h
 refine kR ?_
 refine AOps_boxI 3 _ _ (.agg (colD p0)) (colD p0) rfl (colD_one _) rfl rfl rfl rfl rfl ?_
 refine kN 1 rfl ?_
 refine kR ?_
 refine kN 1 rfl ?_
 refine kB (fun s10 => [(7, iV s10)]) (fun s10 => []) h (fun s10 h => ?_) (fun s10 h => ?_)
 ·refine kR ?_
  refine kN 1 rfl ?_
  refine ACode_block ?_
  refine ACode_loopW (fun k0 E H => ∃ (x1 : Int) (x2 : Int), E = [(1, iV p1), (2, iV p2), (3, .d (.pv (colD p0) 0)), (7, iV x1), (8, iV x2)] ∧ H = [] ∧ spec_l01Around_l0 p0 p1 p2 k0 x1 x2 = some s10) k _ _ (Weak_keep 0 hm [1, 2, 3, 7, 8] [] _ _ rfl rfl rfl) ⟨_, _, rfl, rfl, h⟩ ?_
  clear h
  rintro k0 E H ⟨x1, x2, rfl, rfl, h⟩
  cases k0 with
  | zero => cases (show (none : Option (Int)) = some _ from h)
  | succ k0 =>
   rw [spec_l01Around_l0] at h
   refine ACode_seq ?_
   refine kR ?_
   refine kM 1 rfl ?_
   refine AOps_q 10 _ rfl rfl rfl (QOp_fieldAddr_pv _ _ _ _ _ 0 _ _ rfl Try.underlying29 rfl _ Try.sizeOf2 rfl rfl) ?_
   refine AOps_q 11 _ rfl rfl rfl (QOp_load_pv _ _ _ _ _ rfl Try.isAgg2 rfl rfl) ?_
   refine AOps_q 12 _ rfl rfl rfl (QOp_lss _ _ _ _ _ _ _ rfl rfl rfl) ?_
   refine AOps_nil ?_
   refine kI h rfl (fun h _ => ?_) (fun h _ => ?_)
   ·refine ACode_skip ?_
    refine kB (fun s9 => [(1, iV p1), (2, iV p2), (3, .d (.pv (colD p0) 0)), (7, iV s9), (8, iV x2)]) (fun s9 => []) h (fun s9 h => ?_) (fun s9 h => ?_)
    ·refine ACode_block ?_
     refine kB (fun s6 => [(1, iV p1), (2, iV p2), (3, .d (.pv (colD p0) 0)), (7, iV x1), (8, iV x2), (25, bV s6)]) (fun s6 => []) h (fun s6 h => ?_) (fun s6 h => ?_)
     ·refine (ACode_region ?_)
      refine kM 2 rfl ?_
      refine AOps_q 17 _ rfl rfl rfl (QOp_neq _ _ _ _ _ _ _ rfl rfl rfl) ?_
      refine kM 1 rfl ?_
      refine AOps_case 18 _ rfl (fun hb4 => ?_) (fun hb4 => ?_)
      ·have h := iteT hb4 h
       refine AOps_q 19 _ rfl rfl rfl (QOp_loadN_pv _ _ _ _ _ _ rfl Try.isAgg29 Try.sizeOf29 rfl (colD_all _) (colD_length _)) ?_
       refine kM 2 rfl ?_
       obtain ⟨r5, hr5, h⟩ := bindO h
       refine kC [] 22 (iV r5) [] rfl Try.call42 rfl rfl (spec_l01At_ac p0 p1 x2 _ hr5) rfl ?_
       refine kM 1 rfl ?_
       refine AOps_q 24 _ rfl rfl rfl (QOp_eql _ _ _ _ _ _ _ rfl rfl rfl) ?_
       refine kN 1 rfl ?_
       cases h
       exact Weak_keep 0 hm [1, 2, 3, 7, 8, 25] [] _ _ rfl rfl rfl
      have h := iteF hb4 h
      refine AOps_skip 19 rfl rfl rfl ?_
      refine AOps_skip 20 rfl rfl rfl ?_
      refine AOps_skip 21 rfl rfl rfl ?_
      refine AOps_skip 22 rfl rfl rfl ?_
      refine AOps_skip 23 rfl rfl rfl ?_
      refine AOps_skip 24 rfl rfl rfl ?_
      refine kN 1 rfl ?_
      cases h
      exact Weak_keep 0 hm [1, 2, 3, 7, 8, 25] [] _ _ rfl rfl rfl
     refine kI h rfl (fun h _ => ?_) (fun h _ => ?_)
     ·refine (ACode_region ?_)
      refine kM 2 rfl ?_
      refine AOps_q 28 _ rfl rfl rfl (QOp_conv _ _ _ _ _ _ rfl rfl Try.underlying51 rfl) ?_
      obtain ⟨hc8, h⟩ := guardO h
      refine AOps_q 29 _ rfl rfl rfl (QOp_shl _ _ _ _ _ _ _ _ hc8 rfl rfl rfl) ?_
      refine AOps_q 30 _ rfl rfl rfl (QOp_or _ _ _ _ _ _ _ rfl rfl rfl) ?_
      refine kN 1 rfl ?_
      cases h
      exact Weak_keep 0 hm [1, 2, 3, 7, 8] [] _ _ rfl rfl rfl
     refine ACode_skip ?_
     cases h
     exact Weak_keep 0 hm [1, 2, 3, 7, 8] [] _ _ rfl rfl rfl
    refine (ACode_region ?_)
    refine kM 1 rfl ?_
    refine AOps_q 14 _ rfl rfl rfl (QOp_add _ _ _ _ _ _ _ rfl rfl rfl) ?_
    refine kN 1 rfl ?_
    exact ⟨k0, _, _, Nat.lt_succ_self _, Weak_keep 0 hm [1, 2, 3, 7, 8] [] _ _ rfl rfl rfl, _, _, rfl, rfl, h⟩
   refine ACode_exit ?_
   cases h
   exact Weak_keep 0 hm [7] [] _ _ rfl rfl rfl
 refine kR ?_
 refine kN 2 rfl ?_
 refine ACode_ret ?_
 cases h
 exact ⟨_, _, fun r a w h => ⟨r, h⟩, _, _, [], _, (.cons (ResV_tmp _ _ rfl) .nil), rfl, rfl, rfl, rfl, rfl⟩

-- loop.example/g01362/spec.l03Clique
def spec_l03Clique_l0 (k : Nat) (self : Col → Int → Int → Int → Option (Bool)) (p0 : Col) (p1 : Int) (p3 : Int) : Nat → Int → Int → Option (Sum (Unit) (Bool))
 | 0, _, _ => none
 | k0 + 1, x4, x5 => (if decide (x5 < p0.p) then ((if 0 ≤ IntKind.u64.wrap x5 then (if decide (bAnd .i64 (bShr .i64 x4 (IntKind.u64.wrap x5)) 1 = 0) then some (.inl x4) else (if 0 ≤ IntKind.u64.wrap x5 then (spec_l01Around k p0 x5 p1).bind fun r10 => (self p0 p1 (bAnd .i64 (w64 (x4 - (bShl .i64 1 (IntKind.u64.wrap x5)))) r10) (w64 (p3 - 1))).bind fun r11 => (if r11 then (some (.inr true)).bind fun rr => some (.inr rr) else some (.inl (w64 (x4 - (bShl .i64 1 (IntKind.u64.wrap x5)))))) else none)) else none) : Option (Sum (Int) (Sum (Unit) (Bool)))).bind fun os13 => (match os13 with | .inl s13 => spec_l03Clique_l0 k self p0 p1 p3 k0 s13 (w64 (x5 + 1)) | .inr rr => some rr) else some (.inl ()))
def spec_l03Clique_body (self : Col → Int → Int → Int → Option (Bool)) (k : Nat) (p0 : Col) (p1 : Int) (p2 : Int) (p3 : Int) : Option (Bool) :=
 (if decide (p3 = 0) then some true else (spec_l01Ones k p2).bind fun r2 => (if decide (r2 < p3) then some false else (spec_l03Clique_l0 k self p0 p1 p3 k p2 0 : Option (Sum (Unit) (Bool))).bind fun os14 => (match os14 with | .inl s14 => some false | .inr rr => some rr)))
def spec_l03Clique : Nat → Col → Int → Int → Int → Option (Bool)
 | 0, _, _, _, _ => none
 | k + 1, p0, p1, p2, p3 => spec_l03Clique_body (spec_l03Clique k) k p0 p1 p2 p3
set_option maxRecDepth 100000 in
theorem spec_l03Clique_ac (k : Nat) (p0 : Col) (p1 : Int) (p2 : Int) (p3 : Int) (r : Bool) (h : spec_l03Clique k p0 p1 p2 p3 = some r) : AC Try.prog 29 [.d (.agg (colD p0)), iV p1, iV p2, iV p3] [] (fun res H' => res = [bV r] ∧ H' = []) := by
 induction k generalizing p0 p1 p2 p3 r with
 | zero => simp [spec_l03Clique] at h
 | succ k ih =>
  rw [spec_l03Clique] at h
  obtain ⟨self, hself, hk⟩ : ∃ self : Col → Int → Int → Int → Option (Bool), (∀ (p0 : Col) (p1 : Int) (p2 : Int) (p3 : Int) (r : Bool), self p0 p1 p2 p3 = some r → AC Try.prog 29 [.d (.agg (colD p0)), iV p1, iV p2, iV p3] [] (fun res H' => res = [bV r] ∧ H' = [])) ∧ spec_l03Clique k = self := ⟨spec_l03Clique k, fun p0 p1 p2 p3 r h => ih p0 p1 p2 p3 r h, rfl⟩
  rw [hk] at h
  clear ih hk
  refine AC_of_body true Try.func29 rfl Try.ntmps29 (rvs := [.tmp 8]) rfl rfl (fun G hG => ?_)
  have hm : G.H.length = 0 := by rw [hG]; rfl
  have hz : zeroG G.H = true := by rw [hG]; rfl
  unfold spec_l03Clique_body at h
  refine kR ?_
  refine AOps_boxI 4 _ _ (.agg (colD p0)) (colD p0) rfl (colD_one _) rfl rfl rfl rfl rfl ?_
  refine kN 1 rfl ?_
  refine ACode_seq ?_
  refine kR ?_
  refine kM 1 rfl ?_
  refine AOps_q 11 _ rfl rfl rfl (QOp_eql _ _ _ _ _ _ _ rfl rfl rfl) ?_
  refine AOps_nil ?_
  refine kI h rfl (fun h _ => ?_) (fun h _ => ?_)
  ·refine kR ?_
   refine kN 1 rfl ?_
   refine ACode_ret ?_
   cases h
   exact ⟨_, _, fun r a w h => ⟨r, h⟩, _, _, [], _, (.cons (ResV_tmp _ _ rfl) .nil), rfl, rfl, rfl, rfl, rfl⟩
  refine ACode_skip ?_
  refine ACode_seq ?_
  refine kR ?_
  refine kM 1 rfl ?_
  obtain ⟨r2, hr2, h⟩ := bindO h
  refine kC [] 13 (iV r2) [] rfl Try.call41 rfl rfl (spec_l01Ones_ac k p2 _ hr2) rfl ?_
  refine kM 1 rfl ?_
  refine AOps_q 15 _ rfl rfl rfl (QOp_lss _ _ _ _ _ _ _ rfl rfl rfl) ?_
  refine AOps_nil ?_
  refine kI h rfl (fun h _ => ?_) (fun h _ => ?_)
  ·refine kR ?_
   refine kN 1 rfl ?_
   refine ACode_ret ?_
   cases h
   exact ⟨_, _, fun r a w h => ⟨r, h⟩, _, _, [], _, (.cons (ResV_tmp _ _ rfl) .nil), rfl, rfl, rfl, rfl, rfl⟩
  refine ACode_skip ?_
  refine kO (fun s14 => []) (fun s14 => []) h (fun os14 h hks14 => ?_) (fun s14 h => ?_)
  ·refine kR ?_
   refine kN 1 rfl ?_
   refine ACode_block ?_
   refine ACode_loopW (fun k0 E H => ∃ (x4 : Int) (x5 : Int), E = [(1, iV p1), (2, iV x4), (3, iV p3), (4, .d (.pv (colD p0) 0)), (9, iV x5)] ∧ H = [] ∧ spec_l03Clique_l0 k self p0 p1 p3 k0 x4 x5 = some os14) k _ _ (Weak_keep 0 hm [1, 2, 3, 4, 9] [] _ _ rfl rfl rfl) ⟨_, _, rfl, rfl, h⟩ ?_
   clear h
   rintro k0 E H ⟨x4, x5, rfl, rfl, h⟩
   cases k0 with
   | zero => cases (show (none : Option (Sum (Unit) (Bool))) = some _ from h)
   | succ k0 =>
    rw [spec_l03Clique_l0] at h
    refine ACode_seq ?_
    refine kR ?_
    refine kM 1 rfl ?_
    refine AOps_q 17 _ rfl rfl rfl (QOp_fieldAddr_pv _ _ _ _ _ 0 _ _ rfl Try.underlying29 rfl _ Try.sizeOf2 rfl rfl) ?_
    refine AOps_q 18 _ rfl rfl rfl (QOp_load_pv _ _ _ _ _ rfl Try.isAgg2 rfl rfl) ?_
    refine AOps_q 19 _ rfl rfl rfl (QOp_lss _ _ _ _ _ _ _ rfl rfl rfl) ?_
    refine AOps_nil ?_
    refine kI h rfl (fun h _ => ?_) (fun h _ => ?_)
    ·refine ACode_skip ?_
     refine kO (fun s13 => [(1, iV p1), (2, iV s13), (3, iV p3), (4, .d (.pv (colD p0) 0)), (9, iV x5)]) (fun s13 => []) h (fun os13 h hks13 => ?_) (fun s13 h => ?_)
     ·refine ACode_block ?_
      refine ACode_seq ?_
      refine kR ?_
      refine kM 2 rfl ?_
      refine AOps_q 24 _ rfl rfl rfl (QOp_conv _ _ _ _ _ _ rfl rfl Try.underlying51 rfl) ?_
      obtain ⟨hc7, h⟩ := guardO h
      refine AOps_q 25 _ rfl rfl rfl (QOp_shr _ _ _ _ _ _ _ _ hc7 rfl rfl rfl) ?_
      refine AOps_q 26 _ rfl rfl rfl (QOp_and _ _ _ _ _ _ _ rfl rfl rfl) ?_
      refine AOps_q 27 _ rfl rfl rfl (QOp_eql _ _ _ _ _ _ _ rfl rfl rfl) ?_
      refine AOps_nil ?_
      refine kI h rfl (fun h _ => ?_) (fun h _ => ?_)
      ·refine ACode_exit ?_
       cases h
       exact ⟨_, rfl, Weak_keep 0 hm [1, 2, 3, 4, 9] [] _ _ rfl rfl rfl⟩
      refine ACode_skip ?_
      refine kR ?_
      refine kM 2 rfl ?_
      refine AOps_q 30 _ rfl rfl rfl (QOp_conv _ _ _ _ _ _ rfl rfl Try.underlying51 rfl) ?_
      obtain ⟨hc9, h⟩ := guardO h
      refine AOps_q 31 _ rfl rfl rfl (QOp_shl _ _ _ _ _ _ _ _ hc9 rfl rfl rfl) ?_
      refine AOps_q 32 _ rfl rfl rfl (QOp_sub _ _ _ _ _ _ _ rfl rfl rfl) ?_
      refine kN 1 rfl ?_
      refine ACode_seq (ACode_quiet mixed (by kernel_rfl) ?_)
      refine AQ_q 33 _ rfl rfl rfl (QOp_loadN_pv _ _ _ _ _ _ rfl Try.isAgg29 Try.sizeOf29 rfl (colD_all _) (colD_length _)) ?_
      refine kQ 2 rfl ?_
      refine AQ_q 36 _ rfl rfl rfl (QOp_loadN_pv _ _ _ _ _ _ rfl Try.isAgg29 Try.sizeOf29 rfl (colD_all _) (colD_length _)) ?_
      refine kQ 2 rfl ?_
      obtain ⟨r10, hr10, h⟩ := bindO h
      refine AQ_call 39 _ _ _ _ _ _ _ _ _ rfl rfl rfl rfl rfl rfl rfl Try.call30 rfl rfl rfl (spec_l01Around_ac k p0 x5 p1 _ hr10) ?_
      refine AQ_q 40 _ rfl rfl rfl (QOp_and _ _ _ _ _ _ _ rfl rfl rfl) ?_
      refine kQ 1 rfl ?_
      refine AQ_q 42 _ rfl rfl rfl (QOp_sub _ _ _ _ _ _ _ rfl rfl rfl) ?_
      obtain ⟨r11, hr11, h⟩ := bindO h
      refine AQ_call 43 _ _ _ _ _ _ _ _ _ rfl rfl rfl rfl rfl rfl rfl Try.call29 rfl rfl rfl (hself p0 p1 (bAnd .i64 (w64 (x4 - (bShl .i64 1 (IntKind.u64.wrap x5)))) r10) (w64 (p3 - 1)) _ hr11) ?_
      refine AQ_nil ?_
      refine kI h rfl (fun h _ => ?_) (fun h _ => ?_)
      ·refine kR ?_
       refine kN 1 rfl ?_
       refine ACode_ret ?_
       obtain ⟨rr, hz15, h2⟩ := bindO h
       obtain rfl := Option.some.inj h2
       obtain rfl := Option.some.inj (show some rr = some _ from hks13)
       have h := hz15
       cases h
       have h := hks14
       cases h
       exact ⟨_, _, fun r a w h => ⟨r, h⟩, _, _, [], _, (.cons (ResV_tmp _ _ rfl) .nil), rfl, rfl, rfl, rfl, rfl⟩
      refine ACode_skip ?_
      cases h
      exact ⟨_, rfl, Weak_keep 0 hm [1, 2, 3, 4, 9] [] _ _ rfl rfl rfl⟩
     refine (ACode_region ?_)
     refine kM 1 rfl ?_
     refine AOps_q 21 _ rfl rfl rfl (QOp_add _ _ _ _ _ _ _ rfl rfl rfl) ?_
     refine kN 1 rfl ?_
     exact ⟨k0, _, _, Nat.lt_succ_self _, Weak_keep 0 hm [1, 2, 3, 4, 9] [] _ _ rfl rfl rfl, _, _, rfl, rfl, h⟩
    refine ACode_exit ?_
    cases h
    exact ⟨_, rfl, Weak_keep 0 hm [] [] _ _ rfl rfl rfl⟩
  refine kR ?_
  refine kN 1 rfl ?_
  refine ACode_ret ?_
  cases h
  exact ⟨_, _, fun r a w h => ⟨r, h⟩, _, _, [], _, (.cons (ResV_tmp _ _ rfl) .nil), rfl, rfl, rfl, rfl, rfl⟩

-- loop.example/g01362/spec.l05Avoids
def spec_l05Avoids_l0 (k : Nat) (p0 : Col) (p1 : List Int) : Nat → Int → Option (Sum (Unit) (Bool))
 | 0, _ => none
 | k0 + 1, x1 => (if decide (x1 < p0.k) then (if 0 ≤ IntKind.u64.wrap p0.p then (if 0 ≤ x1 ∧ x1 < (p1.length : Int) then (spec_l03Clique k p0 x1 (w64 ((bShl .i64 1 (IntKind.u64.wrap p0.p)) - 1)) (p1.getD x1.toNat 0)).bind fun r5 => (if r5 then some (.inr false) else spec_l05Avoids_l0 k p0 p1 k0 (w64 (x1 + 1))) else none) else none) else some (.inl ()))
def spec_l05Avoids (k : Nat) (p0 : Col) (p1 : List Int) : Option (Bool) :=
 (spec_l05Avoids_l0 k p0 p1 k 0 : Option (Sum (Unit) (Bool))).bind fun os7 => (match os7 with | .inl s7 => some true | .inr rr => some rr)
set_option maxRecDepth 100000 in
theorem spec_l05Avoids_ac (k : Nat) (p0 : Col) (p1 : List Int) (r : Bool) (h : spec_l05Avoids k p0 p1 = some r) : AC Try.prog 28 [.d (.agg (colD p0)), .d (.sl none (intsD p1))] [] (fun res H' => res = [bV r] ∧ H' = []) := by
 refine AC_of_body true Try.func28 rfl Try.ntmps28 (rvs := [.tmp 4]) rfl rfl (fun G hG => ?_)
 have hm : G.H.length = 0 := by rw [hG]; rfl
 have hz : zeroG G.H = true := by rw [hG]; rfl
 unfold spec_l05Avoids at h
 refine kR ?_
 refine AOps_boxI 2 _ _ (.agg (colD p0)) (colD p0) rfl (colD_one _) rfl rfl rfl rfl rfl ?_
 refine kN 1 rfl ?_
 refine kO (fun s7 => []) (fun s7 => []) h (fun os7 h hks7 => ?_) (fun s7 h => ?_)
 ·refine kR ?_
  refine kN 1 rfl ?_
  refine ACode_block ?_
  refine ACode_loopW (fun k0 E H => ∃ (x1 : Int), E = [(1, .d (.sl none (intsD p1))), (2, .d (.pv (colD p0) 0)), (5, iV x1)] ∧ H = [] ∧ spec_l05Avoids_l0 k p0 p1 k0 x1 = some os7) k _ _ (Weak_keep 0 hm [1, 2, 5] [] _ _ rfl rfl rfl) ⟨_, rfl, rfl, h⟩ ?_
  clear h
  rintro k0 E H ⟨x1, rfl, rfl, h⟩
  cases k0 with
  | zero => cases (show (none : Option (Sum (Unit) (Bool))) = some _ from h)
  | succ k0 =>
   rw [spec_l05Avoids_l0] at h
   refine ACode_seq ?_
   refine kR ?_
   refine kM 1 rfl ?_
   refine AOps_q 7 _ rfl rfl rfl (QOp_fieldAddr_pv _ _ _ _ _ 1 _ _ rfl Try.underlying29 rfl _ Try.sizeOf2 rfl rfl) ?_
   refine AOps_q 8 _ rfl rfl rfl (QOp_load_pv _ _ _ _ _ rfl Try.isAgg2 rfl rfl) ?_
   refine AOps_q 9 _ rfl rfl rfl (QOp_lss _ _ _ _ _ _ _ rfl rfl rfl) ?_
   refine AOps_nil ?_
   refine kI h rfl (fun h _ => ?_) (fun h _ => ?_)
   ·refine ACode_skip ?_
    refine ACode_seq ?_
    refine ACode_block ?_
    refine ACode_seq (ACode_quiet mixed (by kernel_rfl) ?_)
    refine AQ_q 12 _ rfl rfl rfl (QOp_loadN_pv _ _ _ _ _ _ rfl Try.isAgg29 Try.sizeOf29 rfl (colD_all _) (colD_length _)) ?_
    refine kQ 1 rfl ?_
    refine AQ_q 14 _ rfl rfl rfl (QOp_fieldAddr_pv _ _ _ _ _ 0 _ _ rfl Try.underlying29 rfl _ Try.sizeOf2 rfl rfl) ?_
    refine AQ_q 15 _ rfl rfl rfl (QOp_load_pv _ _ _ _ _ rfl Try.isAgg2 rfl rfl) ?_
    refine AQ_q 16 _ rfl rfl rfl (QOp_conv _ _ _ _ _ _ rfl rfl Try.underlying51 rfl) ?_
    obtain ⟨hc3, h⟩ := guardO h
    refine AQ_q 17 _ rfl rfl rfl (QOp_shl _ _ _ _ _ _ _ _ hc3 rfl rfl rfl) ?_
    refine AQ_q 18 _ rfl rfl rfl (QOp_sub _ _ _ _ _ _ _ rfl rfl rfl) ?_
    refine kQ 2 rfl ?_
    obtain ⟨hc4, h⟩ := guardO h
    refine AQ_q 21 _ rfl rfl rfl (QOp_indexAddr_sl _ _ _ _ _ _ _ _ rfl Try.underlying25 Try.sizeOf2 hc4.1 (by rw [intsD_length]; exact hc4.2) rfl rfl) ?_
    refine AQ_q 22 _ rfl rfl rfl (QOp_load_pv _ _ _ _ _ rfl Try.isAgg2 rfl (intsD_get _ _ 0 (by omega))) ?_
    obtain ⟨r5, hr5, h⟩ := bindO h
    refine AQ_call 23 _ _ _ _ _ _ _ _ _ rfl rfl rfl rfl rfl rfl rfl Try.call29 rfl rfl rfl (spec_l03Clique_ac k p0 x1 (w64 ((bShl .i64 1 (IntKind.u64.wrap p0.p)) - 1)) (p1.getD x1.toNat 0) _ hr5) ?_
    refine AQ_nil ?_
    refine kI h rfl (fun h _ => ?_) (fun h _ => ?_)
    ·refine kR ?_
     refine kN 1 rfl ?_
     refine ACode_ret ?_
     cases h
     have h := hks7
     cases h
     exact ⟨_, _, fun r a w h => ⟨r, h⟩, _, _, [], _, (.cons (ResV_tmp _ _ rfl) .nil), rfl, rfl, rfl, rfl, rfl⟩
    refine ACode_skip ?_
    refine (ACode_region ?_)
    refine kM 1 rfl ?_
    refine AOps_q 11 _ rfl rfl rfl (QOp_add _ _ _ _ _ _ _ rfl rfl rfl) ?_
    refine kN 1 rfl ?_
    exact ⟨k0, _, _, Nat.lt_succ_self _, Weak_keep 0 hm [1, 2, 5] [] _ _ rfl rfl rfl, _, rfl, rfl, h⟩
   refine ACode_exit ?_
   cases h
   exact ⟨_, rfl, Weak_keep 0 hm [] [] _ _ rfl rfl rfl⟩
 refine kR ?_
 refine kN 1 rfl ?_
 refine ACode_ret ?_
 cases h
 exact ⟨_, _, fun r a w h => ⟨r, h⟩, _, _, [], _, (.cons (ResV_tmp _ _ rfl) .nil), rfl, rfl, rfl, rfl, rfl⟩

-- loop.example/g01362/spec.l05Given
def spec_l05Given (k : Nat) (p0 : Col) (p1 : List Int) : Option (Int) :=
 (spec_l05Code k p0 p1).bind fun r1 => (((if decide (r1 = 0) then (spec_l05Avoids k p0 p1).bind fun r3 => some (!r3) else some false) : Option (Bool)).bind fun s4 => (if s4 then some (.inr 5) else some (.inl ())) : Option (Sum (Unit) (Int))).bind fun os6 => (match os6 with | .inl s6 => some r1 | .inr rr => some rr)
set_option maxRecDepth 100000 in
theorem spec_l05Given_ac (k : Nat) (p0 : Col) (p1 : List Int) (r : Int) (h : spec_l05Given k p0 p1 = some r) : AC Try.prog 22 [.d (.agg (colD p0)), .d (.sl none (intsD p1))] [] (fun res H' => res = [iV r] ∧ H' = []) := by
 refine AC_of_body true Try.func22 rfl Try.ntmps22 (rvs := [.tmp 4]) rfl rfl (fun G hG => ?_)
 have hm : G.H.length = 0 := by rw [hG]; rfl
 have hz : zeroG G.H = true := by rw [hG]; rfl
 unfold spec_l05Given at h
 refine kR ?_
 refine AOps_boxI 2 _ _ (.agg (colD p0)) (colD p0) rfl (colD_one _) rfl rfl rfl rfl rfl ?_
 refine kN 1 rfl ?_
 refine kR ?_
 refine AOps_q 6 _ rfl rfl rfl (QOp_loadN_pv _ _ _ _ _ _ rfl Try.isAgg29 Try.sizeOf29 rfl (colD_all _) (colD_length _)) ?_
 refine kM 1 rfl ?_
 obtain ⟨r1, hr1, h⟩ := bindO h
 refine kC [] 8 (iV r1) [] rfl Try.call27 rfl rfl (spec_l05Code_ac k p0 p1 _ hr1) rfl ?_
 refine kN 1 rfl ?_
 refine kO (fun s6 => [(5, iV r1)]) (fun s6 => []) h (fun os6 h hks6 => ?_) (fun s6 h => ?_)
 ·refine kB (fun s4 => [(5, iV r1), (16, bV s4)]) (fun s4 => []) h (fun s4 h => ?_) (fun s4 h => ?_)
  ·refine (ACode_region ?_)
   refine kM 1 rfl ?_
   refine AOps_q 10 _ rfl rfl rfl (QOp_eql _ _ _ _ _ _ _ rfl rfl rfl) ?_
   refine kM 1 rfl ?_
   refine AOps_case 11 _ rfl (fun hb2 => ?_) (fun hb2 => ?_)
   ·have h := iteT hb2 h
    refine AOps_q 12 _ rfl rfl rfl (QOp_loadN_pv _ _ _ _ _ _ rfl Try.isAgg29 Try.sizeOf29 rfl (colD_all _) (colD_length _)) ?_
    refine kM 1 rfl ?_
    obtain ⟨r3, hr3, h⟩ := bindO h
    refine kC [] 14 (bV r3) [] rfl Try.call28 rfl rfl (spec_l05Avoids_ac k p0 p1 _ hr3) rfl ?_
    refine AOps_q 15 _ rfl rfl rfl (QOp_not _ _ _ rfl rfl) ?_
    refine kN 1 rfl ?_
    cases h
    exact Weak_keep 0 hm [5, 16] [] _ _ rfl rfl rfl
   have h := iteF hb2 h
   refine AOps_skip 12 rfl rfl rfl ?_
   refine AOps_skip 13 rfl rfl rfl ?_
   refine AOps_skip 14 rfl rfl rfl ?_
   refine AOps_skip 15 rfl rfl rfl ?_
   refine kN 1 rfl ?_
   cases h
   exact Weak_keep 0 hm [5, 16] [] _ _ rfl rfl rfl
  refine kI h rfl (fun h _ => ?_) (fun h _ => ?_)
  ·refine kR ?_
   refine kN 1 rfl ?_
   refine ACode_ret ?_
   cases h
   have h := hks6
   cases h
   exact ⟨_, _, fun r a w h => ⟨r, h⟩, _, _, [], _, (.cons (ResV_tmp _ _ rfl) .nil), rfl, rfl, rfl, rfl, rfl⟩
  refine ACode_skip ?_
  cases h
  exact ⟨_, rfl, Weak_keep 0 hm [5] [] _ _ rfl rfl rfl⟩
 refine kR ?_
 refine kN 2 rfl ?_
 refine ACode_ret ?_
 cases h
 exact ⟨_, _, fun r a w h => ⟨r, h⟩, _, _, [], _, (.cons (ResV_tmp _ _ rfl) .nil), rfl, rfl, rfl, rfl, rfl⟩

-- loop.example/g01362/spec.l05Small
def spec_l05Small (k : Nat) (p0 : Col) (p1 : List Int) : Option (Int) :=
 (spec_l05Given k p0 p1).bind fun r1 => (letO (if decide (r1 = 0) then decide (12 < p0.p) else false) fun (s3 : Bool) => (if s3 then some (.inr 3) else some (.inl ())) : Option (Sum (Unit) (Int))).bind fun os5 => (match os5 with | .inl s5 => some r1 | .inr rr => some rr)
set_option maxRecDepth 100000 in
theorem spec_l05Small_ac (k : Nat) (p0 : Col) (p1 : List Int) (r : Int) (h : spec_l05Small k p0 p1 = some r) : AC Try.prog 13 [.d (.agg (colD p0)), .d (.sl none (intsD p1))] [] (fun res H' => res = [iV r] ∧ H' = []) := by
 refine AC_of_body true Try.func13 rfl Try.ntmps13 (rvs := [.tmp 4]) rfl rfl (fun G hG => ?_)
 have hm : G.H.length = 0 := by rw [hG]; rfl
 have hz : zeroG G.H = true := by rw [hG]; rfl
 unfold spec_l05Small at h
 refine kR ?_
 refine AOps_boxI 2 _ _ (.agg (colD p0)) (colD p0) rfl (colD_one _) rfl rfl rfl rfl rfl ?_
 refine kN 1 rfl ?_
 refine kR ?_
 refine AOps_q 6 _ rfl rfl rfl (QOp_loadN_pv _ _ _ _ _ _ rfl Try.isAgg29 Try.sizeOf29 rfl (colD_all _) (colD_length _)) ?_
 refine kM 1 rfl ?_
 obtain ⟨r1, hr1, h⟩ := bindO h
 refine kC [] 8 (iV r1) [] rfl Try.call22 rfl rfl (spec_l05Given_ac k p0 p1 _ hr1) rfl ?_
 refine kN 1 rfl ?_
 refine kO (fun s5 => [(5, iV r1)]) (fun s5 => []) h (fun os5 h hks5 => ?_) (fun s5 h => ?_)
 ·refine kL (fun s3 => [(5, iV r1), (15, bV s3)]) (fun s3 => []) h (fun s3 h => ?_) (fun s3 h => ?_)
  ·refine (ACode_region ?_)
   refine kM 1 rfl ?_
   refine AOps_q 10 _ rfl rfl rfl (QOp_eql _ _ _ _ _ _ _ rfl rfl rfl) ?_
   refine kM 1 rfl ?_
   refine AOps_case 11 _ rfl (fun hb2 => ?_) (fun hb2 => ?_)
   ·have h := iteT hb2 h
    refine AOps_q 12 _ rfl rfl rfl (QOp_fieldAddr_pv _ _ _ _ _ 0 _ _ rfl Try.underlying29 rfl _ Try.sizeOf2 rfl rfl) ?_
    refine AOps_q 13 _ rfl rfl rfl (QOp_load_pv _ _ _ _ _ rfl Try.isAgg2 rfl rfl) ?_
    refine AOps_q 14 _ rfl rfl rfl (QOp_gtr _ _ _ _ _ _ _ rfl rfl rfl) ?_
    refine kN 1 rfl ?_
    cases h
    exact Weak_keep 0 hm [5, 15] [] _ _ rfl rfl rfl
   have h := iteF hb2 h
   refine AOps_skip 12 rfl rfl rfl ?_
   refine AOps_skip 13 rfl rfl rfl ?_
   refine AOps_skip 14 rfl rfl rfl ?_
   refine kN 1 rfl ?_
   cases h
   exact Weak_keep 0 hm [5, 15] [] _ _ rfl rfl rfl
  refine kI h rfl (fun h _ => ?_) (fun h _ => ?_)
  ·refine kR ?_
   refine kN 1 rfl ?_
   refine ACode_ret ?_
   cases h
   have h := hks5
   cases h
   exact ⟨_, _, fun r a w h => ⟨r, h⟩, _, _, [], _, (.cons (ResV_tmp _ _ rfl) .nil), rfl, rfl, rfl, rfl, rfl⟩
  refine ACode_skip ?_
  cases h
  exact ⟨_, rfl, Weak_keep 0 hm [5] [] _ _ rfl rfl rfl⟩
 refine kR ?_
 refine kN 2 rfl ?_
 refine ACode_ret ?_
 cases h
 exact ⟨_, _, fun r a w h => ⟨r, h⟩, _, _, [], _, (.cons (ResV_tmp _ _ rfl) .nil), rfl, rfl, rfl, rfl, rfl⟩

-- loop.example/g01362/spec.l01Own
def spec_l01Own (p0 : List Int) : Option (List Int) :=
 (if ([] : List Int).length + p0.length ≤ 1099511627776 then some (([] : List Int) ++ p0) else none)
set_option maxRecDepth 100000 in
theorem spec_l01Own_ac (p0 : List Int) (r : List Int) (h : spec_l01Own p0 = some r) : AC Try.prog 31 [.d (.sl none (intsD p0))] [] (fun res H' => res = [.vec 0 0] ∧ H' = [.vec 0 (intsD r)]) := by
 refine AC_of_body true Try.func31 rfl Try.ntmps31 (rvs := [.tmp 2]) rfl rfl (fun G hG => ?_)
 have hm : G.H.length = 0 := by rw [hG]; rfl
 have hz : zeroG G.H = true := by rw [hG]; rfl
 unfold spec_l01Own at h
 refine kR ?_
 refine kN 1 rfl ?_
 refine kR ?_
 refine AOps_buildSlice 3 _ _ _ [] (intsD ([] : List Int)) _ rfl rfl rfl rfl rfl (by decide) Try.underlying25 Try.sizeOf2 (zero_of Try.typeInfo2 rfl) rfl rfl (intsD_one _) ?_
 refine kM 1 rfl ?_
 obtain ⟨hc1, h⟩ := guardO h
 refine AOps_append 5 _ _ _ _ _ _ _ _ _ _ _ _ rfl rfl rfl rfl rfl rfl rfl Try.underlying25 Try.type2 rfl rfl rfl (by decide) rfl rfl rfl rfl (intsD_one _) (by rw [intsD_length, intsD_length]; exact hc1) ?_
 rw [intsD_app]
 refine kN 1 rfl ?_
 refine ACode_ret ?_
 cases h
 exact ⟨_, _, Weak_reset 0 hm hz [2] _ _ rfl rfl, _, _, [0], _, (.cons (ResV_tmp _ _ rfl) .nil), rfl, rfl, rfl, rfl, rfl⟩

-- loop.example/g01362/spec.l05Search
def spec_l05Search_l0 (k : Nat) (self : Col → (List Int) → (List Int) → (List Int) → Int → Option (List (List Int))) (p0 : Col) (p1 : List Int) (p2 : List Int) (p3 : List Int) (p4 : Int) : Nat → Int → (List (List Int)) → Option (List (List Int))
 | 0, _, _ => none
 | k0 + 1, x2, x3 => (letO (if decide (x2 < p0.k) then decide ((x3.length : Int) < p4) else false) fun (s5 : Bool) => (if s5 then some (.inl ()) else (some x3).bind fun rr => some (.inr rr)) : Option (Sum (Unit) (List (List Int)))).bind fun os7 => (match os7 with | .inl s7 => ((((if 0 ≤ x2 ∧ x2 < (p1.length : Int) then (if decide ((p1.getD x2.toNat 0) < 2) then some true else (if 0 ≤ x2 ∧ x2 < (p3.length : Int) then (spec_l01Around k p0 (p2.length : Int) x2).bind fun r11 => (if 0 ≤ x2 ∧ x2 < (p1.length : Int) then (spec_l03Clique k p0 x2 (bAnd .i64 (p3.getD x2.toNat 0) r11) (w64 ((p1.getD x2.toNat 0) - 2))).bind fun r13 => some r13 else none) else none)) else none) : Option (Bool)).bind fun s14 => (if s14 then (some x3).bind fun rr => some (.inr rr) else some (.inl ())) : Option (Sum (Unit) (List (List Int)))).bind fun os16 => (match os16 with | .inl s16 => (spec_l01Own p3).bind fun r17 => (if 0 ≤ x2 ∧ x2 < (r17.length : Int) then (if 0 ≤ IntKind.u64.wrap (p2.length : Int) then (if 0 ≤ x2 ∧ x2 < (r17.length : Int) then (spec_l01Own p2).bind fun r21 => (if r21.length + ([x2]).length ≤ 1099511627776 then (self p0 p1 (r21 ++ ([x2])) (r17.set x2.toNat (bOr .i64 (r17.getD x2.toNat 0) (bShl .i64 1 (IntKind.u64.wrap (p2.length : Int))))) (w64 (p4 - (x3.length : Int)))).bind fun r23 => (if x3.length + r23.length ≤ 1099511627776 then some (x3 ++ r23) else none) else none) else none) else none) else none) | .inr rr => some rr) : Option (List (List Int))).bind fun s25 => spec_l05Search_l0 k self p0 p1 p2 p3 p4 k0 (w64 (x2 + 1)) s25 | .inr rr => some rr)
def spec_l05Search_body (self : Col → (List Int) → (List Int) → (List Int) → Int → Option (List (List Int))) (k : Nat) (p0 : Col) (p1 : List Int) (p2 : List Int) (p3 : List Int) (p4 : Int) : Option (List (List Int)) :=
 (if decide ((p2.length : Int) = p0.p) then some ([p2]) else (spec_l05Search_l0 k self p0 p1 p2 p3 p4 k 0 ([] : List (List Int)) : Option (List (List Int))).bind fun s26 => some s26)
def spec_l05Search : Nat → Col → (List Int) → (List Int) → (List Int) → Int → Option (List (List Int))
 | 0, _, _, _, _, _ => none
 | k + 1, p0, p1, p2, p3, p4 => spec_l05Search_body (spec_l05Search k) k p0 p1 p2 p3 p4
-- loop.example/g01362/spec.l05All
def spec_l05All_l0 (p1 : List Int) : Nat → Int → Option (Sum (Unit) (List (List Int)))
 | 0, _ => none
 | k0 + 1, x1 => (if decide (x1 < (p1.length : Int)) then (if 0 ≤ x1 ∧ x1 < (p1.length : Int) then (if decide ((p1.getD x1.toNat 0) = 1) then some (.inr ([] : List (List Int))) else spec_l05All_l0 p1 k0 (w64 (x1 + 1))) else none) else some (.inl ()))
def spec_l05All (k : Nat) (p0 : Col) (p1 : List Int) (p2 : Int) : Option (List (List Int)) :=
 (spec_l05All_l0 p1 k 0 : Option (Sum (Unit) (List (List Int)))).bind fun os5 => (match os5 with | .inl s5 => (if 0 ≤ p0.k ∧ p0.k ≤ p0.k ∧ p0.k ≤ 1099511627776 then (spec_l05Search k p0 p1 ([] : List Int) (List.replicate p0.k.toNat (0 : Int)) p2).bind fun r7 => some r7 else none) | .inr rr => some rr)
-- loop.example/g01362/spec.ExtensionList
def spec_ExtensionList (k : Nat) (p0 : Col) (p1 : List Int) : Option (List (List Int) × Int) :=
 (spec_l05Small k p0 p1).bind fun r1 => (if !decide (r1 = 0) then some ([], r1) else (spec_l05All k p0 p1 201).bind fun r3 => (if decide (200 < (r3.length : Int)) then some ([], 3) else some (r3, 0)))
-- loop.example/g01362/spec.l05Search
def spec_l05Search_o1_l0 (k : Nat) (self : Col → (List Int) → (List Int) → (List Int) → Int → Option (List (List Int))) (p0 : Col) (p1 : List Int) (p2 : List Int) (p3 : List Int) (p4 : Int) : Nat → Int → (List (List Int)) → Option (List (List Int))
 | 0, _, _ => none
 | k0 + 1, x2, x3 => (letO (if decide (x2 < p0.k) then decide ((x3.length : Int) < p4) else false) fun (s5 : Bool) => (if s5 then some (.inl ()) else (some x3).bind fun rr => some (.inr rr)) : Option (Sum (Unit) (List (List Int)))).bind fun os7 => (match os7 with | .inl s7 => ((((if 0 ≤ x2 ∧ x2 < (p1.length : Int) then (if decide ((p1.getD x2.toNat 0) < 2) then some true else (if 0 ≤ x2 ∧ x2 < (p3.length : Int) then (spec_l01Around k p0 (p2.length : Int) x2).bind fun r11 => (if 0 ≤ x2 ∧ x2 < (p1.length : Int) then (spec_l03Clique k p0 x2 (bAnd .i64 (p3.getD x2.toNat 0) r11) (w64 ((p1.getD x2.toNat 0) - 2))).bind fun r13 => some r13 else none) else none)) else none) : Option (Bool)).bind fun s14 => (if s14 then (some x3).bind fun rr => some (.inr rr) else some (.inl ())) : Option (Sum (Unit) (List (List Int)))).bind fun os16 => (match os16 with | .inl s16 => (spec_l01Own p3).bind fun r17 => (if 0 ≤ x2 ∧ x2 < (r17.length : Int) then (if 0 ≤ IntKind.u64.wrap (p2.length : Int) then (if 0 ≤ x2 ∧ x2 < (r17.length : Int) then (spec_l01Own p2).bind fun r21 => (if r21.length + ([x2]).length ≤ 1099511627776 then (self p0 p1 (r21 ++ ([x2])) (r17.set x2.toNat (bOr .i64 (r17.getD x2.toNat 0) (bShl .i64 1 (IntKind.u64.wrap (p2.length : Int))))) (w64 (p4 - (x3.length : Int)))).bind fun r23 => (if x3.length + r23.length ≤ 1099511627776 then some (x3 ++ r23) else none) else none) else none) else none) else none) | .inr rr => some rr) : Option (List (List Int))).bind fun s25 => spec_l05Search_o1_l0 k self p0 p1 p2 p3 p4 k0 (w64 (x2 + 1)) s25 | .inr rr => some rr)
def spec_l05Search_o1_body (self : Col → (List Int) → (List Int) → (List Int) → Int → Option (List (List Int))) (k : Nat) (p0 : Col) (p1 : List Int) (p2 : List Int) (p3 : List Int) (p4 : Int) : Option (List (List Int)) :=
 (if decide ((p2.length : Int) = p0.p) then some ([p2]) else (spec_l05Search_o1_l0 k self p0 p1 p2 p3 p4 k 0 ([] : List (List Int)) : Option (List (List Int))).bind fun s26 => some s26)
def spec_l05Search_o1 : Nat → Col → (List Int) → (List Int) → (List Int) → Int → Option (List (List Int))
 | 0, _, _, _, _, _ => none
 | k + 1, p0, p1, p2, p3, p4 => spec_l05Search_o1_body (spec_l05Search_o1 k) k p0 p1 p2 p3 p4
set_option maxRecDepth 100000 in
theorem spec_l05Search_o1_ac (k : Nat) (p0 : Col) (p1 : List Int) (p2 : List Int) (p3 : List Int) (p4 : Int) (r : List (List Int)) (h : spec_l05Search_o1 k p0 p1 p2 p3 p4 = some r) : AC Try.prog 23 [.d (.agg (colD p0)), .vec 0 0, .d (.sl none (intsD p2)), .d (.sl none (intsD p3)), iV p4] [.vec 0 (intsD p1)] (fun res H' => res = [.d (.sl none (rowsD r))] ∧ H' = [.vec 0 (intsD p1)]) := by
 induction k generalizing p0 p1 p2 p3 p4 r with
 | zero => simp [spec_l05Search_o1] at h
 | succ k ih =>
  rw [spec_l05Search_o1] at h
  obtain ⟨self, hself, hk⟩ : ∃ self : Col → (List Int) → (List Int) → (List Int) → Int → Option (List (List Int)), (∀ (p0 : Col) (p1 : List Int) (p2 : List Int) (p3 : List Int) (p4 : Int) (r : List (List Int)), self p0 p1 p2 p3 p4 = some r → AC Try.prog 23 [.d (.agg (colD p0)), .vec 0 0, .d (.sl none (intsD p2)), .d (.sl none (intsD p3)), iV p4] [.vec 0 (intsD p1)] (fun res H' => res = [.d (.sl none (rowsD r))] ∧ H' = [.vec 0 (intsD p1)])) ∧ spec_l05Search_o1 k = self := ⟨spec_l05Search_o1 k, fun p0 p1 p2 p3 p4 r h => ih p0 p1 p2 p3 p4 r h, rfl⟩
  rw [hk] at h
  clear ih hk
  refine AC_of_body true Try.func23 rfl Try.ntmps23 (rvs := [.tmp 10]) rfl rfl (fun G hG => ?_)
  have hm : G.H.length = 1 := by rw [hG]; rfl
  have hz : zeroG G.H = true := by rw [hG]; rfl
  unfold spec_l05Search_o1_body at h
  refine kR ?_
  refine AOps_boxI 5 _ _ (.agg (colD p0)) (colD p0) rfl (colD_one _) rfl rfl rfl rfl rfl ?_
  refine kN 1 rfl ?_
  refine kR ?_
  refine kM 1 rfl ?_
  refine AOps_q 16 _ rfl rfl rfl (QOp_len_sl _ _ _ _ _ _ _ (intsD_length _) rfl rfl rfl rfl Try.underlying25 rfl) ?_
  refine kN 1 rfl ?_
  refine ACode_seq ?_
  refine kR ?_
  refine kM 1 rfl ?_
  refine AOps_q 18 _ rfl rfl rfl (QOp_fieldAddr_pv _ _ _ _ _ 0 _ _ rfl Try.underlying29 rfl _ Try.sizeOf2 rfl rfl) ?_
  refine AOps_q 19 _ rfl rfl rfl (QOp_load_pv _ _ _ _ _ rfl Try.isAgg2 rfl rfl) ?_
  refine AOps_q 20 _ rfl rfl rfl (QOp_eql _ _ _ _ _ _ _ rfl rfl rfl) ?_
  refine AOps_nil ?_
  refine kI h rfl (fun h _ => ?_) (fun h _ => ?_)
  ·refine kR ?_
   refine kM 1 rfl ?_
   refine AOps_buildSlice 22 _ _ _ [_] (rowsD ([p2])) _ rfl rfl rfl rfl rfl (by decide) Try.underlying26 Try.sizeOf25 (zero_of Try.typeInfo25 rfl) rfl rfl (rowsD_one _) ?_
   refine kN 1 rfl ?_
   refine ACode_ret ?_
   cases h
   exact ⟨_, _, fun r a w h => ⟨r, h⟩, _, _, [], _, (.cons (ResV_tmp _ _ rfl) .nil), rfl, rfl, rfl, rfl, rfl⟩
  refine ACode_skip ?_
  refine kR ?_
  refine AOps_buildSlice 23 _ _ _ [] (rowsD ([] : List (List Int))) _ rfl rfl rfl rfl rfl (by decide) Try.underlying26 Try.sizeOf25 (zero_of Try.typeInfo25 rfl) rfl rfl (rowsD_one _) ?_
  refine kN 1 rfl ?_
  refine kB (fun s26 => [(12, .vec 1 0)]) (fun s26 => [.vec 0 (intsD p1), .vec 0 (rowsD s26)]) h (fun s26 h => ?_) (fun s26 h => ?_)
  ·refine kR ?_
   refine kN 1 rfl ?_
   refine ACode_block ?_
   refine ACode_loopW (fun k0 E H => ∃ (x2 : Int) (x3 : List (List Int)), E = [(1, .vec 0 0), (2, .d (.sl none (intsD p2))), (3, .d (.sl none (intsD p3))), (4, iV p4), (5, .d (.pv (colD p0) 0)), (11, iV (p2.length : Int)), (12, .vec 1 0), (13, iV x2)] ∧ H = [.vec 0 (intsD p1), .vec 0 (rowsD x3)] ∧ spec_l05Search_o1_l0 k self p0 p1 p2 p3 p4 k0 x2 x3 = some s26) k _ _ (Weak_keep 1 hm [1, 2, 3, 4, 5, 11, 12, 13] [1] _ _ rfl rfl rfl) ⟨_, _, rfl, rfl, h⟩ ?_
   clear h
   rintro k0 E H ⟨x2, x3, rfl, rfl, h⟩
   cases k0 with
   | zero => cases (show (none : Option (List (List Int))) = some _ from h)
   | succ k0 =>
    rw [spec_l05Search_o1_l0] at h
    refine kO (fun s7 => [(1, .vec 0 0), (2, .d (.sl none (intsD p2))), (3, .d (.sl none (intsD p3))), (4, iV p4), (5, .d (.pv (colD p0) 0)), (11, iV (p2.length : Int)), (12, .vec 1 0), (13, iV x2)]) (fun s7 => [.vec 0 (intsD p1), .vec 0 (rowsD x3)]) h (fun os7 h hks7 => ?_) (fun s7 h => ?_)
    ·refine kL (fun s5 => [(1, .vec 0 0), (2, .d (.sl none (intsD p2))), (3, .d (.sl none (intsD p3))), (4, iV p4), (5, .d (.pv (colD p0) 0)), (11, iV (p2.length : Int)), (12, .vec 1 0), (13, iV x2), (33, bV s5)]) (fun s5 => [.vec 0 (intsD p1), .vec 0 (rowsD x3)]) h (fun s5 h => ?_) (fun s5 h => ?_)
     ·refine (ACode_region ?_)
      refine kM 1 rfl ?_
      refine AOps_q 25 _ rfl rfl rfl (QOp_fieldAddr_pv _ _ _ _ _ 1 _ _ rfl Try.underlying29 rfl _ Try.sizeOf2 rfl rfl) ?_
      refine AOps_q 26 _ rfl rfl rfl (QOp_load_pv _ _ _ _ _ rfl Try.isAgg2 rfl rfl) ?_
      refine AOps_q 27 _ rfl rfl rfl (QOp_lss _ _ _ _ _ _ _ rfl rfl rfl) ?_
      refine kM 1 rfl ?_
      refine AOps_case 28 _ rfl (fun hb4 => ?_) (fun hb4 => ?_)
      ·have h := iteT hb4 h
       refine kM 1 rfl ?_
       refine AOps_q 30 _ rfl rfl rfl (QOp_len_vec _ _ _ _ _ _ _ _ (rowsD_length _) rfl rfl rfl rfl Try.underlying26 rfl rfl) ?_
       refine kM 1 rfl ?_
       refine AOps_q 32 _ rfl rfl rfl (QOp_lss _ _ _ _ _ _ _ rfl rfl rfl) ?_
       refine kN 1 rfl ?_
       cases h
       exact Weak_keep 1 hm [1, 2, 3, 4, 5, 11, 12, 13, 33] [1] _ _ rfl rfl rfl
      have h := iteF hb4 h
      refine AOps_skip 29 rfl rfl rfl ?_
      refine AOps_skip 30 rfl rfl rfl ?_
      refine AOps_skip 31 rfl rfl rfl ?_
      refine AOps_skip 32 rfl rfl rfl ?_
      refine kN 1 rfl ?_
      cases h
      exact Weak_keep 1 hm [1, 2, 3, 4, 5, 11, 12, 13, 33] [1] _ _ rfl rfl rfl
     refine kI h rfl (fun h _ => ?_) (fun h _ => ?_)
     ·refine ACode_skip ?_
      cases h
      exact ⟨_, rfl, Weak_keep 1 hm [1, 2, 3, 4, 5, 11, 12, 13] [1] _ _ rfl rfl rfl⟩
     refine ACode_exit ?_
     obtain ⟨rr, hz27, h2⟩ := bindO h
     obtain rfl := Option.some.inj h2
     obtain rfl := Option.some.inj (show some rr = some _ from hks7)
     have h := hz27
     cases h
     exact Weak_keep 1 hm [12] [1] _ _ rfl rfl rfl
    refine kB (fun s25 => [(1, .vec 0 0), (2, .d (.sl none (intsD p2))), (3, .d (.sl none (intsD p3))), (4, iV p4), (5, .d (.pv (colD p0) 0)), (11, iV (p2.length : Int)), (12, .vec 1 0), (13, iV x2)]) (fun s25 => [.vec 0 (intsD p1), .vec 0 (rowsD s25)]) h (fun s25 h => ?_) (fun s25 h => ?_)
    ·refine ACode_block ?_
     refine kO (fun s16 => [(1, .vec 0 0), (2, .d (.sl none (intsD p2))), (3, .d (.sl none (intsD p3))), (4, iV p4), (5, .d (.pv (colD p0) 0)), (11, iV (p2.length : Int)), (12, .vec 1 0), (13, iV x2)]) (fun s16 => [.vec 0 (intsD p1), .vec 0 (rowsD x3)]) h (fun os16 h hks16 => ?_) (fun s16 h => ?_)
     ·refine kB (fun s14 => [(1, .vec 0 0), (2, .d (.sl none (intsD p2))), (3, .d (.sl none (intsD p3))), (4, iV p4), (5, .d (.pv (colD p0) 0)), (11, iV (p2.length : Int)), (12, .vec 1 0), (13, iV x2), (59, bV s14)]) (fun s14 => [.vec 0 (intsD p1), .vec 0 (rowsD x3)]) h (fun s14 h => ?_) (fun s14 h => ?_)
      ·refine (ACode_quiet mixed (by kernel_rfl) ?_)
       refine kQ 2 rfl ?_
       obtain ⟨hc8, h⟩ := guardO h
       refine AQ_q 38 _ rfl rfl rfl (QOp_indexAddr_vec _ _ _ _ _ _ _ _ _ rfl Try.underlying25 Try.sizeOf2 hc8.1 (by rw [intsD_length]; exact hc8.2) rfl rfl rfl) ?_
       refine AQ_q 39 _ rfl rfl rfl (QOp_load_eptr _ _ _ _ _ _ _ rfl Try.isAgg2 rfl rfl (intsD_get _ _ 0 (by omega))) ?_
       refine AQ_q 40 _ rfl rfl rfl (QOp_lss _ _ _ _ _ _ _ rfl rfl rfl) ?_
       refine kQ 1 rfl ?_
       refine AQ_case 41 _ rfl (fun hb9 => ?_) (fun hb9 => ?_)
       ·have h := iteT hb9 h
        refine AQ_skip 42 rfl rfl rfl ?_
        refine AQ_skip 43 rfl rfl rfl ?_
        refine AQ_skip 44 rfl rfl rfl ?_
        refine AQ_skip 45 rfl rfl rfl ?_
        refine AQ_skip 46 rfl rfl rfl ?_
        refine AQ_skip 47 rfl rfl rfl ?_
        refine AQ_skip 48 rfl rfl rfl ?_
        refine AQ_skip 49 rfl rfl rfl ?_
        refine AQ_skip 50 rfl rfl rfl ?_
        refine AQ_skip 51 rfl rfl rfl ?_
        refine AQ_skip 52 rfl rfl rfl ?_
        refine AQ_skip 53 rfl rfl rfl ?_
        refine AQ_skip 54 rfl rfl rfl ?_
        refine AQ_skip 55 rfl rfl rfl ?_
        refine AQ_skip 56 rfl rfl rfl ?_
        refine AQ_skip 57 rfl rfl rfl ?_
        refine AQ_skip 58 rfl rfl rfl ?_
        refine kQ 1 rfl ?_
        refine AQ_nil ?_
        cases h
        exact Weak_keep 1 hm [1, 2, 3, 4, 5, 11, 12, 13, 59] [1] _ _ rfl rfl rfl
       have h := iteF hb9 h
       refine AQ_q 42 _ rfl rfl rfl (QOp_loadN_pv _ _ _ _ _ _ rfl Try.isAgg29 Try.sizeOf29 rfl (colD_all _) (colD_length _)) ?_
       refine kQ 3 rfl ?_
       obtain ⟨hc10, h⟩ := guardO h
       refine AQ_q 46 _ rfl rfl rfl (QOp_indexAddr_sl _ _ _ _ _ _ _ _ rfl Try.underlying25 Try.sizeOf2 hc10.1 (by rw [intsD_length]; exact hc10.2) rfl rfl) ?_
       refine AQ_q 47 _ rfl rfl rfl (QOp_load_pv _ _ _ _ _ rfl Try.isAgg2 rfl (intsD_get _ _ 0 (by omega))) ?_
       refine AQ_q 48 _ rfl rfl rfl (QOp_loadN_pv _ _ _ _ _ _ rfl Try.isAgg29 Try.sizeOf29 rfl (colD_all _) (colD_length _)) ?_
       refine kQ 2 rfl ?_
       obtain ⟨r11, hr11, h⟩ := bindO h
       refine AQ_call 51 _ _ _ _ _ _ _ _ _ rfl rfl rfl rfl rfl rfl rfl Try.call30 rfl rfl rfl (spec_l01Around_ac k p0 (p2.length : Int) x2 _ hr11) ?_
       refine AQ_q 52 _ rfl rfl rfl (QOp_and _ _ _ _ _ _ _ rfl rfl rfl) ?_
       refine kQ 2 rfl ?_
       obtain ⟨hc12, h⟩ := guardO h
       refine AQ_q 55 _ rfl rfl rfl (QOp_indexAddr_vec _ _ _ _ _ _ _ _ _ rfl Try.underlying25 Try.sizeOf2 hc12.1 (by rw [intsD_length]; exact hc12.2) rfl rfl rfl) ?_
       refine AQ_q 56 _ rfl rfl rfl (QOp_load_eptr _ _ _ _ _ _ _ rfl Try.isAgg2 rfl rfl (intsD_get _ _ 0 (by omega))) ?_
       refine AQ_q 57 _ rfl rfl rfl (QOp_sub _ _ _ _ _ _ _ rfl rfl rfl) ?_
       obtain ⟨r13, hr13, h⟩ := bindO h
       refine AQ_call 58 _ _ _ _ _ _ _ _ _ rfl rfl rfl rfl rfl rfl rfl Try.call29 rfl rfl rfl (spec_l03Clique_ac k p0 x2 (bAnd .i64 (p3.getD x2.toNat 0) r11) (w64 ((p1.getD x2.toNat 0) - 2)) _ hr13) ?_
       refine kQ 1 rfl ?_
       refine AQ_nil ?_
       cases h
       exact Weak_keep 1 hm [1, 2, 3, 4, 5, 11, 12, 13, 59] [1] _ _ rfl rfl rfl
      refine kI h rfl (fun h _ => ?_) (fun h _ => ?_)
      ·refine ACode_exit ?_
       obtain ⟨rr, hz28, h2⟩ := bindO h
       obtain rfl := Option.some.inj h2
       obtain rfl := Option.some.inj (show some rr = some _ from hks16)
       have h := hz28
       cases h
       exact Weak_keep 1 hm [1, 2, 3, 4, 5, 11, 12, 13] [1] _ _ rfl rfl rfl
      refine ACode_skip ?_
      cases h
      exact ⟨_, rfl, Weak_keep 1 hm [1, 2, 3, 4, 5, 11, 12, 13] [1] _ _ rfl rfl rfl⟩
     refine kR ?_
     refine kM 1 rfl ?_
     obtain ⟨r17, hr17, h⟩ := bindO h
     refine kC [] 61 (.vec 2 0) [.vec 0 (intsD p1), .vec 0 (rowsD x3), .vec 0 (intsD r17)] rfl Try.call31 rfl rfl (spec_l01Own_ac p3 _ hr17) rfl ?_
     refine kN 1 rfl ?_
     refine kR ?_
     refine kM 4 rfl ?_
     obtain ⟨hc18, h⟩ := guardO h
     refine AOps_q 66 _ rfl rfl rfl (QOp_indexAddr_vec _ _ _ _ _ _ _ _ _ rfl Try.underlying25 Try.sizeOf2 hc18.1 (by rw [intsD_length]; exact hc18.2) rfl rfl rfl) ?_
     refine AOps_q 67 _ rfl rfl rfl (QOp_load_eptr _ _ _ _ _ _ _ rfl Try.isAgg2 rfl rfl (intsD_get _ _ 0 (by omega))) ?_
     refine kM 1 rfl ?_
     refine AOps_q 69 _ rfl rfl rfl (QOp_conv _ _ _ _ _ _ rfl rfl Try.underlying51 rfl) ?_
     obtain ⟨hc19, h⟩ := guardO h
     refine AOps_q 70 _ rfl rfl rfl (QOp_shl _ _ _ _ _ _ _ _ hc19 rfl rfl rfl) ?_
     refine AOps_q 71 _ rfl rfl rfl (QOp_or _ _ _ _ _ _ _ rfl rfl rfl) ?_
     obtain ⟨hc20, h⟩ := guardO h
     refine AOps_q 72 _ rfl rfl rfl (QOp_indexAddr_vec _ _ _ _ _ _ _ _ _ rfl Try.underlying25 Try.sizeOf2 hc20.1 (by rw [intsD_length]; exact hc20.2) rfl rfl rfl) ?_
     refine AOps_store_eptr _ _ _ _ _ _ (intsD r17) _ rfl rfl rfl rfl rfl rfl rfl Try.sizeOf2 (by rw [intsD_length]; omega) ?_
     rw [intsD_set]
     refine AOps_nil ?_
     obtain ⟨r21, hr21, h⟩ := bindO h
     obtain ⟨hc22, h⟩ := guardO h
     obtain ⟨r23, hr23, h⟩ := bindO h
     obtain ⟨hc24, h⟩ := guardO h
     refine ACode_reg [(1, .vec 0 0), (2, .d (.sl none (intsD p2))), (3, .d (.sl none (intsD p3))), (4, iV p4), (5, .d (.pv (colD p0) 0)), (11, iV (p2.length : Int)), (12, .vec 1 0), (13, iV x2)] [.vec 0 (intsD p1), .vec 0 (rowsD (x3 ++ r23))] ?_ ?_
     ·refine ACode_anyU mixed ?_
      refine AU_cut 3 #[true, true, true, true, true, true, true, true, true, true, true, true, true, false, false, false] [(1, .vec 0 0), (2, .d (.sl none (intsD p2))), (3, .d (.sl none (intsD p3))), (4, iV p4), (5, .d (.pv (colD p0) 0)), (11, iV (p2.length : Int)), (12, .vec 1 0), (13, iV x2), (73, .vec 1 0), (74, .d (.agg (colD p0))), (75, .vec 0 0), (80, .vec 2 0), (81, .vec 3 0), (85, iV (w64 (p4 - (x3.length : Int))))] [.vec 0 (intsD p1), .vec 0 (rowsD x3), .vec 0 (intsD (r21 ++ ([x2]))), .vec 0 (intsD (r17.set x2.toNat (bOr .i64 (r17.getD x2.toNat 0) (bShl .i64 1 (IntKind.u64.wrap (p2.length : Int))))))] ?_ (fun hS0 => ?_)
      ·refine AU_one 13 (by kernel_rfl) rfl rfl ?_
       refine AOps_freezeL [80] 2 0 _ (allc (rfl) (fun _ h => nomatch h)) rfl ?_
       refine AOps_freezeL [81] 3 0 _ (allc (rfl) (fun _ h => nomatch h)) rfl ?_
       refine kC [0] 86 (.d (.sl none (rowsD r23))) [.vec 0 (intsD p1), .vec 0 (rowsD x3), .gone, .gone] rfl Try.call23 rfl rfl (hself p0 p1 (r21 ++ ([x2])) (r17.set x2.toNat (bOr .i64 (r17.getD x2.toNat 0) (bShl .i64 1 (IntKind.u64.wrap (p2.length : Int))))) (w64 (p4 - (x3.length : Int))) _ hr23) rfl ?_
       refine AOps_nil ?_
       refine AU_one 14 (by kernel_rfl) rfl rfl ?_
       refine AOps_append 87 _ _ _ _ _ _ _ _ _ _ _ _ rfl rfl rfl rfl rfl rfl rfl Try.underlying26 Try.type25 rfl rfl rfl (by decide) rfl rfl rfl rfl (rowsD_one _) (by rw [rowsD_length, rowsD_length]; exact hc24) ?_
       rw [rowsD_app]
       refine AOps_nil ?_
       refine AU_u 15 12 _ rfl (by kernel_rfl) rfl rfl rfl (UOp_assign _ _ rfl rfl) ?_
       refine AU_done (by kernel_rfl) ?_
       exact ⟨rfl, Weak_trans (Weak_keep 1 hm [1, 2, 3, 4, 5, 11, 12, 13] [1] _ _ rfl rfl rfl) (Weak_reset 1 hm hz [1, 2, 3, 4, 5, 11, 12, 13] _ _ rfl rfl)⟩
      refine AU_cut 4 #[true, true, true, true, true, true, true, false, true, true, true, true, true, false, false, false] [(1, .vec 0 0), (2, .d (.sl none (intsD p2))), (3, .d (.sl none (intsD p3))), (4, iV p4), (5, .d (.pv (colD p0) 0)), (11, iV (p2.length : Int)), (12, .vec 1 0), (13, iV x2), (73, .vec 1 0), (74, .d (.agg (colD p0))), (75, .vec 0 0), (77, .vec 2 0), (79, .vec 3 0), (81, .vec 4 0), (85, iV (w64 (p4 - (x3.length : Int))))] [.vec 0 (intsD p1), .vec 0 (rowsD x3), .vec 0 (intsD r21), .vec 0 (intsD ([x2])), .vec 0 (intsD (r17.set x2.toNat (bOr .i64 (r17.getD x2.toNat 0) (bShl .i64 1 (IntKind.u64.wrap (p2.length : Int))))))] ?_ (fun hS1 => ?_)
      ·refine AU_one 7 (by kernel_rfl) rfl rfl ?_
       refine AOps_append 80 _ _ _ _ _ _ _ _ _ _ _ _ rfl rfl rfl rfl rfl rfl rfl Try.underlying25 Try.type2 rfl rfl rfl (by decide) rfl rfl rfl rfl (intsD_one _) (by rw [intsD_length, intsD_length]; exact hc22) ?_
       rw [intsD_app]
       refine AOps_nil ?_
       exact AU_to (by kernel_rfl) hS0 (Weak_trans (Weak_keep 1 hm [1, 2, 3, 4, 5, 11, 12, 13, 73, 74, 75, 80, 81, 85] [1, 2, 4] _ _ rfl rfl rfl) (Weak_reset 1 hm hz [1, 2, 3, 4, 5, 11, 12, 13, 73, 74, 75, 80, 81, 85] _ _ rfl rfl))
      refine AU_cut 5 #[true, true, true, true, true, true, false, false, true, true, true, true, true, false, false, false] [(1, .vec 0 0), (2, .d (.sl none (intsD p2))), (3, .d (.sl none (intsD p3))), (4, iV p4), (5, .d (.pv (colD p0) 0)), (11, iV (p2.length : Int)), (12, .vec 1 0), (13, iV x2), (73, .vec 1 0), (74, .d (.agg (colD p0))), (75, .vec 0 0), (77, .vec 2 0), (78, iV x2), (81, .vec 3 0), (85, iV (w64 (p4 - (x3.length : Int))))] [.vec 0 (intsD p1), .vec 0 (rowsD x3), .vec 0 (intsD r21), .vec 0 (intsD (r17.set x2.toNat (bOr .i64 (r17.getD x2.toNat 0) (bShl .i64 1 (IntKind.u64.wrap (p2.length : Int))))))] ?_ (fun hS2 => ?_)
      ·refine AU_one 6 (by kernel_rfl) rfl rfl ?_
       refine AOps_buildSlice 79 _ _ _ [_] (intsD ([x2])) _ rfl rfl rfl rfl rfl (by decide) Try.underlying25 Try.sizeOf2 (zero_of Try.typeInfo2 rfl) rfl rfl (intsD_one _) ?_
       refine AOps_nil ?_
       exact AU_to (by kernel_rfl) hS1 (Weak_keep 1 hm [1, 2, 3, 4, 5, 11, 12, 13, 73, 74, 75, 77, 79, 81, 85] [1, 2, 4, 3] _ _ rfl rfl rfl)
      refine AU_cut 5 #[true, true, true, true, false, true, true, false, true, true, true, true, true, false, false, false] [(1, .vec 0 0), (2, .d (.sl none (intsD p2))), (3, .d (.sl none (intsD p3))), (4, iV p4), (5, .d (.pv (colD p0) 0)), (11, iV (p2.length : Int)), (12, .vec 1 0), (13, iV x2), (73, .vec 1 0), (74, .d (.agg (colD p0))), (75, .vec 0 0), (76, .d (.sl none (intsD p2))), (79, .vec 2 0), (81, .vec 3 0), (85, iV (w64 (p4 - (x3.length : Int))))] [.vec 0 (intsD p1), .vec 0 (rowsD x3), .vec 0 (intsD ([x2])), .vec 0 (intsD (r17.set x2.toNat (bOr .i64 (r17.getD x2.toNat 0) (bShl .i64 1 (IntKind.u64.wrap (p2.length : Int))))))] ?_ (fun hS3 => ?_)
      ·refine AU_one 4 (by kernel_rfl) rfl rfl ?_
       refine kC [] 77 (.vec 4 0) [.vec 0 (intsD p1), .vec 0 (rowsD x3), .vec 0 (intsD ([x2])), .vec 0 (intsD (r17.set x2.toNat (bOr .i64 (r17.getD x2.toNat 0) (bShl .i64 1 (IntKind.u64.wrap (p2.length : Int)))))), .vec 0 (intsD r21)] rfl Try.call31 rfl rfl (spec_l01Own_ac p2 _ hr21) rfl ?_
       refine AOps_nil ?_
       exact AU_to (by kernel_rfl) hS1 (Weak_keep 1 hm [1, 2, 3, 4, 5, 11, 12, 13, 73, 74, 75, 77, 79, 81, 85] [1, 4, 2, 3] _ _ rfl rfl rfl)
      refine AU_cut 5 #[true, false, true, true, true, true, true, false, true, true, true, true, true, false, false, false] [(1, .vec 0 0), (2, .d (.sl none (intsD p2))), (3, .d (.sl none (intsD p3))), (4, iV p4), (5, .d (.pv (colD p0) 0)), (11, iV (p2.length : Int)), (12, .vec 1 0), (13, iV x2), (73, .vec 1 0), (75, .vec 0 0), (77, .vec 2 0), (79, .vec 3 0), (81, .vec 4 0), (85, iV (w64 (p4 - (x3.length : Int))))] [.vec 0 (intsD p1), .vec 0 (rowsD x3), .vec 0 (intsD r21), .vec 0 (intsD ([x2])), .vec 0 (intsD (r17.set x2.toNat (bOr .i64 (r17.getD x2.toNat 0) (bShl .i64 1 (IntKind.u64.wrap (p2.length : Int))))))] ?_ (fun hS4 => ?_)
      ·refine AU_all [1, 7] (by kernel_rfl) rfl (allc ?_ (allc ?_ (fun _ h => nomatch h)))
       ·refine US_of 1 rfl rfl ?_
        refine AOps_q 74 _ rfl rfl rfl (QOp_loadN_pv _ _ _ _ _ _ rfl Try.isAgg29 Try.sizeOf29 rfl (colD_all _) (colD_length _)) ?_
        refine AOps_nil ?_
        exact AU_to (by kernel_rfl) hS1 (Weak_keep 1 hm [1, 2, 3, 4, 5, 11, 12, 13, 73, 74, 75, 77, 79, 81, 85] [1, 2, 3, 4] _ _ rfl rfl rfl)
       refine US_of 7 rfl rfl ?_
       refine AOps_append 80 _ _ _ _ _ _ _ _ _ _ _ _ rfl rfl rfl rfl rfl rfl rfl Try.underlying25 Try.type2 rfl rfl rfl (by decide) rfl rfl rfl rfl (intsD_one _) (by rw [intsD_length, intsD_length]; exact hc22) ?_
       rw [intsD_app]
       refine AOps_nil ?_
       refine AU_one 1 (by kernel_rfl) rfl rfl ?_
       refine AOps_q 74 _ rfl rfl rfl (QOp_loadN_pv _ _ _ _ _ _ rfl Try.isAgg29 Try.sizeOf29 rfl (colD_all _) (colD_length _)) ?_
       refine AOps_nil ?_
       exact AU_to (by kernel_rfl) hS0 (Weak_trans (Weak_keep 1 hm [1, 2, 3, 4, 5, 11, 12, 13, 73, 74, 75, 80, 81, 85] [1, 2, 4] _ _ rfl rfl rfl) (Weak_reset 1 hm hz [1, 2, 3, 4, 5, 11, 12, 13, 73, 74, 75, 80, 81, 85] _ _ rfl rfl))
      refine AU_u 0 73 _ rfl (by kernel_rfl) rfl rfl rfl (UOp_move _ _ rfl rfl) ?_
      refine AU_u 2 75 _ rfl (by kernel_rfl) rfl rfl rfl (UOp_move _ _ rfl rfl) ?_
      refine AU_u 3 76 _ rfl (by kernel_rfl) rfl rfl rfl (UOp_move _ _ rfl rfl) ?_
      refine AU_u 5 78 _ rfl (by kernel_rfl) rfl rfl rfl (UOp_move _ _ rfl rfl) ?_
      refine AU_u 8 81 _ rfl (by kernel_rfl) rfl rfl rfl (UOp_move _ _ rfl rfl) ?_
      refine AU_u 9 82 _ rfl (by kernel_rfl) rfl rfl rfl (UOp_move _ _ rfl rfl) ?_
      refine AU_u 10 83 _ rfl (by kernel_rfl) rfl rfl rfl (UOp_move _ _ rfl rfl) ?_
      refine AU_u 11 84 _ rfl (by kernel_rfl) rfl rfl rfl (UOp_len_vec _ _ _ _ _ _ _ _ (rowsD_length _) rfl rfl rfl rfl Try.underlying26 rfl rfl) ?_
      refine AU_u 12 85 _ rfl (by kernel_rfl) rfl rfl rfl (UOp_sub _ _ _ _ _ _ _ rfl rfl rfl) ?_
      refine AU_all [1, 4, 6] (by kernel_rfl) rfl (allc ?_ (allc ?_ (allc ?_ (fun _ h => nomatch h))))
      ·refine US_of 1 rfl rfl ?_
       refine AOps_q 74 _ rfl rfl rfl (QOp_loadN_pv _ _ _ _ _ _ rfl Try.isAgg29 Try.sizeOf29 rfl (colD_all _) (colD_length _)) ?_
       refine AOps_nil ?_
       refine AU_all [4, 6] (by kernel_rfl) rfl (allc ?_ (allc ?_ (fun _ h => nomatch h)))
       ·refine US_of 4 rfl rfl ?_
        refine kC [] 77 (.vec 3 0) [.vec 0 (intsD p1), .vec 0 (rowsD x3), .vec 0 (intsD (r17.set x2.toNat (bOr .i64 (r17.getD x2.toNat 0) (bShl .i64 1 (IntKind.u64.wrap (p2.length : Int)))))), .vec 0 (intsD r21)] rfl Try.call31 rfl rfl (spec_l01Own_ac p2 _ hr21) rfl ?_
        refine AOps_nil ?_
        exact AU_to (by kernel_rfl) hS2 (Weak_keep 1 hm [1, 2, 3, 4, 5, 11, 12, 13, 73, 74, 75, 77, 78, 81, 85] [1, 3, 2] _ _ rfl rfl rfl)
       refine US_of 6 rfl rfl ?_
       refine AOps_buildSlice 79 _ _ _ [_] (intsD ([x2])) _ rfl rfl rfl rfl rfl (by decide) Try.underlying25 Try.sizeOf2 (zero_of Try.typeInfo2 rfl) rfl rfl (intsD_one _) ?_
       refine AOps_nil ?_
       exact AU_to (by kernel_rfl) hS3 (Weak_keep 1 hm [1, 2, 3, 4, 5, 11, 12, 13, 73, 74, 75, 76, 79, 81, 85] [1, 3, 2] _ _ rfl rfl rfl)
      ·refine US_of 4 rfl rfl ?_
       refine kC [] 77 (.vec 3 0) [.vec 0 (intsD p1), .vec 0 (rowsD x3), .vec 0 (intsD (r17.set x2.toNat (bOr .i64 (r17.getD x2.toNat 0) (bShl .i64 1 (IntKind.u64.wrap (p2.length : Int)))))), .vec 0 (intsD r21)] rfl Try.call31 rfl rfl (spec_l01Own_ac p2 _ hr21) rfl ?_
       refine AOps_nil ?_
       refine AU_all [1, 6] (by kernel_rfl) rfl (allc ?_ (allc ?_ (fun _ h => nomatch h)))
       ·refine US_of 1 rfl rfl ?_
        refine AOps_q 74 _ rfl rfl rfl (QOp_loadN_pv _ _ _ _ _ _ rfl Try.isAgg29 Try.sizeOf29 rfl (colD_all _) (colD_length _)) ?_
        refine AOps_nil ?_
        exact AU_to (by kernel_rfl) hS2 (Weak_keep 1 hm [1, 2, 3, 4, 5, 11, 12, 13, 73, 74, 75, 77, 78, 81, 85] [1, 3, 2] _ _ rfl rfl rfl)
       refine US_of 6 rfl rfl ?_
       refine AOps_buildSlice 79 _ _ _ [_] (intsD ([x2])) _ rfl rfl rfl rfl rfl (by decide) Try.underlying25 Try.sizeOf2 (zero_of Try.typeInfo2 rfl) rfl rfl (intsD_one _) ?_
       refine AOps_nil ?_
       exact AU_to (by kernel_rfl) hS4 (Weak_keep 1 hm [1, 2, 3, 4, 5, 11, 12, 13, 73, 75, 77, 79, 81, 85] [1, 3, 4, 2] _ _ rfl rfl rfl)
      refine US_of 6 rfl rfl ?_
      refine AOps_buildSlice 79 _ _ _ [_] (intsD ([x2])) _ rfl rfl rfl rfl rfl (by decide) Try.underlying25 Try.sizeOf2 (zero_of Try.typeInfo2 rfl) rfl rfl (intsD_one _) ?_
      refine AOps_nil ?_
      refine AU_all [1, 4] (by kernel_rfl) rfl (allc ?_ (allc ?_ (fun _ h => nomatch h)))
      ·refine US_of 1 rfl rfl ?_
       refine AOps_q 74 _ rfl rfl rfl (QOp_loadN_pv _ _ _ _ _ _ rfl Try.isAgg29 Try.sizeOf29 rfl (colD_all _) (colD_length _)) ?_
       refine AOps_nil ?_
       exact AU_to (by kernel_rfl) hS3 (Weak_keep 1 hm [1, 2, 3, 4, 5, 11, 12, 13, 73, 74, 75, 76, 79, 81, 85] [1, 3, 2] _ _ rfl rfl rfl)
      refine US_of 4 rfl rfl ?_
      refine kC [] 77 (.vec 4 0) [.vec 0 (intsD p1), .vec 0 (rowsD x3), .vec 0 (intsD (r17.set x2.toNat (bOr .i64 (r17.getD x2.toNat 0) (bShl .i64 1 (IntKind.u64.wrap (p2.length : Int)))))), .vec 0 (intsD ([x2])), .vec 0 (intsD r21)] rfl Try.call31 rfl rfl (spec_l01Own_ac p2 _ hr21) rfl ?_
      refine AOps_nil ?_
      exact AU_to (by kernel_rfl) hS4 (Weak_keep 1 hm [1, 2, 3, 4, 5, 11, 12, 13, 73, 75, 77, 79, 81, 85] [1, 4, 3, 2] _ _ rfl rfl rfl)
     cases h
     exact Weak_keep 1 hm [1, 2, 3, 4, 5, 11, 12, 13] [1] _ _ rfl rfl rfl
    refine (ACode_region ?_)
    refine kM 1 rfl ?_
    refine AOps_q 35 _ rfl rfl rfl (QOp_add _ _ _ _ _ _ _ rfl rfl rfl) ?_
    refine kN 1 rfl ?_
    exact ⟨k0, _, _, Nat.lt_succ_self _, Weak_keep 1 hm [1, 2, 3, 4, 5, 11, 12, 13] [1] _ _ rfl rfl rfl, _, _, rfl, rfl, h⟩
  refine kR ?_
  refine kN 2 rfl ?_
  refine ACode_ret ?_
  cases h
  exact ⟨_, _, fun r a w h => ⟨r, h⟩, _, _, [], _, (.cons (ResV_tmp _ _ rfl) .nil), rfl, rfl, rfl, rfl, rfl⟩

-- loop.example/g01362/spec.l05All
def spec_l05All_o1_l0 (p1 : List Int) : Nat → Int → Option (Sum (Unit) (List (List Int)))
 | 0, _ => none
 | k0 + 1, x1 => (if decide (x1 < (p1.length : Int)) then (if 0 ≤ x1 ∧ x1 < (p1.length : Int) then (if decide ((p1.getD x1.toNat 0) = 1) then some (.inr ([] : List (List Int))) else spec_l05All_o1_l0 p1 k0 (w64 (x1 + 1))) else none) else some (.inl ()))
def spec_l05All_o1 (k : Nat) (p0 : Col) (p1 : List Int) (p2 : Int) : Option (List (List Int)) :=
 (spec_l05All_o1_l0 p1 k 0 : Option (Sum (Unit) (List (List Int)))).bind fun os5 => (match os5 with | .inl s5 => (if 0 ≤ p0.k ∧ p0.k ≤ p0.k ∧ p0.k ≤ 1099511627776 then (spec_l05Search_o1 k p0 p1 ([] : List Int) (List.replicate p0.k.toNat (0 : Int)) p2).bind fun r7 => some r7 else none) | .inr rr => some rr)
set_option maxRecDepth 100000 in
theorem spec_l05All_o1_ac (k : Nat) (p0 : Col) (p1 : List Int) (p2 : Int) (r : List (List Int)) (h : spec_l05All_o1 k p0 p1 p2 = some r) : AC Try.prog 14 [.d (.agg (colD p0)), .vec 0 0, iV p2] [.vec 0 (intsD p1)] (fun res H' => res = [.d (.sl none (rowsD r))] ∧ H' = [.vec 0 (intsD p1)]) := by
 refine AC_of_body true Try.func14 rfl Try.ntmps14 (rvs := [.tmp 6]) rfl rfl (fun G hG => ?_)
 have hm : G.H.length = 1 := by rw [hG]; rfl
 have hz : zeroG G.H = true := by rw [hG]; rfl
 unfold spec_l05All_o1 at h
 refine kR ?_
 refine AOps_boxI 3 _ _ (.agg (colD p0)) (colD p0) rfl (colD_one _) rfl rfl rfl rfl rfl ?_
 refine kN 1 rfl ?_
 refine kO (fun s5 => [(1, .vec 0 0), (2, iV p2), (3, .d (.pv (colD p0) 0))]) (fun s5 => [.vec 0 (intsD p1)]) h (fun os5 h hks5 => ?_) (fun s5 h => ?_)
 ·refine kR ?_
  refine kN 1 rfl ?_
  refine ACode_block ?_
  refine ACode_loopW (fun k0 E H => ∃ (x1 : Int), E = [(1, .vec 0 0), (2, iV p2), (3, .d (.pv (colD p0) 0)), (7, iV x1)] ∧ H = [.vec 0 (intsD p1)] ∧ spec_l05All_o1_l0 p1 k0 x1 = some os5) k _ _ (Weak_keep 1 hm [1, 2, 3, 7] [] _ _ rfl rfl rfl) ⟨_, rfl, rfl, h⟩ ?_
  clear h
  rintro k0 E H ⟨x1, rfl, rfl, h⟩
  cases k0 with
  | zero => cases (show (none : Option (Sum (Unit) (List (List Int)))) = some _ from h)
  | succ k0 =>
   rw [spec_l05All_o1_l0] at h
   refine ACode_seq ?_
   refine kR ?_
   refine kM 2 rfl ?_
   refine AOps_q 10 _ rfl rfl rfl (QOp_len_vec _ _ _ _ _ _ _ _ (intsD_length _) rfl rfl rfl rfl Try.underlying25 rfl rfl) ?_
   refine AOps_q 11 _ rfl rfl rfl (QOp_lss _ _ _ _ _ _ _ rfl rfl rfl) ?_
   refine AOps_nil ?_
   refine kI h rfl (fun h _ => ?_) (fun h _ => ?_)
   ·refine ACode_skip ?_
    refine ACode_seq ?_
    refine ACode_block ?_
    refine kR ?_
    refine kM 2 rfl ?_
    obtain ⟨hc3, h⟩ := guardO h
    refine AOps_q 16 _ rfl rfl rfl (QOp_indexAddr_vec _ _ _ _ _ _ _ _ _ rfl Try.underlying25 Try.sizeOf2 hc3.1 (by rw [intsD_length]; exact hc3.2) rfl rfl rfl) ?_
    refine AOps_q 17 _ rfl rfl rfl (QOp_load_eptr _ _ _ _ _ _ _ rfl Try.isAgg2 rfl rfl (intsD_get _ _ 0 (by omega))) ?_
    refine AOps_q 18 _ rfl rfl rfl (QOp_eql _ _ _ _ _ _ _ rfl rfl rfl) ?_
    refine AOps_nil ?_
    refine kI h rfl (fun h _ => ?_) (fun h _ => ?_)
    ·refine kR ?_
     refine AOps_buildSlice 19 _ _ _ [] (rowsD ([] : List (List Int))) _ rfl rfl rfl rfl rfl (by decide) Try.underlying26 Try.sizeOf25 (zero_of Try.typeInfo25 rfl) rfl rfl (rowsD_one _) ?_
     refine kN 1 rfl ?_
     refine ACode_ret ?_
     cases h
     have h := hks5
     cases h
     exact ⟨_, _, fun r a w h => ⟨r, h⟩, _, _, [], _, (.cons (ResV_tmp _ _ rfl) .nil), rfl, rfl, rfl, rfl, rfl⟩
    refine ACode_skip ?_
    refine (ACode_region ?_)
    refine kM 1 rfl ?_
    refine AOps_q 13 _ rfl rfl rfl (QOp_add _ _ _ _ _ _ _ rfl rfl rfl) ?_
    refine kN 1 rfl ?_
    exact ⟨k0, _, _, Nat.lt_succ_self _, Weak_keep 1 hm [1, 2, 3, 7] [] _ _ rfl rfl rfl, _, rfl, rfl, h⟩
   refine ACode_exit ?_
   cases h
   exact ⟨_, rfl, Weak_keep 1 hm [1, 2, 3] [] _ _ rfl rfl rfl⟩
 obtain ⟨hc6, h⟩ := guardO h
 obtain ⟨r7, hr7, h⟩ := bindO h
 refine ACode_seq (ACode_reg [(6, .d (.sl none (rowsD r7)))] [.vec 0 (intsD p1)] ?_ ?_)
 ·refine ACode_anyU mixed ?_
  refine AU_cut 2 #[true, true, true, true, true, true, true, false, false] [(20, .d (.agg (colD p0))), (21, .vec 0 0), (22, .vec 1 0), (25, .vec 2 0), (26, iV p2)] [.vec 0 (intsD p1), .vec 0 (intsD ([] : List Int)), .vec 0 (intsD (List.replicate p0.k.toNat (0 : Int)))] ?_ (fun hS0 => ?_)
  ·refine AU_one 7 (by kernel_rfl) rfl rfl ?_
   refine AOps_freezeL [22] 1 0 _ (allc (rfl) (fun _ h => nomatch h)) rfl ?_
   refine AOps_freezeL [25] 2 0 _ (allc (rfl) (fun _ h => nomatch h)) rfl ?_
   refine kC [0] 27 (.d (.sl none (rowsD r7))) [.vec 0 (intsD p1), .gone, .gone] rfl Try.call23 rfl rfl (spec_l05Search_o1_ac k p0 p1 ([] : List Int) (List.replicate p0.k.toNat (0 : Int)) p2 _ hr7) rfl ?_
   refine AOps_nil ?_
   refine AU_u 8 6 _ rfl (by kernel_rfl) rfl rfl rfl (UOp_assign _ _ rfl rfl) ?_
   refine AU_done (by kernel_rfl) ?_
   exact ⟨rfl, Weak_keep 1 hm [6] [] _ _ rfl rfl rfl⟩
  refine AU_cut 3 #[true, true, true, true, true, false, true, false, false] [(20, .d (.agg (colD p0))), (21, .vec 0 0), (22, .vec 1 0), (24, iV p0.k), (26, iV p2)] [.vec 0 (intsD p1), .vec 0 (intsD ([] : List Int))] ?_ (fun hS1 => ?_)
  ·refine AU_one 5 (by kernel_rfl) rfl rfl ?_
   refine AOps_makeSliceG intsD iD 0 (intsD_rep · _) 25 _ _ _ _ _ _ p0.k p0.k _ (.int .i64 0) rfl rfl rfl rfl rfl rfl Try.underlying25 Try.type2 rfl rfl (by decide) rfl rfl hc6.1 hc6.2.1 hc6.2.2 ?_
   refine AOps_nil ?_
   exact AU_to (by kernel_rfl) hS0 (Weak_keep 1 hm [20, 21, 22, 25, 26] [1, 2] _ _ rfl rfl rfl)
  refine AU_cut 3 #[true, true, false, true, true, true, true, false, false] [(20, .d (.agg (colD p0))), (21, .vec 0 0), (25, .vec 1 0), (26, iV p2)] [.vec 0 (intsD p1), .vec 0 (intsD (List.replicate p0.k.toNat (0 : Int)))] ?_ (fun hS2 => ?_)
  ·refine AU_one 2 (by kernel_rfl) rfl rfl ?_
   refine AOps_buildSlice 22 _ _ _ [] (intsD ([] : List Int)) _ rfl rfl rfl rfl rfl (by decide) Try.underlying25 Try.sizeOf2 (zero_of Try.typeInfo2 rfl) rfl rfl (intsD_one _) ?_
   refine AOps_nil ?_
   exact AU_to (by kernel_rfl) hS0 (Weak_keep 1 hm [20, 21, 22, 25, 26] [2, 1] _ _ rfl rfl rfl)
  refine AU_cut 3 #[false, true, true, true, true, true, true, false, false] [(3, .d (.pv (colD p0) 0)), (21, .vec 0 0), (22, .vec 1 0), (25, .vec 2 0), (26, iV p2)] [.vec 0 (intsD p1), .vec 0 (intsD ([] : List Int)), .vec 0 (intsD (List.replicate p0.k.toNat (0 : Int)))] ?_ (fun hS3 => ?_)
  ·refine AU_one 0 (by kernel_rfl) rfl rfl ?_
   refine AOps_q 20 _ rfl rfl rfl (QOp_loadN_pv _ _ _ _ _ _ rfl Try.isAgg29 Try.sizeOf29 rfl (colD_all _) (colD_length _)) ?_
   refine AOps_nil ?_
   exact AU_to (by kernel_rfl) hS0 (Weak_keep 1 hm [20, 21, 22, 25, 26] [1, 2] _ _ rfl rfl rfl)
  refine AU_cut 4 #[true, true, true, true, false, false, true, false, false] [(20, .d (.agg (colD p0))), (21, .vec 0 0), (22, .vec 1 0), (23, .d (.pv (colD p0) 1)), (26, iV p2)] [.vec 0 (intsD p1), .vec 0 (intsD ([] : List Int))] ?_ (fun hS4 => ?_)
  ·refine AU_one 4 (by kernel_rfl) rfl rfl ?_
   refine AOps_q 24 _ rfl rfl rfl (QOp_load_pv _ _ _ _ _ rfl Try.isAgg2 rfl rfl) ?_
   refine AOps_nil ?_
   exact AU_to (by kernel_rfl) hS1 (Weak_keep 1 hm [20, 21, 22, 24, 26] [1] _ _ rfl rfl rfl)
  refine AU_cut 4 #[true, true, false, true, true, false, true, false, false] [(20, .d (.agg (colD p0))), (21, .vec 0 0), (24, iV p0.k), (26, iV p2)] [.vec 0 (intsD p1)] ?_ (fun hS5 => ?_)
  ·refine AU_all [2, 5] (by kernel_rfl) rfl (allc ?_ (allc ?_ (fun _ h => nomatch h)))
   ·refine US_of 2 rfl rfl ?_
    refine AOps_buildSlice 22 _ _ _ [] (intsD ([] : List Int)) _ rfl rfl rfl rfl rfl (by decide) Try.underlying25 Try.sizeOf2 (zero_of Try.typeInfo2 rfl) rfl rfl (intsD_one _) ?_
    refine AOps_nil ?_
    exact AU_to (by kernel_rfl) hS1 (Weak_keep 1 hm [20, 21, 22, 24, 26] [1] _ _ rfl rfl rfl)
   refine US_of 5 rfl rfl ?_
   refine AOps_makeSliceG intsD iD 0 (intsD_rep · _) 25 _ _ _ _ _ _ p0.k p0.k _ (.int .i64 0) rfl rfl rfl rfl rfl rfl Try.underlying25 Try.type2 rfl rfl (by decide) rfl rfl hc6.1 hc6.2.1 hc6.2.2 ?_
   refine AOps_nil ?_
   exact AU_to (by kernel_rfl) hS2 (Weak_keep 1 hm [20, 21, 25, 26] [1] _ _ rfl rfl rfl)
  refine AU_cut 4 #[false, true, true, true, true, false, true, false, false] [(3, .d (.pv (colD p0) 0)), (21, .vec 0 0), (22, .vec 1 0), (24, iV p0.k), (26, iV p2)] [.vec 0 (intsD p1), .vec 0 (intsD ([] : List Int))] ?_ (fun hS6 => ?_)
  ·refine AU_all [0, 5] (by kernel_rfl) rfl (allc ?_ (allc ?_ (fun _ h => nomatch h)))
   ·refine US_of 0 rfl rfl ?_
    refine AOps_q 20 _ rfl rfl rfl (QOp_loadN_pv _ _ _ _ _ _ rfl Try.isAgg29 Try.sizeOf29 rfl (colD_all _) (colD_length _)) ?_
    refine AOps_nil ?_
    exact AU_to (by kernel_rfl) hS1 (Weak_keep 1 hm [20, 21, 22, 24, 26] [1] _ _ rfl rfl rfl)
   refine US_of 5 rfl rfl ?_
   refine AOps_makeSliceG intsD iD 0 (intsD_rep · _) 25 _ _ _ _ _ _ p0.k p0.k _ (.int .i64 0) rfl rfl rfl rfl rfl rfl Try.underlying25 Try.type2 rfl rfl (by decide) rfl rfl hc6.1 hc6.2.1 hc6.2.2 ?_
   refine AOps_nil ?_
   exact AU_to (by kernel_rfl) hS3 (Weak_keep 1 hm [3, 21, 22, 25, 26] [1, 2] _ _ rfl rfl rfl)
  refine AU_u 1 21 _ rfl (by kernel_rfl) rfl rfl rfl (UOp_move _ _ rfl rfl) ?_
  refine AU_u 3 23 _ rfl (by kernel_rfl) rfl rfl rfl (UOp_fieldAddr_pv _ _ _ _ _ 1 _ _ rfl Try.underlying29 rfl _ Try.sizeOf2 rfl rfl) ?_
  refine AU_u 6 26 _ rfl (by kernel_rfl) rfl rfl rfl (UOp_move _ _ rfl rfl) ?_
  refine AU_all [0, 2, 4] (by kernel_rfl) rfl (allc ?_ (allc ?_ (allc ?_ (fun _ h => nomatch h))))
  ·refine US_of 0 rfl rfl ?_
   refine AOps_q 20 _ rfl rfl rfl (QOp_loadN_pv _ _ _ _ _ _ rfl Try.isAgg29 Try.sizeOf29 rfl (colD_all _) (colD_length _)) ?_
   refine AOps_nil ?_
   refine AU_all [2, 4] (by kernel_rfl) rfl (allc ?_ (allc ?_ (fun _ h => nomatch h)))
   ·refine US_of 2 rfl rfl ?_
    refine AOps_buildSlice 22 _ _ _ [] (intsD ([] : List Int)) _ rfl rfl rfl rfl rfl (by decide) Try.underlying25 Try.sizeOf2 (zero_of Try.typeInfo2 rfl) rfl rfl (intsD_one _) ?_
    refine AOps_nil ?_
    exact AU_to (by kernel_rfl) hS4 (Weak_keep 1 hm [20, 21, 22, 23, 26] [1] _ _ rfl rfl rfl)
   refine US_of 4 rfl rfl ?_
   refine AOps_q 24 _ rfl rfl rfl (QOp_load_pv _ _ _ _ _ rfl Try.isAgg2 rfl rfl) ?_
   refine AOps_nil ?_
   exact AU_to (by kernel_rfl) hS5 (Weak_keep 1 hm [20, 21, 24, 26] [] _ _ rfl rfl rfl)
  ·refine US_of 2 rfl rfl ?_
   refine AOps_buildSlice 22 _ _ _ [] (intsD ([] : List Int)) _ rfl rfl rfl rfl rfl (by decide) Try.underlying25 Try.sizeOf2 (zero_of Try.typeInfo2 rfl) rfl rfl (intsD_one _) ?_
   refine AOps_nil ?_
   refine AU_all [0, 4] (by kernel_rfl) rfl (allc ?_ (allc ?_ (fun _ h => nomatch h)))
   ·refine US_of 0 rfl rfl ?_
    refine AOps_q 20 _ rfl rfl rfl (QOp_loadN_pv _ _ _ _ _ _ rfl Try.isAgg29 Try.sizeOf29 rfl (colD_all _) (colD_length _)) ?_
    refine AOps_nil ?_
    exact AU_to (by kernel_rfl) hS4 (Weak_keep 1 hm [20, 21, 22, 23, 26] [1] _ _ rfl rfl rfl)
   refine US_of 4 rfl rfl ?_
   refine AOps_q 24 _ rfl rfl rfl (QOp_load_pv _ _ _ _ _ rfl Try.isAgg2 rfl rfl) ?_
   refine AOps_nil ?_
   exact AU_to (by kernel_rfl) hS6 (Weak_keep 1 hm [3, 21, 22, 24, 26] [1] _ _ rfl rfl rfl)
  refine US_of 4 rfl rfl ?_
  refine AOps_q 24 _ rfl rfl rfl (QOp_load_pv _ _ _ _ _ rfl Try.isAgg2 rfl rfl) ?_
  refine AOps_nil ?_
  refine AU_all [0, 2, 5] (by kernel_rfl) rfl (allc ?_ (allc ?_ (allc ?_ (fun _ h => nomatch h))))
  ·refine US_of 0 rfl rfl ?_
   refine AOps_q 20 _ rfl rfl rfl (QOp_loadN_pv _ _ _ _ _ _ rfl Try.isAgg29 Try.sizeOf29 rfl (colD_all _) (colD_length _)) ?_
   refine AOps_nil ?_
   exact AU_to (by kernel_rfl) hS5 (Weak_keep 1 hm [20, 21, 24, 26] [] _ _ rfl rfl rfl)
  ·refine US_of 2 rfl rfl ?_
   refine AOps_buildSlice 22 _ _ _ [] (intsD ([] : List Int)) _ rfl rfl rfl rfl rfl (by decide) Try.underlying25 Try.sizeOf2 (zero_of Try.typeInfo2 rfl) rfl rfl (intsD_one _) ?_
   refine AOps_nil ?_
   exact AU_to (by kernel_rfl) hS6 (Weak_keep 1 hm [3, 21, 22, 24, 26] [1] _ _ rfl rfl rfl)
  refine US_of 5 rfl rfl ?_
  refine AOps_makeSliceG intsD iD 0 (intsD_rep · _) 25 _ _ _ _ _ _ p0.k p0.k _ (.int .i64 0) rfl rfl rfl rfl rfl rfl Try.underlying25 Try.type2 rfl rfl (by decide) rfl rfl hc6.1 hc6.2.1 hc6.2.2 ?_
  refine AOps_nil ?_
  refine AU_all [0, 2] (by kernel_rfl) rfl (allc ?_ (allc ?_ (fun _ h => nomatch h)))
  ·refine US_of 0 rfl rfl ?_
   refine AOps_q 20 _ rfl rfl rfl (QOp_loadN_pv _ _ _ _ _ _ rfl Try.isAgg29 Try.sizeOf29 rfl (colD_all _) (colD_length _)) ?_
   refine AOps_nil ?_
   exact AU_to (by kernel_rfl) hS2 (Weak_keep 1 hm [20, 21, 25, 26] [1] _ _ rfl rfl rfl)
  refine US_of 2 rfl rfl ?_
  refine AOps_buildSlice 22 _ _ _ [] (intsD ([] : List Int)) _ rfl rfl rfl rfl rfl (by decide) Try.underlying25 Try.sizeOf2 (zero_of Try.typeInfo2 rfl) rfl rfl (intsD_one _) ?_
  refine AOps_nil ?_
  exact AU_to (by kernel_rfl) hS3 (Weak_keep 1 hm [3, 21, 22, 25, 26] [2, 1] _ _ rfl rfl rfl)
 refine ACode_ret ?_
 cases h
 exact ⟨_, _, fun r a w h => ⟨r, h⟩, _, _, [], _, (.cons (ResV_tmp _ _ rfl) .nil), rfl, rfl, rfl, rfl, rfl⟩

-- loop.example/g01362/spec.ExtensionList
def spec_ExtensionList_o1 (k : Nat) (p0 : Col) (p1 : List Int) : Option (List (List Int) × Int) :=
 (spec_l05Small k p0 p1).bind fun r1 => (if !decide (r1 = 0) then some ([], r1) else (spec_l05All_o1 k p0 p1 201).bind fun r3 => (if decide (200 < (r3.length : Int)) then some ([], 3) else some (r3, 0)))
set_option maxRecDepth 100000 in
theorem spec_ExtensionList_o1_ac (k : Nat) (p0 : Col) (p1 : List Int) (r : List (List Int) × Int) (h : spec_ExtensionList_o1 k p0 p1 = some r) : AC Try.prog 4 [.d (.agg (colD p0)), .vec 0 0] [.vec 0 (intsD p1)] (fun res H' => res = [.d (.sl none (rowsD r.1)), iV r.2] ∧ H' = [.vec 0 (intsD p1)]) := by
 refine AC_of_body true Try.func4 rfl Try.ntmps4 (rvs := [.tmp 4, .tmp 5]) rfl rfl (fun G hG => ?_)
 have hm : G.H.length = 1 := by rw [hG]; rfl
 have hz : zeroG G.H = true := by rw [hG]; rfl
 unfold spec_ExtensionList_o1 at h
 refine kR ?_
 refine AOps_boxI 2 _ _ (.agg (colD p0)) (colD p0) rfl (colD_one _) rfl rfl rfl rfl rfl ?_
 refine kN 2 rfl ?_
 refine ACode_seq ?_
 refine kR ?_
 refine AOps_q 8 _ rfl rfl rfl (QOp_loadN_pv _ _ _ _ _ _ rfl Try.isAgg29 Try.sizeOf29 rfl (colD_all _) (colD_length _)) ?_
 refine kM 1 rfl ?_
 obtain ⟨r1, hr1, h⟩ := bindO h
 refine AOps_callL [] 10 _ _ _ _ _ _ _ _ _ _ rfl rfl rfl rfl rfl rfl rfl Try.call13 rfl (nodupB_sound _ rfl) rfl rfl rfl (spec_l05Small_ac k p0 p1 _ hr1) ?_
 rintro _ _ ⟨rfl, rfl⟩
 refine ⟨(fun _ h => nomatch h), (allc (flat_s _) (fun _ h => nomatch h)), AOps_as 10 (v' := iV r1) (H' := [.vec 0 (intsD p1)]) rfl rfl ?_⟩
 refine kN 1 rfl ?_
 refine kR ?_
 refine kM 1 rfl ?_
 refine AOps_q 12 _ rfl rfl rfl (QOp_neq _ _ _ _ _ _ _ rfl rfl rfl) ?_
 refine AOps_nil ?_
 refine kI h rfl (fun h _ => ?_) (fun h _ => ?_)
 ·refine kR ?_
  refine kN 3 rfl ?_
  refine ACode_ret ?_
  cases h
  exact ⟨_, _, fun r a w h => ⟨r, h⟩, _, _, [], _, (.cons (ResV_tmp _ _ rfl) (.cons (ResV_tmp _ _ rfl) .nil)), rfl, rfl, rfl, rfl, rfl⟩
 refine ACode_skip ?_
 refine kR ?_
 refine AOps_q 14 _ rfl rfl rfl (QOp_loadN_pv _ _ _ _ _ _ rfl Try.isAgg29 Try.sizeOf29 rfl (colD_all _) (colD_length _)) ?_
 refine kM 1 rfl ?_
 obtain ⟨r3, hr3, h⟩ := bindO h
 refine kC [0] 16 (.d (.sl none (rowsD r3))) [.vec 0 (intsD p1)] rfl Try.call14 rfl rfl (spec_l05All_o1_ac k p0 p1 201 _ hr3) rfl ?_
 refine kN 1 rfl ?_
 refine ACode_seq ?_
 refine kR ?_
 refine kM 1 rfl ?_
 refine AOps_q 18 _ rfl rfl rfl (QOp_len_sl _ _ _ _ _ _ _ (rowsD_length _) rfl rfl rfl rfl Try.underlying26 rfl) ?_
 refine AOps_q 19 _ rfl rfl rfl (QOp_gtr _ _ _ _ _ _ _ rfl rfl rfl) ?_
 refine AOps_nil ?_
 refine kI h rfl (fun h _ => ?_) (fun h _ => ?_)
 ·refine kR ?_
  refine kN 2 rfl ?_
  refine ACode_ret ?_
  cases h
  exact ⟨_, _, fun r a w h => ⟨r, h⟩, _, _, [], _, (.cons (ResV_tmp _ _ rfl) (.cons (ResV_tmp _ _ rfl) .nil)), rfl, rfl, rfl, rfl, rfl⟩
 refine ACode_skip ?_
 refine kR ?_
 refine kN 3 rfl ?_
 refine ACode_ret ?_
 cases h
 exact ⟨_, _, fun r a w h => ⟨r, h⟩, _, _, [], _, (.cons (ResV_tmp _ _ rfl) (.cons (ResV_tmp _ _ rfl) .nil)), rfl, rfl, rfl, rfl, rfl⟩

-- loop.example/g01362/impl.in
def impl_in (p0 : Int) (p1 : Int) (p2 : Int) : Bool :=
 letO (if decide (p1 ≤ p0) then decide (p0 ≤ p2) else false) fun (s2 : Bool) => s2
set_option maxRecDepth 100000 in
theorem impl_in_ac (p0 : Int) (p1 : Int) (p2 : Int) : AC Try.prog 50 [iV p0, iV p1, iV p2] [] (fun res H' => res = [bV (impl_in p0 p1 p2)] ∧ H' = []) := by
 refine AC_of_body true Try.func50 rfl Try.ntmps50 (rvs := [.tmp 6]) rfl rfl (fun G hG => ?_)
 have hm : G.H.length = 0 := by rw [hG]; rfl
 have hz : zeroG G.H = true := by rw [hG]; rfl
 obtain ⟨r, h⟩ : ∃ r, impl_in p0 p1 p2 = r := ⟨_, rfl⟩
 rw [h]
 unfold impl_in at h
 refine kR ?_
 refine kN 1 rfl ?_
 refine kL (fun s2 => [(6, bV s2)]) (fun s2 => []) h (fun s2 h => ?_) (fun s2 h => ?_)
 ·refine (ACode_region ?_)
  refine kM 2 rfl ?_
  refine AOps_q 9 _ rfl rfl rfl (QOp_geq _ _ _ _ _ _ _ rfl rfl rfl) ?_
  refine kM 1 rfl ?_
  refine AOps_case 10 _ rfl (fun hb1 => ?_) (fun hb1 => ?_)
  ·have h := iteT hb1 h
   refine kM 2 rfl ?_
   refine AOps_q 13 _ rfl rfl rfl (QOp_leq _ _ _ _ _ _ _ rfl rfl rfl) ?_
   refine kN 2 rfl ?_
   cases h
   exact Weak_keep 0 hm [6] [] _ _ rfl rfl rfl
  have h := iteF hb1 h
  refine AOps_skip 11 rfl rfl rfl ?_
  refine AOps_skip 12 rfl rfl rfl ?_
  refine AOps_skip 13 rfl rfl rfl ?_
  refine kN 2 rfl ?_
  cases h
  exact Weak_keep 0 hm [6] [] _ _ rfl rfl rfl
 refine ACode_ret ?_
 cases h
 exact ⟨_, _, fun r a w h => ⟨r, h⟩, _, _, [], _, (.cons (ResV_tmp _ _ rfl) .nil), rfl, rfl, rfl, rfl, rfl⟩

-- (*loop.example/g01362/impl.Colouring).edges
def impl_Colouring_edges (p0 : Col) : Int :=
 w64 ((w64 (p0.p * (w64 (p0.p - 1)))).tdiv 2)
set_option maxRecDepth 100000 in
theorem impl_Colouring_edges_ac (p0 : Col) : AC Try.prog 51 [.d (.pv (colD p0) 0)] [] (fun res H' => res = [iV (impl_Colouring_edges p0)] ∧ H' = []) := by
 refine AC_of_body true Try.func51 rfl Try.ntmps51 (rvs := [.tmp 2]) rfl rfl (fun G hG => ?_)
 have hm : G.H.length = 0 := by rw [hG]; rfl
 have hz : zeroG G.H = true := by rw [hG]; rfl
 obtain ⟨r, h⟩ : ∃ r, impl_Colouring_edges p0 = r := ⟨_, rfl⟩
 rw [h]
 unfold impl_Colouring_edges at h
 refine kR ?_
 refine kN 1 rfl ?_
 refine ACode_seq (ACode_quiet mixed (by kernel_rfl) ?_)
 refine kQ 1 rfl ?_
 refine AQ_q 4 _ rfl rfl rfl (QOp_nilCheck_pv _ _ _ rfl rfl) ?_
 refine AQ_q 5 _ rfl rfl rfl (QOp_fieldAddr_pv _ _ _ _ _ 0 _ _ rfl Try.underlying29 rfl _ Try.sizeOf2 rfl rfl) ?_
 refine AQ_q 6 _ rfl rfl rfl (QOp_load_pv _ _ _ _ _ rfl Try.isAgg2 rfl rfl) ?_
 refine kQ 1 rfl ?_
 refine AQ_q 8 _ rfl rfl rfl (QOp_nilCheck_pv _ _ _ rfl rfl) ?_
 refine AQ_q 9 _ rfl rfl rfl (QOp_fieldAddr_pv _ _ _ _ _ 0 _ _ rfl Try.underlying29 rfl _ Try.sizeOf2 rfl rfl) ?_
 refine AQ_q 10 _ rfl rfl rfl (QOp_load_pv _ _ _ _ _ rfl Try.isAgg2 rfl rfl) ?_
 refine AQ_q 11 _ rfl rfl rfl (QOp_sub _ _ _ _ _ _ _ rfl rfl rfl) ?_
 refine AQ_q 12 _ rfl rfl rfl (QOp_mul _ _ _ _ _ _ _ rfl rfl rfl) ?_
 refine AQ_q 13 _ rfl rfl rfl (QOp_quo _ _ _ _ _ _ _ (by decide) rfl rfl rfl) ?_
 refine kQ 1 rfl ?_
 refine AQ_nil ?_
 refine ACode_ret ?_
 cases h
 exact ⟨_, _, fun r a w h => ⟨r, h⟩, _, _, [], _, (.cons (ResV_tmp _ _ rfl) .nil), rfl, rfl, rfl, rfl, rfl⟩

-- (*loop.example/g01362/impl.Colouring).isColouring
def impl_Colouring_isColouring_l0 (k : Nat) (p0 : Col) : Nat → Int → Option (Sum (Unit) (Bool))
 | 0, _ => none
 | k0 + 1, x7 => (if decide (x7 < 136) then ((if 0 ≤ x7 ∧ x7 < 136 then letO (if decide (p0.k ≤ ((p0.e.get x7.toNat).toNat : Int)) then true else (if decide ((impl_Colouring_edges p0) ≤ x7) then !decide (((p0.e.get x7.toNat).toNat : Int) = 0) else false)) fun (s13 : Bool) => (if s13 then (some (.inr false)).bind fun rr => some (.inr rr) else some (.inl ())) else none) : Option (Sum (Unit) (Sum (Unit) (Bool)))).bind fun os15 => (match os15 with | .inl s15 => impl_Colouring_isColouring_l0 k p0 k0 (w64 (x7 + 1)) | .inr rr => some rr) else some (.inl ()))
def impl_Colouring_isColouring (k : Nat) (p0 : Col) : Option (Bool) :=
 (letO (if !(impl_in p0.p 1 17) then true else !(impl_in p0.k 1 4)) fun (s4 : Bool) => (if s4 then some (.inr false) else some (.inl ())) : Option (Sum (Unit) (Bool))).bind fun os6 => (match os6 with | .inl s6 => (impl_Colouring_isColouring_l0 k p0 k 0 : Option (Sum (Unit) (Bool))).bind fun os16 => (match os16 with | .inl s16 => some true | .inr rr => some rr) | .inr rr => some rr)
set_option maxRecDepth 100000 in
theorem impl_Colouring_isColouring_ac (k : Nat) (p0 : Col) (r : Bool) (h : impl_Colouring_isColouring k p0 = some r) : AC Try.prog 43 [.d (.pv (colD p0) 0)] [] (fun res H' => res = [bV r] ∧ H' = []) := by
 refine AC_of_body true Try.func43 rfl Try.ntmps43 (rvs := [.tmp 2]) rfl rfl (fun G hG => ?_)
 have hm : G.H.length = 0 := by rw [hG]; rfl
 have hz : zeroG G.H = true := by rw [hG]; rfl
 unfold impl_Colouring_isColouring at h
 refine kR ?_
 refine kN 1 rfl ?_
 refine kO (fun s6 => [(0, .d (.pv (colD p0) 0))]) (fun s6 => []) h (fun os6 h hks6 => ?_) (fun s6 h => ?_)
 ·refine kL (fun s4 => [(0, .d (.pv (colD p0) 0)), (18, bV s4)]) (fun s4 => []) h (fun s4 h => ?_) (fun s4 h => ?_)
  ·refine (ACode_region ?_)
   refine kM 1 rfl ?_
   refine AOps_q 6 _ rfl rfl rfl (QOp_nilCheck_pv _ _ _ rfl rfl) ?_
   refine AOps_q 7 _ rfl rfl rfl (QOp_fieldAddr_pv _ _ _ _ _ 0 _ _ rfl Try.underlying29 rfl _ Try.sizeOf2 rfl rfl) ?_
   refine AOps_q 8 _ rfl rfl rfl (QOp_load_pv _ _ _ _ _ rfl Try.isAgg2 rfl rfl) ?_
   refine kC [] 9 (bV (impl_in p0.p 1 17)) [] rfl Try.call50 rfl rfl (impl_in_ac p0.p 1 17) rfl ?_
   refine AOps_q 10 _ rfl rfl rfl (QOp_not _ _ _ rfl rfl) ?_
   refine kM 1 rfl ?_
   refine AOps_case 11 _ rfl (fun hb2 => ?_) (fun hb2 => ?_)
   ·have h := iteT hb2 h
    refine AOps_skip 12 rfl rfl rfl ?_
    refine AOps_skip 13 rfl rfl rfl ?_
    refine AOps_skip 14 rfl rfl rfl ?_
    refine AOps_skip 15 rfl rfl rfl ?_
    refine AOps_skip 16 rfl rfl rfl ?_
    refine AOps_skip 17 rfl rfl rfl ?_
    refine kN 1 rfl ?_
    cases h
    exact Weak_keep 0 hm [0, 18] [] _ _ rfl rfl rfl
   have h := iteF hb2 h
   refine kM 1 rfl ?_
   refine AOps_q 13 _ rfl rfl rfl (QOp_nilCheck_pv _ _ _ rfl rfl) ?_
   refine AOps_q 14 _ rfl rfl rfl (QOp_fieldAddr_pv _ _ _ _ _ 1 _ _ rfl Try.underlying29 rfl _ Try.sizeOf2 rfl rfl) ?_
   refine AOps_q 15 _ rfl rfl rfl (QOp_load_pv _ _ _ _ _ rfl Try.isAgg2 rfl rfl) ?_
   refine kC [] 16 (bV (impl_in p0.k 1 4)) [] rfl Try.call50 rfl rfl (impl_in_ac p0.k 1 4) rfl ?_
   refine AOps_q 17 _ rfl rfl rfl (QOp_not _ _ _ rfl rfl) ?_
   refine kN 1 rfl ?_
   cases h
   exact Weak_keep 0 hm [0, 18] [] _ _ rfl rfl rfl
  refine kI h rfl (fun h _ => ?_) (fun h _ => ?_)
  ·refine kR ?_
   refine kN 1 rfl ?_
   refine ACode_ret ?_
   cases h
   have h := hks6
   cases h
   exact ⟨_, _, fun r a w h => ⟨r, h⟩, _, _, [], _, (.cons (ResV_tmp _ _ rfl) .nil), rfl, rfl, rfl, rfl, rfl⟩
  refine ACode_skip ?_
  cases h
  exact ⟨_, rfl, Weak_keep 0 hm [0] [] _ _ rfl rfl rfl⟩
 refine kO (fun s16 => []) (fun s16 => []) h (fun os16 h hks16 => ?_) (fun s16 h => ?_)
 ·refine kR ?_
  refine kM 1 rfl ?_
  refine AOps_q 20 _ rfl rfl rfl (QOp_nilCheck_pv _ _ _ rfl rfl) ?_
  refine AOps_q 21 _ rfl rfl rfl (QOp_fieldAddr_pv _ _ _ _ _ 2 _ _ rfl Try.underlying29 rfl _ Try.sizeOf22 rfl rfl) ?_
  refine AOps_q 22 _ rfl rfl rfl (QOp_loadN_pv _ _ _ _ _ _ rfl Try.isAgg22 Try.sizeOf22 rfl (colD_edges _) (byD_length _)) ?_
  refine kN 1 rfl ?_
  refine ACode_block ?_
  refine ACode_loopW (fun k0 E H => ∃ (x7 : Int), E = [(0, .d (.pv (colD p0) 0)), (22, .d (.agg (byD p0.e))), (23, iV x7)] ∧ H = [] ∧ impl_Colouring_isColouring_l0 k p0 k0 x7 = some os16) k _ _ (Weak_keep 0 hm [0, 22, 23] [] _ _ rfl rfl rfl) ⟨_, rfl, rfl, h⟩ ?_
  clear h
  rintro k0 E H ⟨x7, rfl, rfl, h⟩
  cases k0 with
  | zero => cases (show (none : Option (Sum (Unit) (Bool))) = some _ from h)
  | succ k0 =>
   rw [impl_Colouring_isColouring_l0] at h
   refine kR ?_
   refine AOps_q 24 _ rfl rfl rfl (QOp_lss _ _ _ _ _ _ _ rfl rfl rfl) ?_
   refine AOps_nil ?_
   refine ACode_seq ?_
   refine kI h rfl (fun h _ => ?_) (fun h _ => ?_)
   ·refine ACode_skip ?_
    refine kO (fun s15 => [(0, .d (.pv (colD p0) 0)), (22, .d (.agg (byD p0.e))), (23, iV x7)]) (fun s15 => []) h (fun os15 h hks15 => ?_) (fun s15 h => ?_)
    ·refine ACode_block ?_
     refine kR ?_
     refine kM 1 rfl ?_
     obtain ⟨hc9, h⟩ := guardO h
     refine AOps_q 26 _ rfl rfl rfl (QOp_index_agg _ _ _ _ _ _ _ _ _ rfl Try.underlying22 Try.sizeOf5 Try.isAgg5 hc9.1 hc9.2 rfl rfl (byD_get _ _ (by omega))) ?_
     refine kN 2 rfl ?_
     refine kL (fun s13 => [(0, .d (.pv (colD p0) 0)), (22, .d (.agg (byD p0.e))), (23, iV x7), (43, bV s13)]) (fun s13 => []) h (fun s13 h => ?_) (fun s13 h => ?_)
     ·refine (ACode_region ?_)
      refine kM 1 rfl ?_
      refine AOps_q 28 _ rfl rfl rfl (QOp_fromByte _ _ _ _ _ rfl rfl Try.underlying2 wrap_i64_byte rfl) ?_
      refine kM 1 rfl ?_
      refine AOps_q 30 _ rfl rfl rfl (QOp_nilCheck_pv _ _ _ rfl rfl) ?_
      refine AOps_q 31 _ rfl rfl rfl (QOp_fieldAddr_pv _ _ _ _ _ 1 _ _ rfl Try.underlying29 rfl _ Try.sizeOf2 rfl rfl) ?_
      refine AOps_q 32 _ rfl rfl rfl (QOp_load_pv _ _ _ _ _ rfl Try.isAgg2 rfl rfl) ?_
      refine AOps_q 33 _ rfl rfl rfl (QOp_geq _ _ _ _ _ _ _ rfl rfl rfl) ?_
      refine kM 1 rfl ?_
      refine AOps_case 34 _ rfl (fun hb10 => ?_) (fun hb10 => ?_)
      ·have h := iteT hb10 h
       refine AOps_skip 35 rfl rfl rfl ?_
       refine AOps_skip 36 rfl rfl rfl ?_
       refine AOps_skip 37 rfl rfl rfl ?_
       refine AOps_skip 38 rfl rfl rfl ?_
       refine AOps_skip 39 rfl rfl rfl ?_
       refine AOps_skip 40 rfl rfl rfl ?_
       refine AOps_skip 41 rfl rfl rfl ?_
       refine AOps_skip 42 rfl rfl rfl ?_
       refine kN 1 rfl ?_
       cases h
       exact Weak_keep 0 hm [0, 22, 23, 43] [] _ _ rfl rfl rfl
      have h := iteF hb10 h
      refine kM 2 rfl ?_
      refine kC [] 37 (iV (impl_Colouring_edges p0)) [] rfl Try.call51 rfl rfl (impl_Colouring_edges_ac p0) rfl ?_
      refine AOps_q 38 _ rfl rfl rfl (QOp_geq _ _ _ _ _ _ _ rfl rfl rfl) ?_
      refine kM 1 rfl ?_
      refine AOps_case 39 _ rfl (fun hb12 => ?_) (fun hb12 => ?_)
      ·have h := iteT hb12 h
       refine kM 1 rfl ?_
       refine AOps_q 41 _ rfl rfl rfl (QOp_neq _ _ _ _ _ _ _ rfl rfl rfl) ?_
       refine kN 2 rfl ?_
       cases h
       exact Weak_keep 0 hm [0, 22, 23, 43] [] _ _ rfl rfl rfl
      have h := iteF hb12 h
      refine AOps_skip 40 rfl rfl rfl ?_
      refine AOps_skip 41 rfl rfl rfl ?_
      refine kN 2 rfl ?_
      cases h
      exact Weak_keep 0 hm [0, 22, 23, 43] [] _ _ rfl rfl rfl
     refine kI h rfl (fun h _ => ?_) (fun h _ => ?_)
     ·refine kR ?_
      refine kN 1 rfl ?_
      refine ACode_ret ?_
      obtain ⟨rr, hz17, h2⟩ := bindO h
      obtain rfl := Option.some.inj h2
      obtain rfl := Option.some.inj (show some rr = some _ from hks15)
      have h := hz17
      cases h
      have h := hks16
      cases h
      exact ⟨_, _, fun r a w h => ⟨r, h⟩, _, _, [], _, (.cons (ResV_tmp _ _ rfl) .nil), rfl, rfl, rfl, rfl, rfl⟩
     refine ACode_skip ?_
     cases h
     exact ⟨_, rfl, Weak_keep 0 hm [0, 22, 23] [] _ _ rfl rfl rfl⟩
    refine (ACode_region ?_)
    refine AOps_q 44 _ rfl rfl rfl (QOp_add _ _ _ _ _ _ _ rfl rfl rfl) ?_
    refine kN 1 rfl ?_
    exact ⟨k0, _, _, Nat.lt_succ_self _, Weak_keep 0 hm [0, 22, 23] [] _ _ rfl rfl rfl, _, rfl, rfl, h⟩
   refine ACode_exit ?_
   cases h
   exact ⟨_, rfl, Weak_keep 0 hm [] [] _ _ rfl rfl rfl⟩
 refine kR ?_
 refine kN 1 rfl ?_
 refine ACode_ret ?_
 cases h
 exact ⟨_, _, fun r a w h => ⟨r, h⟩, _, _, [], _, (.cons (ResV_tmp _ _ rfl) .nil), rfl, rfl, rfl, rfl, rfl⟩

-- (*loop.example/g01362/impl.Colouring).code
def impl_Colouring_code (k : Nat) (p0 : Col) (p1 : Option (Bool)) : Option (Int) :=
 (impl_Colouring_isColouring k p0).bind fun r1 => (if !r1 then some 1 else (p1).bind fun r3 => (if !r3 then some 2 else some 0))
set_option maxRecDepth 100000 in
theorem impl_Colouring_code_ac (k : Nat) (p0 : Col) (p1 : Option (Bool)) (g_p1 : FuncId) (c_p1 : List D) (hg_p1 : ∀ args w, (callFunc g_p1 args).run Try.prog w = .ok (.enter g_p1 args) w) (hf_p1 : ∀ (r : Bool), p1 = some r → AC Try.prog g_p1 ([] ++ c_p1.map AV.d) [] (fun res H' => res = [bV r] ∧ H' = [])) (r : Int) (h : impl_Colouring_code k p0 p1 = some r) : AC Try.prog 32 [.d (.pv (colD p0) 0), .d (.clo g_p1 c_p1)] [] (fun res H' => res = [iV r] ∧ H' = []) := by
 refine AC_of_body true Try.func32 rfl Try.ntmps32 (rvs := [.tmp 4]) rfl rfl (fun G hG => ?_)
 have hm : G.H.length = 0 := by rw [hG]; rfl
 have hz : zeroG G.H = true := by rw [hG]; rfl
 unfold impl_Colouring_code at h
 refine kR ?_
 refine kN 1 rfl ?_
 refine ACode_seq ?_
 refine ACode_block ?_
 refine kR ?_
 refine kM 1 rfl ?_
 obtain ⟨r1, hr1, h⟩ := bindO h
 refine kC [] 7 (bV r1) [] rfl Try.call43 rfl rfl (impl_Colouring_isColouring_ac k p0 _ hr1) rfl ?_
 refine AOps_q 8 _ rfl rfl rfl (QOp_not _ _ _ rfl rfl) ?_
 refine kN 1 rfl ?_
 refine kI h rfl (fun h _ => ?_) (fun h _ => ?_)
 ·refine kR ?_
  refine kN 1 rfl ?_
  refine ACode_ret ?_
  cases h
  exact ⟨_, _, fun r a w h => ⟨r, h⟩, _, _, [], _, (.cons (ResV_tmp _ _ rfl) .nil), rfl, rfl, rfl, rfl, rfl⟩
 refine kR ?_
 refine kM 1 rfl ?_
 obtain ⟨r3, hr3, h⟩ := bindO h
 refine kC [] 11 (bV r3) [] rfl hg_p1 rfl (viewA_mapD _) (hf_p1 _ hr3) rfl ?_
 refine AOps_q 12 _ rfl rfl rfl (QOp_not _ _ _ rfl rfl) ?_
 refine kN 1 rfl ?_
 refine kI h rfl (fun h _ => ?_) (fun h _ => ?_)
 ·refine kR ?_
  refine kN 1 rfl ?_
  refine ACode_ret ?_
  cases h
  exact ⟨_, _, fun r a w h => ⟨r, h⟩, _, _, [], _, (.cons (ResV_tmp _ _ rfl) .nil), rfl, rfl, rfl, rfl, rfl⟩
 refine ACode_skip ?_
 refine kR ?_
 refine kN 1 rfl ?_
 refine ACode_ret ?_
 cases h
 exact ⟨_, _, fun r a w h => ⟨r, h⟩, _, _, [], _, (.cons (ResV_tmp _ _ rfl) .nil), rfl, rfl, rfl, rfl, rfl⟩

-- loop.example/g01362/impl.size[int64]
def impl_size (p0 : List Int) : Int :=
 (p0.length : Int)
set_option maxRecDepth 100000 in
theorem impl_size_ac (p0 : List Int) : AC Try.prog 36 [.d (.sl none (intsD p0))] [] (fun res H' => res = [iV (impl_size p0)] ∧ H' = []) := by
 refine AC_of_body true Try.func36 rfl Try.ntmps36 (rvs := [.tmp 2]) rfl rfl (fun G hG => ?_)
 have hm : G.H.length = 0 := by rw [hG]; rfl
 have hz : zeroG G.H = true := by rw [hG]; rfl
 obtain ⟨r, h⟩ : ∃ r, impl_size p0 = r := ⟨_, rfl⟩
 rw [h]
 unfold impl_size at h
 refine kR ?_
 refine kN 1 rfl ?_
 refine kR ?_
 refine kM 1 rfl ?_
 refine AOps_q 4 _ rfl rfl rfl (QOp_len_sl _ _ _ _ _ _ _ (intsD_length _) rfl rfl rfl rfl Try.underlying25 rfl) ?_
 refine kN 1 rfl ?_
 refine ACode_ret ?_
 cases h
 exact ⟨_, _, fun r a w h => ⟨r, h⟩, _, _, [], _, (.cons (ResV_tmp _ _ rfl) .nil), rfl, rfl, rfl, rfl, rfl⟩

-- slices.IndexFunc[[]int64,int64]
def slices_IndexFunc_l0 (p0 : List Int) (p1 : Int → Option (Bool)) : Nat → Int → Option (Sum (Unit) (Int))
 | 0, _ => none
 | k0 + 1, x1 => (if decide (x1 < (p0.length : Int)) then (if 0 ≤ x1 ∧ x1 < (p0.length : Int) then (p1 (p0.getD x1.toNat 0)).bind fun r4 => (if r4 then some (.inr x1) else slices_IndexFunc_l0 p0 p1 k0 (w64 (x1 + 1))) else none) else some (.inl ()))
def slices_IndexFunc (k : Nat) (p0 : List Int) (p1 : Int → Option (Bool)) : Option (Int) :=
 (slices_IndexFunc_l0 p0 p1 k 0 : Option (Sum (Unit) (Int))).bind fun os6 => (match os6 with | .inl s6 => some (-1) | .inr rr => some rr)
set_option maxRecDepth 100000 in
theorem slices_IndexFunc_ac (k : Nat) (p0 : List Int) (p1 : Int → Option (Bool)) (g_p1 : FuncId) (c_p1 : List D) (hg_p1 : ∀ args w, (callFunc g_p1 args).run Try.prog w = .ok (.enter g_p1 args) w) (hf_p1 : ∀ (a0 : Int) (r : Bool), p1 a0 = some r → AC Try.prog g_p1 ([iV a0] ++ c_p1.map AV.d) [] (fun res H' => res = [bV r] ∧ H' = [])) (r : Int) (h : slices_IndexFunc k p0 p1 = some r) : AC Try.prog 56 [.d (.sl none (intsD p0)), .d (.clo g_p1 c_p1)] [] (fun res H' => res = [iV r] ∧ H' = []) := by
 refine AC_of_body true Try.func56 rfl Try.ntmps56 (rvs := [.tmp 4]) rfl rfl (fun G hG => ?_)
 have hm : G.H.length = 0 := by rw [hG]; rfl
 have hz : zeroG G.H = true := by rw [hG]; rfl
 unfold slices_IndexFunc at h
 refine kR ?_
 refine kN 1 rfl ?_
 refine kO (fun s6 => []) (fun s6 => []) h (fun os6 h hks6 => ?_) (fun s6 h => ?_)
 ·refine kR ?_
  refine kM 1 rfl ?_
  refine AOps_q 7 _ rfl rfl rfl (QOp_len_sl _ _ _ _ _ _ _ (intsD_length _) rfl rfl rfl rfl Try.underlying25 rfl) ?_
  refine kN 1 rfl ?_
  refine ACode_block ?_
  refine ACode_loopW (fun k0 E H => ∃ (x1 : Int), E = [(0, .d (.sl none (intsD p0))), (1, .d (.clo g_p1 c_p1)), (7, iV (p0.length : Int)), (8, iV x1)] ∧ H = [] ∧ slices_IndexFunc_l0 p0 p1 k0 x1 = some os6) k _ _ (Weak_keep 0 hm [0, 1, 7, 8] [] _ _ rfl rfl rfl) ⟨_, rfl, rfl, h⟩ ?_
  clear h
  rintro k0 E H ⟨x1, rfl, rfl, h⟩
  cases k0 with
  | zero => cases (show (none : Option (Sum (Unit) (Int))) = some _ from h)
  | succ k0 =>
   rw [slices_IndexFunc_l0] at h
   refine kR ?_
   refine AOps_q 9 _ rfl rfl rfl (QOp_lss _ _ _ _ _ _ _ rfl rfl rfl) ?_
   refine AOps_nil ?_
   refine ACode_seq ?_
   refine kI h rfl (fun h _ => ?_) (fun h _ => ?_)
   ·refine ACode_skip ?_
    refine ACode_seq ?_
    refine ACode_block ?_
    refine kR ?_
    refine kN 2 rfl ?_
    refine kR ?_
    refine kM 3 rfl ?_
    obtain ⟨hc3, h⟩ := guardO h
    refine AOps_q 14 _ rfl rfl rfl (QOp_indexAddr_sl _ _ _ _ _ _ _ _ rfl Try.underlying25 Try.sizeOf2 hc3.1 (by rw [intsD_length]; exact hc3.2) rfl rfl) ?_
    refine AOps_q 15 _ rfl rfl rfl (QOp_load_pv _ _ _ _ _ rfl Try.isAgg2 rfl (intsD_get _ _ 0 (by omega))) ?_
    obtain ⟨r4, hr4, h⟩ := bindO h
    refine kC [] 16 (bV r4) [] rfl hg_p1 rfl (viewA_mapD _) (hf_p1 (p0.getD x1.toNat 0) _ hr4) rfl ?_
    refine AOps_nil ?_
    refine kI h rfl (fun h _ => ?_) (fun h _ => ?_)
    ·refine kR ?_
     refine kN 2 rfl ?_
     refine ACode_ret ?_
     cases h
     have h := hks6
     cases h
     exact ⟨_, _, fun r a w h => ⟨r, h⟩, _, _, [], _, (.cons (ResV_tmp _ _ rfl) .nil), rfl, rfl, rfl, rfl, rfl⟩
    refine ACode_skip ?_
    refine (ACode_region ?_)
    refine AOps_q 18 _ rfl rfl rfl (QOp_add _ _ _ _ _ _ _ rfl rfl rfl) ?_
    refine kN 1 rfl ?_
    exact ⟨k0, _, _, Nat.lt_succ_self _, Weak_keep 0 hm [0, 1, 7, 8] [] _ _ rfl rfl rfl, _, rfl, rfl, h⟩
   refine ACode_exit ?_
   cases h
   exact ⟨_, rfl, Weak_keep 0 hm [] [] _ _ rfl rfl rfl⟩
 refine kR ?_
 refine kN 1 rfl ?_
 refine ACode_ret ?_
 cases h
 exact ⟨_, _, fun r a w h => ⟨r, h⟩, _, _, [], _, (.cons (ResV_tmp _ _ rfl) .nil), rfl, rfl, rfl, rfl, rfl⟩

-- slices.ContainsFunc[[]int64,int64]
def slices_ContainsFunc (k : Nat) (p0 : List Int) (p1 : Int → Option (Bool)) : Option (Bool) :=
 (slices_IndexFunc k p0 p1).bind fun r1 => some (decide (0 ≤ r1))
set_option maxRecDepth 100000 in
theorem slices_ContainsFunc_ac (k : Nat) (p0 : List Int) (p1 : Int → Option (Bool)) (g_p1 : FuncId) (c_p1 : List D) (hg_p1 : ∀ args w, (callFunc g_p1 args).run Try.prog w = .ok (.enter g_p1 args) w) (hf_p1 : ∀ (a0 : Int) (r : Bool), p1 a0 = some r → AC Try.prog g_p1 ([iV a0] ++ c_p1.map AV.d) [] (fun res H' => res = [bV r] ∧ H' = [])) (r : Bool) (h : slices_ContainsFunc k p0 p1 = some r) : AC Try.prog 52 [.d (.sl none (intsD p0)), .d (.clo g_p1 c_p1)] [] (fun res H' => res = [bV r] ∧ H' = []) := by
 refine AC_of_body true Try.func52 rfl Try.ntmps52 (rvs := [.tmp 4]) rfl rfl (fun G hG => ?_)
 have hm : G.H.length = 0 := by rw [hG]; rfl
 have hz : zeroG G.H = true := by rw [hG]; rfl
 unfold slices_ContainsFunc at h
 refine kR ?_
 refine kN 1 rfl ?_
 refine kR ?_
 refine kM 2 rfl ?_
 obtain ⟨r1, hr1, h⟩ := bindO h
 refine kC [] 7 (iV r1) [] rfl Try.call56 rfl rfl (slices_IndexFunc_ac k p0 p1 g_p1 c_p1 hg_p1 hf_p1 _ hr1) rfl ?_
 refine AOps_q 8 _ rfl rfl rfl (QOp_geq _ _ _ _ _ _ _ rfl rfl rfl) ?_
 refine kN 1 rfl ?_
 refine ACode_ret ?_
 cases h
 exact ⟨_, _, fun r a w h => ⟨r, h⟩, _, _, [], _, (.cons (ResV_tmp _ _ rfl) .nil), rfl, rfl, rfl, rfl, rfl⟩

-- loop.example/g01362/impl.areIn$1
def impl_areIn_c1 (p0 : Int) (p1 : Int) (p2 : Int) : Bool :=
 !(impl_in p0 p1 p2)
set_option maxRecDepth 100000 in
theorem impl_areIn_c1_ac (p0 : Int) (p1 : Int) (p2 : Int) : AC Try.prog 53 [iV p0, .d (.pv ([iD p1]) 0), .d (.pv ([iD p2]) 0)] [] (fun res H' => res = [bV (impl_areIn_c1 p0 p1 p2)] ∧ H' = []) := by
 refine AC_of_body true Try.func53 rfl Try.ntmps53 (rvs := [.tmp 4]) rfl rfl (fun G hG => ?_)
 have hm : G.H.length = 0 := by rw [hG]; rfl
 have hz : zeroG G.H = true := by rw [hG]; rfl
 obtain ⟨r, h⟩ : ∃ r, impl_areIn_c1 p0 p1 p2 = r := ⟨_, rfl⟩
 rw [h]
 unfold impl_areIn_c1 at h
 refine kR ?_
 refine kN 1 rfl ?_
 refine kR ?_
 refine kM 1 rfl ?_
 refine AOps_q 6 _ rfl rfl rfl (QOp_load_pv _ _ _ _ _ rfl Try.isAgg2 rfl rfl) ?_
 refine AOps_q 7 _ rfl rfl rfl (QOp_load_pv _ _ _ _ _ rfl Try.isAgg2 rfl rfl) ?_
 refine kC [] 8 (bV (impl_in p0 p1 p2)) [] rfl Try.call50 rfl rfl (impl_in_ac p0 p1 p2) rfl ?_
 refine AOps_q 9 _ rfl rfl rfl (QOp_not _ _ _ rfl rfl) ?_
 refine kN 1 rfl ?_
 refine ACode_ret ?_
 cases h
 exact ⟨_, _, fun r a w h => ⟨r, h⟩, _, _, [], _, (.cons (ResV_tmp _ _ rfl) .nil), rfl, rfl, rfl, rfl, rfl⟩

-- loop.example/g01362/impl.areIn
def impl_areIn (k : Nat) (p0 : List Int) (p1 : Int) (p2 : Int) (p3 : Int) : Option (Bool) :=
 ((if decide ((impl_size p0) = p1) then (slices_ContainsFunc k p0 (fun a0 => some (impl_areIn_c1 a0 p2 p3))).bind fun r3 => some (!r3) else some false) : Option (Bool)).bind fun s4 => some s4
set_option maxRecDepth 100000 in
theorem impl_areIn_ac (k : Nat) (p0 : List Int) (p1 : Int) (p2 : Int) (p3 : Int) (r : Bool) (h : impl_areIn k p0 p1 p2 p3 = some r) : AC Try.prog 44 [.d (.sl none (intsD p0)), iV p1, iV p2, iV p3] [] (fun res H' => res = [bV r] ∧ H' = []) := by
 refine AC_of_body true Try.func44 rfl Try.ntmps44 (rvs := [.tmp 8]) rfl rfl (fun G hG => ?_)
 have hm : G.H.length = 0 := by rw [hG]; rfl
 have hz : zeroG G.H = true := by rw [hG]; rfl
 unfold impl_areIn at h
 refine kR ?_
 refine AOps_boxI 6 _ _ (iD p2) _ rfl (fun c hc => by cases hc with | head => rfl | tail _ h => cases h) rfl rfl rfl rfl rfl ?_
 refine AOps_boxI 7 _ _ (iD p3) _ rfl (fun c hc => by cases hc with | head => rfl | tail _ h => cases h) rfl rfl rfl rfl rfl ?_
 refine kN 1 rfl ?_
 refine kB (fun s4 => [(8, bV s4)]) (fun s4 => []) h (fun s4 h => ?_) (fun s4 h => ?_)
 ·refine (ACode_region ?_)
  refine kM 1 rfl ?_
  refine kC [] 10 (iV (impl_size p0)) [] rfl Try.call36 rfl rfl (impl_size_ac p0) rfl ?_
  refine kM 1 rfl ?_
  refine AOps_q 12 _ rfl rfl rfl (QOp_eql _ _ _ _ _ _ _ rfl rfl rfl) ?_
  refine kM 1 rfl ?_
  refine AOps_case 13 _ rfl (fun hb2 => ?_) (fun hb2 => ?_)
  ·have h := iteT hb2 h
   refine kM 1 rfl ?_
   refine AOps_q 15 _ rfl rfl rfl (QOp_makeFuncD _ _ _ _ rfl rfl rfl) ?_
   obtain ⟨r3, hr3, h⟩ := bindO h
   refine kC [] 16 (bV r3) [] rfl Try.call52 rfl rfl (slices_ContainsFunc_ac k p0 (fun a0 => some (impl_areIn_c1 a0 p2 p3)) 53 ([.pv ([iD p2]) 0, .pv ([iD p3]) 0]) Try.call53 (fun a0 r h => by cases h; exact impl_areIn_c1_ac a0 p2 p3) _ hr3) rfl ?_
   refine AOps_q 17 _ rfl rfl rfl (QOp_not _ _ _ rfl rfl) ?_
   refine kN 2 rfl ?_
   cases h
   exact Weak_keep 0 hm [8] [] _ _ rfl rfl rfl
  have h := iteF hb2 h
  refine AOps_skip 14 rfl rfl rfl ?_
  refine AOps_skip 15 rfl rfl rfl ?_
  refine AOps_skip 16 rfl rfl rfl ?_
  refine AOps_skip 17 rfl rfl rfl ?_
  refine kN 2 rfl ?_
  cases h
  exact Weak_keep 0 hm [8] [] _ _ rfl rfl rfl
 refine ACode_ret ?_
 cases h
 exact ⟨_, _, fun r a w h => ⟨r, h⟩, _, _, [], _, (.cons (ResV_tmp _ _ rfl) .nil), rfl, rfl, rfl, rfl, rfl⟩

-- loop.example/g01362/impl.areForbidden
def impl_areForbidden (k : Nat) (p0 : List Int) (p1 : Int) : Option (Bool) :=
 (impl_areIn k p0 p1 1 17).bind fun r1 => some r1
set_option maxRecDepth 100000 in
theorem impl_areForbidden_ac (k : Nat) (p0 : List Int) (p1 : Int) (r : Bool) (h : impl_areForbidden k p0 p1 = some r) : AC Try.prog 34 [.d (.sl none (intsD p0)), iV p1] [] (fun res H' => res = [bV r] ∧ H' = []) := by
 refine AC_of_body true Try.func34 rfl Try.ntmps34 (rvs := [.tmp 4]) rfl rfl (fun G hG => ?_)
 have hm : G.H.length = 0 := by rw [hG]; rfl
 have hz : zeroG G.H = true := by rw [hG]; rfl
 unfold impl_areForbidden at h
 refine kR ?_
 refine kN 1 rfl ?_
 refine kR ?_
 refine kM 2 rfl ?_
 obtain ⟨r1, hr1, h⟩ := bindO h
 refine kC [] 7 (bV r1) [] rfl Try.call44 rfl rfl (impl_areIn_ac k p0 p1 1 17 _ hr1) rfl ?_
 refine kN 1 rfl ?_
 refine ACode_ret ?_
 cases h
 exact ⟨_, _, fun r a w h => ⟨r, h⟩, _, _, [], _, (.cons (ResV_tmp _ _ rfl) .nil), rfl, rfl, rfl, rfl, rfl⟩

-- (*loop.example/g01362/impl.Colouring).sizesCode$1
def impl_Colouring_sizesCode_c1 (k : Nat) (p0 : List Int) (p1 : Col) (p2 : Option (Bool)) : Option (Bool) :=
 ((impl_areForbidden k p0 p1.k).bind fun r1 => (if r1 then (p2).bind fun r3 => some r3 else some false) : Option (Bool)).bind fun s4 => some s4
set_option maxRecDepth 100000 in
theorem impl_Colouring_sizesCode_c1_ac (k : Nat) (p0 : List Int) (p1 : Col) (p2 : Option (Bool)) (g_p2 : FuncId) (c_p2 : List D) (hg_p2 : ∀ args w, (callFunc g_p2 args).run Try.prog w = .ok (.enter g_p2 args) w) (hf_p2 : ∀ (r : Bool), p2 = some r → AC Try.prog g_p2 ([] ++ c_p2.map AV.d) [] (fun res H' => res = [bV r] ∧ H' = [])) (r : Bool) (h : impl_Colouring_sizesCode_c1 k p0 p1 p2 = some r) : AC Try.prog 33 [.d (.pv ([.sl none (intsD p0)]) 0), .d (.pv ([.pv (colD p1) 0]) 0), .d (.pv ([.clo g_p2 c_p2]) 0)] [] (fun res H' => res = [bV r] ∧ H' = []) := by
 refine AC_of_body true Try.func33 rfl Try.ntmps33 (rvs := [.tmp 3]) rfl rfl (fun G hG => ?_)
 have hm : G.H.length = 0 := by rw [hG]; rfl
 have hz : zeroG G.H = true := by rw [hG]; rfl
 unfold impl_Colouring_sizesCode_c1 at h
 refine kR ?_
 refine kN 1 rfl ?_
 refine kB (fun s4 => [(3, bV s4)]) (fun s4 => []) h (fun s4 h => ?_) (fun s4 h => ?_)
 ·refine (ACode_quiet mixed (by kernel_rfl) ?_)
  refine AQ_q 4 _ rfl rfl rfl (QOp_load_pv _ _ _ _ _ rfl Try.isAgg25 rfl rfl) ?_
  refine AQ_q 5 _ rfl rfl rfl (QOp_load_pv _ _ _ _ _ rfl Try.isAgg45 rfl rfl) ?_
  refine AQ_q 6 _ rfl rfl rfl (QOp_nilCheck_pv _ _ _ rfl rfl) ?_
  refine AQ_q 7 _ rfl rfl rfl (QOp_fieldAddr_pv _ _ _ _ _ 1 _ _ rfl Try.underlying29 rfl _ Try.sizeOf2 rfl rfl) ?_
  refine AQ_q 8 _ rfl rfl rfl (QOp_load_pv _ _ _ _ _ rfl Try.isAgg2 rfl rfl) ?_
  obtain ⟨r1, hr1, h⟩ := bindO h
  refine AQ_call 9 _ _ _ _ _ _ _ _ _ rfl rfl rfl rfl rfl rfl rfl Try.call34 rfl rfl rfl (impl_areForbidden_ac k p0 p1.k _ hr1) ?_
  refine kQ 1 rfl ?_
  refine AQ_case 10 _ rfl (fun hb2 => ?_) (fun hb2 => ?_)
  ·have h := iteT hb2 h
   refine AQ_q 11 _ rfl rfl rfl (QOp_load_pv _ _ _ _ _ rfl Try.isAgg41 rfl rfl) ?_
   obtain ⟨r3, hr3, h⟩ := bindO h
   refine AQ_call 12 _ _ _ _ _ _ _ _ _ rfl rfl rfl rfl rfl rfl rfl hg_p2 rfl rfl (viewA_mapD _) (hf_p2 _ hr3) ?_
   refine kQ 2 rfl ?_
   refine AQ_nil ?_
   cases h
   exact Weak_keep 0 hm [3] [] _ _ rfl rfl rfl
  have h := iteF hb2 h
  refine AQ_skip 11 rfl rfl rfl ?_
  refine AQ_skip 12 rfl rfl rfl ?_
  refine kQ 2 rfl ?_
  refine AQ_nil ?_
  cases h
  exact Weak_keep 0 hm [3] [] _ _ rfl rfl rfl
 refine ACode_ret ?_
 cases h
 exact ⟨_, _, fun r a w h => ⟨r, h⟩, _, _, [], _, (.cons (ResV_tmp _ _ rfl) .nil), rfl, rfl, rfl, rfl, rfl⟩

-- (*loop.example/g01362/impl.Colouring).sizesCode
def impl_Colouring_sizesCode (k : Nat) (p0 : Col) (p1 : List Int) (p2 : Option (Bool)) : Option (Int) :=
 (impl_Colouring_code k p0 (impl_Colouring_sizesCode_c1 k p1 p0 p2)).bind fun r1 => some r1
set_option maxRecDepth 100000 in
theorem impl_Colouring_sizesCode_ac (k : Nat) (p0 : Col) (p1 : List Int) (p2 : Option (Bool)) (g_p2 : FuncId) (c_p2 : List D) (hg_p2 : ∀ args w, (callFunc g_p2 args).run Try.prog w = .ok (.enter g_p2 args) w) (hf_p2 : ∀ (r : Bool), p2 = some r → AC Try.prog g_p2 ([] ++ c_p2.map AV.d) [] (fun res H' => res = [bV r] ∧ H' = [])) (r : Int) (h : impl_Colouring_sizesCode k p0 p1 p2 = some r) : AC Try.prog 24 [.d (.pv (colD p0) 0), .d (.sl none (intsD p1)), .d (.clo g_p2 c_p2)] [] (fun res H' => res = [iV r] ∧ H' = []) := by
 refine AC_of_body true Try.func24 rfl Try.ntmps24 (rvs := [.tmp 6]) rfl rfl (fun G hG => ?_)
 have hm : G.H.length = 0 := by rw [hG]; rfl
 have hz : zeroG G.H = true := by rw [hG]; rfl
 unfold impl_Colouring_sizesCode at h
 refine kR ?_
 refine AOps_boxI 3 _ _ (.pv (colD p0) 0) _ rfl (fun c hc => by cases hc with | head => rfl | tail _ h => cases h) rfl rfl rfl rfl rfl ?_
 refine AOps_boxI 4 _ _ (.sl none (intsD p1)) _ rfl (fun c hc => by cases hc with | head => rfl | tail _ h => cases h) rfl rfl rfl rfl rfl ?_
 refine AOps_boxI 5 _ _ (.clo g_p2 c_p2) _ rfl (fun c hc => by cases hc with | head => rfl | tail _ h => cases h) rfl rfl rfl rfl rfl ?_
 refine kN 1 rfl ?_
 refine kR ?_
 refine AOps_q 7 _ rfl rfl rfl (QOp_load_pv _ _ _ _ _ rfl Try.isAgg45 rfl rfl) ?_
 refine AOps_q 8 _ rfl rfl rfl (QOp_makeFuncD _ _ _ _ rfl rfl rfl) ?_
 obtain ⟨r1, hr1, h⟩ := bindO h
 refine kC [] 9 (iV r1) [] rfl Try.call32 rfl rfl (impl_Colouring_code_ac k p0 (impl_Colouring_sizesCode_c1 k p1 p0 p2) 33 ([.pv ([.sl none (intsD p1)]) 0, .pv ([.pv (colD p0) 0]) 0, .pv ([.clo g_p2 c_p2]) 0]) Try.call33 (fun r h => impl_Colouring_sizesCode_c1_ac k p1 p0 p2 g_p2 c_p2 hg_p2 hf_p2 r h) _ hr1) rfl ?_
 refine kN 1 rfl ?_
 refine ACode_ret ?_
 cases h
 exact ⟨_, _, fun r a w h => ⟨r, h⟩, _, _, [], _, (.cons (ResV_tmp _ _ rfl) .nil), rfl, rfl, rfl, rfl, rfl⟩

-- (*loop.example/g01362/impl.Colouring).firstOf$1
def impl_Colouring_firstOf_c1 (p0 : List Int) (p1 : Int) (p2 : List Int) : Bool × List Int :=
 (if decide ((impl_size p0) < p1) then (true, p2) else (false, p0))
set_option maxRecDepth 100000 in
theorem impl_Colouring_firstOf_c1_ac (p0 : List Int) (p1 : Int) (p2 : List Int) : AC Try.prog 46 [.d (.sl none (intsD p0)), .d (.pv ([iD p1]) 0), .ptr 0 0] [.box [.sl none (intsD p2)]] (fun res H' => res = [bV ((impl_Colouring_firstOf_c1 p0 p1 p2).1)] ∧ H' = [.box [.sl none (intsD ((impl_Colouring_firstOf_c1 p0 p1 p2).2))]]) := by
 refine AC_of_body true Try.func46 rfl Try.ntmps46 (rvs := [.tmp 4]) rfl rfl (fun G hG => ?_)
 have hm : G.H.length = 1 := by rw [hG]; rfl
 have hz : zeroG G.H = true := by rw [hG]; rfl
 obtain ⟨r, h⟩ : ∃ r, impl_Colouring_firstOf_c1 p0 p1 p2 = r := ⟨_, rfl⟩
 rw [h]
 unfold impl_Colouring_firstOf_c1 at h
 refine kR ?_
 refine kN 1 rfl ?_
 refine ACode_seq ?_
 refine ACode_seq (ACode_quiet mixed (by kernel_rfl) ?_)
 refine kQ 1 rfl ?_
 refine AQ_call 6 _ _ _ _ _ _ _ _ _ rfl rfl rfl rfl rfl rfl rfl Try.call36 rfl rfl rfl (impl_size_ac p0) ?_
 refine AQ_q 7 _ rfl rfl rfl (QOp_load_pv _ _ _ _ _ rfl Try.isAgg2 rfl rfl) ?_
 refine AQ_q 8 _ rfl rfl rfl (QOp_lss _ _ _ _ _ _ _ rfl rfl rfl) ?_
 refine AQ_nil ?_
 refine kI h rfl (fun h _ => ?_) (fun h _ => ?_)
 ·refine kR ?_
  refine kN 1 rfl ?_
  refine ACode_ret ?_
  cases h
  exact ⟨_, _, fun r a w h => ⟨r, h⟩, _, _, [], _, (.cons (ResV_tmp _ _ rfl) .nil), rfl, rfl, rfl, rfl, rfl⟩
 refine ACode_skip ?_
 refine kR ?_
 refine kM 1 rfl ?_
 refine AOps_store1 _ _ _ _ _ _ _ _ rfl rfl rfl rfl rfl rfl rfl Try.sizeOf25 (Nat.le_of_ble_eq_true rfl) rfl ?_
 refine AOps_nil ?_
 refine kR ?_
 refine kN 1 rfl ?_
 refine ACode_ret ?_
 cases h
 exact ⟨_, _, fun r a w h => ⟨r, h⟩, _, _, [], _, (.cons (ResV_tmp _ _ rfl) .nil), rfl, rfl, rfl, rfl, rfl⟩

-- loop.example/g01362/impl.number
def impl_number (p0 : Int) (p1 : Int) : Int :=
 w64 ((w64 ((w64 ((if p0 < p1 then p1 else p0) * (w64 ((if p0 < p1 then p1 else p0) - 1)))).tdiv 2)) + (if p1 < p0 then p1 else p0))
set_option maxRecDepth 100000 in
theorem impl_number_ac (p0 : Int) (p1 : Int) : AC Try.prog 55 [iV p0, iV p1] [] (fun res H' => res = [iV (impl_number p0 p1)] ∧ H' = []) := by
 refine AC_of_body true Try.func55 rfl Try.ntmps55 (rvs := [.tmp 4]) rfl rfl (fun G hG => ?_)
 have hm : G.H.length = 0 := by rw [hG]; rfl
 have hz : zeroG G.H = true := by rw [hG]; rfl
 obtain ⟨r, h⟩ : ∃ r, impl_number p0 p1 = r := ⟨_, rfl⟩
 rw [h]
 unfold impl_number at h
 refine kR ?_
 refine kN 1 rfl ?_
 refine kR ?_
 refine kM 2 rfl ?_
 refine AOps_q 7 _ rfl rfl rfl (QOp_min _ _ _ _ _ _ rfl rfl rfl rfl rfl) ?_
 refine kM 2 rfl ?_
 refine AOps_q 10 _ rfl rfl rfl (QOp_max _ _ _ _ _ _ rfl rfl rfl rfl rfl) ?_
 refine kN 2 rfl ?_
 refine kR ?_
 refine kM 2 rfl ?_
 refine AOps_q 13 _ rfl rfl rfl (QOp_sub _ _ _ _ _ _ _ rfl rfl rfl) ?_
 refine AOps_q 14 _ rfl rfl rfl (QOp_mul _ _ _ _ _ _ _ rfl rfl rfl) ?_
 refine AOps_q 15 _ rfl rfl rfl (QOp_quo _ _ _ _ _ _ _ (by decide) rfl rfl rfl) ?_
 refine kM 1 rfl ?_
 refine AOps_q 17 _ rfl rfl rfl (QOp_add _ _ _ _ _ _ _ rfl rfl rfl) ?_
 refine kN 1 rfl ?_
 refine ACode_ret ?_
 cases h
 exact ⟨_, _, fun r a w h => ⟨r, h⟩, _, _, [], _, (.cons (ResV_tmp _ _ rfl) .nil), rfl, rfl, rfl, rfl, rfl⟩

-- (*loop.example/g01362/impl.Colouring).at
def impl_Colouring_at (p0 : Col) (p1 : Int) (p2 : Int) : Option (Int) :=
 (if 0 ≤ (impl_number p1 p2) ∧ (impl_number p1 p2) < 136 then some ((p0.get ((impl_number p1 p2).toNat)).toNat : Int) else none)
set_option maxRecDepth 100000 in
theorem impl_Colouring_at_ac (p0 : Col) (p1 : Int) (p2 : Int) (r : Int) (h : impl_Colouring_at p0 p1 p2 = some r) : AC Try.prog 47 [.d (.pv (colD p0) 0), iV p1, iV p2] [] (fun res H' => res = [iV r] ∧ H' = []) := by
 refine AC_of_body true Try.func47 rfl Try.ntmps47 (rvs := [.tmp 6]) rfl rfl (fun G hG => ?_)
 have hm : G.H.length = 0 := by rw [hG]; rfl
 have hz : zeroG G.H = true := by rw [hG]; rfl
 unfold impl_Colouring_at at h
 refine kR ?_
 refine kN 1 rfl ?_
 refine ACode_seq (ACode_quiet mixed (by kernel_rfl) ?_)
 refine kQ 3 rfl ?_
 refine AQ_call 10 _ _ _ _ _ _ _ _ _ rfl rfl rfl rfl rfl rfl rfl Try.call55 rfl rfl rfl (impl_number_ac p1 p2) ?_
 refine AQ_q 11 _ rfl rfl rfl (QOp_nilCheck_pv _ _ _ rfl rfl) ?_
 refine AQ_q 12 _ rfl rfl rfl (QOp_fieldAddr_pv _ _ _ _ _ 2 _ _ rfl Try.underlying29 rfl _ Try.sizeOf22 rfl rfl) ?_
 obtain ⟨hc2, h⟩ := guardO h
 refine AQ_q 13 _ rfl rfl rfl (QOp_indexAddrA_pv _ _ _ _ _ _ _ _ _ rfl Try.underlying22 Try.sizeOf5 hc2.1 hc2.2 rfl rfl) ?_
 refine AQ_q 14 _ rfl rfl rfl (QOp_load_pv _ _ _ _ _ rfl Try.isAgg5 rfl (colD_get _ _ (by omega))) ?_
 refine AQ_q 15 _ rfl rfl rfl (QOp_fromByte _ _ _ _ _ rfl rfl Try.underlying2 wrap_i64_byte rfl) ?_
 refine kQ 1 rfl ?_
 refine AQ_nil ?_
 refine ACode_ret ?_
 cases h
 exact ⟨_, _, fun r a w h => ⟨r, h⟩, _, _, [], _, (.cons (ResV_tmp _ _ rfl) .nil), rfl, rfl, rfl, rfl, rfl⟩

end Go.Proofs.Ytldgmcghdohmeaa
