/- Plain functions of the program and that the program computes them: printed by the own tool gen.py. No conditions. -/
import Derived.Test.YtghhnpdhehjlaaaAb30
import Derived.Test.YtghhnpdhehjlaaaLon
import Derived.Test.YtghhnpdhehjlaaaAb24
import Derived.Test.YtghhnpdhehjlaaaAb18
import Derived.Test.YtghhnpdhehjlaaaAb27
import Derived.Test.YtghhnpdhehjlaaaProg
import Derived.KernelRfl
set_option linter.unusedVariables false
set_option linter.unusedSimpArgs false
namespace Go.Proofs.Ytghhnpdhehjlaaa
open Go Go.RowKit Ab

theorem mixed : Try.prog.follows .mixedOrders = true := by kernel_rfl

set_option maxRecDepth 100000 in
theorem keyed2_Try : Maps.Keyed Try.prog 2 := Maps.int_keyed Try.underlying2
set_option maxRecDepth 100000 in
theorem keyed111_Try : Maps.Keyed Try.prog 111 := Maps.Keyed.of_law (deep_law_gate (by kernel_rfl) (Nat.le_of_ble_eq_true (by kernel_rfl)) (Nat.le_of_ble_eq_true (by kernel_rfl)) (by kernel_rfl) (by kernel_rfl))
set_option maxRecDepth 100000 in
theorem key111_Try {xs : List Int} (h : okK (.l xs) = true ∧ xs.length = 2) : ∃ kl, keyOf Try.prog 111 (MK.l xs).enc = some kl := keyA Try.underlying111 Try.underlying2 (by kernel_rfl) (by kernel_rfl) (m := 142) (by kernel_rfl) (by kernel_rfl) h.2 h.1
-- loop.example/g01362/laws.toByteA136
def laws_toByteA136_l0 (p0 : B136) : Nat → Int → B136 → Option (B136)
 | 0, _, _ => none
 | k0 + 1, x1, x2 => (if decide (x1 < 136) then (if 0 ≤ x1 ∧ x1 < 136 then (if 0 ≤ x1 ∧ x1 < 136 then laws_toByteA136_l0 p0 k0 (w64 (x1 + 1)) (x2.set x1.toNat (p0.get x1.toNat)) else none) else none) else some x2)
def laws_toByteA136 (k : Nat) (p0 : B136) : Option (B136) :=
 (laws_toByteA136_l0 p0 k 0 B136.zero : Option (B136)).bind fun s6 => some s6
set_option maxRecDepth 100000 in
theorem laws_toByteA136_ac (k : Nat) (p0 : B136) (r : B136) (h : laws_toByteA136 k p0 = some r) : AC Try.prog 45 [.d (.agg (byD p0))] [] (fun res H' => res = [.d (.agg (byD r))] ∧ H' = []) := by
 refine AC_of_body true Try.func45 rfl Try.ntmps45 (rvs := [.cell 2 22]) rfl rfl (fun G hG => ?_)
 have hm : G.H.length = 0 := by rw [hG]; rfl
 have hz : zeroG G.H = true := by rw [hG]; rfl
 unfold laws_toByteA136 at h
 refine kR ?_
 refine AOps_boxI 1 _ _ (.agg (byD p0)) (byD p0) rfl (byD_one _) rfl rfl rfl rfl rfl ?_
 refine AOps_alloc 2 _ _ (byD B136.zero) (zero_of Try.typeInfo22 rfl) (by rfl) rfl rfl rfl rfl ?_
 refine AOps_nil ?_
 refine kR ?_
 refine AOps_alloc 3 _ _ (byD B136.zero) (zero_of Try.typeInfo22 rfl) (by rfl) rfl rfl rfl rfl ?_
 refine AOps_nil ?_
 refine kB (fun s6 => [(2, .ptr 0 0), (3, .ptr 1 0)]) (fun s6 => [.box (byD B136.zero), .box (byD s6)]) h (fun s6 h => ?_) (fun s6 h => ?_)
 ·refine kR ?_
  refine kN 1 rfl ?_
  refine ACode_block ?_
  refine ACode_loopW (fun k0 E H => ∃ (x1 : Int) (x2 : B136), E = [(1, .d (.pv (byD p0) 0)), (2, .ptr 0 0), (3, .ptr 1 0), (4, iV x1)] ∧ H = [.box (byD B136.zero), .box (byD x2)] ∧ laws_toByteA136_l0 p0 k0 x1 x2 = some s6) k _ _ (Weak_keep 0 hm [1, 2, 3, 4] [0, 1] _ _ rfl rfl rfl) ⟨_, _, rfl, rfl, h⟩ ?_
  clear h
  rintro k0 E H ⟨x1, x2, rfl, rfl, h⟩
  cases k0 with
  | zero => cases (show (none : Option (B136)) = some _ from h)
  | succ k0 =>
   rw [laws_toByteA136_l0] at h
   refine ACode_seq ?_
   refine kR ?_
   refine kM 1 rfl ?_
   refine AOps_q 6 _ rfl rfl rfl (QOp_lss _ _ _ _ _ _ _ rfl rfl rfl) ?_
   refine AOps_nil ?_
   refine kI h rfl (fun h _ => ?_) (fun h _ => ?_)
   ·refine ACode_skip ?_
    refine ACode_seq ?_
    refine ACode_block ?_
    refine (ACode_region ?_)
    refine kM 2 rfl ?_
    obtain ⟨hc4, h⟩ := guardO h
    refine AOps_q 11 _ rfl rfl rfl (QOp_indexAddrA_pv _ _ _ _ _ _ _ _ _ rfl Try.underlying22 Try.sizeOf5 hc4.1 hc4.2 rfl rfl) ?_
    refine AOps_q 12 _ rfl rfl rfl (QOp_load_pv _ _ _ _ _ rfl Try.isAgg5 rfl (by rw [Nat.zero_add]; exact byD_get _ _ (by omega))) ?_
    obtain ⟨hc5, h⟩ := guardO h
    refine AOps_q 13 _ rfl rfl rfl (QOp_indexAddrA_ptr _ _ _ _ _ _ _ _ _ _ rfl Try.underlying22 Try.sizeOf5 hc5.1 hc5.2 rfl rfl rfl rfl) ?_
    refine AOps_store1 _ _ _ _ _ _ (byD (x2.set x1.toNat (p0.get x1.toNat))) _ rfl rfl rfl rfl rfl rfl rfl Try.sizeOf5 (by rw [byD_length]; omega) (byD_set0 x2 x1.toNat (p0.get x1.toNat)) ?_
    refine AOps_nil ?_
    refine (ACode_region ?_)
    refine kM 1 rfl ?_
    refine AOps_q 8 _ rfl rfl rfl (QOp_add _ _ _ _ _ _ _ rfl rfl rfl) ?_
    refine kN 1 rfl ?_
    exact ⟨k0, _, _, Nat.lt_succ_self _, Weak_keep 0 hm [1, 2, 3, 4] [0, 1] _ _ rfl rfl rfl, _, _, rfl, rfl, h⟩
   refine ACode_exit ?_
   cases h
   exact Weak_keep 0 hm [2, 3] [0, 1] _ _ rfl rfl rfl
 refine kR ?_
 refine AOps_q 14 _ rfl rfl rfl (QOp_loadN_ptr _ _ _ _ _ _ _ rfl Try.isAgg22 Try.sizeOf22 rfl rfl (byD_all _) (byD_length _)) ?_
 refine AOps_store _ _ _ _ _ _ (byD _) _ _ rfl rfl rfl rfl rfl rfl rfl (byD_one _) (by rw [byD_length]; exact Try.sizeOf22) (by rw [byD_length, byD_length]; decide) (byD_whole _ _) ?_
 refine AOps_nil ?_
 refine ACode_ret ?_
 cases h
 exact ⟨_, _, fun r a w h => ⟨r, h⟩, _, _, [], _, (.cons (ResV_agg _ _ _ _ _ _ Try.isAgg22 Try.sizeOf22 rfl rfl (byD_take _) (byD_length _)) .nil), rfl, rfl, rfl, rfl, rfl⟩

-- loop.example/g01362/laws.toColouring
def laws_toColouring (k : Nat) (p0 : Col) : Option (Col) :=
 (laws_toByteA136 k p0.e).bind fun r1 => some (⟨(⟨(⟨p0.p, Col.zero.k, Col.zero.e⟩ : Col).p, p0.k, (⟨p0.p, Col.zero.k, Col.zero.e⟩ : Col).e⟩ : Col).p, (⟨(⟨p0.p, Col.zero.k, Col.zero.e⟩ : Col).p, p0.k, (⟨p0.p, Col.zero.k, Col.zero.e⟩ : Col).e⟩ : Col).k, r1⟩ : Col)
set_option maxRecDepth 100000 in
theorem laws_toColouring_ac (k : Nat) (p0 : Col) (r : Col) (h : laws_toColouring k p0 = some r) : AC Try.prog 7 [.d (.agg (colD p0))] [] (fun res H' => res = [.d (.agg (colD r))] ∧ H' = []) := by
 refine AC_of_body true Try.func7 rfl Try.ntmps7 (rvs := [.cell 2 27]) rfl rfl (fun G hG => ?_)
 have hm : G.H.length = 0 := by rw [hG]; rfl
 have hz : zeroG G.H = true := by rw [hG]; rfl
 unfold laws_toColouring at h
 refine kR ?_
 refine AOps_boxI 1 _ _ (.agg (colD p0)) (colD p0) rfl (colD_one _) rfl rfl rfl rfl rfl ?_
 refine AOps_alloc 2 _ _ (colD Col.zero) (zero_of Try.typeInfo27 rfl) (by rfl) rfl rfl rfl rfl ?_
 refine AOps_nil ?_
 refine kR ?_
 refine AOps_alloc 3 _ _ (colD Col.zero) (zero_of Try.typeInfo27 rfl) (by rfl) rfl rfl rfl rfl ?_
 refine AOps_nil ?_
 refine kR ?_
 refine AOps_q 4 _ rfl rfl rfl (QOp_fieldAddr_pv _ _ _ _ _ 0 _ _ rfl Try.underlying24 rfl _ Try.sizeOf2 rfl rfl) ?_
 refine AOps_q 5 _ rfl rfl rfl (QOp_load_pv _ _ _ _ _ rfl Try.isAgg2 rfl rfl) ?_
 refine AOps_q 6 _ rfl rfl rfl (QOp_fieldAddr_ptr _ _ _ _ _ _ 0 _ _ rfl Try.underlying27 rfl _ Try.sizeOf2 rfl rfl rfl rfl) ?_
 refine AOps_store1 _ _ _ _ _ _ (colD (⟨p0.p, Col.zero.k, Col.zero.e⟩ : Col)) _ rfl rfl rfl rfl rfl rfl rfl Try.sizeOf2 (by rw [colD_length]; omega) (colD_set0 _ _) ?_
 refine AOps_nil ?_
 refine kR ?_
 refine AOps_q 7 _ rfl rfl rfl (QOp_fieldAddr_pv _ _ _ _ _ 1 _ _ rfl Try.underlying24 rfl _ Try.sizeOf2 rfl rfl) ?_
 refine AOps_q 8 _ rfl rfl rfl (QOp_load_pv _ _ _ _ _ rfl Try.isAgg2 rfl rfl) ?_
 refine AOps_q 9 _ rfl rfl rfl (QOp_fieldAddr_ptr _ _ _ _ _ _ 1 _ _ rfl Try.underlying27 rfl _ Try.sizeOf2 rfl rfl rfl rfl) ?_
 refine AOps_store1 _ _ _ _ _ _ (colD (⟨(⟨p0.p, Col.zero.k, Col.zero.e⟩ : Col).p, p0.k, (⟨p0.p, Col.zero.k, Col.zero.e⟩ : Col).e⟩ : Col)) _ rfl rfl rfl rfl rfl rfl rfl Try.sizeOf2 (by rw [colD_length]; omega) (colD_set1 _ _) ?_
 refine AOps_nil ?_
 refine kR ?_
 refine AOps_q 10 _ rfl rfl rfl (QOp_fieldAddr_pv _ _ _ _ _ 2 _ _ rfl Try.underlying24 rfl _ Try.sizeOf22 rfl rfl) ?_
 refine AOps_q 11 _ rfl rfl rfl (QOp_loadN_pv _ _ _ _ _ _ rfl Try.isAgg22 Try.sizeOf22 rfl (colD_edges _) (byD_length _)) ?_
 obtain ⟨r1, hr1, h⟩ := bindO h
 refine kC [] 12 (.d (.agg (byD r1))) [.box (colD Col.zero), .box (colD (⟨(⟨p0.p, Col.zero.k, Col.zero.e⟩ : Col).p, p0.k, (⟨p0.p, Col.zero.k, Col.zero.e⟩ : Col).e⟩ : Col))] rfl Try.call45 rfl rfl (laws_toByteA136_ac k p0.e _ hr1) rfl ?_
 refine AOps_q 13 _ rfl rfl rfl (QOp_fieldAddr_ptr _ _ _ _ _ _ 2 _ _ rfl Try.underlying27 rfl _ Try.sizeOf22 rfl rfl rfl rfl) ?_
 refine AOps_store _ _ _ _ _ _ (byD _) _ _ rfl rfl rfl rfl rfl rfl rfl (byD_one _) (by rw [byD_length]; exact Try.sizeOf22) (by rw [colD_length, byD_length]; decide) (colD_setA _ _) ?_
 refine AOps_nil ?_
 refine kR ?_
 refine AOps_q 14 _ rfl rfl rfl (QOp_loadN_ptr _ _ _ _ _ _ _ rfl Try.isAgg27 Try.sizeOf27 rfl rfl (colD_all _) (colD_length _)) ?_
 refine AOps_store _ _ _ _ _ _ (colD _) _ _ rfl rfl rfl rfl rfl rfl rfl (colD_one _) (by rw [colD_length]; exact Try.sizeOf27) (by rw [colD_length, colD_length]; decide) (colD_whole _ _) ?_
 refine AOps_nil ?_
 refine ACode_ret ?_
 cases h
 exact ⟨_, _, fun r a w h => ⟨r, h⟩, _, _, [], _, (.cons (ResV_agg _ _ _ _ _ _ Try.isAgg27 Try.sizeOf27 rfl rfl (colD_take _) (colD_length _)) .nil), rfl, rfl, rfl, rfl, rfl⟩

-- loop.example/g01362/spec.l01In
def spec_l01In (p0 : Int) (p1 : Int) (p2 : Int) : Bool :=
 letO (if decide (p1 ≤ p0) then decide (p0 ≤ p2) else false) fun (s2 : Bool) => s2
set_option maxRecDepth 100000 in
theorem spec_l01In_ac (p0 : Int) (p1 : Int) (p2 : Int) : AC Try.prog 38 [iV p0, iV p1, iV p2] [] (fun res H' => res = [bV (spec_l01In p0 p1 p2)] ∧ H' = []) := by
 refine AC_of_body true Try.func38 rfl Try.ntmps38 (rvs := [.tmp 6]) rfl rfl (fun G hG => ?_)
 have hm : G.H.length = 0 := by rw [hG]; rfl
 have hz : zeroG G.H = true := by rw [hG]; rfl
 obtain ⟨r, h⟩ : ∃ r, spec_l01In p0 p1 p2 = r := ⟨_, rfl⟩
 rw [h]
 unfold spec_l01In at h
 refine kR ?_
 refine kN 1 rfl ?_
 refine kL (fun s2 => [(6, bV s2)]) (fun s2 => []) h (fun s2 h => ?_) (fun s2 h => ?_)
 ·refine (ACode_region ?_)
  refine kM 2 rfl ?_
  refine AOps_q 9 _ rfl rfl rfl (QOp_geq _ _ _ _ _ _ _ rfl rfl rfl) ?_
  refine kM 1 rfl ?_
  refine AOps_case 10 _ rfl (fun hb1 => ?_) (fun hb1 => ?_)
  ·have h := iteT hb1 h
   refine kM 2 rfl ?_
   refine AOps_q 13 _ rfl rfl rfl (QOp_leq _ _ _ _ _ _ _ rfl rfl rfl) ?_
   refine kN 2 rfl ?_
   cases h
   exact Weak_keep 0 hm [6] [] _ _ rfl rfl rfl
  have h := iteF hb1 h
  refine AOps_skip 11 rfl rfl rfl ?_
  refine AOps_skip 12 rfl rfl rfl ?_
  refine AOps_skip 13 rfl rfl rfl ?_
  refine kN 2 rfl ?_
  cases h
  exact Weak_keep 0 hm [6] [] _ _ rfl rfl rfl
 refine ACode_ret ?_
 cases h
 exact ⟨_, _, fun r a w h => ⟨r, h⟩, _, _, [], _, (.cons (ResV_tmp _ _ rfl) .nil), rfl, rfl, rfl, rfl, rfl⟩

-- loop.example/g01362/spec.l01Is
def spec_l01Is_l0 (k : Nat) (p0 : Col) : Nat → Int → Option (Sum (Unit) (Bool))
 | 0, _ => none
 | k0 + 1, x7 => (if decide (x7 < 136) then (((if decide (x7 < w64 ((w64 (p0.p * (w64 (p0.p - 1)))).tdiv 2)) then (if 0 ≤ x7 ∧ x7 < 136 then (if decide (p0.k ≤ ((p0.get x7.toNat).toNat : Int)) then some true else (if decide (w64 ((w64 (p0.p * (w64 (p0.p - 1)))).tdiv 2) ≤ x7) then (if 0 ≤ x7 ∧ x7 < 136 then some (!decide (((p0.get x7.toNat).toNat : Int) = 0)) else none) else some false)) else none) else (if decide (w64 ((w64 (p0.p * (w64 (p0.p - 1)))).tdiv 2) ≤ x7) then (if 0 ≤ x7 ∧ x7 < 136 then some (!decide (((p0.get x7.toNat).toNat : Int) = 0)) else none) else some false)) : Option (Bool)).bind fun s16 => (if s16 then (some (.inr false)).bind fun rr => some (.inr rr) else some (.inl ())) : Option (Sum (Unit) (Sum (Unit) (Bool)))).bind fun os18 => (match os18 with | .inl s18 => spec_l01Is_l0 k p0 k0 (w64 (x7 + 1)) | .inr rr => some rr) else some (.inl ()))
def spec_l01Is (k : Nat) (p0 : Col) : Option (Bool) :=
 (letO (if !(spec_l01In p0.p 1 17) then true else !(spec_l01In p0.k 1 4)) fun (s4 : Bool) => (if s4 then some (.inr false) else some (.inl ())) : Option (Sum (Unit) (Bool))).bind fun os6 => (match os6 with | .inl s6 => (spec_l01Is_l0 k p0 k 0 : Option (Sum (Unit) (Bool))).bind fun os19 => (match os19 with | .inl s19 => some true | .inr rr => some rr) | .inr rr => some rr)
set_option maxRecDepth 100000 in
theorem spec_l01Is_ac (k : Nat) (p0 : Col) (r : Bool) (h : spec_l01Is k p0 = some r) : AC Try.prog 78 [.d (.agg (colD p0))] [] (fun res H' => res = [bV r] ∧ H' = []) := by
 refine AC_of_body true Try.func78 rfl Try.ntmps78 (rvs := [.tmp 2]) rfl rfl (fun G hG => ?_)
 have hm : G.H.length = 0 := by rw [hG]; rfl
 have hz : zeroG G.H = true := by rw [hG]; rfl
 unfold spec_l01Is at h
 refine kR ?_
 refine AOps_boxI 1 _ _ (.agg (colD p0)) (colD p0) rfl (colD_one _) rfl rfl rfl rfl rfl ?_
 refine kN 1 rfl ?_
 refine kO (fun s6 => [(1, .d (.pv (colD p0) 0))]) (fun s6 => []) h (fun os6 h hks6 => ?_) (fun s6 h => ?_)
 ·refine kL (fun s4 => [(1, .d (.pv (colD p0) 0)), (14, bV s4)]) (fun s4 => []) h (fun s4 h => ?_) (fun s4 h => ?_)
  ·refine (ACode_region ?_)
   refine AOps_q 5 _ rfl rfl rfl (QOp_fieldAddr_pv _ _ _ _ _ 0 _ _ rfl Try.underlying27 rfl _ Try.sizeOf2 rfl rfl) ?_
   refine AOps_q 6 _ rfl rfl rfl (QOp_load_pv _ _ _ _ _ rfl Try.isAgg2 rfl rfl) ?_
   refine kC [] 7 (bV (spec_l01In p0.p 1 17)) [] rfl Try.call38 rfl rfl (spec_l01In_ac p0.p 1 17) rfl ?_
   refine AOps_q 8 _ rfl rfl rfl (QOp_not _ _ _ rfl rfl) ?_
   refine kM 1 rfl ?_
   refine AOps_case 9 _ rfl (fun hb2 => ?_) (fun hb2 => ?_)
   ·have h := iteT hb2 h
    refine AOps_skip 10 rfl rfl rfl ?_
    refine AOps_skip 11 rfl rfl rfl ?_
    refine AOps_skip 12 rfl rfl rfl ?_
    refine AOps_skip 13 rfl rfl rfl ?_
    refine kN 1 rfl ?_
    cases h
    exact Weak_keep 0 hm [1, 14] [] _ _ rfl rfl rfl
   have h := iteF hb2 h
   refine AOps_q 10 _ rfl rfl rfl (QOp_fieldAddr_pv _ _ _ _ _ 1 _ _ rfl Try.underlying27 rfl _ Try.sizeOf2 rfl rfl) ?_
   refine AOps_q 11 _ rfl rfl rfl (QOp_load_pv _ _ _ _ _ rfl Try.isAgg2 rfl rfl) ?_
   refine kC [] 12 (bV (spec_l01In p0.k 1 4)) [] rfl Try.call38 rfl rfl (spec_l01In_ac p0.k 1 4) rfl ?_
   refine AOps_q 13 _ rfl rfl rfl (QOp_not _ _ _ rfl rfl) ?_
   refine kN 1 rfl ?_
   cases h
   exact Weak_keep 0 hm [1, 14] [] _ _ rfl rfl rfl
  refine kI h rfl (fun h _ => ?_) (fun h _ => ?_)
  ·refine kR ?_
   refine kN 1 rfl ?_
   refine ACode_ret ?_
   cases h
   have h := hks6
   cases h
   exact ⟨_, _, fun r a w h => ⟨r, h⟩, _, _, [], _, (.cons (ResV_tmp _ _ rfl) .nil), rfl, rfl, rfl, rfl, rfl⟩
  refine ACode_skip ?_
  cases h
  exact ⟨_, rfl, Weak_keep 0 hm [1] [] _ _ rfl rfl rfl⟩
 refine kR ?_
 refine AOps_q 15 _ rfl rfl rfl (QOp_fieldAddr_pv _ _ _ _ _ 0 _ _ rfl Try.underlying27 rfl _ Try.sizeOf2 rfl rfl) ?_
 refine AOps_q 16 _ rfl rfl rfl (QOp_load_pv _ _ _ _ _ rfl Try.isAgg2 rfl rfl) ?_
 refine AOps_q 17 _ rfl rfl rfl (QOp_fieldAddr_pv _ _ _ _ _ 0 _ _ rfl Try.underlying27 rfl _ Try.sizeOf2 rfl rfl) ?_
 refine AOps_q 18 _ rfl rfl rfl (QOp_load_pv _ _ _ _ _ rfl Try.isAgg2 rfl rfl) ?_
 refine AOps_q 19 _ rfl rfl rfl (QOp_sub _ _ _ _ _ _ _ rfl rfl rfl) ?_
 refine AOps_q 20 _ rfl rfl rfl (QOp_mul _ _ _ _ _ _ _ rfl rfl rfl) ?_
 refine AOps_q 21 _ rfl rfl rfl (QOp_quo _ _ _ _ _ _ _ (by decide) rfl rfl rfl) ?_
 refine kN 1 rfl ?_
 refine kO (fun s19 => []) (fun s19 => []) h (fun os19 h hks19 => ?_) (fun s19 h => ?_)
 ·refine kR ?_
  refine kN 1 rfl ?_
  refine ACode_block ?_
  refine ACode_loopW (fun k0 E H => ∃ (x7 : Int), E = [(1, .d (.pv (colD p0) 0)), (3, iV (w64 ((w64 (p0.p * (w64 (p0.p - 1)))).tdiv 2))), (4, iV x7)] ∧ H = [] ∧ spec_l01Is_l0 k p0 k0 x7 = some os19) k _ _ (Weak_keep 0 hm [1, 3, 4] [] _ _ rfl rfl rfl) ⟨_, rfl, rfl, h⟩ ?_
  clear h
  rintro k0 E H ⟨x7, rfl, rfl, h⟩
  cases k0 with
  | zero => cases (show (none : Option (Sum (Unit) (Bool))) = some _ from h)
  | succ k0 =>
   rw [spec_l01Is_l0] at h
   refine ACode_seq ?_
   refine kR ?_
   refine kM 1 rfl ?_
   refine AOps_q 23 _ rfl rfl rfl (QOp_lss _ _ _ _ _ _ _ rfl rfl rfl) ?_
   refine AOps_nil ?_
   refine kI h rfl (fun h _ => ?_) (fun h _ => ?_)
   ·refine ACode_skip ?_
    refine kO (fun s18 => [(1, .d (.pv (colD p0) 0)), (3, iV (w64 ((w64 (p0.p * (w64 (p0.p - 1)))).tdiv 2))), (4, iV x7)]) (fun s18 => []) h (fun os18 h hks18 => ?_) (fun s18 h => ?_)
    ·refine ACode_block ?_
     refine kB (fun s16 => [(1, .d (.pv (colD p0) 0)), (3, iV (w64 ((w64 (p0.p * (w64 (p0.p - 1)))).tdiv 2))), (4, iV x7), (50, bV s16)]) (fun s16 => []) h (fun s16 h => ?_) (fun s16 h => ?_)
     ·refine (ACode_quiet mixed (by kernel_rfl) ?_)
      refine kQ 2 rfl ?_
      refine AQ_q 28 _ rfl rfl rfl (QOp_lss _ _ _ _ _ _ _ rfl rfl rfl) ?_
      refine kQ 1 rfl ?_
      refine AQ_case 29 _ rfl (fun hb9 => ?_) (fun hb9 => ?_)
      ·have h := iteT hb9 h
       refine kQ 1 rfl ?_
       refine AQ_q 31 _ rfl rfl rfl (QOp_fieldAddr_pv _ _ _ _ _ 2 _ _ rfl Try.underlying27 rfl _ Try.sizeOf22 rfl rfl) ?_
       obtain ⟨hc10, h⟩ := guardO h
       refine AQ_q 32 _ rfl rfl rfl (QOp_indexAddrA_pv _ _ _ _ _ _ _ _ _ rfl Try.underlying22 Try.sizeOf5 hc10.1 hc10.2 rfl rfl) ?_
       refine AQ_q 33 _ rfl rfl rfl (QOp_load_pv _ _ _ _ _ rfl Try.isAgg5 rfl (colD_get _ _ (by omega))) ?_
       refine AQ_q 34 _ rfl rfl rfl (QOp_fromByte _ _ _ _ _ rfl rfl Try.underlying2 wrap_i64_byte rfl) ?_
       refine AQ_q 35 _ rfl rfl rfl (QOp_fieldAddr_pv _ _ _ _ _ 1 _ _ rfl Try.underlying27 rfl _ Try.sizeOf2 rfl rfl) ?_
       refine AQ_q 36 _ rfl rfl rfl (QOp_load_pv _ _ _ _ _ rfl Try.isAgg2 rfl rfl) ?_
       refine AQ_q 37 _ rfl rfl rfl (QOp_geq _ _ _ _ _ _ _ rfl rfl rfl) ?_
       refine kQ 2 rfl ?_
       refine AQ_case 39 _ rfl (fun hb11 => ?_) (fun hb11 => ?_)
       ·have h := iteT hb11 h
        refine AQ_skip 40 rfl rfl rfl ?_
        refine AQ_skip 41 rfl rfl rfl ?_
        refine AQ_skip 42 rfl rfl rfl ?_
        refine AQ_skip 43 rfl rfl rfl ?_
        refine AQ_skip 44 rfl rfl rfl ?_
        refine AQ_skip 45 rfl rfl rfl ?_
        refine AQ_skip 46 rfl rfl rfl ?_
        refine AQ_skip 47 rfl rfl rfl ?_
        refine AQ_skip 48 rfl rfl rfl ?_
        refine AQ_skip 49 rfl rfl rfl ?_
        refine kQ 1 rfl ?_
        refine AQ_nil ?_
        cases h
        exact Weak_keep 0 hm [1, 3, 4, 50] [] _ _ rfl rfl rfl
       have h := iteF hb11 h
       refine kQ 2 rfl ?_
       refine AQ_q 42 _ rfl rfl rfl (QOp_geq _ _ _ _ _ _ _ rfl rfl rfl) ?_
       refine kQ 1 rfl ?_
       refine AQ_case 43 _ rfl (fun hb12 => ?_) (fun hb12 => ?_)
       ·have h := iteT hb12 h
        refine kQ 1 rfl ?_
        refine AQ_q 45 _ rfl rfl rfl (QOp_fieldAddr_pv _ _ _ _ _ 2 _ _ rfl Try.underlying27 rfl _ Try.sizeOf22 rfl rfl) ?_
        obtain ⟨hc13, h⟩ := guardO h
        refine AQ_q 46 _ rfl rfl rfl (QOp_indexAddrA_pv _ _ _ _ _ _ _ _ _ rfl Try.underlying22 Try.sizeOf5 hc13.1 hc13.2 rfl rfl) ?_
        refine AQ_q 47 _ rfl rfl rfl (QOp_load_pv _ _ _ _ _ rfl Try.isAgg5 rfl (colD_get _ _ (by omega))) ?_
        refine AQ_q 48 _ rfl rfl rfl (QOp_neq _ _ _ _ _ _ _ rfl rfl rfl) ?_
        refine kQ 2 rfl ?_
        refine AQ_nil ?_
        cases h
        exact Weak_keep 0 hm [1, 3, 4, 50] [] _ _ rfl rfl rfl
       have h := iteF hb12 h
       refine AQ_skip 44 rfl rfl rfl ?_
       refine AQ_skip 45 rfl rfl rfl ?_
       refine AQ_skip 46 rfl rfl rfl ?_
       refine AQ_skip 47 rfl rfl rfl ?_
       refine AQ_skip 48 rfl rfl rfl ?_
       refine kQ 2 rfl ?_
       refine AQ_nil ?_
       cases h
       exact Weak_keep 0 hm [1, 3, 4, 50] [] _ _ rfl rfl rfl
      have h := iteF hb9 h
      refine AQ_skip 30 rfl rfl rfl ?_
      refine AQ_skip 31 rfl rfl rfl ?_
      refine AQ_skip 32 rfl rfl rfl ?_
      refine AQ_skip 33 rfl rfl rfl ?_
      refine AQ_skip 34 rfl rfl rfl ?_
      refine AQ_skip 35 rfl rfl rfl ?_
      refine AQ_skip 36 rfl rfl rfl ?_
      refine AQ_skip 37 rfl rfl rfl ?_
      refine kQ 4 rfl ?_
      refine AQ_q 42 _ rfl rfl rfl (QOp_geq _ _ _ _ _ _ _ rfl rfl rfl) ?_
      refine kQ 1 rfl ?_
      refine AQ_case 43 _ rfl (fun hb14 => ?_) (fun hb14 => ?_)
      ·have h := iteT hb14 h
       refine kQ 1 rfl ?_
       refine AQ_q 45 _ rfl rfl rfl (QOp_fieldAddr_pv _ _ _ _ _ 2 _ _ rfl Try.underlying27 rfl _ Try.sizeOf22 rfl rfl) ?_
       obtain ⟨hc15, h⟩ := guardO h
       refine AQ_q 46 _ rfl rfl rfl (QOp_indexAddrA_pv _ _ _ _ _ _ _ _ _ rfl Try.underlying22 Try.sizeOf5 hc15.1 hc15.2 rfl rfl) ?_
       refine AQ_q 47 _ rfl rfl rfl (QOp_load_pv _ _ _ _ _ rfl Try.isAgg5 rfl (colD_get _ _ (by omega))) ?_
       refine AQ_q 48 _ rfl rfl rfl (QOp_neq _ _ _ _ _ _ _ rfl rfl rfl) ?_
       refine kQ 2 rfl ?_
       refine AQ_nil ?_
       cases h
       exact Weak_keep 0 hm [1, 3, 4, 50] [] _ _ rfl rfl rfl
      have h := iteF hb14 h
      refine AQ_skip 44 rfl rfl rfl ?_
      refine AQ_skip 45 rfl rfl rfl ?_
      refine AQ_skip 46 rfl rfl rfl ?_
      refine AQ_skip 47 rfl rfl rfl ?_
      refine AQ_skip 48 rfl rfl rfl ?_
      refine kQ 2 rfl ?_
      refine AQ_nil ?_
      cases h
      exact Weak_keep 0 hm [1, 3, 4, 50] [] _ _ rfl rfl rfl
     refine kI h rfl (fun h _ => ?_) (fun h _ => ?_)
     ·refine kR ?_
      refine kN 1 rfl ?_
      refine ACode_ret ?_
      obtain ⟨rr, hz20, h2⟩ := bindO h
      obtain rfl := Option.some.inj h2
      obtain rfl := Option.some.inj (show some rr = some _ from hks18)
      have h := hz20
      cases h
      have h := hks19
      cases h
      exact ⟨_, _, fun r a w h => ⟨r, h⟩, _, _, [], _, (.cons (ResV_tmp _ _ rfl) .nil), rfl, rfl, rfl, rfl, rfl⟩
     refine ACode_skip ?_
     cases h
     exact ⟨_, rfl, Weak_keep 0 hm [1, 3, 4] [] _ _ rfl rfl rfl⟩
    refine (ACode_region ?_)
    refine kM 1 rfl ?_
    refine AOps_q 25 _ rfl rfl rfl (QOp_add _ _ _ _ _ _ _ rfl rfl rfl) ?_
    refine kN 1 rfl ?_
    exact ⟨k0, _, _, Nat.lt_succ_self _, Weak_keep 0 hm [1, 3, 4] [] _ _ rfl rfl rfl, _, rfl, rfl, h⟩
   refine ACode_exit ?_
   cases h
   exact ⟨_, rfl, Weak_keep 0 hm [] [] _ _ rfl rfl rfl⟩
 refine kR ?_
 refine kN 1 rfl ?_
 refine ACode_ret ?_
 cases h
 exact ⟨_, _, fun r a w h => ⟨r, h⟩, _, _, [], _, (.cons (ResV_tmp _ _ rfl) .nil), rfl, rfl, rfl, rfl, rfl⟩

-- loop.example/g01362/spec.l01All
def spec_l01All_l0 (p0 : List Int) (p1 : Int) : Nat → Int → Option (Sum (Unit) (Bool))
 | 0, _ => none
 | k0 + 1, x1 => (if decide (x1 < (p0.length : Int)) then (if 0 ≤ x1 ∧ x1 < (p0.length : Int) then (if !(spec_l01In (p0.getD x1.toNat 0) 0 (w64 (p1 - 1))) then some (.inr false) else spec_l01All_l0 p0 p1 k0 (w64 (x1 + 1))) else none) else some (.inl ()))
def spec_l01All (k : Nat) (p0 : List Int) (p1 : Int) : Option (Bool) :=
 (spec_l01All_l0 p0 p1 k 0 : Option (Sum (Unit) (Bool))).bind fun os6 => (match os6 with | .inl s6 => some true | .inr rr => some rr)
set_option maxRecDepth 100000 in
theorem spec_l01All_ac (k : Nat) (p0 : List Int) (p1 : Int) (r : Bool) (h : spec_l01All k p0 p1 = some r) : AC Try.prog 79 [.d (.sl none (intsD p0)), iV p1] [] (fun res H' => res = [bV r] ∧ H' = []) := by
 refine AC_of_body true Try.func79 rfl Try.ntmps79 (rvs := [.tmp 4]) rfl rfl (fun G hG => ?_)
 have hm : G.H.length = 0 := by rw [hG]; rfl
 have hz : zeroG G.H = true := by rw [hG]; rfl
 unfold spec_l01All at h
 refine kR ?_
 refine kN 1 rfl ?_
 refine kO (fun s6 => []) (fun s6 => []) h (fun os6 h hks6 => ?_) (fun s6 h => ?_)
 ·refine kR ?_
  refine kN 1 rfl ?_
  refine ACode_block ?_
  refine ACode_loopW (fun k0 E H => ∃ (x1 : Int), E = [(0, .d (.sl none (intsD p0))), (1, iV p1), (5, iV x1)] ∧ H = [] ∧ spec_l01All_l0 p0 p1 k0 x1 = some os6) k _ _ (Weak_keep 0 hm [0, 1, 5] [] _ _ rfl rfl rfl) ⟨_, rfl, rfl, h⟩ ?_
  clear h
  rintro k0 E H ⟨x1, rfl, rfl, h⟩
  cases k0 with
  | zero => cases (show (none : Option (Sum (Unit) (Bool))) = some _ from h)
  | succ k0 =>
   rw [spec_l01All_l0] at h
   refine ACode_seq ?_
   refine kR ?_
   refine kM 2 rfl ?_
   refine AOps_q 8 _ rfl rfl rfl (QOp_len_sl _ _ _ _ _ _ _ (intsD_length _) rfl rfl rfl rfl Try.underlying34 rfl) ?_
   refine AOps_q 9 _ rfl rfl rfl (QOp_lss _ _ _ _ _ _ _ rfl rfl rfl) ?_
   refine AOps_nil ?_
   refine kI h rfl (fun h _ => ?_) (fun h _ => ?_)
   ·refine ACode_skip ?_
    refine ACode_seq ?_
    refine ACode_block ?_
    refine kR ?_
    refine kM 2 rfl ?_
    obtain ⟨hc3, h⟩ := guardO h
    refine AOps_q 14 _ rfl rfl rfl (QOp_indexAddr_sl _ _ _ _ _ _ _ _ rfl Try.underlying34 Try.sizeOf2 hc3.1 (by rw [intsD_length]; exact hc3.2) rfl rfl) ?_
    refine AOps_q 15 _ rfl rfl rfl (QOp_load_pv _ _ _ _ _ rfl Try.isAgg2 rfl (intsD_get _ _ 0 (by omega))) ?_
    refine kM 1 rfl ?_
    refine AOps_q 17 _ rfl rfl rfl (QOp_sub _ _ _ _ _ _ _ rfl rfl rfl) ?_
    refine kC [] 18 (bV (spec_l01In (p0.getD x1.toNat 0) 0 (w64 (p1 - 1)))) [] rfl Try.call38 rfl rfl (spec_l01In_ac (p0.getD x1.toNat 0) 0 (w64 (p1 - 1))) rfl ?_
    refine AOps_q 19 _ rfl rfl rfl (QOp_not _ _ _ rfl rfl) ?_
    refine AOps_nil ?_
    refine kI h rfl (fun h _ => ?_) (fun h _ => ?_)
    ·refine kR ?_
     refine kN 1 rfl ?_
     refine ACode_ret ?_
     cases h
     have h := hks6
     cases h
     exact ⟨_, _, fun r a w h => ⟨r, h⟩, _, _, [], _, (.cons (ResV_tmp _ _ rfl) .nil), rfl, rfl, rfl, rfl, rfl⟩
    refine ACode_skip ?_
    refine (ACode_region ?_)
    refine kM 1 rfl ?_
    refine AOps_q 11 _ rfl rfl rfl (QOp_add _ _ _ _ _ _ _ rfl rfl rfl) ?_
    refine kN 1 rfl ?_
    exact ⟨k0, _, _, Nat.lt_succ_self _, Weak_keep 0 hm [0, 1, 5] [] _ _ rfl rfl rfl, _, rfl, rfl, h⟩
   refine ACode_exit ?_
   cases h
   exact ⟨_, rfl, Weak_keep 0 hm [] [] _ _ rfl rfl rfl⟩
 refine kR ?_
 refine kN 1 rfl ?_
 refine ACode_ret ?_
 cases h
 exact ⟨_, _, fun r a w h => ⟨r, h⟩, _, _, [], _, (.cons (ResV_tmp _ _ rfl) .nil), rfl, rfl, rfl, rfl, rfl⟩

-- loop.example/g01362/spec.l01Given
def spec_l01Given (k : Nat) (p0 : Col) (p1 : Int) (p2 : List Int) : Option (Int) :=
 ((spec_l01Is k p0).bind fun r1 => (if !r1 then some (.inr 1) else ((if !(spec_l01In p1 0 (w64 (p0.k - 1))) then some true else (spec_l01All k p2 p0.p).bind fun r5 => some (!r5)) : Option (Bool)).bind fun s6 => (if s6 then some (.inr 2) else some (.inl ()))) : Option (Sum (Unit) (Int))).bind fun os8 => (match os8 with | .inl s8 => some 0 | .inr rr => some rr)
set_option maxRecDepth 100000 in
theorem spec_l01Given_ac (k : Nat) (p0 : Col) (p1 : Int) (p2 : List Int) (r : Int) (h : spec_l01Given k p0 p1 p2 = some r) : AC Try.prog 37 [.d (.agg (colD p0)), iV p1, .d (.sl none (intsD p2))] [] (fun res H' => res = [iV r] ∧ H' = []) := by
 refine AC_of_body true Try.func37 rfl Try.ntmps37 (rvs := [.tmp 6]) rfl rfl (fun G hG => ?_)
 have hm : G.H.length = 0 := by rw [hG]; rfl
 have hz : zeroG G.H = true := by rw [hG]; rfl
 unfold spec_l01Given at h
 refine kR ?_
 refine AOps_boxI 3 _ _ (.agg (colD p0)) (colD p0) rfl (colD_one _) rfl rfl rfl rfl rfl ?_
 refine kN 1 rfl ?_
 refine kO (fun s8 => []) (fun s8 => []) h (fun os8 h hks8 => ?_) (fun s8 h => ?_)
 ·refine ACode_block ?_
  refine kR ?_
  refine AOps_q 8 _ rfl rfl rfl (QOp_loadN_pv _ _ _ _ _ _ rfl Try.isAgg27 Try.sizeOf27 rfl (colD_all _) (colD_length _)) ?_
  obtain ⟨r1, hr1, h⟩ := bindO h
  refine kC [] 9 (bV r1) [] rfl Try.call78 rfl rfl (spec_l01Is_ac k p0 _ hr1) rfl ?_
  refine AOps_q 10 _ rfl rfl rfl (QOp_not _ _ _ rfl rfl) ?_
  refine kN 1 rfl ?_
  refine kI h rfl (fun h _ => ?_) (fun h _ => ?_)
  ·refine kR ?_
   refine kN 1 rfl ?_
   refine ACode_ret ?_
   cases h
   have h := hks8
   cases h
   exact ⟨_, _, fun r a w h => ⟨r, h⟩, _, _, [], _, (.cons (ResV_tmp _ _ rfl) .nil), rfl, rfl, rfl, rfl, rfl⟩
  refine kB (fun s6 => [(11, bV s6)]) (fun s6 => []) h (fun s6 h => ?_) (fun s6 h => ?_)
  ·refine (ACode_region ?_)
   refine kM 1 rfl ?_
   refine AOps_q 13 _ rfl rfl rfl (QOp_fieldAddr_pv _ _ _ _ _ 1 _ _ rfl Try.underlying27 rfl _ Try.sizeOf2 rfl rfl) ?_
   refine AOps_q 14 _ rfl rfl rfl (QOp_load_pv _ _ _ _ _ rfl Try.isAgg2 rfl rfl) ?_
   refine AOps_q 15 _ rfl rfl rfl (QOp_sub _ _ _ _ _ _ _ rfl rfl rfl) ?_
   refine kC [] 16 (bV (spec_l01In p1 0 (w64 (p0.k - 1)))) [] rfl Try.call38 rfl rfl (spec_l01In_ac p1 0 (w64 (p0.k - 1))) rfl ?_
   refine AOps_q 17 _ rfl rfl rfl (QOp_not _ _ _ rfl rfl) ?_
   refine kM 1 rfl ?_
   refine AOps_case 18 _ rfl (fun hb4 => ?_) (fun hb4 => ?_)
   ·have h := iteT hb4 h
    refine AOps_skip 19 rfl rfl rfl ?_
    refine AOps_skip 20 rfl rfl rfl ?_
    refine AOps_skip 21 rfl rfl rfl ?_
    refine AOps_skip 22 rfl rfl rfl ?_
    refine AOps_skip 23 rfl rfl rfl ?_
    refine kN 2 rfl ?_
    cases h
    exact Weak_keep 0 hm [11] [] _ _ rfl rfl rfl
   have h := iteF hb4 h
   refine kM 1 rfl ?_
   refine AOps_q 20 _ rfl rfl rfl (QOp_fieldAddr_pv _ _ _ _ _ 0 _ _ rfl Try.underlying27 rfl _ Try.sizeOf2 rfl rfl) ?_
   refine AOps_q 21 _ rfl rfl rfl (QOp_load_pv _ _ _ _ _ rfl Try.isAgg2 rfl rfl) ?_
   obtain ⟨r5, hr5, h⟩ := bindO h
   refine kC [] 22 (bV r5) [] rfl Try.call79 rfl rfl (spec_l01All_ac k p2 p0.p _ hr5) rfl ?_
   refine AOps_q 23 _ rfl rfl rfl (QOp_not _ _ _ rfl rfl) ?_
   refine kN 2 rfl ?_
   cases h
   exact Weak_keep 0 hm [11] [] _ _ rfl rfl rfl
  refine kI h rfl (fun h _ => ?_) (fun h _ => ?_)
  ·refine kR ?_
   refine kN 1 rfl ?_
   refine ACode_ret ?_
   cases h
   have h := hks8
   cases h
   exact ⟨_, _, fun r a w h => ⟨r, h⟩, _, _, [], _, (.cons (ResV_tmp _ _ rfl) .nil), rfl, rfl, rfl, rfl, rfl⟩
  refine ACode_skip ?_
  cases h
  exact ⟨_, rfl, Weak_keep 0 hm [] [] _ _ rfl rfl rfl⟩
 refine kR ?_
 refine kN 1 rfl ?_
 refine ACode_ret ?_
 cases h
 exact ⟨_, _, fun r a w h => ⟨r, h⟩, _, _, [], _, (.cons (ResV_tmp _ _ rfl) .nil), rfl, rfl, rfl, rfl, rfl⟩

-- loop.example/g01362/spec.l04Code
def spec_l04Code (k : Nat) (p0 : Col) (p1 : Int) (p2 : Bool) : Option (Int) :=
 (spec_l01Given k p0 p1 ([])).bind fun r1 => letO (letO (if decide (r1 = 0) then (if p2 then decide (11 < p0.p) else false) else false) fun (s4 : Bool) => (if s4 then 3 else r1)) fun (s6 : Int) => some s6
set_option maxRecDepth 100000 in
theorem spec_l04Code_ac (k : Nat) (p0 : Col) (p1 : Int) (p2 : Bool) (r : Int) (h : spec_l04Code k p0 p1 p2 = some r) : AC Try.prog 39 [.d (.agg (colD p0)), iV p1, bV p2] [] (fun res H' => res = [iV r] ∧ H' = []) := by
 refine AC_of_body true Try.func39 rfl Try.ntmps39 (rvs := [.tmp 6]) rfl rfl (fun G hG => ?_)
 have hm : G.H.length = 0 := by rw [hG]; rfl
 have hz : zeroG G.H = true := by rw [hG]; rfl
 unfold spec_l04Code at h
 refine kR ?_
 refine AOps_boxI 3 _ _ (.agg (colD p0)) (colD p0) rfl (colD_one _) rfl rfl rfl rfl rfl ?_
 refine kN 1 rfl ?_
 refine kR ?_
 refine AOps_q 8 _ rfl rfl rfl (QOp_loadN_pv _ _ _ _ _ _ rfl Try.isAgg27 Try.sizeOf27 rfl (colD_all _) (colD_length _)) ?_
 refine kM 1 rfl ?_
 obtain ⟨r1, hr1, h⟩ := bindO h
 refine kC [] 10 (iV r1) [] rfl Try.call37 rfl rfl (spec_l01Given_ac k p0 p1 ([]) _ hr1) rfl ?_
 refine kN 1 rfl ?_
 refine kL (fun s6 => [(7, iV s6)]) (fun s6 => []) h (fun s6 h => ?_) (fun s6 h => ?_)
 ·refine kL (fun s4 => [(7, iV r1), (20, bV s4)]) (fun s4 => []) h (fun s4 h => ?_) (fun s4 h => ?_)
  ·refine (ACode_region ?_)
   refine kM 1 rfl ?_
   refine AOps_q 12 _ rfl rfl rfl (QOp_eql _ _ _ _ _ _ _ rfl rfl rfl) ?_
   refine kM 1 rfl ?_
   refine AOps_case 13 _ rfl (fun hb2 => ?_) (fun hb2 => ?_)
   ·have h := iteT hb2 h
    refine kM 3 rfl ?_
    refine AOps_case 16 _ rfl (fun hb3 => ?_) (fun hb3 => ?_)
    ·have h := iteT hb3 h
     refine AOps_q 17 _ rfl rfl rfl (QOp_fieldAddr_pv _ _ _ _ _ 0 _ _ rfl Try.underlying27 rfl _ Try.sizeOf2 rfl rfl) ?_
     refine AOps_q 18 _ rfl rfl rfl (QOp_load_pv _ _ _ _ _ rfl Try.isAgg2 rfl rfl) ?_
     refine AOps_q 19 _ rfl rfl rfl (QOp_gtr _ _ _ _ _ _ _ rfl rfl rfl) ?_
     refine kN 1 rfl ?_
     cases h
     exact Weak_keep 0 hm [7, 20] [] _ _ rfl rfl rfl
    have h := iteF hb3 h
    refine AOps_skip 17 rfl rfl rfl ?_
    refine AOps_skip 18 rfl rfl rfl ?_
    refine AOps_skip 19 rfl rfl rfl ?_
    refine kN 1 rfl ?_
    cases h
    exact Weak_keep 0 hm [7, 20] [] _ _ rfl rfl rfl
   have h := iteF hb2 h
   refine AOps_skip 14 rfl rfl rfl ?_
   refine kM 2 rfl ?_
   refine AOps_skip 17 rfl rfl rfl ?_
   refine AOps_skip 18 rfl rfl rfl ?_
   refine AOps_skip 19 rfl rfl rfl ?_
   refine kN 1 rfl ?_
   cases h
   exact Weak_keep 0 hm [7, 20] [] _ _ rfl rfl rfl
  refine kI h rfl (fun h _ => ?_) (fun h _ => ?_)
  ·refine (ACode_region ?_)
   refine kN 1 rfl ?_
   cases h
   exact Weak_keep 0 hm [7] [] _ _ rfl rfl rfl
  refine ACode_skip ?_
  cases h
  exact Weak_keep 0 hm [7] [] _ _ rfl rfl rfl
 refine kR ?_
 refine kN 2 rfl ?_
 refine ACode_ret ?_
 cases h
 exact ⟨_, _, fun r a w h => ⟨r, h⟩, _, _, [], _, (.cons (ResV_tmp _ _ rfl) .nil), rfl, rfl, rfl, rfl, rfl⟩

-- loop.example/g01362/spec.l01Edge
def spec_l01Edge (p0 : Int) (p1 : Int) : Int :=
 (if decide (p1 < p0) then w64 ((w64 ((w64 (p0 * (w64 (p0 - 1)))).tdiv 2)) + p1) else w64 ((w64 ((w64 (p1 * (w64 (p1 - 1)))).tdiv 2)) + p0))
set_option maxRecDepth 100000 in
theorem spec_l01Edge_ac (p0 : Int) (p1 : Int) : AC Try.prog 104 [iV p0, iV p1] [] (fun res H' => res = [iV (spec_l01Edge p0 p1)] ∧ H' = []) := by
 refine AC_of_body true Try.func104 rfl Try.ntmps104 (rvs := [.tmp 4]) rfl rfl (fun G hG => ?_)
 have hm : G.H.length = 0 := by rw [hG]; rfl
 have hz : zeroG G.H = true := by rw [hG]; rfl
 obtain ⟨r, h⟩ : ∃ r, spec_l01Edge p0 p1 = r := ⟨_, rfl⟩
 rw [h]
 unfold spec_l01Edge at h
 refine kR ?_
 refine kN 1 rfl ?_
 refine ACode_seq ?_
 refine kR ?_
 refine kM 2 rfl ?_
 refine AOps_q 7 _ rfl rfl rfl (QOp_gtr _ _ _ _ _ _ _ rfl rfl rfl) ?_
 refine AOps_nil ?_
 refine kI h rfl (fun h _ => ?_) (fun h _ => ?_)
 ·refine kR ?_
  refine kM 2 rfl ?_
  refine AOps_q 10 _ rfl rfl rfl (QOp_sub _ _ _ _ _ _ _ rfl rfl rfl) ?_
  refine AOps_q 11 _ rfl rfl rfl (QOp_mul _ _ _ _ _ _ _ rfl rfl rfl) ?_
  refine AOps_q 12 _ rfl rfl rfl (QOp_quo _ _ _ _ _ _ _ (by decide) rfl rfl rfl) ?_
  refine kM 1 rfl ?_
  refine AOps_q 14 _ rfl rfl rfl (QOp_add _ _ _ _ _ _ _ rfl rfl rfl) ?_
  refine kN 1 rfl ?_
  refine ACode_ret ?_
  cases h
  exact ⟨_, _, fun r a w h => ⟨r, h⟩, _, _, [], _, (.cons (ResV_tmp _ _ rfl) .nil), rfl, rfl, rfl, rfl, rfl⟩
 refine ACode_skip ?_
 refine kR ?_
 refine kM 2 rfl ?_
 refine AOps_q 17 _ rfl rfl rfl (QOp_sub _ _ _ _ _ _ _ rfl rfl rfl) ?_
 refine AOps_q 18 _ rfl rfl rfl (QOp_mul _ _ _ _ _ _ _ rfl rfl rfl) ?_
 refine AOps_q 19 _ rfl rfl rfl (QOp_quo _ _ _ _ _ _ _ (by decide) rfl rfl rfl) ?_
 refine kM 1 rfl ?_
 refine AOps_q 21 _ rfl rfl rfl (QOp_add _ _ _ _ _ _ _ rfl rfl rfl) ?_
 refine kN 1 rfl ?_
 refine ACode_ret ?_
 cases h
 exact ⟨_, _, fun r a w h => ⟨r, h⟩, _, _, [], _, (.cons (ResV_tmp _ _ rfl) .nil), rfl, rfl, rfl, rfl, rfl⟩

-- loop.example/g01362/spec.l01At
def spec_l01At (p0 : Col) (p1 : Int) (p2 : Int) : Option (Int) :=
 (if 0 ≤ (spec_l01Edge p1 p2) ∧ (spec_l01Edge p1 p2) < 136 then some ((p0.get ((spec_l01Edge p1 p2).toNat)).toNat : Int) else none)
set_option maxRecDepth 100000 in
theorem spec_l01At_ac (p0 : Col) (p1 : Int) (p2 : Int) (r : Int) (h : spec_l01At p0 p1 p2 = some r) : AC Try.prog 98 [.d (.agg (colD p0)), iV p1, iV p2] [] (fun res H' => res = [iV r] ∧ H' = []) := by
 refine AC_of_body true Try.func98 rfl Try.ntmps98 (rvs := [.tmp 6]) rfl rfl (fun G hG => ?_)
 have hm : G.H.length = 0 := by rw [hG]; rfl
 have hz : zeroG G.H = true := by rw [hG]; rfl
 unfold spec_l01At at h
 refine kR ?_
 refine AOps_boxI 3 _ _ (.agg (colD p0)) (colD p0) rfl (colD_one _) rfl rfl rfl rfl rfl ?_
 refine kN 1 rfl ?_
 refine kR ?_
 refine kM 2 rfl ?_
 refine kC [] 9 (iV (spec_l01Edge p1 p2)) [] rfl Try.call104 rfl rfl (spec_l01Edge_ac p1 p2) rfl ?_
 refine AOps_q 10 _ rfl rfl rfl (QOp_fieldAddr_pv _ _ _ _ _ 2 _ _ rfl Try.underlying27 rfl _ Try.sizeOf22 rfl rfl) ?_
 obtain ⟨hc2, h⟩ := guardO h
 refine AOps_q 11 _ rfl rfl rfl (QOp_indexAddrA_pv _ _ _ _ _ _ _ _ _ rfl Try.underlying22 Try.sizeOf5 hc2.1 hc2.2 rfl rfl) ?_
 refine AOps_q 12 _ rfl rfl rfl (QOp_load_pv _ _ _ _ _ rfl Try.isAgg5 rfl (colD_get _ _ (by omega))) ?_
 refine AOps_q 13 _ rfl rfl rfl (QOp_fromByte _ _ _ _ _ rfl rfl Try.underlying2 wrap_i64_byte rfl) ?_
 refine kN 1 rfl ?_
 refine ACode_ret ?_
 cases h
 exact ⟨_, _, fun r a w h => ⟨r, h⟩, _, _, [], _, (.cons (ResV_tmp _ _ rfl) .nil), rfl, rfl, rfl, rfl, rfl⟩

-- loop.example/g01362/spec.l01Around
def spec_l01Around_l0 (p0 : Col) (p1 : Int) (p2 : Int) : Nat → Int → Int → Option (Int)
 | 0, _, _ => none
 | k0 + 1, x1, x2 => (if decide (x2 < p0.p) then (((if !decide (x2 = p1) then (spec_l01At p0 p1 x2).bind fun r5 => some (decide (r5 = p2)) else some false) : Option (Bool)).bind fun s6 => (if s6 then (if 0 ≤ IntKind.u64.wrap x2 then some (bOr .i64 x1 (bShl .i64 1 (IntKind.u64.wrap x2))) else none) else some x1) : Option (Int)).bind fun s9 => spec_l01Around_l0 p0 p1 p2 k0 s9 (w64 (x2 + 1)) else some x1)
def spec_l01Around (k : Nat) (p0 : Col) (p1 : Int) (p2 : Int) : Option (Int) :=
 (spec_l01Around_l0 p0 p1 p2 k 0 0 : Option (Int)).bind fun s10 => some s10
set_option maxRecDepth 100000 in
theorem spec_l01Around_ac (k : Nat) (p0 : Col) (p1 : Int) (p2 : Int) (r : Int) (h : spec_l01Around k p0 p1 p2 = some r) : AC Try.prog 83 [.d (.agg (colD p0)), iV p1, iV p2] [] (fun res H' => res = [iV r] ∧ H' = []) := by
 refine AC_of_body true Try.func83 rfl Try.ntmps83 (rvs := [.tmp 6]) rfl rfl (fun G hG => ?_)
 have hm : G.H.length = 0 := by rw [hG]; rfl
 have hz : zeroG G.H = true := by rw [hG]; rfl
 unfold spec_l01Around at h
 refine kR ?_
 refine AOps_boxI 3 _ _ (.agg (colD p0)) (colD p0) rfl (colD_one _) rfl rfl rfl rfl rfl ?_
 refine kN 1 rfl ?_
 refine kR ?_
 refine kN 1 rfl ?_
 refine kB (fun s10 => [(7, iV s10)]) (fun s10 => []) h (fun s10 h => ?_) (fun s10 h => ?_)
 ·refine kR ?_
  refine kN 1 rfl ?_
  refine ACode_block ?_
  refine ACode_loopW (fun k0 E H => ∃ (x1 : Int) (x2 : Int), E = [(1, iV p1), (2, iV p2), (3, .d (.pv (colD p0) 0)), (7, iV x1), (8, iV x2)] ∧ H = [] ∧ spec_l01Around_l0 p0 p1 p2 k0 x1 x2 = some s10) k _ _ (Weak_keep 0 hm [1, 2, 3, 7, 8] [] _ _ rfl rfl rfl) ⟨_, _, rfl, rfl, h⟩ ?_
  clear h
  rintro k0 E H ⟨x1, x2, rfl, rfl, h⟩
  cases k0 with
  | zero => cases (show (none : Option (Int)) = some _ from h)
  | succ k0 =>
   rw [spec_l01Around_l0] at h
   refine ACode_seq ?_
   refine kR ?_
   refine kM 1 rfl ?_
   refine AOps_q 10 _ rfl rfl rfl (QOp_fieldAddr_pv _ _ _ _ _ 0 _ _ rfl Try.underlying27 rfl _ Try.sizeOf2 rfl rfl) ?_
   refine AOps_q 11 _ rfl rfl rfl (QOp_load_pv _ _ _ _ _ rfl Try.isAgg2 rfl rfl) ?_
   refine AOps_q 12 _ rfl rfl rfl (QOp_lss _ _ _ _ _ _ _ rfl rfl rfl) ?_
   refine AOps_nil ?_
   refine kI h rfl (fun h _ => ?_) (fun h _ => ?_)
   ·refine ACode_skip ?_
    refine kB (fun s9 => [(1, iV p1), (2, iV p2), (3, .d (.pv (colD p0) 0)), (7, iV s9), (8, iV x2)]) (fun s9 => []) h (fun s9 h => ?_) (fun s9 h => ?_)
    ·refine ACode_block ?_
     refine kB (fun s6 => [(1, iV p1), (2, iV p2), (3, .d (.pv (colD p0) 0)), (7, iV x1), (8, iV x2), (25, bV s6)]) (fun s6 => []) h (fun s6 h => ?_) (fun s6 h => ?_)
     ·refine (ACode_region ?_)
      refine kM 2 rfl ?_
      refine AOps_q 17 _ rfl rfl rfl (QOp_neq _ _ _ _ _ _ _ rfl rfl rfl) ?_
      refine kM 1 rfl ?_
      refine AOps_case 18 _ rfl (fun hb4 => ?_) (fun hb4 => ?_)
      ·have h := iteT hb4 h
       refine AOps_q 19 _ rfl rfl rfl (QOp_loadN_pv _ _ _ _ _ _ rfl Try.isAgg27 Try.sizeOf27 rfl (colD_all _) (colD_length _)) ?_
       refine kM 2 rfl ?_
       obtain ⟨r5, hr5, h⟩ := bindO h
       refine kC [] 22 (iV r5) [] rfl Try.call98 rfl rfl (spec_l01At_ac p0 p1 x2 _ hr5) rfl ?_
       refine kM 1 rfl ?_
       refine AOps_q 24 _ rfl rfl rfl (QOp_eql _ _ _ _ _ _ _ rfl rfl rfl) ?_
       refine kN 1 rfl ?_
       cases h
       exact Weak_keep 0 hm [1, 2, 3, 7, 8, 25] [] _ _ rfl rfl rfl
      have h := iteF hb4 h
      refine AOps_skip 19 rfl rfl rfl ?_
      refine AOps_skip 20 rfl rfl rfl ?_
      refine AOps_skip 21 rfl rfl rfl ?_
      refine AOps_skip 22 rfl rfl rfl ?_
      refine AOps_skip 23 rfl rfl rfl ?_
      refine AOps_skip 24 rfl rfl rfl ?_
      refine kN 1 rfl ?_
      cases h
      exact Weak_keep 0 hm [1, 2, 3, 7, 8, 25] [] _ _ rfl rfl rfl
     refine kI h rfl (fun h _ => ?_) (fun h _ => ?_)
     ·refine (ACode_region ?_)
      refine kM 2 rfl ?_
      refine AOps_q 28 _ rfl rfl rfl (QOp_conv _ _ _ _ _ _ rfl rfl Try.underlying93 rfl) ?_
      obtain ⟨hc8, h⟩ := guardO h
      refine AOps_q 29 _ rfl rfl rfl (QOp_shl _ _ _ _ _ _ _ _ hc8 rfl rfl rfl) ?_
      refine AOps_q 30 _ rfl rfl rfl (QOp_or _ _ _ _ _ _ _ rfl rfl rfl) ?_
      refine kN 1 rfl ?_
      cases h
      exact Weak_keep 0 hm [1, 2, 3, 7, 8] [] _ _ rfl rfl rfl
     refine ACode_skip ?_
     cases h
     exact Weak_keep 0 hm [1, 2, 3, 7, 8] [] _ _ rfl rfl rfl
    refine (ACode_region ?_)
    refine kM 1 rfl ?_
    refine AOps_q 14 _ rfl rfl rfl (QOp_add _ _ _ _ _ _ _ rfl rfl rfl) ?_
    refine kN 1 rfl ?_
    exact ⟨k0, _, _, Nat.lt_succ_self _, Weak_keep 0 hm [1, 2, 3, 7, 8] [] _ _ rfl rfl rfl, _, _, rfl, rfl, h⟩
   refine ACode_exit ?_
   cases h
   exact Weak_keep 0 hm [7] [] _ _ rfl rfl rfl
 refine kR ?_
 refine kN 2 rfl ?_
 refine ACode_ret ?_
 cases h
 exact ⟨_, _, fun r a w h => ⟨r, h⟩, _, _, [], _, (.cons (ResV_tmp _ _ rfl) .nil), rfl, rfl, rfl, rfl, rfl⟩

-- loop.example/g01362/spec.l02Rows
def spec_l02Rows_l0 (k : Nat) (p0 : Col) (p1 : Int) : Nat → Int → (List Int) → Option (List Int)
 | 0, _, _ => none
 | k0 + 1, x1, x2 => (if decide (x1 < p0.p) then (spec_l01Around k p0 x1 p1).bind fun r4 => (if x2.length + ([r4]).length ≤ 1099511627776 then spec_l02Rows_l0 k p0 p1 k0 (w64 (x1 + 1)) (x2 ++ ([r4])) else none) else some x2)
def spec_l02Rows (k : Nat) (p0 : Col) (p1 : Int) : Option (List Int) :=
 (spec_l02Rows_l0 k p0 p1 k 0 ([] : List Int) : Option (List Int)).bind fun s6 => some s6
set_option maxRecDepth 100000 in
theorem spec_l02Rows_ac (k : Nat) (p0 : Col) (p1 : Int) (r : List Int) (h : spec_l02Rows k p0 p1 = some r) : AC Try.prog 80 [.d (.agg (colD p0)), iV p1] [] (fun res H' => res = [.vec 0 0] ∧ H' = [.vec 0 (intsD r)]) := by
 refine AC_of_body true Try.func80 rfl Try.ntmps80 (rvs := [.tmp 4]) rfl rfl (fun G hG => ?_)
 have hm : G.H.length = 0 := by rw [hG]; rfl
 have hz : zeroG G.H = true := by rw [hG]; rfl
 unfold spec_l02Rows at h
 refine kR ?_
 refine AOps_boxI 2 _ _ (.agg (colD p0)) (colD p0) rfl (colD_one _) rfl rfl rfl rfl rfl ?_
 refine kN 1 rfl ?_
 refine kR ?_
 refine AOps_buildSlice 7 _ _ _ [] (intsD ([] : List Int)) _ rfl rfl rfl rfl rfl (by decide) Try.underlying34 Try.sizeOf2 (zero_of Try.typeInfo2 rfl) rfl rfl (intsD_one _) ?_
 refine kN 1 rfl ?_
 refine kB (fun s6 => [(5, .vec 0 0)]) (fun s6 => [.vec 0 (intsD s6)]) h (fun s6 h => ?_) (fun s6 h => ?_)
 ·refine kR ?_
  refine kN 1 rfl ?_
  refine ACode_block ?_
  refine ACode_loopW (fun k0 E H => ∃ (x1 : Int) (x2 : List Int), E = [(1, iV p1), (2, .d (.pv (colD p0) 0)), (5, .vec 0 0), (6, iV x1)] ∧ H = [.vec 0 (intsD x2)] ∧ spec_l02Rows_l0 k p0 p1 k0 x1 x2 = some s6) k _ _ (Weak_keep 0 hm [1, 2, 5, 6] [0] _ _ rfl rfl rfl) ⟨_, _, rfl, rfl, h⟩ ?_
  clear h
  rintro k0 E H ⟨x1, x2, rfl, rfl, h⟩
  cases k0 with
  | zero => cases (show (none : Option (List Int)) = some _ from h)
  | succ k0 =>
   rw [spec_l02Rows_l0] at h
   refine ACode_seq ?_
   refine kR ?_
   refine kM 1 rfl ?_
   refine AOps_q 9 _ rfl rfl rfl (QOp_fieldAddr_pv _ _ _ _ _ 0 _ _ rfl Try.underlying27 rfl _ Try.sizeOf2 rfl rfl) ?_
   refine AOps_q 10 _ rfl rfl rfl (QOp_load_pv _ _ _ _ _ rfl Try.isAgg2 rfl rfl) ?_
   refine AOps_q 11 _ rfl rfl rfl (QOp_lss _ _ _ _ _ _ _ rfl rfl rfl) ?_
   refine AOps_nil ?_
   refine kI h rfl (fun h _ => ?_) (fun h _ => ?_)
   ·refine ACode_skip ?_
    refine ACode_seq ?_
    refine ACode_block ?_
    refine (ACode_region ?_)
    refine kM 1 rfl ?_
    refine AOps_q 15 _ rfl rfl rfl (QOp_loadN_pv _ _ _ _ _ _ rfl Try.isAgg27 Try.sizeOf27 rfl (colD_all _) (colD_length _)) ?_
    refine kM 2 rfl ?_
    obtain ⟨r4, hr4, h⟩ := bindO h
    refine kC [] 18 (iV r4) [.vec 0 (intsD x2)] rfl Try.call83 rfl rfl (spec_l01Around_ac k p0 x1 p1 _ hr4) rfl ?_
    refine AOps_buildSlice 19 _ _ _ [_] (intsD ([r4])) _ rfl rfl rfl rfl rfl (by decide) Try.underlying34 Try.sizeOf2 (zero_of Try.typeInfo2 rfl) rfl rfl (intsD_one _) ?_
    obtain ⟨hc5, h⟩ := guardO h
    refine AOps_append 20 _ _ _ _ _ _ _ _ _ _ _ _ rfl rfl rfl rfl rfl rfl rfl Try.underlying34 Try.type2 rfl rfl rfl (by decide) rfl rfl rfl rfl (intsD_one _) (by rw [intsD_length, intsD_length]; exact hc5) ?_
    rw [intsD_app]
    refine kN 1 rfl ?_
    refine (ACode_region ?_)
    refine kM 1 rfl ?_
    refine AOps_q 13 _ rfl rfl rfl (QOp_add _ _ _ _ _ _ _ rfl rfl rfl) ?_
    refine kN 1 rfl ?_
    exact ⟨k0, _, _, Nat.lt_succ_self _, Weak_trans (Weak_keep 0 hm [1, 2, 5, 6] [0] _ _ rfl rfl rfl) (Weak_reset 0 hm hz [1, 2, 5, 6] _ _ rfl rfl), _, _, rfl, rfl, h⟩
   refine ACode_exit ?_
   cases h
   exact Weak_keep 0 hm [5] [0] _ _ rfl rfl rfl
 refine kR ?_
 refine kN 2 rfl ?_
 refine ACode_ret ?_
 cases h
 exact ⟨_, _, Weak_reset 0 hm hz [4] _ _ rfl rfl, _, _, [0], _, (.cons (ResV_tmp _ _ rfl) .nil), rfl, rfl, rfl, rfl, rfl⟩

-- loop.example/g01362/spec.l04Ends
def spec_l04Ends_l1 (p0 : List Int) (x3 : Int) : Nat → Int → (List Int) → Option (List Int)
 | 0, _, _ => none
 | k1 + 1, x6, x7 => (if decide (x6 < (p0.length : Int)) then ((if 0 ≤ IntKind.u64.wrap x6 then (if decide (bAnd .i64 x3 (bShl .i64 1 (IntKind.u64.wrap x6)) = 0) then some x7 else ((if decide (bXor .i64 x3 (bShl .i64 1 (IntKind.u64.wrap x6)) = 0) then some true else (if 0 ≤ bXor .i64 x3 (bShl .i64 1 (IntKind.u64.wrap x6)) ∧ bXor .i64 x3 (bShl .i64 1 (IntKind.u64.wrap x6)) < (x7.length : Int) then (if 0 ≤ x6 ∧ x6 < (p0.length : Int) then some (!decide (bAnd .i64 (x7.getD (bXor .i64 x3 (bShl .i64 1 (IntKind.u64.wrap x6))).toNat 0) (p0.getD x6.toNat 0) = 0)) else none) else none)) : Option (Bool)).bind fun s14 => (if s14 then (if 0 ≤ x3 ∧ x3 < (x7.length : Int) then (if 0 ≤ x3 ∧ x3 < (x7.length : Int) then some (x7.set x3.toNat (bOr .i64 (x7.getD x3.toNat 0) (bShl .i64 1 (IntKind.u64.wrap x6)))) else none) else none) else some x7)) else none) : Option (List Int)).bind fun s18 => spec_l04Ends_l1 p0 x3 k1 (w64 (x6 + 1)) s18 else some x7)
def spec_l04Ends_l0 (k : Nat) (p0 : List Int) : Nat → Int → (List Int) → Option (List Int)
 | 0, _, _ => none
 | k0 + 1, x3, x4 => (if decide (x3 < (x4.length : Int)) then (spec_l04Ends_l1 p0 x3 k 0 x4 : Option (List Int)).bind fun s19 => spec_l04Ends_l0 k p0 k0 (w64 (x3 + 1)) s19 else some x4)
def spec_l04Ends (k : Nat) (p0 : List Int) : Option (List Int) :=
 (if 0 ≤ IntKind.u64.wrap (p0.length : Int) then (if 0 ≤ bShl .i64 1 (IntKind.u64.wrap (p0.length : Int)) ∧ bShl .i64 1 (IntKind.u64.wrap (p0.length : Int)) ≤ bShl .i64 1 (IntKind.u64.wrap (p0.length : Int)) ∧ bShl .i64 1 (IntKind.u64.wrap (p0.length : Int)) ≤ 1099511627776 then (spec_l04Ends_l0 k p0 k 1 (List.replicate (bShl .i64 1 (IntKind.u64.wrap (p0.length : Int))).toNat (0 : Int)) : Option (List Int)).bind fun s20 => some s20 else none) else none)
set_option maxRecDepth 100000 in
theorem spec_l04Ends_ac (k : Nat) (p0 : List Int) (r : List Int) (h : spec_l04Ends k p0 = some r) : AC Try.prog 81 [.d (.sl none (intsD p0))] [] (fun res H' => res = [.vec 0 0] ∧ H' = [.vec 0 (intsD r)]) := by
 refine AC_of_body true Try.func81 rfl Try.ntmps81 (rvs := [.tmp 2]) rfl rfl (fun G hG => ?_)
 have hm : G.H.length = 0 := by rw [hG]; rfl
 have hz : zeroG G.H = true := by rw [hG]; rfl
 unfold spec_l04Ends at h
 refine kR ?_
 refine kN 1 rfl ?_
 refine kR ?_
 refine kM 1 rfl ?_
 refine AOps_q 10 _ rfl rfl rfl (QOp_len_sl _ _ _ _ _ _ _ (intsD_length _) rfl rfl rfl rfl Try.underlying34 rfl) ?_
 refine kN 1 rfl ?_
 refine kR ?_
 refine kM 1 rfl ?_
 refine AOps_q 12 _ rfl rfl rfl (QOp_conv _ _ _ _ _ _ rfl rfl Try.underlying93 rfl) ?_
 obtain ⟨hc1, h⟩ := guardO h
 refine AOps_q 13 _ rfl rfl rfl (QOp_shl _ _ _ _ _ _ _ _ hc1 rfl rfl rfl) ?_
 obtain ⟨hc2, h⟩ := guardO h
 refine AOps_makeSliceG intsD iD 0 (intsD_rep · _) 14 _ _ _ _ _ _ (bShl .i64 1 (IntKind.u64.wrap (p0.length : Int))) (bShl .i64 1 (IntKind.u64.wrap (p0.length : Int))) _ (.int .i64 0) rfl rfl rfl rfl rfl rfl Try.underlying34 Try.type2 rfl rfl (by decide) rfl rfl hc2.1 hc2.2.1 hc2.2.2 ?_
 refine kN 1 rfl ?_
 refine kB (fun s20 => [(4, .vec 0 0)]) (fun s20 => [.vec 0 (intsD s20)]) h (fun s20 h => ?_) (fun s20 h => ?_)
 ·refine kR ?_
  refine kN 1 rfl ?_
  refine ACode_block ?_
  refine ACode_loopW (fun k0 E H => ∃ (x3 : Int) (x4 : List Int), E = [(0, .d (.sl none (intsD p0))), (3, iV (p0.length : Int)), (4, .vec 0 0), (5, iV x3)] ∧ H = [.vec 0 (intsD x4)] ∧ spec_l04Ends_l0 k p0 k0 x3 x4 = some s20) k _ _ (Weak_keep 0 hm [0, 3, 4, 5] [0] _ _ rfl rfl rfl) ⟨_, _, rfl, rfl, h⟩ ?_
  clear h
  rintro k0 E H ⟨x3, x4, rfl, rfl, h⟩
  cases k0 with
  | zero => cases (show (none : Option (List Int)) = some _ from h)
  | succ k0 =>
   rw [spec_l04Ends_l0] at h
   refine ACode_seq ?_
   refine kR ?_
   refine kM 2 rfl ?_
   refine AOps_q 17 _ rfl rfl rfl (QOp_len_vec _ _ _ _ _ _ _ _ (intsD_length _) rfl rfl rfl rfl Try.underlying34 rfl rfl) ?_
   refine AOps_q 18 _ rfl rfl rfl (QOp_lss _ _ _ _ _ _ _ rfl rfl rfl) ?_
   refine AOps_nil ?_
   refine kI h rfl (fun h _ => ?_) (fun h _ => ?_)
   ·refine ACode_skip ?_
    refine kB (fun s19 => [(0, .d (.sl none (intsD p0))), (3, iV (p0.length : Int)), (4, .vec 0 0), (5, iV x3)]) (fun s19 => [.vec 0 (intsD s19)]) h (fun s19 h => ?_) (fun s19 h => ?_)
    ·refine ACode_block ?_
     refine kR ?_
     refine kN 1 rfl ?_
     refine ACode_block ?_
     refine ACode_loopW (fun k1 E H => ∃ (x6 : Int) (x7 : List Int), E = [(0, .d (.sl none (intsD p0))), (3, iV (p0.length : Int)), (4, .vec 0 0), (5, iV x3), (6, iV x6)] ∧ H = [.vec 0 (intsD x7)] ∧ spec_l04Ends_l1 p0 x3 k1 x6 x7 = some s19) k _ _ (Weak_keep 0 hm [0, 3, 4, 5, 6] [0] _ _ rfl rfl rfl) ⟨_, _, rfl, rfl, h⟩ ?_
     clear h
     rintro k1 E H ⟨x6, x7, rfl, rfl, h⟩
     cases k1 with
     | zero => cases (show (none : Option (List Int)) = some _ from h)
     | succ k1 =>
      rw [spec_l04Ends_l1] at h
      refine ACode_seq ?_
      refine kR ?_
      refine kM 2 rfl ?_
      refine AOps_q 23 _ rfl rfl rfl (QOp_lss _ _ _ _ _ _ _ rfl rfl rfl) ?_
      refine AOps_nil ?_
      refine kI h rfl (fun h _ => ?_) (fun h _ => ?_)
      ·refine ACode_skip ?_
       refine kB (fun s18 => [(0, .d (.sl none (intsD p0))), (3, iV (p0.length : Int)), (4, .vec 0 0), (5, iV x3), (6, iV x6)]) (fun s18 => [.vec 0 (intsD s18)]) h (fun s18 h => ?_) (fun s18 h => ?_)
       ·refine ACode_block ?_
        refine kR ?_
        refine kM 1 rfl ?_
        refine AOps_q 27 _ rfl rfl rfl (QOp_conv _ _ _ _ _ _ rfl rfl Try.underlying93 rfl) ?_
        obtain ⟨hc9, h⟩ := guardO h
        refine AOps_q 28 _ rfl rfl rfl (QOp_shl _ _ _ _ _ _ _ _ hc9 rfl rfl rfl) ?_
        refine kN 1 rfl ?_
        refine ACode_seq ?_
        refine kR ?_
        refine kM 2 rfl ?_
        refine AOps_q 31 _ rfl rfl rfl (QOp_and _ _ _ _ _ _ _ rfl rfl rfl) ?_
        refine AOps_q 32 _ rfl rfl rfl (QOp_eql _ _ _ _ _ _ _ rfl rfl rfl) ?_
        refine AOps_nil ?_
        refine kI h rfl (fun h _ => ?_) (fun h _ => ?_)
        ·refine ACode_exit ?_
         cases h
         exact Weak_keep 0 hm [0, 3, 4, 5, 6] [0] _ _ rfl rfl rfl
        refine ACode_skip ?_
        refine kR ?_
        refine kM 2 rfl ?_
        refine AOps_q 35 _ rfl rfl rfl (QOp_xor _ _ _ _ _ _ _ rfl rfl rfl) ?_
        refine kN 1 rfl ?_
        refine kB (fun s14 => [(0, .d (.sl none (intsD p0))), (3, iV (p0.length : Int)), (4, .vec 0 0), (5, iV x3), (6, iV x6), (7, iV (bShl .i64 1 (IntKind.u64.wrap x6))), (49, bV s14)]) (fun s14 => [.vec 0 (intsD x7)]) h (fun s14 h => ?_) (fun s14 h => ?_)
        ·refine (ACode_quiet mixed (by kernel_rfl) ?_)
         refine kQ 1 rfl ?_
         refine AQ_q 37 _ rfl rfl rfl (QOp_eql _ _ _ _ _ _ _ rfl rfl rfl) ?_
         refine kQ 1 rfl ?_
         refine AQ_case 38 _ rfl (fun hb11 => ?_) (fun hb11 => ?_)
         ·have h := iteT hb11 h
          refine AQ_skip 39 rfl rfl rfl ?_
          refine AQ_skip 40 rfl rfl rfl ?_
          refine AQ_skip 41 rfl rfl rfl ?_
          refine AQ_skip 42 rfl rfl rfl ?_
          refine AQ_skip 43 rfl rfl rfl ?_
          refine AQ_skip 44 rfl rfl rfl ?_
          refine AQ_skip 45 rfl rfl rfl ?_
          refine AQ_skip 46 rfl rfl rfl ?_
          refine AQ_skip 47 rfl rfl rfl ?_
          refine AQ_skip 48 rfl rfl rfl ?_
          refine kQ 1 rfl ?_
          refine AQ_nil ?_
          cases h
          exact Weak_keep 0 hm [0, 3, 4, 5, 6, 7, 49] [0] _ _ rfl rfl rfl
         have h := iteF hb11 h
         refine kQ 2 rfl ?_
         obtain ⟨hc12, h⟩ := guardO h
         refine AQ_q 41 _ rfl rfl rfl (QOp_indexAddr_vec _ _ _ _ _ _ _ _ _ rfl Try.underlying34 Try.sizeOf2 hc12.1 (by rw [intsD_length]; exact hc12.2) rfl rfl rfl) ?_
         refine AQ_q 42 _ rfl rfl rfl (QOp_load_eptr _ _ _ _ _ _ _ rfl Try.isAgg2 rfl rfl (intsD_get _ _ 0 (by omega))) ?_
         refine kQ 2 rfl ?_
         obtain ⟨hc13, h⟩ := guardO h
         refine AQ_q 45 _ rfl rfl rfl (QOp_indexAddr_sl _ _ _ _ _ _ _ _ rfl Try.underlying34 Try.sizeOf2 hc13.1 (by rw [intsD_length]; exact hc13.2) rfl rfl) ?_
         refine AQ_q 46 _ rfl rfl rfl (QOp_load_pv _ _ _ _ _ rfl Try.isAgg2 rfl (intsD_get _ _ 0 (by omega))) ?_
         refine AQ_q 47 _ rfl rfl rfl (QOp_and _ _ _ _ _ _ _ rfl rfl rfl) ?_
         refine AQ_q 48 _ rfl rfl rfl (QOp_neq _ _ _ _ _ _ _ rfl rfl rfl) ?_
         refine kQ 1 rfl ?_
         refine AQ_nil ?_
         cases h
         exact Weak_keep 0 hm [0, 3, 4, 5, 6, 7, 49] [0] _ _ rfl rfl rfl
        refine kI h rfl (fun h _ => ?_) (fun h _ => ?_)
        ·refine (ACode_region ?_)
         refine kM 4 rfl ?_
         obtain ⟨hc16, h⟩ := guardO h
         refine AOps_q 54 _ rfl rfl rfl (QOp_indexAddr_vec _ _ _ _ _ _ _ _ _ rfl Try.underlying34 Try.sizeOf2 hc16.1 (by rw [intsD_length]; exact hc16.2) rfl rfl rfl) ?_
         refine AOps_q 55 _ rfl rfl rfl (QOp_load_eptr _ _ _ _ _ _ _ rfl Try.isAgg2 rfl rfl (intsD_get _ _ 0 (by omega))) ?_
         refine kM 1 rfl ?_
         refine AOps_q 57 _ rfl rfl rfl (QOp_or _ _ _ _ _ _ _ rfl rfl rfl) ?_
         obtain ⟨hc17, h⟩ := guardO h
         refine AOps_q 58 _ rfl rfl rfl (QOp_indexAddr_vec _ _ _ _ _ _ _ _ _ rfl Try.underlying34 Try.sizeOf2 hc17.1 (by rw [intsD_length]; exact hc17.2) rfl rfl rfl) ?_
         refine AOps_store_eptr _ _ _ _ _ _ (intsD x7) _ rfl rfl rfl rfl rfl rfl rfl Try.sizeOf2 (by rw [intsD_length]; omega) ?_
         rw [intsD_set]
         refine AOps_nil ?_
         cases h
         exact Weak_keep 0 hm [0, 3, 4, 5, 6] [0] _ _ rfl rfl rfl
        refine ACode_skip ?_
        cases h
        exact Weak_keep 0 hm [0, 3, 4, 5, 6] [0] _ _ rfl rfl rfl
       refine (ACode_region ?_)
       refine kM 1 rfl ?_
       refine AOps_q 25 _ rfl rfl rfl (QOp_add _ _ _ _ _ _ _ rfl rfl rfl) ?_
       refine kN 1 rfl ?_
       exact ⟨k1, _, _, Nat.lt_succ_self _, Weak_keep 0 hm [0, 3, 4, 5, 6] [0] _ _ rfl rfl rfl, _, _, rfl, rfl, h⟩
      refine ACode_exit ?_
      cases h
      exact Weak_keep 0 hm [0, 3, 4, 5] [0] _ _ rfl rfl rfl
    refine (ACode_region ?_)
    refine kM 1 rfl ?_
    refine AOps_q 20 _ rfl rfl rfl (QOp_add _ _ _ _ _ _ _ rfl rfl rfl) ?_
    refine kN 1 rfl ?_
    exact ⟨k0, _, _, Nat.lt_succ_self _, Weak_keep 0 hm [0, 3, 4, 5] [0] _ _ rfl rfl rfl, _, _, rfl, rfl, h⟩
   refine ACode_exit ?_
   cases h
   exact Weak_keep 0 hm [4] [0] _ _ rfl rfl rfl
 refine kR ?_
 refine kN 2 rfl ?_
 refine ACode_ret ?_
 cases h
 exact ⟨_, _, Weak_reset 0 hm hz [2] _ _ rfl rfl, _, _, [0], _, (.cons (ResV_tmp _ _ rfl) .nil), rfl, rfl, rfl, rfl, rfl⟩

-- loop.example/g01362/spec.l01Ones
def spec_l01Ones_l0 : Nat → Int → Int → Option (Int)
 | 0, _, _ => none
 | k0 + 1, x1, x2 => (if decide (0 < x1) then spec_l01Ones_l0 k0 (w64 (x1.tdiv 2)) (w64 (x2 + (x1.tmod 2))) else some x2)
def spec_l01Ones (k : Nat) (p0 : Int) : Option (Int) :=
 (spec_l01Ones_l0 k p0 0 : Option (Int)).bind fun s4 => some s4
set_option maxRecDepth 100000 in
theorem spec_l01Ones_ac (k : Nat) (p0 : Int) (r : Int) (h : spec_l01Ones k p0 = some r) : AC Try.prog 82 [iV p0] [] (fun res H' => res = [iV r] ∧ H' = []) := by
 refine AC_of_body true Try.func82 rfl Try.ntmps82 (rvs := [.tmp 2]) rfl rfl (fun G hG => ?_)
 have hm : G.H.length = 0 := by rw [hG]; rfl
 have hz : zeroG G.H = true := by rw [hG]; rfl
 unfold spec_l01Ones at h
 refine kR ?_
 refine kN 1 rfl ?_
 refine kR ?_
 refine kN 1 rfl ?_
 refine kB (fun s4 => [(3, iV s4)]) (fun s4 => []) h (fun s4 h => ?_) (fun s4 h => ?_)
 ·refine ACode_block ?_
  refine ACode_loopW (fun k0 E H => ∃ (x1 : Int) (x2 : Int), E = [(0, iV x1), (3, iV x2)] ∧ H = [] ∧ spec_l01Ones_l0 k0 x1 x2 = some s4) k _ _ (Weak_keep 0 hm [0, 3] [] _ _ rfl rfl rfl) ⟨_, _, rfl, rfl, h⟩ ?_
  clear h
  rintro k0 E H ⟨x1, x2, rfl, rfl, h⟩
  cases k0 with
  | zero => cases (show (none : Option (Int)) = some _ from h)
  | succ k0 =>
   rw [spec_l01Ones_l0] at h
   refine ACode_seq ?_
   refine kR ?_
   refine kM 1 rfl ?_
   refine AOps_q 5 _ rfl rfl rfl (QOp_gtr _ _ _ _ _ _ _ rfl rfl rfl) ?_
   refine AOps_nil ?_
   refine kI h rfl (fun h _ => ?_) (fun h _ => ?_)
   ·refine ACode_skip ?_
    refine ACode_seq ?_
    refine ACode_block ?_
    refine (ACode_region ?_)
    refine kM 2 rfl ?_
    refine AOps_q 10 _ rfl rfl rfl (QOp_rem _ _ _ _ _ _ _ (by decide) rfl rfl rfl) ?_
    refine AOps_q 11 _ rfl rfl rfl (QOp_add _ _ _ _ _ _ _ rfl rfl rfl) ?_
    refine kN 1 rfl ?_
    refine (ACode_region ?_)
    refine kM 1 rfl ?_
    refine AOps_q 7 _ rfl rfl rfl (QOp_quo _ _ _ _ _ _ _ (by decide) rfl rfl rfl) ?_
    refine kN 1 rfl ?_
    exact ⟨k0, _, _, Nat.lt_succ_self _, Weak_keep 0 hm [0, 3] [] _ _ rfl rfl rfl, _, _, rfl, rfl, h⟩
   refine ACode_exit ?_
   cases h
   exact Weak_keep 0 hm [3] [] _ _ rfl rfl rfl
 refine kR ?_
 refine kN 2 rfl ?_
 refine ACode_ret ?_
 cases h
 exact ⟨_, _, fun r a w h => ⟨r, h⟩, _, _, [], _, (.cons (ResV_tmp _ _ rfl) .nil), rfl, rfl, rfl, rfl, rfl⟩

-- loop.example/g01362/spec.l04Path
def spec_l04Path_l0 (k : Nat) (r2 : List Int) : Nat → Int → Int → Option (Int)
 | 0, _, _ => none
 | k0 + 1, x3, x4 => (if decide (x4 < (r2.length : Int)) then ((if 0 ≤ x4 ∧ x4 < (r2.length : Int) then (if !decide ((r2.getD x4.toNat 0) = 0) then (spec_l01Ones k x4).bind fun r8 => some (if x3 < r8 then r8 else x3) else some x3) else none) : Option (Int)).bind fun s9 => spec_l04Path_l0 k r2 k0 s9 (w64 (x4 + 1)) else some x3)
def spec_l04Path_l1 (k : Nat) (r2 : List Int) (s10 : Int) : Nat → Int → (List Int) → Option (List Int)
 | 0, _, _ => none
 | k1 + 1, x11, x12 => (if decide (x11 < (r2.length : Int)) then (((if 0 ≤ x11 ∧ x11 < (r2.length : Int) then (if !decide ((r2.getD x11.toNat 0) = 0) then (spec_l01Ones k x11).bind fun r16 => some (decide (r16 = s10)) else some false) else none) : Option (Bool)).bind fun s17 => (if s17 then (if x12.length + ([x11]).length ≤ 1099511627776 then some (x12 ++ ([x11])) else none) else some x12) : Option (List Int)).bind fun s20 => spec_l04Path_l1 k r2 s10 k1 (w64 (x11 + 1)) s20 else some x12)
def spec_l04Path_l4 (r2 : List Int) (x22 : Int) (x23 : List Int) (x27 : Int) : Nat → Int → Int → Option (Int)
 | 0, _, _ => none
 | k4 + 1, x32, x33 => (((if decide (x33 < (x23.length : Int)) then (if decide (x32 < 0) then (if 0 ≤ IntKind.u64.wrap x27 then some (decide (bAnd .i64 (bShr .i64 x22 (IntKind.u64.wrap x27)) 1 = 1)) else none) else some false) else some false) : Option (Bool)).bind fun s37 => (if s37 then some (.inl ()) else (some x32).bind fun rr => some (.inr rr)) : Option (Sum (Unit) (Int))).bind fun os39 => (match os39 with | .inl s39 => ((if 0 ≤ x33 ∧ x33 < (x23.length : Int) then (if 0 ≤ (x23.getD x33.toNat 0) ∧ (x23.getD x33.toNat 0) < (r2.length : Int) then (if 0 ≤ IntKind.u64.wrap x27 then (if decide (bAnd .i64 (bShr .i64 (r2.getD (x23.getD x33.toNat 0).toNat 0) (IntKind.u64.wrap x27)) 1 = 1) then some x27 else some x32) else none) else none) else none) : Option (Int)).bind fun s44 => spec_l04Path_l4 r2 x22 x23 x27 k4 s44 (w64 (x33 + 1)) | .inr rr => some rr)
def spec_l04Path_l3 (k : Nat) (p0 : Col) (r2 : List Int) (x22 : Int) (x23 : List Int) : Nat → Int → Int → Option (Int)
 | 0, _, _ => none
 | k3 + 1, x26, x27 => (letO (if decide (x27 < p0.p) then decide (x26 < 0) else false) fun (s29 : Bool) => (if s29 then some (.inl ()) else (some x26).bind fun rr => some (.inr rr)) : Option (Sum (Unit) (Int))).bind fun os31 => (match os31 with | .inl s31 => (spec_l04Path_l4 r2 x22 x23 x27 k x26 0 : Option (Int)).bind fun s45 => spec_l04Path_l3 k p0 r2 x22 x23 k3 s45 (w64 (x27 + 1)) | .inr rr => some rr)
def spec_l04Path_l5 (r2 : List Int) (x23 : List Int) (s46 : Int) : Nat → Int → (List Int) → Option (List Int)
 | 0, _, _ => none
 | k5 + 1, x47, x48 => (if decide (x47 < (x23.length : Int)) then ((if 0 ≤ x47 ∧ x47 < (x23.length : Int) then (if 0 ≤ (x23.getD x47.toNat 0) ∧ (x23.getD x47.toNat 0) < (r2.length : Int) then (if 0 ≤ IntKind.u64.wrap s46 then (if decide (bAnd .i64 (bShr .i64 (r2.getD (x23.getD x47.toNat 0).toNat 0) (IntKind.u64.wrap s46)) 1 = 1) then (if 0 ≤ x47 ∧ x47 < (x23.length : Int) then (if 0 ≤ IntKind.u64.wrap s46 then (if x48.length + ([bXor .i64 (x23.getD x47.toNat 0) (bShl .i64 1 (IntKind.u64.wrap s46))]).length ≤ 1099511627776 then some (x48 ++ ([bXor .i64 (x23.getD x47.toNat 0) (bShl .i64 1 (IntKind.u64.wrap s46))])) else none) else none) else none) else some x48) else none) else none) else none) : Option (List Int)).bind fun s57 => spec_l04Path_l5 r2 x23 s46 k5 (w64 (x47 + 1)) s57 else some x48)
def spec_l04Path_l2 (k : Nat) (p0 : Col) (r1 : List Int) (r2 : List Int) (s10 : Int) : Nat → Int → (List Int) → (List Int) → Option (List Int)
 | 0, _, _, _ => none
 | k2 + 1, x22, x23, x24 => (if decide ((x24.length : Int) < s10) then ((spec_l04Path_l3 k p0 r2 x22 x23 k (-1) 0 : Option (Int)).bind fun s46 => (spec_l04Path_l5 r2 x23 s46 k 0 ([] : List Int) : Option (List Int)).bind fun s58 => (if x24.length + ([s46]).length ≤ 1099511627776 then (if 0 ≤ s46 ∧ s46 < (r1.length : Int) then some ((r1.getD s46.toNat 0), s58, (x24 ++ ([s46]))) else none) else none) : Option (Int × List Int × List Int)).bind fun s61 => spec_l04Path_l2 k p0 r1 r2 s10 k2 s61.1 s61.2.1 s61.2.2 else some x24)
def spec_l04Path (k : Nat) (p0 : Col) (p1 : Int) : Option (List Int) :=
 (spec_l02Rows k p0 p1).bind fun r1 => (spec_l04Ends k r1).bind fun r2 => (spec_l04Path_l0 k r2 k 0 0 : Option (Int)).bind fun s10 => (spec_l04Path_l1 k r2 s10 k 0 ([] : List Int) : Option (List Int)).bind fun s21 => (spec_l04Path_l2 k p0 r1 r2 s10 k (w64 ((r2.length : Int) - 1)) s21 ([] : List Int) : Option (List Int)).bind fun s62 => some s62
set_option maxRecDepth 100000 in
theorem spec_l04Path_ac (k : Nat) (p0 : Col) (p1 : Int) (r : List Int) (h : spec_l04Path k p0 p1 = some r) : AC Try.prog 40 [.d (.agg (colD p0)), iV p1] [] (fun res H' => res = [.vec 0 0] ∧ H' = [.vec 0 (intsD r)]) := by
 refine AC_of_body true Try.func40 rfl Try.ntmps40 (rvs := [.tmp 4]) rfl rfl (fun G hG => ?_)
 have hm : G.H.length = 0 := by rw [hG]; rfl
 have hz : zeroG G.H = true := by rw [hG]; rfl
 unfold spec_l04Path at h
 refine kR ?_
 refine AOps_boxI 2 _ _ (.agg (colD p0)) (colD p0) rfl (colD_one _) rfl rfl rfl rfl rfl ?_
 refine kN 1 rfl ?_
 refine kR ?_
 refine AOps_q 18 _ rfl rfl rfl (QOp_loadN_pv _ _ _ _ _ _ rfl Try.isAgg27 Try.sizeOf27 rfl (colD_all _) (colD_length _)) ?_
 refine kM 1 rfl ?_
 obtain ⟨r1, hr1, h⟩ := bindO h
 refine kC [] 20 (.vec 0 0) [.vec 0 (intsD r1)] rfl Try.call80 rfl rfl (spec_l02Rows_ac k p0 p1 _ hr1) rfl ?_
 refine kN 1 rfl ?_
 refine kR ?_
 refine kM 1 rfl ?_
 obtain ⟨r2, hr2, h⟩ := bindO h
 refine AOps_callL [] 22 _ _ _ _ _ _ _ _ _ _ rfl rfl rfl rfl rfl rfl rfl Try.call81 rfl (nodupB_sound _ rfl) rfl rfl rfl (spec_l04Ends_ac k r1 _ hr2) ?_
 rintro _ _ ⟨rfl, rfl⟩
 refine ⟨(allc (intsD_flat _) (fun _ h => nomatch h)), (allc (trivial) (fun _ h => nomatch h)), AOps_as 22 (v' := .vec 1 0) (H' := [.vec 0 (intsD r1), .vec 0 (intsD r2)]) rfl rfl ?_⟩
 refine kN 2 rfl ?_
 refine kB (fun s10 => [(2, .d (.pv (colD p0) 0)), (5, .vec 0 0), (6, .vec 1 0), (7, iV s10)]) (fun s10 => [.vec 0 (intsD r1), .vec 0 (intsD r2)]) h (fun s10 h => ?_) (fun s10 h => ?_)
 ·refine kR ?_
  refine kN 1 rfl ?_
  refine ACode_block ?_
  refine ACode_loopW (fun k0 E H => ∃ (x3 : Int) (x4 : Int), E = [(2, .d (.pv (colD p0) 0)), (5, .vec 0 0), (6, .vec 1 0), (7, iV x3), (8, iV x4)] ∧ H = [.vec 0 (intsD r1), .vec 0 (intsD r2)] ∧ spec_l04Path_l0 k r2 k0 x3 x4 = some s10) k _ _ (Weak_keep 0 hm [2, 5, 6, 7, 8] [0, 1] _ _ rfl rfl rfl) ⟨_, _, rfl, rfl, h⟩ ?_
  clear h
  rintro k0 E H ⟨x3, x4, rfl, rfl, h⟩
  cases k0 with
  | zero => cases (show (none : Option (Int)) = some _ from h)
  | succ k0 =>
   rw [spec_l04Path_l0] at h
   refine ACode_seq ?_
   refine kR ?_
   refine kM 2 rfl ?_
   refine AOps_q 25 _ rfl rfl rfl (QOp_len_vec _ _ _ _ _ _ _ _ (intsD_length _) rfl rfl rfl rfl Try.underlying34 rfl rfl) ?_
   refine AOps_q 26 _ rfl rfl rfl (QOp_lss _ _ _ _ _ _ _ rfl rfl rfl) ?_
   refine AOps_nil ?_
   refine kI h rfl (fun h _ => ?_) (fun h _ => ?_)
   ·refine ACode_skip ?_
    refine kB (fun s9 => [(2, .d (.pv (colD p0) 0)), (5, .vec 0 0), (6, .vec 1 0), (7, iV s9), (8, iV x4)]) (fun s9 => [.vec 0 (intsD r1), .vec 0 (intsD r2)]) h (fun s9 h => ?_) (fun s9 h => ?_)
    ·refine ACode_block ?_
     refine kR ?_
     refine kM 2 rfl ?_
     obtain ⟨hc6, h⟩ := guardO h
     refine AOps_q 31 _ rfl rfl rfl (QOp_indexAddr_vec _ _ _ _ _ _ _ _ _ rfl Try.underlying34 Try.sizeOf2 hc6.1 (by rw [intsD_length]; exact hc6.2) rfl rfl rfl) ?_
     refine AOps_q 32 _ rfl rfl rfl (QOp_load_eptr _ _ _ _ _ _ _ rfl Try.isAgg2 rfl rfl (intsD_get _ _ 0 (by omega))) ?_
     refine AOps_q 33 _ rfl rfl rfl (QOp_neq _ _ _ _ _ _ _ rfl rfl rfl) ?_
     refine AOps_nil ?_
     refine kI h rfl (fun h _ => ?_) (fun h _ => ?_)
     ·refine (ACode_region ?_)
      refine kM 2 rfl ?_
      obtain ⟨r8, hr8, h⟩ := bindO h
      refine kC [] 36 (iV r8) [.vec 0 (intsD r1), .vec 0 (intsD r2)] rfl Try.call82 rfl rfl (spec_l01Ones_ac k x4 _ hr8) rfl ?_
      refine AOps_q 37 _ rfl rfl rfl (QOp_max _ _ _ _ _ _ rfl rfl rfl rfl rfl) ?_
      refine kN 1 rfl ?_
      cases h
      exact Weak_keep 0 hm [2, 5, 6, 7, 8] [0, 1] _ _ rfl rfl rfl
     refine ACode_skip ?_
     cases h
     exact Weak_keep 0 hm [2, 5, 6, 7, 8] [0, 1] _ _ rfl rfl rfl
    refine (ACode_region ?_)
    refine kM 1 rfl ?_
    refine AOps_q 28 _ rfl rfl rfl (QOp_add _ _ _ _ _ _ _ rfl rfl rfl) ?_
    refine kN 1 rfl ?_
    exact ⟨k0, _, _, Nat.lt_succ_self _, Weak_keep 0 hm [2, 5, 6, 7, 8] [0, 1] _ _ rfl rfl rfl, _, _, rfl, rfl, h⟩
   refine ACode_exit ?_
   cases h
   exact Weak_keep 0 hm [2, 5, 6, 7] [0, 1] _ _ rfl rfl rfl
 refine kR ?_
 refine AOps_buildSlice 38 _ _ _ [] (intsD ([] : List Int)) _ rfl rfl rfl rfl rfl (by decide) Try.underlying34 Try.sizeOf2 (zero_of Try.typeInfo2 rfl) rfl rfl (intsD_one _) ?_
 refine kN 1 rfl ?_
 refine kB (fun s21 => [(2, .d (.pv (colD p0) 0)), (5, .vec 0 0), (6, .vec 1 0), (7, iV s10), (9, .vec 2 0)]) (fun s21 => [.vec 0 (intsD r1), .vec 0 (intsD r2), .vec 0 (intsD s21)]) h (fun s21 h => ?_) (fun s21 h => ?_)
 ·refine kR ?_
  refine kN 1 rfl ?_
  refine ACode_block ?_
  refine ACode_loopW (fun k1 E H => ∃ (x11 : Int) (x12 : List Int), E = [(2, .d (.pv (colD p0) 0)), (5, .vec 0 0), (6, .vec 1 0), (7, iV s10), (9, .vec 2 0), (10, iV x11)] ∧ H = [.vec 0 (intsD r1), .vec 0 (intsD r2), .vec 0 (intsD x12)] ∧ spec_l04Path_l1 k r2 s10 k1 x11 x12 = some s21) k _ _ (Weak_keep 0 hm [2, 5, 6, 7, 9, 10] [0, 1, 2] _ _ rfl rfl rfl) ⟨_, _, rfl, rfl, h⟩ ?_
  clear h
  rintro k1 E H ⟨x11, x12, rfl, rfl, h⟩
  cases k1 with
  | zero => cases (show (none : Option (List Int)) = some _ from h)
  | succ k1 =>
   rw [spec_l04Path_l1] at h
   refine ACode_seq ?_
   refine kR ?_
   refine kM 2 rfl ?_
   refine AOps_q 41 _ rfl rfl rfl (QOp_len_vec _ _ _ _ _ _ _ _ (intsD_length _) rfl rfl rfl rfl Try.underlying34 rfl rfl) ?_
   refine AOps_q 42 _ rfl rfl rfl (QOp_lss _ _ _ _ _ _ _ rfl rfl rfl) ?_
   refine AOps_nil ?_
   refine kI h rfl (fun h _ => ?_) (fun h _ => ?_)
   ·refine ACode_skip ?_
    refine kB (fun s20 => [(2, .d (.pv (colD p0) 0)), (5, .vec 0 0), (6, .vec 1 0), (7, iV s10), (9, .vec 2 0), (10, iV x11)]) (fun s20 => [.vec 0 (intsD r1), .vec 0 (intsD r2), .vec 0 (intsD s20)]) h (fun s20 h => ?_) (fun s20 h => ?_)
    ·refine ACode_block ?_
     refine kB (fun s17 => [(2, .d (.pv (colD p0) 0)), (5, .vec 0 0), (6, .vec 1 0), (7, iV s10), (9, .vec 2 0), (10, iV x11), (55, bV s17)]) (fun s17 => [.vec 0 (intsD r1), .vec 0 (intsD r2), .vec 0 (intsD x12)]) h (fun s17 h => ?_) (fun s17 h => ?_)
     ·refine (ACode_region ?_)
      refine kM 2 rfl ?_
      obtain ⟨hc14, h⟩ := guardO h
      refine AOps_q 47 _ rfl rfl rfl (QOp_indexAddr_vec _ _ _ _ _ _ _ _ _ rfl Try.underlying34 Try.sizeOf2 hc14.1 (by rw [intsD_length]; exact hc14.2) rfl rfl rfl) ?_
      refine AOps_q 48 _ rfl rfl rfl (QOp_load_eptr _ _ _ _ _ _ _ rfl Try.isAgg2 rfl rfl (intsD_get _ _ 0 (by omega))) ?_
      refine AOps_q 49 _ rfl rfl rfl (QOp_neq _ _ _ _ _ _ _ rfl rfl rfl) ?_
      refine kM 1 rfl ?_
      refine AOps_case 50 _ rfl (fun hb15 => ?_) (fun hb15 => ?_)
      ·have h := iteT hb15 h
       refine kM 1 rfl ?_
       obtain ⟨r16, hr16, h⟩ := bindO h
       refine kC [] 52 (iV r16) [.vec 0 (intsD r1), .vec 0 (intsD r2), .vec 0 (intsD x12)] rfl Try.call82 rfl rfl (spec_l01Ones_ac k x11 _ hr16) rfl ?_
       refine kM 1 rfl ?_
       refine AOps_q 54 _ rfl rfl rfl (QOp_eql _ _ _ _ _ _ _ rfl rfl rfl) ?_
       refine kN 1 rfl ?_
       cases h
       exact Weak_keep 0 hm [2, 5, 6, 7, 9, 10, 55] [0, 1, 2] _ _ rfl rfl rfl
      have h := iteF hb15 h
      refine AOps_skip 51 rfl rfl rfl ?_
      refine AOps_skip 52 rfl rfl rfl ?_
      refine AOps_skip 53 rfl rfl rfl ?_
      refine AOps_skip 54 rfl rfl rfl ?_
      refine kN 1 rfl ?_
      cases h
      exact Weak_keep 0 hm [2, 5, 6, 7, 9, 10, 55] [0, 1, 2] _ _ rfl rfl rfl
     refine kI h rfl (fun h _ => ?_) (fun h _ => ?_)
     ·refine (ACode_region ?_)
      refine kM 2 rfl ?_
      refine AOps_buildSlice 58 _ _ _ [_] (intsD ([x11])) _ rfl rfl rfl rfl rfl (by decide) Try.underlying34 Try.sizeOf2 (zero_of Try.typeInfo2 rfl) rfl rfl (intsD_one _) ?_
      obtain ⟨hc19, h⟩ := guardO h
      refine AOps_append 59 _ _ _ _ _ _ _ _ _ _ _ _ rfl rfl rfl rfl rfl rfl rfl Try.underlying34 Try.type2 rfl rfl rfl (by decide) rfl rfl rfl rfl (intsD_one _) (by rw [intsD_length, intsD_length]; exact hc19) ?_
      rw [intsD_app]
      refine kN 1 rfl ?_
      cases h
      exact Weak_trans (Weak_keep 0 hm [2, 5, 6, 7, 9, 10] [0, 1, 2] _ _ rfl rfl rfl) (Weak_reset 0 hm hz [2, 5, 6, 7, 9, 10] _ _ rfl rfl)
     refine ACode_skip ?_
     cases h
     exact Weak_keep 0 hm [2, 5, 6, 7, 9, 10] [0, 1, 2] _ _ rfl rfl rfl
    refine (ACode_region ?_)
    refine kM 1 rfl ?_
    refine AOps_q 44 _ rfl rfl rfl (QOp_add _ _ _ _ _ _ _ rfl rfl rfl) ?_
    refine kN 1 rfl ?_
    exact ⟨k1, _, _, Nat.lt_succ_self _, Weak_keep 0 hm [2, 5, 6, 7, 9, 10] [0, 1, 2] _ _ rfl rfl rfl, _, _, rfl, rfl, h⟩
   refine ACode_exit ?_
   cases h
   exact Weak_keep 0 hm [2, 5, 6, 7, 9] [0, 1, 2] _ _ rfl rfl rfl
 refine kR ?_
 refine AOps_buildSlice 60 _ _ _ [] (intsD ([] : List Int)) _ rfl rfl rfl rfl rfl (by decide) Try.underlying34 Try.sizeOf2 (zero_of Try.typeInfo2 rfl) rfl rfl (intsD_one _) ?_
 refine kM 1 rfl ?_
 refine AOps_q 62 _ rfl rfl rfl (QOp_len_vec _ _ _ _ _ _ _ _ (intsD_length _) rfl rfl rfl rfl Try.underlying34 rfl rfl) ?_
 refine AOps_q 63 _ rfl rfl rfl (QOp_sub _ _ _ _ _ _ _ rfl rfl rfl) ?_
 refine kN 2 rfl ?_
 refine kB (fun s62 => [(11, .vec 0 0)]) (fun s62 => [.vec 0 (intsD s62)]) h (fun s62 h => ?_) (fun s62 h => ?_)
 ·refine ACode_block ?_
  refine ACode_loopW (fun k2 E H => ∃ (x22 : Int) (x23 : List Int) (x24 : List Int), E = [(2, .d (.pv (colD p0) 0)), (5, .vec 0 0), (6, .vec 1 0), (7, iV s10), (9, .vec 2 0), (11, .vec 3 0), (12, iV x22)] ∧ H = [.vec 0 (intsD r1), .vec 0 (intsD r2), .vec 0 (intsD x23), .vec 0 (intsD x24)] ∧ spec_l04Path_l2 k p0 r1 r2 s10 k2 x22 x23 x24 = some s62) k _ _ (Weak_keep 0 hm [2, 5, 6, 7, 9, 11, 12] [0, 1, 2, 3] _ _ rfl rfl rfl) ⟨_, _, _, rfl, rfl, h⟩ ?_
  clear h
  rintro k2 E H ⟨x22, x23, x24, rfl, rfl, h⟩
  cases k2 with
  | zero => cases (show (none : Option (List Int)) = some _ from h)
  | succ k2 =>
   rw [spec_l04Path_l2] at h
   refine ACode_seq ?_
   refine kR ?_
   refine kM 1 rfl ?_
   refine AOps_q 65 _ rfl rfl rfl (QOp_len_vec _ _ _ _ _ _ _ _ (intsD_length _) rfl rfl rfl rfl Try.underlying34 rfl rfl) ?_
   refine kM 1 rfl ?_
   refine AOps_q 67 _ rfl rfl rfl (QOp_lss _ _ _ _ _ _ _ rfl rfl rfl) ?_
   refine AOps_nil ?_
   refine kI h rfl (fun h _ => ?_) (fun h _ => ?_)
   ·refine ACode_skip ?_
    obtain ⟨s61, hss61, hks61⟩ := bindO h
    clear h
    refine ACode_tailJ (fun E' H' => Weak 149 G E' H' [(2, .d (.pv (colD p0) 0)), (5, .vec 0 0), (6, .vec 1 0), (7, iV s10), (9, .vec 2 0), (11, .vec 3 0), (12, iV s61.1)] [.vec 0 (intsD r1), .vec 0 (intsD r2), .vec 0 (intsD s61.2.1), .vec 0 (intsD s61.2.2)]) ?_ ?_
    ·have h := hss61
     clear hss61
     refine ACode_block ?_
     refine kR ?_
     refine kN 1 rfl ?_
     refine kB (fun s46 => [(2, .d (.pv (colD p0) 0)), (5, .vec 0 0), (6, .vec 1 0), (7, iV s10), (9, .vec 2 0), (11, .vec 3 0), (13, iV s46)]) (fun s46 => [.vec 0 (intsD r1), .vec 0 (intsD r2), .vec 0 (intsD x23), .vec 0 (intsD x24)]) h (fun s46 h => ?_) (fun s46 h => ?_)
     ·refine kR ?_
      refine kN 1 rfl ?_
      refine ACode_block ?_
      refine ACode_loopW (fun k3 E H => ∃ (x26 : Int) (x27 : Int), E = [(2, .d (.pv (colD p0) 0)), (5, .vec 0 0), (6, .vec 1 0), (7, iV s10), (9, .vec 2 0), (11, .vec 3 0), (12, iV x22), (13, iV x26), (14, iV x27)] ∧ H = [.vec 0 (intsD r1), .vec 0 (intsD r2), .vec 0 (intsD x23), .vec 0 (intsD x24)] ∧ spec_l04Path_l3 k p0 r2 x22 x23 k3 x26 x27 = some s46) k _ _ (Weak_keep 0 hm [2, 5, 6, 7, 9, 11, 12, 13, 14] [0, 1, 2, 3] _ _ rfl rfl rfl) ⟨_, _, rfl, rfl, h⟩ ?_
      clear h
      rintro k3 E H ⟨x26, x27, rfl, rfl, h⟩
      cases k3 with
      | zero => cases (show (none : Option (Int)) = some _ from h)
      | succ k3 =>
       rw [spec_l04Path_l3] at h
       refine kO (fun s31 => [(2, .d (.pv (colD p0) 0)), (5, .vec 0 0), (6, .vec 1 0), (7, iV s10), (9, .vec 2 0), (11, .vec 3 0), (12, iV x22), (13, iV x26), (14, iV x27)]) (fun s31 => [.vec 0 (intsD r1), .vec 0 (intsD r2), .vec 0 (intsD x23), .vec 0 (intsD x24)]) h (fun os31 h hks31 => ?_) (fun s31 h => ?_)
       ·refine kL (fun s29 => [(2, .d (.pv (colD p0) 0)), (5, .vec 0 0), (6, .vec 1 0), (7, iV s10), (9, .vec 2 0), (11, .vec 3 0), (12, iV x22), (13, iV x26), (14, iV x27), (75, bV s29)]) (fun s29 => [.vec 0 (intsD r1), .vec 0 (intsD r2), .vec 0 (intsD x23), .vec 0 (intsD x24)]) h (fun s29 h => ?_) (fun s29 h => ?_)
        ·refine (ACode_region ?_)
         refine kM 1 rfl ?_
         refine AOps_q 69 _ rfl rfl rfl (QOp_fieldAddr_pv _ _ _ _ _ 0 _ _ rfl Try.underlying27 rfl _ Try.sizeOf2 rfl rfl) ?_
         refine AOps_q 70 _ rfl rfl rfl (QOp_load_pv _ _ _ _ _ rfl Try.isAgg2 rfl rfl) ?_
         refine AOps_q 71 _ rfl rfl rfl (QOp_lss _ _ _ _ _ _ _ rfl rfl rfl) ?_
         refine kM 1 rfl ?_
         refine AOps_case 72 _ rfl (fun hb28 => ?_) (fun hb28 => ?_)
         ·have h := iteT hb28 h
          refine kM 1 rfl ?_
          refine AOps_q 74 _ rfl rfl rfl (QOp_lss _ _ _ _ _ _ _ rfl rfl rfl) ?_
          refine kN 1 rfl ?_
          cases h
          exact Weak_keep 0 hm [2, 5, 6, 7, 9, 11, 12, 13, 14, 75] [0, 1, 2, 3] _ _ rfl rfl rfl
         have h := iteF hb28 h
         refine AOps_skip 73 rfl rfl rfl ?_
         refine AOps_skip 74 rfl rfl rfl ?_
         refine kN 1 rfl ?_
         cases h
         exact Weak_keep 0 hm [2, 5, 6, 7, 9, 11, 12, 13, 14, 75] [0, 1, 2, 3] _ _ rfl rfl rfl
        refine kI h rfl (fun h _ => ?_) (fun h _ => ?_)
        ·refine ACode_skip ?_
         cases h
         exact ⟨_, rfl, Weak_keep 0 hm [2, 5, 6, 7, 9, 11, 12, 13, 14] [0, 1, 2, 3] _ _ rfl rfl rfl⟩
        refine ACode_exit ?_
        obtain ⟨rr, hz63, h2⟩ := bindO h
        obtain rfl := Option.some.inj h2
        obtain rfl := Option.some.inj (show some rr = some _ from hks31)
        have h := hz63
        cases h
        exact Weak_keep 0 hm [2, 5, 6, 7, 9, 11, 13] [0, 1, 2, 3] _ _ rfl rfl rfl
       refine kB (fun s45 => [(2, .d (.pv (colD p0) 0)), (5, .vec 0 0), (6, .vec 1 0), (7, iV s10), (9, .vec 2 0), (11, .vec 3 0), (12, iV x22), (13, iV s45), (14, iV x27)]) (fun s45 => [.vec 0 (intsD r1), .vec 0 (intsD r2), .vec 0 (intsD x23), .vec 0 (intsD x24)]) h (fun s45 h => ?_) (fun s45 h => ?_)
       ·refine ACode_block ?_
        refine kR ?_
        refine kN 1 rfl ?_
        refine ACode_block ?_
        refine ACode_loopW (fun k4 E H => ∃ (x32 : Int) (x33 : Int), E = [(2, .d (.pv (colD p0) 0)), (5, .vec 0 0), (6, .vec 1 0), (7, iV s10), (9, .vec 2 0), (11, .vec 3 0), (12, iV x22), (13, iV x32), (14, iV x27), (15, iV x33)] ∧ H = [.vec 0 (intsD r1), .vec 0 (intsD r2), .vec 0 (intsD x23), .vec 0 (intsD x24)] ∧ spec_l04Path_l4 r2 x22 x23 x27 k4 x32 x33 = some s45) k _ _ (Weak_keep 0 hm [2, 5, 6, 7, 9, 11, 12, 13, 14, 15] [0, 1, 2, 3] _ _ rfl rfl rfl) ⟨_, _, rfl, rfl, h⟩ ?_
        clear h
        rintro k4 E H ⟨x32, x33, rfl, rfl, h⟩
        cases k4 with
        | zero => cases (show (none : Option (Int)) = some _ from h)
        | succ k4 =>
         rw [spec_l04Path_l4] at h
         refine kO (fun s39 => [(2, .d (.pv (colD p0) 0)), (5, .vec 0 0), (6, .vec 1 0), (7, iV s10), (9, .vec 2 0), (11, .vec 3 0), (12, iV x22), (13, iV x32), (14, iV x27), (15, iV x33)]) (fun s39 => [.vec 0 (intsD r1), .vec 0 (intsD r2), .vec 0 (intsD x23), .vec 0 (intsD x24)]) h (fun os39 h hks39 => ?_) (fun s39 h => ?_)
         ·refine kB (fun s37 => [(2, .d (.pv (colD p0) 0)), (5, .vec 0 0), (6, .vec 1 0), (7, iV s10), (9, .vec 2 0), (11, .vec 3 0), (12, iV x22), (13, iV x32), (14, iV x27), (15, iV x33), (93, bV s37)]) (fun s37 => [.vec 0 (intsD r1), .vec 0 (intsD r2), .vec 0 (intsD x23), .vec 0 (intsD x24)]) h (fun s37 h => ?_) (fun s37 h => ?_)
          ·refine (ACode_region ?_)
           refine kM 2 rfl ?_
           refine AOps_q 80 _ rfl rfl rfl (QOp_len_vec _ _ _ _ _ _ _ _ (intsD_length _) rfl rfl rfl rfl Try.underlying34 rfl rfl) ?_
           refine AOps_q 81 _ rfl rfl rfl (QOp_lss _ _ _ _ _ _ _ rfl rfl rfl) ?_
           refine kM 1 rfl ?_
           refine AOps_case 82 _ rfl (fun hb34 => ?_) (fun hb34 => ?_)
           ·have h := iteT hb34 h
            refine kM 1 rfl ?_
            refine AOps_q 84 _ rfl rfl rfl (QOp_lss _ _ _ _ _ _ _ rfl rfl rfl) ?_
            refine kM 2 rfl ?_
            refine AOps_case 86 _ rfl (fun hb35 => ?_) (fun hb35 => ?_)
            ·have h := iteT hb35 h
             refine kM 2 rfl ?_
             refine AOps_q 89 _ rfl rfl rfl (QOp_conv _ _ _ _ _ _ rfl rfl Try.underlying93 rfl) ?_
             obtain ⟨hc36, h⟩ := guardO h
             refine AOps_q 90 _ rfl rfl rfl (QOp_shr _ _ _ _ _ _ _ _ hc36 rfl rfl rfl) ?_
             refine AOps_q 91 _ rfl rfl rfl (QOp_and _ _ _ _ _ _ _ rfl rfl rfl) ?_
             refine AOps_q 92 _ rfl rfl rfl (QOp_eql _ _ _ _ _ _ _ rfl rfl rfl) ?_
             refine kN 1 rfl ?_
             cases h
             exact Weak_keep 0 hm [2, 5, 6, 7, 9, 11, 12, 13, 14, 15, 93] [0, 1, 2, 3] _ _ rfl rfl rfl
            have h := iteF hb35 h
            refine AOps_skip 87 rfl rfl rfl ?_
            refine AOps_skip 88 rfl rfl rfl ?_
            refine AOps_skip 89 rfl rfl rfl ?_
            refine AOps_skip 90 rfl rfl rfl ?_
            refine AOps_skip 91 rfl rfl rfl ?_
            refine AOps_skip 92 rfl rfl rfl ?_
            refine kN 1 rfl ?_
            cases h
            exact Weak_keep 0 hm [2, 5, 6, 7, 9, 11, 12, 13, 14, 15, 93] [0, 1, 2, 3] _ _ rfl rfl rfl
           have h := iteF hb34 h
           refine AOps_skip 83 rfl rfl rfl ?_
           refine AOps_skip 84 rfl rfl rfl ?_
           refine kM 2 rfl ?_
           refine AOps_skip 87 rfl rfl rfl ?_
           refine AOps_skip 88 rfl rfl rfl ?_
           refine AOps_skip 89 rfl rfl rfl ?_
           refine AOps_skip 90 rfl rfl rfl ?_
           refine AOps_skip 91 rfl rfl rfl ?_
           refine AOps_skip 92 rfl rfl rfl ?_
           refine kN 1 rfl ?_
           cases h
           exact Weak_keep 0 hm [2, 5, 6, 7, 9, 11, 12, 13, 14, 15, 93] [0, 1, 2, 3] _ _ rfl rfl rfl
          refine kI h rfl (fun h _ => ?_) (fun h _ => ?_)
          ·refine ACode_skip ?_
           cases h
           exact ⟨_, rfl, Weak_keep 0 hm [2, 5, 6, 7, 9, 11, 12, 13, 14, 15] [0, 1, 2, 3] _ _ rfl rfl rfl⟩
          refine ACode_exit ?_
          obtain ⟨rr, hz64, h2⟩ := bindO h
          obtain rfl := Option.some.inj h2
          obtain rfl := Option.some.inj (show some rr = some _ from hks39)
          have h := hz64
          cases h
          exact Weak_keep 0 hm [2, 5, 6, 7, 9, 11, 12, 13, 14] [0, 1, 2, 3] _ _ rfl rfl rfl
         refine kB (fun s44 => [(2, .d (.pv (colD p0) 0)), (5, .vec 0 0), (6, .vec 1 0), (7, iV s10), (9, .vec 2 0), (11, .vec 3 0), (12, iV x22), (13, iV s44), (14, iV x27), (15, iV x33)]) (fun s44 => [.vec 0 (intsD r1), .vec 0 (intsD r2), .vec 0 (intsD x23), .vec 0 (intsD x24)]) h (fun s44 h => ?_) (fun s44 h => ?_)
         ·refine ACode_block ?_
          refine kR ?_
          refine kM 3 rfl ?_
          obtain ⟨hc40, h⟩ := guardO h
          refine AOps_q 99 _ rfl rfl rfl (QOp_indexAddr_vec _ _ _ _ _ _ _ _ _ rfl Try.underlying34 Try.sizeOf2 hc40.1 (by rw [intsD_length]; exact hc40.2) rfl rfl rfl) ?_
          refine AOps_q 100 _ rfl rfl rfl (QOp_load_eptr _ _ _ _ _ _ _ rfl Try.isAgg2 rfl rfl (intsD_get _ _ 0 (by omega))) ?_
          obtain ⟨hc41, h⟩ := guardO h
          refine AOps_q 101 _ rfl rfl rfl (QOp_indexAddr_vec _ _ _ _ _ _ _ _ _ rfl Try.underlying34 Try.sizeOf2 hc41.1 (by rw [intsD_length]; exact hc41.2) rfl rfl rfl) ?_
          refine AOps_q 102 _ rfl rfl rfl (QOp_load_eptr _ _ _ _ _ _ _ rfl Try.isAgg2 rfl rfl (intsD_get _ _ 0 (by omega))) ?_
          refine kM 1 rfl ?_
          refine AOps_q 104 _ rfl rfl rfl (QOp_conv _ _ _ _ _ _ rfl rfl Try.underlying93 rfl) ?_
          obtain ⟨hc42, h⟩ := guardO h
          refine AOps_q 105 _ rfl rfl rfl (QOp_shr _ _ _ _ _ _ _ _ hc42 rfl rfl rfl) ?_
          refine AOps_q 106 _ rfl rfl rfl (QOp_and _ _ _ _ _ _ _ rfl rfl rfl) ?_
          refine AOps_q 107 _ rfl rfl rfl (QOp_eql _ _ _ _ _ _ _ rfl rfl rfl) ?_
          refine AOps_nil ?_
          refine kI h rfl (fun h _ => ?_) (fun h _ => ?_)
          ·refine (ACode_region ?_)
           refine kN 2 rfl ?_
           cases h
           exact Weak_keep 0 hm [2, 5, 6, 7, 9, 11, 12, 13, 14, 15] [0, 1, 2, 3] _ _ rfl rfl rfl
          refine ACode_skip ?_
          cases h
          exact Weak_keep 0 hm [2, 5, 6, 7, 9, 11, 12, 13, 14, 15] [0, 1, 2, 3] _ _ rfl rfl rfl
         refine (ACode_region ?_)
         refine kM 1 rfl ?_
         refine AOps_q 95 _ rfl rfl rfl (QOp_add _ _ _ _ _ _ _ rfl rfl rfl) ?_
         refine kN 1 rfl ?_
         exact ⟨k4, _, _, Nat.lt_succ_self _, Weak_keep 0 hm [2, 5, 6, 7, 9, 11, 12, 13, 14, 15] [0, 1, 2, 3] _ _ rfl rfl rfl, _, _, rfl, rfl, h⟩
       refine (ACode_region ?_)
       refine kM 1 rfl ?_
       refine AOps_q 77 _ rfl rfl rfl (QOp_add _ _ _ _ _ _ _ rfl rfl rfl) ?_
       refine kN 1 rfl ?_
       exact ⟨k3, _, _, Nat.lt_succ_self _, Weak_keep 0 hm [2, 5, 6, 7, 9, 11, 12, 13, 14] [0, 1, 2, 3] _ _ rfl rfl rfl, _, _, rfl, rfl, h⟩
     refine kR ?_
     refine AOps_buildSlice 109 _ _ _ [] (intsD ([] : List Int)) _ rfl rfl rfl rfl rfl (by decide) Try.underlying34 Try.sizeOf2 (zero_of Try.typeInfo2 rfl) rfl rfl (intsD_one _) ?_
     refine kN 1 rfl ?_
     refine kB (fun s58 => [(2, .d (.pv (colD p0) 0)), (5, .vec 0 0), (6, .vec 1 0), (7, iV s10), (11, .vec 2 0), (13, iV s46), (16, .vec 3 0)]) (fun s58 => [.vec 0 (intsD r1), .vec 0 (intsD r2), .vec 0 (intsD x24), .vec 0 (intsD s58)]) h (fun s58 h => ?_) (fun s58 h => ?_)
     ·refine kR ?_
      refine kN 1 rfl ?_
      refine ACode_block ?_
      refine ACode_loopW (fun k5 E H => ∃ (x47 : Int) (x48 : List Int), E = [(2, .d (.pv (colD p0) 0)), (5, .vec 0 0), (6, .vec 1 0), (7, iV s10), (9, .vec 2 0), (11, .vec 3 0), (13, iV s46), (16, .vec 4 0), (17, iV x47)] ∧ H = [.vec 0 (intsD r1), .vec 0 (intsD r2), .vec 0 (intsD x23), .vec 0 (intsD x24), .vec 0 (intsD x48)] ∧ spec_l04Path_l5 r2 x23 s46 k5 x47 x48 = some s58) k _ _ (Weak_keep 0 hm [2, 5, 6, 7, 9, 11, 13, 16, 17] [0, 1, 2, 3, 4] _ _ rfl rfl rfl) ⟨_, _, rfl, rfl, h⟩ ?_
      clear h
      rintro k5 E H ⟨x47, x48, rfl, rfl, h⟩
      cases k5 with
      | zero => cases (show (none : Option (List Int)) = some _ from h)
      | succ k5 =>
       rw [spec_l04Path_l5] at h
       refine ACode_seq ?_
       refine kR ?_
       refine kM 2 rfl ?_
       refine AOps_q 112 _ rfl rfl rfl (QOp_len_vec _ _ _ _ _ _ _ _ (intsD_length _) rfl rfl rfl rfl Try.underlying34 rfl rfl) ?_
       refine AOps_q 113 _ rfl rfl rfl (QOp_lss _ _ _ _ _ _ _ rfl rfl rfl) ?_
       refine AOps_nil ?_
       refine kI h rfl (fun h _ => ?_) (fun h _ => ?_)
       ·refine ACode_skip ?_
        refine kB (fun s57 => [(2, .d (.pv (colD p0) 0)), (5, .vec 0 0), (6, .vec 1 0), (7, iV s10), (9, .vec 2 0), (11, .vec 3 0), (13, iV s46), (16, .vec 4 0), (17, iV x47)]) (fun s57 => [.vec 0 (intsD r1), .vec 0 (intsD r2), .vec 0 (intsD x23), .vec 0 (intsD x24), .vec 0 (intsD s57)]) h (fun s57 h => ?_) (fun s57 h => ?_)
        ·refine ACode_block ?_
         refine kR ?_
         refine kM 3 rfl ?_
         obtain ⟨hc50, h⟩ := guardO h
         refine AOps_q 119 _ rfl rfl rfl (QOp_indexAddr_vec _ _ _ _ _ _ _ _ _ rfl Try.underlying34 Try.sizeOf2 hc50.1 (by rw [intsD_length]; exact hc50.2) rfl rfl rfl) ?_
         refine AOps_q 120 _ rfl rfl rfl (QOp_load_eptr _ _ _ _ _ _ _ rfl Try.isAgg2 rfl rfl (intsD_get _ _ 0 (by omega))) ?_
         obtain ⟨hc51, h⟩ := guardO h
         refine AOps_q 121 _ rfl rfl rfl (QOp_indexAddr_vec _ _ _ _ _ _ _ _ _ rfl Try.underlying34 Try.sizeOf2 hc51.1 (by rw [intsD_length]; exact hc51.2) rfl rfl rfl) ?_
         refine AOps_q 122 _ rfl rfl rfl (QOp_load_eptr _ _ _ _ _ _ _ rfl Try.isAgg2 rfl rfl (intsD_get _ _ 0 (by omega))) ?_
         refine kM 1 rfl ?_
         refine AOps_q 124 _ rfl rfl rfl (QOp_conv _ _ _ _ _ _ rfl rfl Try.underlying93 rfl) ?_
         obtain ⟨hc52, h⟩ := guardO h
         refine AOps_q 125 _ rfl rfl rfl (QOp_shr _ _ _ _ _ _ _ _ hc52 rfl rfl rfl) ?_
         refine AOps_q 126 _ rfl rfl rfl (QOp_and _ _ _ _ _ _ _ rfl rfl rfl) ?_
         refine AOps_q 127 _ rfl rfl rfl (QOp_eql _ _ _ _ _ _ _ rfl rfl rfl) ?_
         refine AOps_nil ?_
         refine kI h rfl (fun h _ => ?_) (fun h _ => ?_)
         ·refine (ACode_region ?_)
          refine kM 3 rfl ?_
          obtain ⟨hc54, h⟩ := guardO h
          refine AOps_q 131 _ rfl rfl rfl (QOp_indexAddr_vec _ _ _ _ _ _ _ _ _ rfl Try.underlying34 Try.sizeOf2 hc54.1 (by rw [intsD_length]; exact hc54.2) rfl rfl rfl) ?_
          refine AOps_q 132 _ rfl rfl rfl (QOp_load_eptr _ _ _ _ _ _ _ rfl Try.isAgg2 rfl rfl (intsD_get _ _ 0 (by omega))) ?_
          refine kM 1 rfl ?_
          refine AOps_q 134 _ rfl rfl rfl (QOp_conv _ _ _ _ _ _ rfl rfl Try.underlying93 rfl) ?_
          obtain ⟨hc55, h⟩ := guardO h
          refine AOps_q 135 _ rfl rfl rfl (QOp_shl _ _ _ _ _ _ _ _ hc55 rfl rfl rfl) ?_
          refine AOps_q 136 _ rfl rfl rfl (QOp_xor _ _ _ _ _ _ _ rfl rfl rfl) ?_
          refine AOps_buildSlice 137 _ _ _ [_] (intsD ([bXor .i64 (x23.getD x47.toNat 0) (bShl .i64 1 (IntKind.u64.wrap s46))])) _ rfl rfl rfl rfl rfl (by decide) Try.underlying34 Try.sizeOf2 (zero_of Try.typeInfo2 rfl) rfl rfl (intsD_one _) ?_
          obtain ⟨hc56, h⟩ := guardO h
          refine AOps_append 138 _ _ _ _ _ _ _ _ _ _ _ _ rfl rfl rfl rfl rfl rfl rfl Try.underlying34 Try.type2 rfl rfl rfl (by decide) rfl rfl rfl rfl (intsD_one _) (by rw [intsD_length, intsD_length]; exact hc56) ?_
          rw [intsD_app]
          refine kN 1 rfl ?_
          cases h
          exact Weak_trans (Weak_keep 0 hm [2, 5, 6, 7, 9, 11, 13, 16, 17] [0, 1, 2, 3, 4] _ _ rfl rfl rfl) (Weak_reset 0 hm hz [2, 5, 6, 7, 9, 11, 13, 16, 17] _ _ rfl rfl)
         refine ACode_skip ?_
         cases h
         exact Weak_keep 0 hm [2, 5, 6, 7, 9, 11, 13, 16, 17] [0, 1, 2, 3, 4] _ _ rfl rfl rfl
        refine (ACode_region ?_)
        refine kM 1 rfl ?_
        refine AOps_q 115 _ rfl rfl rfl (QOp_add _ _ _ _ _ _ _ rfl rfl rfl) ?_
        refine kN 1 rfl ?_
        exact ⟨k5, _, _, Nat.lt_succ_self _, Weak_keep 0 hm [2, 5, 6, 7, 9, 11, 13, 16, 17] [0, 1, 2, 3, 4] _ _ rfl rfl rfl, _, _, rfl, rfl, h⟩
       refine ACode_exit ?_
       cases h
       exact Weak_keep 0 hm [2, 5, 6, 7, 11, 13, 16] [0, 1, 3, 4] _ _ rfl rfl rfl
     refine kR ?_
     refine kM 2 rfl ?_
     refine AOps_buildSlice 141 _ _ _ [_] (intsD ([s46])) _ rfl rfl rfl rfl rfl (by decide) Try.underlying34 Try.sizeOf2 (zero_of Try.typeInfo2 rfl) rfl rfl (intsD_one _) ?_
     obtain ⟨hc59, h⟩ := guardO h
     refine AOps_append 142 _ _ _ _ _ _ _ _ _ _ _ _ rfl rfl rfl rfl rfl rfl rfl Try.underlying34 Try.type2 rfl rfl rfl (by decide) rfl rfl rfl rfl (intsD_one _) (by rw [intsD_length, intsD_length]; exact hc59) ?_
     rw [intsD_app]
     refine kN 1 rfl ?_
     refine kR ?_
     refine kN 2 rfl ?_
     refine (ACode_region ?_)
     refine kM 2 rfl ?_
     obtain ⟨hc60, h⟩ := guardO h
     refine AOps_q 146 _ rfl rfl rfl (QOp_indexAddr_vec _ _ _ _ _ _ _ _ _ rfl Try.underlying34 Try.sizeOf2 hc60.1 (by rw [intsD_length]; exact hc60.2) rfl rfl rfl) ?_
     refine AOps_q 147 _ rfl rfl rfl (QOp_load_eptr _ _ _ _ _ _ _ rfl Try.isAgg2 rfl rfl (intsD_get _ _ 0 (by omega))) ?_
     refine kN 1 rfl ?_
     cases h
     exact Weak_trans (Weak_keep 0 hm [2, 5, 6, 7, 9, 11, 12] [0, 1, 3, 2] _ _ rfl rfl rfl) (Weak_reset 0 hm hz [2, 5, 6, 7, 9, 11, 12] _ _ rfl rfl)
    intro E' H' hw
    refine ATail_weak hw ?_
    have h := hks61
    refine ATail_end ?_
    exact ⟨k2, _, _, Nat.lt_succ_self _, Weak_keep 0 hm [2, 5, 6, 7, 9, 11, 12] [0, 1, 2, 3] _ _ rfl rfl rfl, _, _, _, rfl, rfl, h⟩
   refine ACode_exit ?_
   cases h
   exact Weak_keep 0 hm [11] [3] _ _ rfl rfl rfl
 refine kR ?_
 refine kN 2 rfl ?_
 refine ACode_ret ?_
 cases h
 exact ⟨_, _, Weak_reset 0 hm hz [4] _ _ rfl rfl, _, _, [0], _, (.cons (ResV_tmp _ _ rfl) .nil), rfl, rfl, rfl, rfl, rfl⟩

-- loop.example/g01362/spec.l04Lengths
def spec_l04Lengths_l3 (p0 : Col) (r1 : List Int) (x12 : Int) (x18 : Int) (s32 : List Bool) : Nat → Int → (List Int) → Option (List Bool × List Int)
 | 0, _, _ => none
 | k3 + 1, x33, x34 => (if decide (x33 < p0.p) then (((if 0 ≤ x18 ∧ x18 < (r1.length : Int) then (if 0 ≤ IntKind.u64.wrap x33 then (if decide (bAnd .i64 (bShr .i64 (r1.getD x18.toNat 0) (IntKind.u64.wrap x33)) 1 = 1) then (if 0 ≤ IntKind.u64.wrap x33 then some (decide (bAnd .i64 (bShr .i64 x12 (IntKind.u64.wrap x33)) 1 = 0)) else none) else some false) else none) else none) : Option (Bool)).bind fun s40 => (if s40 then (if 0 ≤ IntKind.u64.wrap x33 then (if 0 ≤ bOr .i64 x12 (bShl .i64 1 (IntKind.u64.wrap x33)) ∧ bOr .i64 x12 (bShl .i64 1 (IntKind.u64.wrap x33)) < (x34.length : Int) then (if 0 ≤ IntKind.u64.wrap x33 then (if 0 ≤ bOr .i64 x12 (bShl .i64 1 (IntKind.u64.wrap x33)) ∧ bOr .i64 x12 (bShl .i64 1 (IntKind.u64.wrap x33)) < (x34.length : Int) then some (x34.set (bOr .i64 x12 (bShl .i64 1 (IntKind.u64.wrap x33))).toNat (bOr .i64 (x34.getD (bOr .i64 x12 (bShl .i64 1 (IntKind.u64.wrap x33))).toNat 0) (bShl .i64 1 (IntKind.u64.wrap x33)))) else none) else none) else none) else none) else some x34) : Option (List Int)).bind fun s46 => spec_l04Lengths_l3 p0 r1 x12 x18 s32 k3 (w64 (x33 + 1)) s46 else some (s32, x34))
def spec_l04Lengths_l2 (k : Nat) (p0 : Col) (r1 : List Int) (x3 : Int) (x12 : Int) : Nat → Int → (List Bool) → (List Int) → Option (List Bool × List Int)
 | 0, _, _, _ => none
 | k2 + 1, x18, x19, x20 => (if decide (x18 < p0.p) then ((if 0 ≤ x12 ∧ x12 < (x20.length : Int) then (if 0 ≤ IntKind.u64.wrap x18 then (if decide (bAnd .i64 (bShr .i64 (x20.getD x12.toNat 0) (IntKind.u64.wrap x18)) 1 = 0) then some (x19, x20) else ((spec_l01Ones k x12).bind fun r25 => ((if decide (2 < r25) then (if 0 ≤ x18 ∧ x18 < (r1.length : Int) then (if 0 ≤ IntKind.u64.wrap x3 then some (decide (bAnd .i64 (bShr .i64 (r1.getD x18.toNat 0) (IntKind.u64.wrap x3)) 1 = 1)) else none) else none) else some false) : Option (Bool)).bind fun s29 => (if s29 then (if 0 ≤ r25 ∧ r25 < (x19.length : Int) then some (x19.set r25.toNat true) else none) else some x19) : Option (List Bool)).bind fun s32 => spec_l04Lengths_l3 p0 r1 x12 x18 s32 k (w64 (x3 + 1)) x20) else none) else none) : Option (List Bool × List Int)).bind fun s47 => spec_l04Lengths_l2 k p0 r1 x3 x12 k2 (w64 (x18 + 1)) s47.1 s47.2 else some (x19, x20))
def spec_l04Lengths_l1 (k : Nat) (p0 : Col) (r1 : List Int) (x3 : Int) : Nat → Int → (List Bool) → (List Int) → Option (List Bool)
 | 0, _, _, _ => none
 | k1 + 1, x12, x13, x14 => (if decide (x12 < (x14.length : Int)) then ((if 0 ≤ x12 ∧ x12 < (x14.length : Int) then (if decide ((x14.getD x12.toNat 0) = 0) then some (x13, x14) else spec_l04Lengths_l2 k p0 r1 x3 x12 k x3 x13 x14) else none) : Option (List Bool × List Int)).bind fun s48 => spec_l04Lengths_l1 k p0 r1 x3 k1 (w64 (x12 + 1)) s48.1 s48.2 else some x13)
def spec_l04Lengths_l0 (k : Nat) (p0 : Col) (r1 : List Int) : Nat → Int → (List Bool) → Option (List Bool)
 | 0, _, _ => none
 | k0 + 1, x3, x4 => (if decide (x3 < p0.p) then ((if 0 ≤ IntKind.u64.wrap p0.p then (if 0 ≤ bShl .i64 1 (IntKind.u64.wrap p0.p) ∧ bShl .i64 1 (IntKind.u64.wrap p0.p) ≤ bShl .i64 1 (IntKind.u64.wrap p0.p) ∧ bShl .i64 1 (IntKind.u64.wrap p0.p) ≤ 1099511627776 then (if 0 ≤ IntKind.u64.wrap x3 then (if 0 ≤ IntKind.u64.wrap x3 then (if 0 ≤ bShl .i64 1 (IntKind.u64.wrap x3) ∧ bShl .i64 1 (IntKind.u64.wrap x3) < ((List.replicate (bShl .i64 1 (IntKind.u64.wrap p0.p)).toNat (0 : Int)).length : Int) then (if 0 ≤ IntKind.u64.wrap x3 then spec_l04Lengths_l1 k p0 r1 x3 k (bShl .i64 1 (IntKind.u64.wrap x3)) x4 ((List.replicate (bShl .i64 1 (IntKind.u64.wrap p0.p)).toNat (0 : Int)).set (bShl .i64 1 (IntKind.u64.wrap x3)).toNat (bShl .i64 1 (IntKind.u64.wrap x3))) else none) else none) else none) else none) else none) else none) : Option (List Bool)).bind fun s49 => spec_l04Lengths_l0 k p0 r1 k0 (w64 (x3 + 1)) s49 else some x4)
def spec_l04Lengths_l4 (p0 : Col) (s50 : List Bool) : Nat → Int → (List Int) → Option (List Int)
 | 0, _, _ => none
 | k4 + 1, x51, x52 => (if decide (x51 ≤ p0.p) then ((if 0 ≤ x51 ∧ x51 < (s50.length : Int) then (if (s50.getD x51.toNat false) then (if x52.length + ([x51]).length ≤ 1099511627776 then some (x52 ++ ([x51])) else none) else some x52) else none) : Option (List Int)).bind fun s57 => spec_l04Lengths_l4 p0 s50 k4 (w64 (x51 + 1)) s57 else some x52)
def spec_l04Lengths (k : Nat) (p0 : Col) (p1 : Int) : Option (List Int) :=
 (spec_l02Rows k p0 p1).bind fun r1 => (if 0 ≤ w64 (p0.p + 1) ∧ w64 (p0.p + 1) ≤ w64 (p0.p + 1) ∧ w64 (p0.p + 1) ≤ 1099511627776 then (spec_l04Lengths_l0 k p0 r1 k 0 (List.replicate (w64 (p0.p + 1)).toNat (false : Bool)) : Option (List Bool)).bind fun s50 => (spec_l04Lengths_l4 p0 s50 k 3 ([] : List Int) : Option (List Int)).bind fun s58 => some s58 else none)
set_option maxRecDepth 100000 in
theorem spec_l04Lengths_ac (k : Nat) (p0 : Col) (p1 : Int) (r : List Int) (h : spec_l04Lengths k p0 p1 = some r) : AC Try.prog 57 [.d (.agg (colD p0)), iV p1] [] (fun res H' => res = [.vec 0 0] ∧ H' = [.vec 0 (intsD r)]) := by
 refine AC_of_body true Try.func57 rfl Try.ntmps57 (rvs := [.tmp 4]) rfl rfl (fun G hG => ?_)
 have hm : G.H.length = 0 := by rw [hG]; rfl
 have hz : zeroG G.H = true := by rw [hG]; rfl
 unfold spec_l04Lengths at h
 refine kR ?_
 refine AOps_boxI 2 _ _ (.agg (colD p0)) (colD p0) rfl (colD_one _) rfl rfl rfl rfl rfl ?_
 refine kN 1 rfl ?_
 obtain ⟨r1, hr1, h⟩ := bindO h
 refine ACode_seqJ (fun E' H' => Weak 144 G E' H' [(5, .vec 0 0), (6, iV p0.p)] [.vec 0 (intsD r1)]) ?_ ?_
 ·refine ACode_any mixed ?_
  refine AAny_q 0 17 _ rfl (by kernel_rfl) rfl rfl rfl (QOp_loadN_pv _ _ _ _ _ _ rfl Try.isAgg27 Try.sizeOf27 rfl (colD_all _) (colD_length _)) ?_
  refine AAny_q 1 18 _ rfl (by kernel_rfl) rfl rfl rfl (QOp_move _ _ rfl rfl) ?_
  refine AAny_q 3 20 _ rfl (by kernel_rfl) rfl rfl rfl (QOp_fieldAddr_pv _ _ _ _ _ 0 _ _ rfl Try.underlying27 rfl _ Try.sizeOf2 rfl rfl) ?_
  refine AAny_q 4 21 _ rfl (by kernel_rfl) rfl rfl rfl (QOp_load_pv _ _ _ _ _ rfl Try.isAgg2 rfl rfl) ?_
  refine AAny_all [2] (by kernel_rfl) rfl (allc ?_ (fun _ h => nomatch h))
  refine AStep_callN 2 19 _ _ _ _ _ _ _ _ _ rfl rfl rfl rfl rfl rfl rfl rfl Try.call80 rfl rfl rfl (spec_l02Rows_ac k p0 p1 _ hr1) ?_
  rintro _ _ ⟨rfl, rfl⟩
  refine ⟨(allc (fun _ _ => trivial) (fun _ h => nomatch h)), (allc (trivial) (fun _ h => nomatch h)), AAny_as 19 (v' := .vec 0 0) (H' := [.vec 0 (intsD r1)]) rfl rfl ?_⟩
  refine AAny_q 5 5 _ rfl (by kernel_rfl) rfl rfl rfl (QOp_assign _ _ rfl rfl) ?_
  refine AAny_q 6 6 _ rfl (by kernel_rfl) rfl rfl rfl (QOp_assign _ _ rfl rfl) ?_
  refine AAny_done (by kernel_rfl) ?_
  exact Weak_keep 0 hm [5, 6] [0] _ _ rfl rfl rfl
 intro E' H' hw
 refine ACode_weak hw ?_
 refine kR ?_
 refine kM 1 rfl ?_
 refine AOps_q 23 _ rfl rfl rfl (QOp_add _ _ _ _ _ _ _ rfl rfl rfl) ?_
 obtain ⟨hc2, h⟩ := guardO h
 refine AOps_makeSliceG bosD bD false (bosD_rep · _) 24 _ _ _ _ _ _ (w64 (p0.p + 1)) (w64 (p0.p + 1)) _ (.bool false) rfl rfl rfl rfl rfl rfl Try.underlying56 Try.type4 rfl rfl (by decide) rfl rfl hc2.1 hc2.2.1 hc2.2.2 ?_
 refine kN 1 rfl ?_
 refine kB (fun s50 => [(6, iV p0.p), (7, .vec 0 0)]) (fun s50 => [.vec 0 (bosD s50)]) h (fun s50 h => ?_) (fun s50 h => ?_)
 ·refine kR ?_
  refine kN 1 rfl ?_
  refine ACode_block ?_
  refine ACode_loopW (fun k0 E H => ∃ (x3 : Int) (x4 : List Bool), E = [(5, .vec 0 0), (6, iV p0.p), (7, .vec 1 0), (8, iV x3)] ∧ H = [.vec 0 (intsD r1), .vec 0 (bosD x4)] ∧ spec_l04Lengths_l0 k p0 r1 k0 x3 x4 = some s50) k _ _ (Weak_keep 0 hm [5, 6, 7, 8] [0, 1] _ _ rfl rfl rfl) ⟨_, _, rfl, rfl, h⟩ ?_
  clear h
  rintro k0 E H ⟨x3, x4, rfl, rfl, h⟩
  cases k0 with
  | zero => cases (show (none : Option (List Bool)) = some _ from h)
  | succ k0 =>
   rw [spec_l04Lengths_l0] at h
   refine ACode_seq ?_
   refine kR ?_
   refine kM 2 rfl ?_
   refine AOps_q 27 _ rfl rfl rfl (QOp_lss _ _ _ _ _ _ _ rfl rfl rfl) ?_
   refine AOps_nil ?_
   refine kI h rfl (fun h _ => ?_) (fun h _ => ?_)
   ·refine ACode_skip ?_
    refine kB (fun s49 => [(5, .vec 0 0), (6, iV p0.p), (7, .vec 1 0), (8, iV x3)]) (fun s49 => [.vec 0 (intsD r1), .vec 0 (bosD s49)]) h (fun s49 h => ?_) (fun s49 h => ?_)
    ·refine ACode_block ?_
     refine kR ?_
     refine kM 1 rfl ?_
     refine AOps_q 31 _ rfl rfl rfl (QOp_conv _ _ _ _ _ _ rfl rfl Try.underlying93 rfl) ?_
     obtain ⟨hc6, h⟩ := guardO h
     refine AOps_q 32 _ rfl rfl rfl (QOp_shl _ _ _ _ _ _ _ _ hc6 rfl rfl rfl) ?_
     obtain ⟨hc7, h⟩ := guardO h
     refine AOps_makeSliceG intsD iD 0 (intsD_rep · _) 33 _ _ _ _ _ _ (bShl .i64 1 (IntKind.u64.wrap p0.p)) (bShl .i64 1 (IntKind.u64.wrap p0.p)) _ (.int .i64 0) rfl rfl rfl rfl rfl rfl Try.underlying34 Try.type2 rfl rfl (by decide) rfl rfl hc7.1 hc7.2.1 hc7.2.2 ?_
     refine kN 1 rfl ?_
     refine kR ?_
     refine kM 2 rfl ?_
     refine AOps_q 36 _ rfl rfl rfl (QOp_conv _ _ _ _ _ _ rfl rfl Try.underlying93 rfl) ?_
     obtain ⟨hc8, h⟩ := guardO h
     refine AOps_q 37 _ rfl rfl rfl (QOp_shl _ _ _ _ _ _ _ _ hc8 rfl rfl rfl) ?_
     refine kM 1 rfl ?_
     refine AOps_q 39 _ rfl rfl rfl (QOp_conv _ _ _ _ _ _ rfl rfl Try.underlying93 rfl) ?_
     obtain ⟨hc9, h⟩ := guardO h
     refine AOps_q 40 _ rfl rfl rfl (QOp_shl _ _ _ _ _ _ _ _ hc9 rfl rfl rfl) ?_
     obtain ⟨hc10, h⟩ := guardO h
     refine AOps_q 41 _ rfl rfl rfl (QOp_indexAddr_vec _ _ _ _ _ _ _ _ _ rfl Try.underlying34 Try.sizeOf2 hc10.1 (by rw [intsD_length]; exact hc10.2) rfl rfl rfl) ?_
     refine AOps_store_eptr _ _ _ _ _ _ (intsD (List.replicate (bShl .i64 1 (IntKind.u64.wrap p0.p)).toNat (0 : Int))) _ rfl rfl rfl rfl rfl rfl rfl Try.sizeOf2 (by rw [intsD_length]; omega) ?_
     rw [intsD_set]
     refine AOps_nil ?_
     refine kR ?_
     refine kM 1 rfl ?_
     refine AOps_q 43 _ rfl rfl rfl (QOp_conv _ _ _ _ _ _ rfl rfl Try.underlying93 rfl) ?_
     obtain ⟨hc11, h⟩ := guardO h
     refine AOps_q 44 _ rfl rfl rfl (QOp_shl _ _ _ _ _ _ _ _ hc11 rfl rfl rfl) ?_
     refine kN 1 rfl ?_
     refine ACode_block ?_
     refine ACode_loopW (fun k1 E H => ∃ (x12 : Int) (x13 : List Bool) (x14 : List Int), E = [(5, .vec 0 0), (6, iV p0.p), (7, .vec 1 0), (8, iV x3), (9, .vec 2 0), (10, iV x12)] ∧ H = [.vec 0 (intsD r1), .vec 0 (bosD x13), .vec 0 (intsD x14)] ∧ spec_l04Lengths_l1 k p0 r1 x3 k1 x12 x13 x14 = some s49) k _ _ (Weak_keep 0 hm [5, 6, 7, 8, 9, 10] [0, 1, 2] _ _ rfl rfl rfl) ⟨_, _, _, rfl, rfl, h⟩ ?_
     clear h
     rintro k1 E H ⟨x12, x13, x14, rfl, rfl, h⟩
     cases k1 with
     | zero => cases (show (none : Option (List Bool)) = some _ from h)
     | succ k1 =>
      rw [spec_l04Lengths_l1] at h
      refine ACode_seq ?_
      refine kR ?_
      refine kM 2 rfl ?_
      refine AOps_q 47 _ rfl rfl rfl (QOp_len_vec _ _ _ _ _ _ _ _ (intsD_length _) rfl rfl rfl rfl Try.underlying34 rfl rfl) ?_
      refine AOps_q 48 _ rfl rfl rfl (QOp_lss _ _ _ _ _ _ _ rfl rfl rfl) ?_
      refine AOps_nil ?_
      refine kI h rfl (fun h _ => ?_) (fun h _ => ?_)
      ·refine ACode_skip ?_
       refine kB (fun s48 => [(5, .vec 0 0), (6, iV p0.p), (7, .vec 1 0), (8, iV x3), (9, .vec 2 0), (10, iV x12)]) (fun s48 => [.vec 0 (intsD r1), .vec 0 (bosD s48.1), .vec 0 (intsD s48.2)]) h (fun s48 h => ?_) (fun s48 h => ?_)
       ·refine ACode_block ?_
        refine ACode_seq ?_
        refine kR ?_
        refine kM 2 rfl ?_
        obtain ⟨hc16, h⟩ := guardO h
        refine AOps_q 53 _ rfl rfl rfl (QOp_indexAddr_vec _ _ _ _ _ _ _ _ _ rfl Try.underlying34 Try.sizeOf2 hc16.1 (by rw [intsD_length]; exact hc16.2) rfl rfl rfl) ?_
        refine AOps_q 54 _ rfl rfl rfl (QOp_load_eptr _ _ _ _ _ _ _ rfl Try.isAgg2 rfl rfl (intsD_get _ _ 0 (by omega))) ?_
        refine AOps_q 55 _ rfl rfl rfl (QOp_eql _ _ _ _ _ _ _ rfl rfl rfl) ?_
        refine AOps_nil ?_
        refine kI h rfl (fun h _ => ?_) (fun h _ => ?_)
        ·refine ACode_exit ?_
         cases h
         exact Weak_keep 0 hm [5, 6, 7, 8, 9, 10] [0, 1, 2] _ _ rfl rfl rfl
        refine ACode_skip ?_
        refine kR ?_
        refine kN 2 rfl ?_
        refine ACode_block ?_
        refine ACode_loopW (fun k2 E H => ∃ (x18 : Int) (x19 : List Bool) (x20 : List Int), E = [(5, .vec 0 0), (6, iV p0.p), (7, .vec 1 0), (8, iV x3), (9, .vec 2 0), (10, iV x12), (11, iV x18)] ∧ H = [.vec 0 (intsD r1), .vec 0 (bosD x19), .vec 0 (intsD x20)] ∧ spec_l04Lengths_l2 k p0 r1 x3 x12 k2 x18 x19 x20 = some s48) k _ _ (Weak_keep 0 hm [5, 6, 7, 8, 9, 10, 11] [0, 1, 2] _ _ rfl rfl rfl) ⟨_, _, _, rfl, rfl, h⟩ ?_
        clear h
        rintro k2 E H ⟨x18, x19, x20, rfl, rfl, h⟩
        cases k2 with
        | zero => cases (show (none : Option (List Bool × List Int)) = some _ from h)
        | succ k2 =>
         rw [spec_l04Lengths_l2] at h
         refine ACode_seq ?_
         refine kR ?_
         refine kM 2 rfl ?_
         refine AOps_q 59 _ rfl rfl rfl (QOp_lss _ _ _ _ _ _ _ rfl rfl rfl) ?_
         refine AOps_nil ?_
         refine kI h rfl (fun h _ => ?_) (fun h _ => ?_)
         ·refine ACode_skip ?_
          refine kB (fun s47 => [(5, .vec 0 0), (6, iV p0.p), (7, .vec 1 0), (8, iV x3), (9, .vec 2 0), (10, iV x12), (11, iV x18)]) (fun s47 => [.vec 0 (intsD r1), .vec 0 (bosD s47.1), .vec 0 (intsD s47.2)]) h (fun s47 h => ?_) (fun s47 h => ?_)
          ·refine ACode_block ?_
           refine ACode_seq ?_
           refine kR ?_
           refine kM 2 rfl ?_
           obtain ⟨hc22, h⟩ := guardO h
           refine AOps_q 64 _ rfl rfl rfl (QOp_indexAddr_vec _ _ _ _ _ _ _ _ _ rfl Try.underlying34 Try.sizeOf2 hc22.1 (by rw [intsD_length]; exact hc22.2) rfl rfl rfl) ?_
           refine AOps_q 65 _ rfl rfl rfl (QOp_load_eptr _ _ _ _ _ _ _ rfl Try.isAgg2 rfl rfl (intsD_get _ _ 0 (by omega))) ?_
           refine kM 1 rfl ?_
           refine AOps_q 67 _ rfl rfl rfl (QOp_conv _ _ _ _ _ _ rfl rfl Try.underlying93 rfl) ?_
           obtain ⟨hc23, h⟩ := guardO h
           refine AOps_q 68 _ rfl rfl rfl (QOp_shr _ _ _ _ _ _ _ _ hc23 rfl rfl rfl) ?_
           refine AOps_q 69 _ rfl rfl rfl (QOp_and _ _ _ _ _ _ _ rfl rfl rfl) ?_
           refine AOps_q 70 _ rfl rfl rfl (QOp_eql _ _ _ _ _ _ _ rfl rfl rfl) ?_
           refine AOps_nil ?_
           refine kI h rfl (fun h _ => ?_) (fun h _ => ?_)
           ·refine ACode_exit ?_
            cases h
            exact Weak_keep 0 hm [5, 6, 7, 8, 9, 10, 11] [0, 1, 2] _ _ rfl rfl rfl
           refine ACode_skip ?_
           refine kB (fun s32 => [(5, .vec 0 0), (6, iV p0.p), (7, .vec 1 0), (8, iV x3), (9, .vec 2 0), (10, iV x12), (11, iV x18)]) (fun s32 => [.vec 0 (intsD r1), .vec 0 (bosD s32), .vec 0 (intsD x20)]) h (fun s32 h => ?_) (fun s32 h => ?_)
           ·refine kR ?_
            refine kM 1 rfl ?_
            obtain ⟨r25, hr25, h⟩ := bindO h
            refine kC [] 72 (iV r25) [.vec 0 (intsD r1), .vec 0 (bosD x19), .vec 0 (intsD x20)] rfl Try.call82 rfl rfl (spec_l01Ones_ac k x12 _ hr25) rfl ?_
            refine kN 1 rfl ?_
            refine kB (fun s29 => [(5, .vec 0 0), (6, iV p0.p), (7, .vec 1 0), (8, iV x3), (9, .vec 2 0), (10, iV x12), (11, iV x18), (12, iV r25), (85, bV s29)]) (fun s29 => [.vec 0 (intsD r1), .vec 0 (bosD x19), .vec 0 (intsD x20)]) h (fun s29 h => ?_) (fun s29 h => ?_)
            ·refine (ACode_region ?_)
             refine kM 1 rfl ?_
             refine AOps_q 74 _ rfl rfl rfl (QOp_gtr _ _ _ _ _ _ _ rfl rfl rfl) ?_
             refine kM 1 rfl ?_
             refine AOps_case 75 _ rfl (fun hb26 => ?_) (fun hb26 => ?_)
             ·have h := iteT hb26 h
              refine kM 2 rfl ?_
              obtain ⟨hc27, h⟩ := guardO h
              refine AOps_q 78 _ rfl rfl rfl (QOp_indexAddr_vec _ _ _ _ _ _ _ _ _ rfl Try.underlying34 Try.sizeOf2 hc27.1 (by rw [intsD_length]; exact hc27.2) rfl rfl rfl) ?_
              refine AOps_q 79 _ rfl rfl rfl (QOp_load_eptr _ _ _ _ _ _ _ rfl Try.isAgg2 rfl rfl (intsD_get _ _ 0 (by omega))) ?_
              refine kM 1 rfl ?_
              refine AOps_q 81 _ rfl rfl rfl (QOp_conv _ _ _ _ _ _ rfl rfl Try.underlying93 rfl) ?_
              obtain ⟨hc28, h⟩ := guardO h
              refine AOps_q 82 _ rfl rfl rfl (QOp_shr _ _ _ _ _ _ _ _ hc28 rfl rfl rfl) ?_
              refine AOps_q 83 _ rfl rfl rfl (QOp_and _ _ _ _ _ _ _ rfl rfl rfl) ?_
              refine AOps_q 84 _ rfl rfl rfl (QOp_eql _ _ _ _ _ _ _ rfl rfl rfl) ?_
              refine kN 1 rfl ?_
              cases h
              exact Weak_keep 0 hm [5, 6, 7, 8, 9, 10, 11, 12, 85] [0, 1, 2] _ _ rfl rfl rfl
             have h := iteF hb26 h
             refine AOps_skip 76 rfl rfl rfl ?_
             refine AOps_skip 77 rfl rfl rfl ?_
             refine AOps_skip 78 rfl rfl rfl ?_
             refine AOps_skip 79 rfl rfl rfl ?_
             refine AOps_skip 80 rfl rfl rfl ?_
             refine AOps_skip 81 rfl rfl rfl ?_
             refine AOps_skip 82 rfl rfl rfl ?_
             refine AOps_skip 83 rfl rfl rfl ?_
             refine AOps_skip 84 rfl rfl rfl ?_
             refine kN 1 rfl ?_
             cases h
             exact Weak_keep 0 hm [5, 6, 7, 8, 9, 10, 11, 12, 85] [0, 1, 2] _ _ rfl rfl rfl
            refine kI h rfl (fun h _ => ?_) (fun h _ => ?_)
            ·refine (ACode_region ?_)
             refine kM 2 rfl ?_
             obtain ⟨hc31, h⟩ := guardO h
             refine AOps_q 88 _ rfl rfl rfl (QOp_indexAddr_vec _ _ _ _ _ _ _ _ _ rfl Try.underlying56 Try.sizeOf4 hc31.1 (by rw [bosD_length]; exact hc31.2) rfl rfl rfl) ?_
             refine AOps_store_eptr _ _ _ _ _ _ (bosD x19) _ rfl rfl rfl rfl rfl rfl rfl Try.sizeOf4 (by rw [bosD_length]; omega) ?_
             rw [bosD_set]
             refine AOps_nil ?_
             cases h
             exact Weak_keep 0 hm [5, 6, 7, 8, 9, 10, 11] [0, 1, 2] _ _ rfl rfl rfl
            refine ACode_skip ?_
            cases h
            exact Weak_keep 0 hm [5, 6, 7, 8, 9, 10, 11] [0, 1, 2] _ _ rfl rfl rfl
           refine kR ?_
           refine kM 1 rfl ?_
           refine AOps_q 90 _ rfl rfl rfl (QOp_add _ _ _ _ _ _ _ rfl rfl rfl) ?_
           refine kN 1 rfl ?_
           refine ACode_block ?_
           refine ACode_loopW (fun k3 E H => ∃ (x33 : Int) (x34 : List Int), E = [(5, .vec 0 0), (6, iV p0.p), (7, .vec 1 0), (8, iV x3), (9, .vec 2 0), (10, iV x12), (11, iV x18), (13, iV x33)] ∧ H = [.vec 0 (intsD r1), .vec 0 (bosD s32), .vec 0 (intsD x34)] ∧ spec_l04Lengths_l3 p0 r1 x12 x18 s32 k3 x33 x34 = some s47) k _ _ (Weak_keep 0 hm [5, 6, 7, 8, 9, 10, 11, 13] [0, 1, 2] _ _ rfl rfl rfl) ⟨_, _, rfl, rfl, h⟩ ?_
           clear h
           rintro k3 E H ⟨x33, x34, rfl, rfl, h⟩
           cases k3 with
           | zero => cases (show (none : Option (List Bool × List Int)) = some _ from h)
           | succ k3 =>
            rw [spec_l04Lengths_l3] at h
            refine ACode_seq ?_
            refine kR ?_
            refine kM 2 rfl ?_
            refine AOps_q 93 _ rfl rfl rfl (QOp_lss _ _ _ _ _ _ _ rfl rfl rfl) ?_
            refine AOps_nil ?_
            refine kI h rfl (fun h _ => ?_) (fun h _ => ?_)
            ·refine ACode_skip ?_
             refine kB (fun s46 => [(5, .vec 0 0), (6, iV p0.p), (7, .vec 1 0), (8, iV x3), (9, .vec 2 0), (10, iV x12), (11, iV x18), (13, iV x33)]) (fun s46 => [.vec 0 (intsD r1), .vec 0 (bosD s32), .vec 0 (intsD s46)]) h (fun s46 h => ?_) (fun s46 h => ?_)
             ·refine ACode_block ?_
              refine kB (fun s40 => [(5, .vec 0 0), (6, iV p0.p), (7, .vec 1 0), (8, iV x3), (9, .vec 2 0), (10, iV x12), (11, iV x18), (13, iV x33), (112, bV s40)]) (fun s40 => [.vec 0 (intsD r1), .vec 0 (bosD s32), .vec 0 (intsD x34)]) h (fun s40 h => ?_) (fun s40 h => ?_)
              ·refine (ACode_region ?_)
               refine kM 2 rfl ?_
               obtain ⟨hc36, h⟩ := guardO h
               refine AOps_q 98 _ rfl rfl rfl (QOp_indexAddr_vec _ _ _ _ _ _ _ _ _ rfl Try.underlying34 Try.sizeOf2 hc36.1 (by rw [intsD_length]; exact hc36.2) rfl rfl rfl) ?_
               refine AOps_q 99 _ rfl rfl rfl (QOp_load_eptr _ _ _ _ _ _ _ rfl Try.isAgg2 rfl rfl (intsD_get _ _ 0 (by omega))) ?_
               refine kM 1 rfl ?_
               refine AOps_q 101 _ rfl rfl rfl (QOp_conv _ _ _ _ _ _ rfl rfl Try.underlying93 rfl) ?_
               obtain ⟨hc37, h⟩ := guardO h
               refine AOps_q 102 _ rfl rfl rfl (QOp_shr _ _ _ _ _ _ _ _ hc37 rfl rfl rfl) ?_
               refine AOps_q 103 _ rfl rfl rfl (QOp_and _ _ _ _ _ _ _ rfl rfl rfl) ?_
               refine AOps_q 104 _ rfl rfl rfl (QOp_eql _ _ _ _ _ _ _ rfl rfl rfl) ?_
               refine kM 1 rfl ?_
               refine AOps_case 105 _ rfl (fun hb38 => ?_) (fun hb38 => ?_)
               ·have h := iteT hb38 h
                refine kM 2 rfl ?_
                refine AOps_q 108 _ rfl rfl rfl (QOp_conv _ _ _ _ _ _ rfl rfl Try.underlying93 rfl) ?_
                obtain ⟨hc39, h⟩ := guardO h
                refine AOps_q 109 _ rfl rfl rfl (QOp_shr _ _ _ _ _ _ _ _ hc39 rfl rfl rfl) ?_
                refine AOps_q 110 _ rfl rfl rfl (QOp_and _ _ _ _ _ _ _ rfl rfl rfl) ?_
                refine AOps_q 111 _ rfl rfl rfl (QOp_eql _ _ _ _ _ _ _ rfl rfl rfl) ?_
                refine kN 1 rfl ?_
                cases h
                exact Weak_keep 0 hm [5, 6, 7, 8, 9, 10, 11, 13, 112] [0, 1, 2] _ _ rfl rfl rfl
               have h := iteF hb38 h
               refine AOps_skip 106 rfl rfl rfl ?_
               refine AOps_skip 107 rfl rfl rfl ?_
               refine AOps_skip 108 rfl rfl rfl ?_
               refine AOps_skip 109 rfl rfl rfl ?_
               refine AOps_skip 110 rfl rfl rfl ?_
               refine AOps_skip 111 rfl rfl rfl ?_
               refine kN 1 rfl ?_
               cases h
               exact Weak_keep 0 hm [5, 6, 7, 8, 9, 10, 11, 13, 112] [0, 1, 2] _ _ rfl rfl rfl
              refine kI h rfl (fun h _ => ?_) (fun h _ => ?_)
              ·refine kR ?_
               refine kM 2 rfl ?_
               refine AOps_q 115 _ rfl rfl rfl (QOp_conv _ _ _ _ _ _ rfl rfl Try.underlying93 rfl) ?_
               obtain ⟨hc42, h⟩ := guardO h
               refine AOps_q 116 _ rfl rfl rfl (QOp_shl _ _ _ _ _ _ _ _ hc42 rfl rfl rfl) ?_
               refine AOps_q 117 _ rfl rfl rfl (QOp_or _ _ _ _ _ _ _ rfl rfl rfl) ?_
               refine kN 1 rfl ?_
               refine (ACode_region ?_)
               refine kM 4 rfl ?_
               obtain ⟨hc43, h⟩ := guardO h
               refine AOps_q 122 _ rfl rfl rfl (QOp_indexAddr_vec _ _ _ _ _ _ _ _ _ rfl Try.underlying34 Try.sizeOf2 hc43.1 (by rw [intsD_length]; exact hc43.2) rfl rfl rfl) ?_
               refine AOps_q 123 _ rfl rfl rfl (QOp_load_eptr _ _ _ _ _ _ _ rfl Try.isAgg2 rfl rfl (intsD_get _ _ 0 (by omega))) ?_
               refine kM 1 rfl ?_
               refine AOps_q 125 _ rfl rfl rfl (QOp_conv _ _ _ _ _ _ rfl rfl Try.underlying93 rfl) ?_
               obtain ⟨hc44, h⟩ := guardO h
               refine AOps_q 126 _ rfl rfl rfl (QOp_shl _ _ _ _ _ _ _ _ hc44 rfl rfl rfl) ?_
               refine AOps_q 127 _ rfl rfl rfl (QOp_or _ _ _ _ _ _ _ rfl rfl rfl) ?_
               obtain ⟨hc45, h⟩ := guardO h
               refine AOps_q 128 _ rfl rfl rfl (QOp_indexAddr_vec _ _ _ _ _ _ _ _ _ rfl Try.underlying34 Try.sizeOf2 hc45.1 (by rw [intsD_length]; exact hc45.2) rfl rfl rfl) ?_
               refine AOps_store_eptr _ _ _ _ _ _ (intsD x34) _ rfl rfl rfl rfl rfl rfl rfl Try.sizeOf2 (by rw [intsD_length]; omega) ?_
               rw [intsD_set]
               refine AOps_nil ?_
               cases h
               exact Weak_keep 0 hm [5, 6, 7, 8, 9, 10, 11, 13] [0, 1, 2] _ _ rfl rfl rfl
              refine ACode_skip ?_
              cases h
              exact Weak_keep 0 hm [5, 6, 7, 8, 9, 10, 11, 13] [0, 1, 2] _ _ rfl rfl rfl
             refine (ACode_region ?_)
             refine kM 1 rfl ?_
             refine AOps_q 95 _ rfl rfl rfl (QOp_add _ _ _ _ _ _ _ rfl rfl rfl) ?_
             refine kN 1 rfl ?_
             exact ⟨k3, _, _, Nat.lt_succ_self _, Weak_keep 0 hm [5, 6, 7, 8, 9, 10, 11, 13] [0, 1, 2] _ _ rfl rfl rfl, _, _, rfl, rfl, h⟩
            refine ACode_exit ?_
            cases h
            exact Weak_keep 0 hm [5, 6, 7, 8, 9, 10, 11] [0, 1, 2] _ _ rfl rfl rfl
          refine (ACode_region ?_)
          refine kM 1 rfl ?_
          refine AOps_q 61 _ rfl rfl rfl (QOp_add _ _ _ _ _ _ _ rfl rfl rfl) ?_
          refine kN 1 rfl ?_
          exact ⟨k2, _, _, Nat.lt_succ_self _, Weak_keep 0 hm [5, 6, 7, 8, 9, 10, 11] [0, 1, 2] _ _ rfl rfl rfl, _, _, _, rfl, rfl, h⟩
         refine ACode_exit ?_
         cases h
         exact Weak_keep 0 hm [5, 6, 7, 8, 9, 10] [0, 1, 2] _ _ rfl rfl rfl
       refine (ACode_region ?_)
       refine kM 1 rfl ?_
       refine AOps_q 50 _ rfl rfl rfl (QOp_add _ _ _ _ _ _ _ rfl rfl rfl) ?_
       refine kN 1 rfl ?_
       exact ⟨k1, _, _, Nat.lt_succ_self _, Weak_keep 0 hm [5, 6, 7, 8, 9, 10] [0, 1, 2] _ _ rfl rfl rfl, _, _, _, rfl, rfl, h⟩
      refine ACode_exit ?_
      cases h
      exact Weak_keep 0 hm [5, 6, 7, 8] [0, 1] _ _ rfl rfl rfl
    refine (ACode_region ?_)
    refine kM 1 rfl ?_
    refine AOps_q 29 _ rfl rfl rfl (QOp_add _ _ _ _ _ _ _ rfl rfl rfl) ?_
    refine kN 1 rfl ?_
    exact ⟨k0, _, _, Nat.lt_succ_self _, Weak_keep 0 hm [5, 6, 7, 8] [0, 1] _ _ rfl rfl rfl, _, _, rfl, rfl, h⟩
   refine ACode_exit ?_
   cases h
   exact Weak_keep 0 hm [6, 7] [1] _ _ rfl rfl rfl
 refine kR ?_
 refine AOps_buildSlice 129 _ _ _ [] (intsD ([] : List Int)) _ rfl rfl rfl rfl rfl (by decide) Try.underlying34 Try.sizeOf2 (zero_of Try.typeInfo2 rfl) rfl rfl (intsD_one _) ?_
 refine kN 1 rfl ?_
 refine kB (fun s58 => [(15, .vec 0 0)]) (fun s58 => [.vec 0 (intsD s58)]) h (fun s58 h => ?_) (fun s58 h => ?_)
 ·refine kR ?_
  refine kN 1 rfl ?_
  refine ACode_block ?_
  refine ACode_loopW (fun k4 E H => ∃ (x51 : Int) (x52 : List Int), E = [(6, iV p0.p), (7, .vec 0 0), (15, .vec 1 0), (16, iV x51)] ∧ H = [.vec 0 (bosD s50), .vec 0 (intsD x52)] ∧ spec_l04Lengths_l4 p0 s50 k4 x51 x52 = some s58) k _ _ (Weak_keep 0 hm [6, 7, 15, 16] [0, 1] _ _ rfl rfl rfl) ⟨_, _, rfl, rfl, h⟩ ?_
  clear h
  rintro k4 E H ⟨x51, x52, rfl, rfl, h⟩
  cases k4 with
  | zero => cases (show (none : Option (List Int)) = some _ from h)
  | succ k4 =>
   rw [spec_l04Lengths_l4] at h
   refine ACode_seq ?_
   refine kR ?_
   refine kM 2 rfl ?_
   refine AOps_q 132 _ rfl rfl rfl (QOp_leq _ _ _ _ _ _ _ rfl rfl rfl) ?_
   refine AOps_nil ?_
   refine kI h rfl (fun h _ => ?_) (fun h _ => ?_)
   ·refine ACode_skip ?_
    refine kB (fun s57 => [(6, iV p0.p), (7, .vec 0 0), (15, .vec 1 0), (16, iV x51)]) (fun s57 => [.vec 0 (bosD s50), .vec 0 (intsD s57)]) h (fun s57 h => ?_) (fun s57 h => ?_)
    ·refine ACode_block ?_
     refine kR ?_
     refine kM 2 rfl ?_
     obtain ⟨hc54, h⟩ := guardO h
     refine AOps_q 137 _ rfl rfl rfl (QOp_indexAddr_vec _ _ _ _ _ _ _ _ _ rfl Try.underlying56 Try.sizeOf4 hc54.1 (by rw [bosD_length]; exact hc54.2) rfl rfl rfl) ?_
     refine AOps_q 138 _ rfl rfl rfl (QOp_load_eptr _ _ _ _ _ _ _ rfl Try.isAgg4 rfl rfl (bosD_get _ _ false (by omega))) ?_
     refine AOps_nil ?_
     refine kI h rfl (fun h _ => ?_) (fun h _ => ?_)
     ·refine (ACode_region ?_)
      refine kM 2 rfl ?_
      refine AOps_buildSlice 141 _ _ _ [_] (intsD ([x51])) _ rfl rfl rfl rfl rfl (by decide) Try.underlying34 Try.sizeOf2 (zero_of Try.typeInfo2 rfl) rfl rfl (intsD_one _) ?_
      obtain ⟨hc56, h⟩ := guardO h
      refine AOps_append 142 _ _ _ _ _ _ _ _ _ _ _ _ rfl rfl rfl rfl rfl rfl rfl Try.underlying34 Try.type2 rfl rfl rfl (by decide) rfl rfl rfl rfl (intsD_one _) (by rw [intsD_length, intsD_length]; exact hc56) ?_
      rw [intsD_app]
      refine kN 1 rfl ?_
      cases h
      exact Weak_trans (Weak_keep 0 hm [6, 7, 15, 16] [0, 1] _ _ rfl rfl rfl) (Weak_reset 0 hm hz [6, 7, 15, 16] _ _ rfl rfl)
     refine ACode_skip ?_
     cases h
     exact Weak_keep 0 hm [6, 7, 15, 16] [0, 1] _ _ rfl rfl rfl
    refine (ACode_region ?_)
    refine kM 1 rfl ?_
    refine AOps_q 134 _ rfl rfl rfl (QOp_add _ _ _ _ _ _ _ rfl rfl rfl) ?_
    refine kN 1 rfl ?_
    exact ⟨k4, _, _, Nat.lt_succ_self _, Weak_keep 0 hm [6, 7, 15, 16] [0, 1] _ _ rfl rfl rfl, _, _, rfl, rfl, h⟩
   refine ACode_exit ?_
   cases h
   exact Weak_keep 0 hm [15] [1] _ _ rfl rfl rfl
 refine kR ?_
 refine kN 2 rfl ?_
 refine ACode_ret ?_
 cases h
 exact ⟨_, _, Weak_reset 0 hm hz [4] _ _ rfl rfl, _, _, [0], _, (.cons (ResV_tmp _ _ rfl) .nil), rfl, rfl, rfl, rfl, rfl⟩

-- loop.example/g01362/spec.l04Has
def spec_l04Has_l0 (p2 : Int) (r1 : List Int) : Nat → Int → Option (Sum (Unit) (Bool))
 | 0, _ => none
 | k0 + 1, x2 => (if decide (x2 < (r1.length : Int)) then (if 0 ≤ x2 ∧ x2 < (r1.length : Int) then (if decide ((r1.getD x2.toNat 0) = p2) then some (.inr true) else spec_l04Has_l0 p2 r1 k0 (w64 (x2 + 1))) else none) else some (.inl ()))
def spec_l04Has (k : Nat) (p0 : Col) (p1 : Int) (p2 : Int) : Option (Bool) :=
 (spec_l04Lengths k p0 p1).bind fun r1 => (spec_l04Has_l0 p2 r1 k 0 : Option (Sum (Unit) (Bool))).bind fun os6 => (match os6 with | .inl s6 => some false | .inr rr => some rr)
set_option maxRecDepth 100000 in
theorem spec_l04Has_ac (k : Nat) (p0 : Col) (p1 : Int) (p2 : Int) (r : Bool) (h : spec_l04Has k p0 p1 p2 = some r) : AC Try.prog 41 [.d (.agg (colD p0)), iV p1, iV p2] [] (fun res H' => res = [bV r] ∧ H' = []) := by
 refine AC_of_body true Try.func41 rfl Try.ntmps41 (rvs := [.tmp 6]) rfl rfl (fun G hG => ?_)
 have hm : G.H.length = 0 := by rw [hG]; rfl
 have hz : zeroG G.H = true := by rw [hG]; rfl
 unfold spec_l04Has at h
 refine kR ?_
 refine AOps_boxI 3 _ _ (.agg (colD p0)) (colD p0) rfl (colD_one _) rfl rfl rfl rfl rfl ?_
 refine kN 1 rfl ?_
 refine kR ?_
 refine AOps_q 9 _ rfl rfl rfl (QOp_loadN_pv _ _ _ _ _ _ rfl Try.isAgg27 Try.sizeOf27 rfl (colD_all _) (colD_length _)) ?_
 refine kM 1 rfl ?_
 obtain ⟨r1, hr1, h⟩ := bindO h
 refine kC [] 11 (.vec 0 0) [.vec 0 (intsD r1)] rfl Try.call57 rfl rfl (spec_l04Lengths_ac k p0 p1 _ hr1) rfl ?_
 refine kN 1 rfl ?_
 refine kO (fun s6 => []) (fun s6 => []) h (fun os6 h hks6 => ?_) (fun s6 h => ?_)
 ·refine kR ?_
  refine kN 1 rfl ?_
  refine ACode_block ?_
  refine ACode_loopW (fun k0 E H => ∃ (x2 : Int), E = [(2, iV p2), (7, .vec 0 0), (8, iV x2)] ∧ H = [.vec 0 (intsD r1)] ∧ spec_l04Has_l0 p2 r1 k0 x2 = some os6) k _ _ (Weak_keep 0 hm [2, 7, 8] [0] _ _ rfl rfl rfl) ⟨_, rfl, rfl, h⟩ ?_
  clear h
  rintro k0 E H ⟨x2, rfl, rfl, h⟩
  cases k0 with
  | zero => cases (show (none : Option (Sum (Unit) (Bool))) = some _ from h)
  | succ k0 =>
   rw [spec_l04Has_l0] at h
   refine ACode_seq ?_
   refine kR ?_
   refine kM 2 rfl ?_
   refine AOps_q 14 _ rfl rfl rfl (QOp_len_vec _ _ _ _ _ _ _ _ (intsD_length _) rfl rfl rfl rfl Try.underlying34 rfl rfl) ?_
   refine AOps_q 15 _ rfl rfl rfl (QOp_lss _ _ _ _ _ _ _ rfl rfl rfl) ?_
   refine AOps_nil ?_
   refine kI h rfl (fun h _ => ?_) (fun h _ => ?_)
   ·refine ACode_skip ?_
    refine ACode_seq ?_
    refine ACode_block ?_
    refine kR ?_
    refine kM 2 rfl ?_
    obtain ⟨hc4, h⟩ := guardO h
    refine AOps_q 20 _ rfl rfl rfl (QOp_indexAddr_vec _ _ _ _ _ _ _ _ _ rfl Try.underlying34 Try.sizeOf2 hc4.1 (by rw [intsD_length]; exact hc4.2) rfl rfl rfl) ?_
    refine AOps_q 21 _ rfl rfl rfl (QOp_load_eptr _ _ _ _ _ _ _ rfl Try.isAgg2 rfl rfl (intsD_get _ _ 0 (by omega))) ?_
    refine kM 1 rfl ?_
    refine AOps_q 23 _ rfl rfl rfl (QOp_eql _ _ _ _ _ _ _ rfl rfl rfl) ?_
    refine AOps_nil ?_
    refine kI h rfl (fun h _ => ?_) (fun h _ => ?_)
    ·refine kR ?_
     refine kN 1 rfl ?_
     refine ACode_ret ?_
     cases h
     have h := hks6
     cases h
     exact ⟨_, _, fun r a w h => ⟨r, h⟩, _, _, [], _, (.cons (ResV_tmp _ _ rfl) .nil), rfl, rfl, rfl, rfl, rfl⟩
    refine ACode_skip ?_
    refine (ACode_region ?_)
    refine kM 1 rfl ?_
    refine AOps_q 17 _ rfl rfl rfl (QOp_add _ _ _ _ _ _ _ rfl rfl rfl) ?_
    refine kN 1 rfl ?_
    exact ⟨k0, _, _, Nat.lt_succ_self _, Weak_keep 0 hm [2, 7, 8] [0] _ _ rfl rfl rfl, _, rfl, rfl, h⟩
   refine ACode_exit ?_
   cases h
   exact ⟨_, rfl, Weak_keep 0 hm [] [] _ _ rfl rfl rfl⟩
 refine kR ?_
 refine kN 1 rfl ?_
 refine ACode_ret ?_
 cases h
 exact ⟨_, _, fun r a w h => ⟨r, h⟩, _, _, [], _, (.cons (ResV_tmp _ _ rfl) .nil), rfl, rfl, rfl, rfl, rfl⟩

-- loop.example/g01362/spec.l04Star
def spec_l04Star_l0 (k : Nat) (p0 : Col) (p1 : Int) : Nat → Int → Int → Int → Option (Int × Int)
 | 0, _, _, _ => none
 | k0 + 1, x1, x2, x3 => (if decide (x3 < p0.p) then ((spec_l01Around k p0 x3 p1).bind fun r5 => (spec_l01Ones k r5).bind fun r6 => (if decide (x1 < r6) then some (r6, x3) else some (x1, x2)) : Option (Int × Int)).bind fun s8 => spec_l04Star_l0 k p0 p1 k0 s8.1 s8.2 (w64 (x3 + 1)) else some (x1, x2))
def spec_l04Star (k : Nat) (p0 : Col) (p1 : Int) : Option (Int × Int) :=
 (spec_l04Star_l0 k p0 p1 k (-1) 0 0 : Option (Int × Int)).bind fun s9 => some (s9.2, s9.1)
set_option maxRecDepth 100000 in
theorem spec_l04Star_ac (k : Nat) (p0 : Col) (p1 : Int) (r : Int × Int) (h : spec_l04Star k p0 p1 = some r) : AC Try.prog 42 [.d (.agg (colD p0)), iV p1] [] (fun res H' => res = [iV r.1, iV r.2] ∧ H' = []) := by
 refine AC_of_body true Try.func42 rfl Try.ntmps42 (rvs := [.tmp 4, .tmp 5]) rfl rfl (fun G hG => ?_)
 have hm : G.H.length = 0 := by rw [hG]; rfl
 have hz : zeroG G.H = true := by rw [hG]; rfl
 unfold spec_l04Star at h
 refine kR ?_
 refine AOps_boxI 2 _ _ (.agg (colD p0)) (colD p0) rfl (colD_one _) rfl rfl rfl rfl rfl ?_
 refine kN 2 rfl ?_
 refine kR ?_
 refine kN 2 rfl ?_
 refine kB (fun s9 => [(6, iV s9.1), (7, iV s9.2)]) (fun s9 => []) h (fun s9 h => ?_) (fun s9 h => ?_)
 ·refine kR ?_
  refine kN 1 rfl ?_
  refine ACode_block ?_
  refine ACode_loopW (fun k0 E H => ∃ (x1 : Int) (x2 : Int) (x3 : Int), E = [(1, iV p1), (2, .d (.pv (colD p0) 0)), (6, iV x1), (7, iV x2), (8, iV x3)] ∧ H = [] ∧ spec_l04Star_l0 k p0 p1 k0 x1 x2 x3 = some s9) k _ _ (Weak_keep 0 hm [1, 2, 6, 7, 8] [] _ _ rfl rfl rfl) ⟨_, _, _, rfl, rfl, h⟩ ?_
  clear h
  rintro k0 E H ⟨x1, x2, x3, rfl, rfl, h⟩
  cases k0 with
  | zero => cases (show (none : Option (Int × Int)) = some _ from h)
  | succ k0 =>
   rw [spec_l04Star_l0] at h
   refine ACode_seq ?_
   refine kR ?_
   refine kM 1 rfl ?_
   refine AOps_q 11 _ rfl rfl rfl (QOp_fieldAddr_pv _ _ _ _ _ 0 _ _ rfl Try.underlying27 rfl _ Try.sizeOf2 rfl rfl) ?_
   refine AOps_q 12 _ rfl rfl rfl (QOp_load_pv _ _ _ _ _ rfl Try.isAgg2 rfl rfl) ?_
   refine AOps_q 13 _ rfl rfl rfl (QOp_lss _ _ _ _ _ _ _ rfl rfl rfl) ?_
   refine AOps_nil ?_
   refine kI h rfl (fun h _ => ?_) (fun h _ => ?_)
   ·refine ACode_skip ?_
    refine kB (fun s8 => [(1, iV p1), (2, .d (.pv (colD p0) 0)), (6, iV s8.1), (7, iV s8.2), (8, iV x3)]) (fun s8 => []) h (fun s8 h => ?_) (fun s8 h => ?_)
    ·refine ACode_block ?_
     refine kR ?_
     refine AOps_q 16 _ rfl rfl rfl (QOp_loadN_pv _ _ _ _ _ _ rfl Try.isAgg27 Try.sizeOf27 rfl (colD_all _) (colD_length _)) ?_
     refine kM 2 rfl ?_
     obtain ⟨r5, hr5, h⟩ := bindO h
     refine kC [] 19 (iV r5) [] rfl Try.call83 rfl rfl (spec_l01Around_ac k p0 x3 p1 _ hr5) rfl ?_
     obtain ⟨r6, hr6, h⟩ := bindO h
     refine kC [] 20 (iV r6) [] rfl Try.call82 rfl rfl (spec_l01Ones_ac k r5 _ hr6) rfl ?_
     refine kN 1 rfl ?_
     refine kR ?_
     refine kM 2 rfl ?_
     refine AOps_q 23 _ rfl rfl rfl (QOp_gtr _ _ _ _ _ _ _ rfl rfl rfl) ?_
     refine AOps_nil ?_
     refine kI h rfl (fun h _ => ?_) (fun h _ => ?_)
     ·refine kR ?_
      refine kN 2 rfl ?_
      refine (ACode_region ?_)
      refine kN 2 rfl ?_
      cases h
      exact Weak_keep 0 hm [1, 2, 6, 7, 8] [] _ _ rfl rfl rfl
     refine ACode_skip ?_
     cases h
     exact Weak_keep 0 hm [1, 2, 6, 7, 8] [] _ _ rfl rfl rfl
    refine (ACode_region ?_)
    refine kM 1 rfl ?_
    refine AOps_q 15 _ rfl rfl rfl (QOp_add _ _ _ _ _ _ _ rfl rfl rfl) ?_
    refine kN 1 rfl ?_
    exact ⟨k0, _, _, Nat.lt_succ_self _, Weak_keep 0 hm [1, 2, 6, 7, 8] [] _ _ rfl rfl rfl, _, _, _, rfl, rfl, h⟩
   refine ACode_exit ?_
   cases h
   exact Weak_keep 0 hm [6, 7] [] _ _ rfl rfl rfl
 refine kR ?_
 refine kN 4 rfl ?_
 refine ACode_ret ?_
 cases h
 exact ⟨_, _, fun r a w h => ⟨r, h⟩, _, _, [], _, (.cons (ResV_tmp _ _ rfl) (.cons (ResV_tmp _ _ rfl) .nil)), rfl, rfl, rfl, rfl, rfl⟩

-- loop.example/g01362/spec.l04Match
def spec_l04Match_l0 (p2 : Int) : Nat → Int → Option (Int)
 | 0, _ => none
 | k0 + 1, x5 => (if 0 ≤ IntKind.u64.wrap x5 then (if decide (bAnd .i64 (bShr .i64 p2 (IntKind.u64.wrap x5)) 1 = 0) then spec_l04Match_l0 p2 k0 (w64 (x5 + 1)) else some x5) else none)
def spec_l04Match_l1 (self : (List Int) → (List Int) → Int → Option (Int × List Int)) (p0 : List Int) (p2 : Int) (s8 : Int) : Nat → Int → Int → (List Int) → Option (Int × List Int)
 | 0, _, _, _ => none
 | k1 + 1, x11, x12, x13 => (if decide (x12 < (p0.length : Int)) then (((if 0 ≤ IntKind.u64.wrap x12 then (if decide (bAnd .i64 (bShr .i64 (bXor .i64 p2 (bShl .i64 1 (IntKind.u64.wrap s8))) (IntKind.u64.wrap x12)) 1 = 1) then (if 0 ≤ s8 ∧ s8 < (p0.length : Int) then (if 0 ≤ IntKind.u64.wrap x12 then some (decide (bAnd .i64 (bShr .i64 (p0.getD s8.toNat 0) (IntKind.u64.wrap x12)) 1 = 1)) else none) else none) else some false) else none) : Option (Bool)).bind fun s19 => (if s19 then (if 0 ≤ IntKind.u64.wrap x12 then (self p0 x13 (bXor .i64 (bXor .i64 p2 (bShl .i64 1 (IntKind.u64.wrap s8))) (bShl .i64 1 (IntKind.u64.wrap x12)))).bind fun r22 => some ((if x11 < w64 (1 + r22.1) then w64 (1 + r22.1) else x11), r22.2) else none) else some (x11, x13)) : Option (Int × List Int)).bind fun s23 => spec_l04Match_l1 self p0 p2 s8 k1 s23.1 (w64 (x12 + 1)) s23.2 else some (x11, x13))
def spec_l04Match_body (self : (List Int) → (List Int) → Int → Option (Int × List Int)) (k : Nat) (p0 : List Int) (p1 : List Int) (p2 : Int) : Option (Int × List Int) :=
 (if decide (p2 = 0) then some (0, p1) else (if 0 ≤ p2 ∧ p2 < (p1.length : Int) then (if decide (0 ≤ (p1.getD p2.toNat 0)) then (if 0 ≤ p2 ∧ p2 < (p1.length : Int) then some ((p1.getD p2.toNat 0), p1) else none) else (spec_l04Match_l0 p2 k 0 : Option (Int)).bind fun s8 => (if 0 ≤ IntKind.u64.wrap s8 then (self p0 p1 (bXor .i64 p2 (bShl .i64 1 (IntKind.u64.wrap s8)))).bind fun r10 => (spec_l04Match_l1 self p0 p2 s8 k r10.1 (w64 (s8 + 1)) r10.2 : Option (Int × List Int)).bind fun s24 => (if 0 ≤ p2 ∧ p2 < (s24.2.length : Int) then some (s24.1, s24.2.set p2.toNat s24.1) else none) else none)) else none))
def spec_l04Match : Nat → (List Int) → (List Int) → Int → Option (Int × List Int)
 | 0, _, _, _ => none
 | k + 1, p0, p1, p2 => spec_l04Match_body (spec_l04Match k) k p0 p1 p2
set_option maxRecDepth 100000 in
theorem spec_l04Match_ac (k : Nat) (p0 : List Int) (p1 : List Int) (p2 : Int) (r : Int × List Int) (h : spec_l04Match k p0 p1 p2 = some r) : AC Try.prog 84 [.d (.sl none (intsD p0)), .vec 0 0, iV p2] [.vec 0 (intsD p1)] (fun res H' => res = [iV r.1] ∧ H' = [.vec 0 (intsD r.2)]) := by
 induction k generalizing p0 p1 p2 r with
 | zero => simp [spec_l04Match] at h
 | succ k ih =>
  rw [spec_l04Match] at h
  obtain ⟨self, hself, hk⟩ : ∃ self : (List Int) → (List Int) → Int → Option (Int × List Int), (∀ (p0 : List Int) (p1 : List Int) (p2 : Int) (r : Int × List Int), self p0 p1 p2 = some r → AC Try.prog 84 [.d (.sl none (intsD p0)), .vec 0 0, iV p2] [.vec 0 (intsD p1)] (fun res H' => res = [iV r.1] ∧ H' = [.vec 0 (intsD r.2)])) ∧ spec_l04Match k = self := ⟨spec_l04Match k, fun p0 p1 p2 r h => ih p0 p1 p2 r h, rfl⟩
  rw [hk] at h
  clear ih hk
  refine AC_of_body true Try.func84 rfl Try.ntmps84 (rvs := [.tmp 6]) rfl rfl (fun G hG => ?_)
  have hm : G.H.length = 1 := by rw [hG]; rfl
  have hz : zeroG G.H = true := by rw [hG]; rfl
  unfold spec_l04Match_body at h
  refine kR ?_
  refine kN 1 rfl ?_
  refine ACode_seq ?_
  refine kR ?_
  refine kM 1 rfl ?_
  refine AOps_q 12 _ rfl rfl rfl (QOp_eql _ _ _ _ _ _ _ rfl rfl rfl) ?_
  refine AOps_nil ?_
  refine kI h rfl (fun h _ => ?_) (fun h _ => ?_)
  ·refine kR ?_
   refine kN 1 rfl ?_
   refine ACode_ret ?_
   cases h
   exact ⟨_, _, fun r a w h => ⟨r, h⟩, _, _, [], _, (.cons (ResV_tmp _ _ rfl) .nil), rfl, rfl, rfl, rfl, rfl⟩
  refine ACode_skip ?_
  refine ACode_seq ?_
  refine kR ?_
  refine kM 2 rfl ?_
  obtain ⟨hc2, h⟩ := guardO h
  refine AOps_q 15 _ rfl rfl rfl (QOp_indexAddr_vec _ _ _ _ _ _ _ _ _ rfl Try.underlying34 Try.sizeOf2 hc2.1 (by rw [intsD_length]; exact hc2.2) rfl rfl rfl) ?_
  refine AOps_q 16 _ rfl rfl rfl (QOp_load_eptr _ _ _ _ _ _ _ rfl Try.isAgg2 rfl rfl (intsD_get _ _ 0 (by omega))) ?_
  refine AOps_q 17 _ rfl rfl rfl (QOp_geq _ _ _ _ _ _ _ rfl rfl rfl) ?_
  refine AOps_nil ?_
  refine kI h rfl (fun h _ => ?_) (fun h _ => ?_)
  ·refine kR ?_
   refine kM 2 rfl ?_
   obtain ⟨hc4, h⟩ := guardO h
   refine AOps_q 20 _ rfl rfl rfl (QOp_indexAddr_vec _ _ _ _ _ _ _ _ _ rfl Try.underlying34 Try.sizeOf2 hc4.1 (by rw [intsD_length]; exact hc4.2) rfl rfl rfl) ?_
   refine AOps_q 21 _ rfl rfl rfl (QOp_load_eptr _ _ _ _ _ _ _ rfl Try.isAgg2 rfl rfl (intsD_get _ _ 0 (by omega))) ?_
   refine kN 1 rfl ?_
   refine ACode_ret ?_
   cases h
   exact ⟨_, _, fun r a w h => ⟨r, h⟩, _, _, [], _, (.cons (ResV_tmp _ _ rfl) .nil), rfl, rfl, rfl, rfl, rfl⟩
  refine ACode_skip ?_
  refine kR ?_
  refine kN 1 rfl ?_
  refine kB (fun s8 => [(0, .d (.sl none (intsD p0))), (1, .vec 0 0), (2, iV p2), (7, iV s8)]) (fun s8 => [.vec 0 (intsD p1)]) h (fun s8 h => ?_) (fun s8 h => ?_)
  ·refine ACode_block ?_
   refine ACode_loopW (fun k0 E H => ∃ (x5 : Int), E = [(0, .d (.sl none (intsD p0))), (1, .vec 0 0), (2, iV p2), (7, iV x5)] ∧ H = [.vec 0 (intsD p1)] ∧ spec_l04Match_l0 p2 k0 x5 = some s8) k _ _ (Weak_keep 1 hm [0, 1, 2, 7] [] _ _ rfl rfl rfl) ⟨_, rfl, rfl, h⟩ ?_
   clear h
   rintro k0 E H ⟨x5, rfl, rfl, h⟩
   cases k0 with
   | zero => cases (show (none : Option (Int)) = some _ from h)
   | succ k0 =>
    rw [spec_l04Match_l0] at h
    refine ACode_seq ?_
    refine kR ?_
    refine kM 2 rfl ?_
    refine AOps_q 24 _ rfl rfl rfl (QOp_conv _ _ _ _ _ _ rfl rfl Try.underlying93 rfl) ?_
    obtain ⟨hc6, h⟩ := guardO h
    refine AOps_q 25 _ rfl rfl rfl (QOp_shr _ _ _ _ _ _ _ _ hc6 rfl rfl rfl) ?_
    refine AOps_q 26 _ rfl rfl rfl (QOp_and _ _ _ _ _ _ _ rfl rfl rfl) ?_
    refine AOps_q 27 _ rfl rfl rfl (QOp_eql _ _ _ _ _ _ _ rfl rfl rfl) ?_
    refine AOps_nil ?_
    refine kI h rfl (fun h _ => ?_) (fun h _ => ?_)
    ·refine ACode_skip ?_
     refine ACode_block ?_
     refine (ACode_region ?_)
     refine kM 1 rfl ?_
     refine AOps_q 29 _ rfl rfl rfl (QOp_add _ _ _ _ _ _ _ rfl rfl rfl) ?_
     refine kN 1 rfl ?_
     exact ⟨k0, _, _, Nat.lt_succ_self _, Weak_keep 1 hm [0, 1, 2, 7] [] _ _ rfl rfl rfl, _, rfl, rfl, h⟩
    refine ACode_exit ?_
    cases h
    exact Weak_keep 1 hm [0, 1, 2, 7] [] _ _ rfl rfl rfl
  refine kR ?_
  refine kM 2 rfl ?_
  refine AOps_q 32 _ rfl rfl rfl (QOp_conv _ _ _ _ _ _ rfl rfl Try.underlying93 rfl) ?_
  obtain ⟨hc9, h⟩ := guardO h
  refine AOps_q 33 _ rfl rfl rfl (QOp_shl _ _ _ _ _ _ _ _ hc9 rfl rfl rfl) ?_
  refine AOps_q 34 _ rfl rfl rfl (QOp_xor _ _ _ _ _ _ _ rfl rfl rfl) ?_
  refine kN 1 rfl ?_
  refine kR ?_
  refine kM 3 rfl ?_
  obtain ⟨r10, hr10, h⟩ := bindO h
  refine kC [0] 38 (iV r10.1) [.vec 0 (intsD r10.2)] rfl Try.call84 rfl rfl (hself p0 p1 (bXor .i64 p2 (bShl .i64 1 (IntKind.u64.wrap s8))) _ hr10) rfl ?_
  refine kN 1 rfl ?_
  refine kB (fun s24 => [(1, .vec 0 0), (2, iV p2), (9, iV s24.1)]) (fun s24 => [.vec 0 (intsD s24.2)]) h (fun s24 h => ?_) (fun s24 h => ?_)
  ·refine kR ?_
   refine kM 1 rfl ?_
   refine AOps_q 40 _ rfl rfl rfl (QOp_add _ _ _ _ _ _ _ rfl rfl rfl) ?_
   refine kN 1 rfl ?_
   refine ACode_block ?_
   refine ACode_loopW (fun k1 E H => ∃ (x11 : Int) (x12 : Int) (x13 : List Int), E = [(0, .d (.sl none (intsD p0))), (1, .vec 0 0), (2, iV p2), (7, iV s8), (8, iV (bXor .i64 p2 (bShl .i64 1 (IntKind.u64.wrap s8)))), (9, iV x11), (10, iV x12)] ∧ H = [.vec 0 (intsD x13)] ∧ spec_l04Match_l1 self p0 p2 s8 k1 x11 x12 x13 = some s24) k _ _ (Weak_keep 1 hm [0, 1, 2, 7, 8, 9, 10] [] _ _ rfl rfl rfl) ⟨_, _, _, rfl, rfl, h⟩ ?_
   clear h
   rintro k1 E H ⟨x11, x12, x13, rfl, rfl, h⟩
   cases k1 with
   | zero => cases (show (none : Option (Int × List Int)) = some _ from h)
   | succ k1 =>
    rw [spec_l04Match_l1] at h
    refine ACode_seq ?_
    refine kR ?_
    refine kM 2 rfl ?_
    refine AOps_q 43 _ rfl rfl rfl (QOp_len_sl _ _ _ _ _ _ _ (intsD_length _) rfl rfl rfl rfl Try.underlying34 rfl) ?_
    refine AOps_q 44 _ rfl rfl rfl (QOp_lss _ _ _ _ _ _ _ rfl rfl rfl) ?_
    refine AOps_nil ?_
    refine kI h rfl (fun h _ => ?_) (fun h _ => ?_)
    ·refine ACode_skip ?_
     refine kB (fun s23 => [(0, .d (.sl none (intsD p0))), (1, .vec 0 0), (2, iV p2), (7, iV s8), (8, iV (bXor .i64 p2 (bShl .i64 1 (IntKind.u64.wrap s8)))), (9, iV s23.1), (10, iV x12)]) (fun s23 => [.vec 0 (intsD s23.2)]) h (fun s23 h => ?_) (fun s23 h => ?_)
     ·refine ACode_block ?_
      refine kB (fun s19 => [(0, .d (.sl none (intsD p0))), (1, .vec 0 0), (2, iV p2), (7, iV s8), (8, iV (bXor .i64 p2 (bShl .i64 1 (IntKind.u64.wrap s8)))), (9, iV x11), (10, iV x12), (63, bV s19)]) (fun s19 => [.vec 0 (intsD x13)]) h (fun s19 h => ?_) (fun s19 h => ?_)
      ·refine (ACode_region ?_)
       refine kM 2 rfl ?_
       refine AOps_q 49 _ rfl rfl rfl (QOp_conv _ _ _ _ _ _ rfl rfl Try.underlying93 rfl) ?_
       obtain ⟨hc15, h⟩ := guardO h
       refine AOps_q 50 _ rfl rfl rfl (QOp_shr _ _ _ _ _ _ _ _ hc15 rfl rfl rfl) ?_
       refine AOps_q 51 _ rfl rfl rfl (QOp_and _ _ _ _ _ _ _ rfl rfl rfl) ?_
       refine AOps_q 52 _ rfl rfl rfl (QOp_eql _ _ _ _ _ _ _ rfl rfl rfl) ?_
       refine kM 1 rfl ?_
       refine AOps_case 53 _ rfl (fun hb16 => ?_) (fun hb16 => ?_)
       ·have h := iteT hb16 h
        refine kM 2 rfl ?_
        obtain ⟨hc17, h⟩ := guardO h
        refine AOps_q 56 _ rfl rfl rfl (QOp_indexAddr_sl _ _ _ _ _ _ _ _ rfl Try.underlying34 Try.sizeOf2 hc17.1 (by rw [intsD_length]; exact hc17.2) rfl rfl) ?_
        refine AOps_q 57 _ rfl rfl rfl (QOp_load_pv _ _ _ _ _ rfl Try.isAgg2 rfl (intsD_get _ _ 0 (by omega))) ?_
        refine kM 1 rfl ?_
        refine AOps_q 59 _ rfl rfl rfl (QOp_conv _ _ _ _ _ _ rfl rfl Try.underlying93 rfl) ?_
        obtain ⟨hc18, h⟩ := guardO h
        refine AOps_q 60 _ rfl rfl rfl (QOp_shr _ _ _ _ _ _ _ _ hc18 rfl rfl rfl) ?_
        refine AOps_q 61 _ rfl rfl rfl (QOp_and _ _ _ _ _ _ _ rfl rfl rfl) ?_
        refine AOps_q 62 _ rfl rfl rfl (QOp_eql _ _ _ _ _ _ _ rfl rfl rfl) ?_
        refine kN 1 rfl ?_
        cases h
        exact Weak_keep 1 hm [0, 1, 2, 7, 8, 9, 10, 63] [] _ _ rfl rfl rfl
       have h := iteF hb16 h
       refine AOps_skip 54 rfl rfl rfl ?_
       refine AOps_skip 55 rfl rfl rfl ?_
       refine AOps_skip 56 rfl rfl rfl ?_
       refine AOps_skip 57 rfl rfl rfl ?_
       refine AOps_skip 58 rfl rfl rfl ?_
       refine AOps_skip 59 rfl rfl rfl ?_
       refine AOps_skip 60 rfl rfl rfl ?_
       refine AOps_skip 61 rfl rfl rfl ?_
       refine AOps_skip 62 rfl rfl rfl ?_
       refine kN 1 rfl ?_
       cases h
       exact Weak_keep 1 hm [0, 1, 2, 7, 8, 9, 10, 63] [] _ _ rfl rfl rfl
      refine kI h rfl (fun h _ => ?_) (fun h _ => ?_)
      ·refine (ACode_region ?_)
       refine kM 5 rfl ?_
       refine AOps_q 69 _ rfl rfl rfl (QOp_conv _ _ _ _ _ _ rfl rfl Try.underlying93 rfl) ?_
       obtain ⟨hc21, h⟩ := guardO h
       refine AOps_q 70 _ rfl rfl rfl (QOp_shl _ _ _ _ _ _ _ _ hc21 rfl rfl rfl) ?_
       refine AOps_q 71 _ rfl rfl rfl (QOp_xor _ _ _ _ _ _ _ rfl rfl rfl) ?_
       obtain ⟨r22, hr22, h⟩ := bindO h
       refine kC [0] 72 (iV r22.1) [.vec 0 (intsD r22.2)] rfl Try.call84 rfl rfl (hself p0 x13 (bXor .i64 (bXor .i64 p2 (bShl .i64 1 (IntKind.u64.wrap s8))) (bShl .i64 1 (IntKind.u64.wrap x12))) _ hr22) rfl ?_
       refine AOps_q 73 _ rfl rfl rfl (QOp_add _ _ _ _ _ _ _ rfl rfl rfl) ?_
       refine AOps_q 74 _ rfl rfl rfl (QOp_max _ _ _ _ _ _ rfl rfl rfl rfl rfl) ?_
       refine kN 1 rfl ?_
       cases h
       exact Weak_keep 1 hm [0, 1, 2, 7, 8, 9, 10] [] _ _ rfl rfl rfl
      refine ACode_skip ?_
      cases h
      exact Weak_keep 1 hm [0, 1, 2, 7, 8, 9, 10] [] _ _ rfl rfl rfl
     refine (ACode_region ?_)
     refine kM 1 rfl ?_
     refine AOps_q 46 _ rfl rfl rfl (QOp_add _ _ _ _ _ _ _ rfl rfl rfl) ?_
     refine kN 1 rfl ?_
     exact ⟨k1, _, _, Nat.lt_succ_self _, Weak_keep 1 hm [0, 1, 2, 7, 8, 9, 10] [] _ _ rfl rfl rfl, _, _, _, rfl, rfl, h⟩
    refine ACode_exit ?_
    cases h
    exact Weak_keep 1 hm [1, 2, 9] [] _ _ rfl rfl rfl
  refine kR ?_
  refine kM 3 rfl ?_
  obtain ⟨hc25, h⟩ := guardO h
  refine AOps_q 78 _ rfl rfl rfl (QOp_indexAddr_vec _ _ _ _ _ _ _ _ _ rfl Try.underlying34 Try.sizeOf2 hc25.1 (by rw [intsD_length]; exact hc25.2) rfl rfl rfl) ?_
  refine AOps_store_eptr _ _ _ _ _ _ (intsD s24.2) _ rfl rfl rfl rfl rfl rfl rfl Try.sizeOf2 (by rw [intsD_length]; omega) ?_
  rw [intsD_set]
  refine AOps_nil ?_
  refine kR ?_
  refine kN 2 rfl ?_
  refine ACode_ret ?_
  cases h
  exact ⟨_, _, fun r a w h => ⟨r, h⟩, _, _, [], _, (.cons (ResV_tmp _ _ rfl) .nil), rfl, rfl, rfl, rfl, rfl⟩

-- loop.example/g01362/spec.l04Matching
def spec_l04Matching_l0 : Nat → Int → (List Int) → Option (List Int)
 | 0, _, _ => none
 | k0 + 1, x5, x6 => (if decide (x5 < (x6.length : Int)) then (if 0 ≤ x5 ∧ x5 < (x6.length : Int) then spec_l04Matching_l0 k0 (w64 (x5 + 1)) (x6.set x5.toNat (-1)) else none) else some x6)
def spec_l04Matching_l2 (k : Nat) (p0 : Col) (r1 : List Int) (x10 : Int) (x11 : Int) : Nat → Int → Int → (List (List Int)) → (List Int) → Option (Int × List (List Int) × List Int)
 | 0, _, _, _, _ => none
 | k2 + 1, x17, x18, x19, x20 => (if decide (x18 < p0.p) then (((if 0 ≤ IntKind.u64.wrap x18 then (if decide (bAnd .i64 (bShr .i64 x17 (IntKind.u64.wrap x18)) 1 = 1) then (if 0 ≤ x11 ∧ x11 < (r1.length : Int) then (if 0 ≤ IntKind.u64.wrap x18 then (if decide (bAnd .i64 (bShr .i64 (r1.getD x11.toNat 0) (IntKind.u64.wrap x18)) 1 = 1) then (if 0 ≤ IntKind.u64.wrap x18 then (spec_l04Match k r1 x20 (bXor .i64 x17 (bShl .i64 1 (IntKind.u64.wrap x18)))).bind fun r28 => (spec_l04Match k r1 r28.2 x10).bind fun r29 => some (decide (w64 (1 + r28.1) = r29.1), r29.2) else none) else some (false, x20)) else none) else none) else some (false, x20)) else none) : Option (Bool × List Int)).bind fun s30 => (if s30.1 then (if x19.length + ([[x11, x18]]).length ≤ 1099511627776 then (if 0 ≤ IntKind.u64.wrap x18 then (some (bXor .i64 x17 (bShl .i64 1 (IntKind.u64.wrap x18)), (x19 ++ ([[x11, x18]])), s30.2)).bind fun rr => some (.inr rr) else none) else none) else some (.inl s30.2)) : Option (Sum (List Int) (Int × List (List Int) × List Int))).bind fun os34 => (match os34 with | .inl s34 => spec_l04Matching_l2 k p0 r1 x10 x11 k2 x17 (w64 (x18 + 1)) x19 s34 | .inr rr => some rr) else some (x17, x19, x20))
def spec_l04Matching_l1 (k : Nat) (p0 : Col) (r1 : List Int) : Nat → Int → Int → (List (List Int)) → (List Int) → Option (List (List Int))
 | 0, _, _, _, _ => none
 | k1 + 1, x10, x11, x12, x13 => (if decide (x11 < p0.p) then ((if 0 ≤ IntKind.u64.wrap x11 then (if decide (bAnd .i64 x10 (bShl .i64 1 (IntKind.u64.wrap x11)) = 0) then some (x10, x12, x13) else (spec_l04Matching_l2 k p0 r1 x10 x11 k (bXor .i64 x10 (bShl .i64 1 (IntKind.u64.wrap x11))) (w64 (x11 + 1)) x12 x13 : Option (Int × List (List Int) × List Int)).bind fun s35 => some (s35.1, s35.2.1, s35.2.2)) else none) : Option (Int × List (List Int) × List Int)).bind fun s36 => spec_l04Matching_l1 k p0 r1 k1 s36.1 (w64 (x11 + 1)) s36.2.1 s36.2.2 else some x12)
def spec_l04Matching (k : Nat) (p0 : Col) (p1 : Int) : Option (List (List Int)) :=
 (spec_l02Rows k p0 p1).bind fun r1 => (if 0 ≤ IntKind.u64.wrap p0.p then (if 0 ≤ IntKind.u64.wrap p0.p then (if 0 ≤ bShl .i64 1 (IntKind.u64.wrap p0.p) ∧ bShl .i64 1 (IntKind.u64.wrap p0.p) ≤ bShl .i64 1 (IntKind.u64.wrap p0.p) ∧ bShl .i64 1 (IntKind.u64.wrap p0.p) ≤ 1099511627776 then (spec_l04Matching_l0 k 0 (List.replicate (bShl .i64 1 (IntKind.u64.wrap p0.p)).toNat (0 : Int)) : Option (List Int)).bind fun s9 => (spec_l04Matching_l1 k p0 r1 k (w64 ((bShl .i64 1 (IntKind.u64.wrap p0.p)) - 1)) 0 ([] : List (List Int)) s9 : Option (List (List Int))).bind fun s37 => some s37 else none) else none) else none)
set_option maxRecDepth 100000 in
theorem spec_l04Matching_ac (k : Nat) (p0 : Col) (p1 : Int) (r : List (List Int)) (h : spec_l04Matching k p0 p1 = some r) : AC Try.prog 43 [.d (.agg (colD p0)), iV p1] [] (fun res H' => res = [.vec 0 0] ∧ H' = [.vec 0 (rowsD r)]) := by
 refine AC_of_body true Try.func43 rfl Try.ntmps43 (rvs := [.tmp 4]) rfl rfl (fun G hG => ?_)
 have hm : G.H.length = 0 := by rw [hG]; rfl
 have hz : zeroG G.H = true := by rw [hG]; rfl
 unfold spec_l04Matching at h
 refine kR ?_
 refine AOps_boxI 2 _ _ (.agg (colD p0)) (colD p0) rfl (colD_one _) rfl rfl rfl rfl rfl ?_
 refine kN 1 rfl ?_
 obtain ⟨r1, hr1, h⟩ := bindO h
 obtain ⟨hc2, h⟩ := guardO h
 refine ACode_seq (ACode_reg [(2, .d (.pv (colD p0) 0)), (5, .vec 0 0), (6, iV (w64 ((bShl .i64 1 (IntKind.u64.wrap p0.p)) - 1))), (7, .vec 1 0)] [.vec 0 (intsD r1), .vec 0 (rowsD ([] : List (List Int)))] ?_ ?_)
 ·refine ACode_anyU mixed ?_
  refine AU_cut 2 #[true, true, true, true, true, true, true, true, false, true, true, false] [(2, .d (.pv (colD p0) 0)), (5, .vec 0 0), (6, iV (w64 ((bShl .i64 1 (IntKind.u64.wrap p0.p)) - 1)))] [.vec 0 (intsD r1)] ?_ (fun hS0 => ?_)
  ·refine AU_one 8 (by kernel_rfl) rfl rfl ?_
   refine AOps_buildSlice 22 _ _ _ [] (rowsD ([] : List (List Int))) _ rfl rfl rfl rfl rfl (by decide) Try.underlying45 Try.sizeOf34 (zero_of Try.typeInfo34 rfl) rfl rfl (rowsD_one _) ?_
   refine AOps_nil ?_
   refine AU_u 11 7 _ rfl (by kernel_rfl) rfl rfl rfl (UOp_assign _ _ rfl rfl) ?_
   refine AU_done (by kernel_rfl) ?_
   exact ⟨rfl, Weak_keep 0 hm [2, 5, 6, 7] [0, 1] _ _ rfl rfl rfl⟩
  refine AU_cut 4 #[true, true, false, true, true, true, true, true, true, false, false, false] [(2, .d (.pv (colD p0) 0)), (14, .d (.agg (colD p0))), (15, iV p1), (21, iV (w64 ((bShl .i64 1 (IntKind.u64.wrap p0.p)) - 1))), (22, .vec 0 0)] [.vec 0 (rowsD ([] : List (List Int)))] ?_ (fun hS1 => ?_)
  ·refine AU_one 2 (by kernel_rfl) rfl rfl ?_
   refine kC [] 16 (.vec 1 0) [.vec 0 (rowsD ([] : List (List Int))), .vec 0 (intsD r1)] rfl Try.call80 rfl rfl (spec_l02Rows_ac k p0 p1 _ hr1) rfl ?_
   refine AOps_nil ?_
   refine AU_u 9 5 _ rfl (by kernel_rfl) rfl rfl rfl (UOp_assign _ _ rfl rfl) ?_
   refine AU_u 10 6 _ rfl (by kernel_rfl) rfl rfl rfl (UOp_assign _ _ rfl rfl) ?_
   refine AU_u 11 7 _ rfl (by kernel_rfl) rfl rfl rfl (UOp_assign _ _ rfl rfl) ?_
   refine AU_done (by kernel_rfl) ?_
   exact ⟨rfl, Weak_keep 0 hm [2, 5, 6, 7] [1, 0] _ _ rfl rfl rfl⟩
  refine AU_cut 5 #[true, true, false, true, true, true, true, true, false, false, false, false] [(2, .d (.pv (colD p0) 0)), (14, .d (.agg (colD p0))), (15, iV p1), (21, iV (w64 ((bShl .i64 1 (IntKind.u64.wrap p0.p)) - 1)))] [] ?_ (fun hS2 => ?_)
  ·refine AU_all [2, 8] (by kernel_rfl) rfl (allc ?_ (allc ?_ (fun _ h => nomatch h)))
   ·refine US_of 2 rfl rfl ?_
    refine kC [] 16 (.vec 0 0) [.vec 0 (intsD r1)] rfl Try.call80 rfl rfl (spec_l02Rows_ac k p0 p1 _ hr1) rfl ?_
    refine AOps_nil ?_
    refine AU_u 9 5 _ rfl (by kernel_rfl) rfl rfl rfl (UOp_assign _ _ rfl rfl) ?_
    refine AU_u 10 6 _ rfl (by kernel_rfl) rfl rfl rfl (UOp_assign _ _ rfl rfl) ?_
    exact AU_to (by kernel_rfl) hS0 (Weak_keep 0 hm [2, 5, 6] [0] _ _ rfl rfl rfl)
   refine US_of 8 rfl rfl ?_
   refine AOps_buildSlice 22 _ _ _ [] (rowsD ([] : List (List Int))) _ rfl rfl rfl rfl rfl (by decide) Try.underlying45 Try.sizeOf34 (zero_of Try.typeInfo34 rfl) rfl rfl (rowsD_one _) ?_
   refine AOps_nil ?_
   exact AU_to (by kernel_rfl) hS1 (Weak_keep 0 hm [2, 14, 15, 21, 22] [0] _ _ rfl rfl rfl)
  refine AU_cut 5 #[false, true, false, true, true, true, true, true, true, false, false, false] [(2, .d (.pv (colD p0) 0)), (15, iV p1), (21, iV (w64 ((bShl .i64 1 (IntKind.u64.wrap p0.p)) - 1))), (22, .vec 0 0)] [.vec 0 (rowsD ([] : List (List Int)))] ?_ (fun hS3 => ?_)
  ·refine AU_one 0 (by kernel_rfl) rfl rfl ?_
   refine AOps_q 14 _ rfl rfl rfl (QOp_loadN_pv _ _ _ _ _ _ rfl Try.isAgg27 Try.sizeOf27 rfl (colD_all _) (colD_length _)) ?_
   refine AOps_nil ?_
   exact AU_to (by kernel_rfl) hS1 (Weak_keep 0 hm [2, 14, 15, 21, 22] [0] _ _ rfl rfl rfl)
  refine AU_cut 6 #[true, true, true, true, false, false, false, false, true, true, false, false] [(2, .d (.pv (colD p0) 0)), (5, .vec 0 0), (17, .d (.pv (colD p0) 0)), (22, .vec 1 0)] [.vec 0 (intsD r1), .vec 0 (rowsD ([] : List (List Int)))] ?_ (fun hS4 => ?_)
  ·refine AU_one 4 (by kernel_rfl) rfl rfl ?_
   refine AOps_q 18 _ rfl rfl rfl (QOp_load_pv _ _ _ _ _ rfl Try.isAgg2 rfl rfl) ?_
   refine AOps_nil ?_
   refine AU_u 5 19 _ rfl (by kernel_rfl) rfl rfl rfl (UOp_conv _ _ _ _ _ _ rfl rfl Try.underlying93 rfl) ?_
   refine AU_u 6 20 _ rfl (by kernel_rfl) rfl rfl rfl (UOp_shl _ _ _ _ _ _ _ _ hc2 rfl rfl rfl) ?_
   refine AU_u 7 21 _ rfl (by kernel_rfl) rfl rfl rfl (UOp_sub _ _ _ _ _ _ _ rfl rfl rfl) ?_
   refine AU_u 10 6 _ rfl (by kernel_rfl) rfl rfl rfl (UOp_assign _ _ rfl rfl) ?_
   refine AU_u 11 7 _ rfl (by kernel_rfl) rfl rfl rfl (UOp_assign _ _ rfl rfl) ?_
   refine AU_done (by kernel_rfl) ?_
   exact ⟨rfl, Weak_keep 0 hm [2, 5, 6, 7] [0, 1] _ _ rfl rfl rfl⟩
  refine AU_cut 8 #[true, true, false, true, false, false, false, false, true, false, false, false] [(2, .d (.pv (colD p0) 0)), (14, .d (.agg (colD p0))), (15, iV p1), (17, .d (.pv (colD p0) 0)), (22, .vec 0 0)] [.vec 0 (rowsD ([] : List (List Int)))] ?_ (fun hS5 => ?_)
  ·refine AU_all [2, 4] (by kernel_rfl) rfl (allc ?_ (allc ?_ (fun _ h => nomatch h)))
   ·refine US_of 2 rfl rfl ?_
    refine kC [] 16 (.vec 1 0) [.vec 0 (rowsD ([] : List (List Int))), .vec 0 (intsD r1)] rfl Try.call80 rfl rfl (spec_l02Rows_ac k p0 p1 _ hr1) rfl ?_
    refine AOps_nil ?_
    refine AU_u 9 5 _ rfl (by kernel_rfl) rfl rfl rfl (UOp_assign _ _ rfl rfl) ?_
    exact AU_to (by kernel_rfl) hS4 (Weak_keep 0 hm [2, 5, 17, 22] [1, 0] _ _ rfl rfl rfl)
   refine US_of 4 rfl rfl ?_
   refine AOps_q 18 _ rfl rfl rfl (QOp_load_pv _ _ _ _ _ rfl Try.isAgg2 rfl rfl) ?_
   refine AOps_nil ?_
   refine AU_u 5 19 _ rfl (by kernel_rfl) rfl rfl rfl (UOp_conv _ _ _ _ _ _ rfl rfl Try.underlying93 rfl) ?_
   refine AU_u 6 20 _ rfl (by kernel_rfl) rfl rfl rfl (UOp_shl _ _ _ _ _ _ _ _ hc2 rfl rfl rfl) ?_
   refine AU_u 7 21 _ rfl (by kernel_rfl) rfl rfl rfl (UOp_sub _ _ _ _ _ _ _ rfl rfl rfl) ?_
   exact AU_to (by kernel_rfl) hS1 (Weak_keep 0 hm [2, 14, 15, 21, 22] [0] _ _ rfl rfl rfl)
  refine AU_u 1 15 _ rfl (by kernel_rfl) rfl rfl rfl (UOp_move _ _ rfl rfl) ?_
  refine AU_u 3 17 _ rfl (by kernel_rfl) rfl rfl rfl (UOp_fieldAddr_pv _ _ _ _ _ 0 _ _ rfl Try.underlying27 rfl _ Try.sizeOf2 rfl rfl) ?_
  refine AU_all [0, 4, 8] (by kernel_rfl) rfl (allc ?_ (allc ?_ (allc ?_ (fun _ h => nomatch h))))
  ·refine US_of 0 rfl rfl ?_
   refine AOps_q 14 _ rfl rfl rfl (QOp_loadN_pv _ _ _ _ _ _ rfl Try.isAgg27 Try.sizeOf27 rfl (colD_all _) (colD_length _)) ?_
   refine AOps_nil ?_
   refine AU_all [2, 4, 8] (by kernel_rfl) rfl (allc ?_ (allc ?_ (allc ?_ (fun _ h => nomatch h))))
   ·refine US_of 2 rfl rfl ?_
    refine kC [] 16 (.vec 0 0) [.vec 0 (intsD r1)] rfl Try.call80 rfl rfl (spec_l02Rows_ac k p0 p1 _ hr1) rfl ?_
    refine AOps_nil ?_
    refine AU_u 9 5 _ rfl (by kernel_rfl) rfl rfl rfl (UOp_assign _ _ rfl rfl) ?_
    refine AU_all [4, 8] (by kernel_rfl) rfl (allc ?_ (allc ?_ (fun _ h => nomatch h)))
    ·refine US_of 4 rfl rfl ?_
     refine AOps_q 18 _ rfl rfl rfl (QOp_load_pv _ _ _ _ _ rfl Try.isAgg2 rfl rfl) ?_
     refine AOps_nil ?_
     refine AU_u 5 19 _ rfl (by kernel_rfl) rfl rfl rfl (UOp_conv _ _ _ _ _ _ rfl rfl Try.underlying93 rfl) ?_
     refine AU_u 6 20 _ rfl (by kernel_rfl) rfl rfl rfl (UOp_shl _ _ _ _ _ _ _ _ hc2 rfl rfl rfl) ?_
     refine AU_u 7 21 _ rfl (by kernel_rfl) rfl rfl rfl (UOp_sub _ _ _ _ _ _ _ rfl rfl rfl) ?_
     refine AU_u 10 6 _ rfl (by kernel_rfl) rfl rfl rfl (UOp_assign _ _ rfl rfl) ?_
     exact AU_to (by kernel_rfl) hS0 (Weak_keep 0 hm [2, 5, 6] [0] _ _ rfl rfl rfl)
    refine US_of 8 rfl rfl ?_
    refine AOps_buildSlice 22 _ _ _ [] (rowsD ([] : List (List Int))) _ rfl rfl rfl rfl rfl (by decide) Try.underlying45 Try.sizeOf34 (zero_of Try.typeInfo34 rfl) rfl rfl (rowsD_one _) ?_
    refine AOps_nil ?_
    exact AU_to (by kernel_rfl) hS4 (Weak_keep 0 hm [2, 5, 17, 22] [0, 1] _ _ rfl rfl rfl)
   ·refine US_of 4 rfl rfl ?_
    refine AOps_q 18 _ rfl rfl rfl (QOp_load_pv _ _ _ _ _ rfl Try.isAgg2 rfl rfl) ?_
    refine AOps_nil ?_
    refine AU_u 5 19 _ rfl (by kernel_rfl) rfl rfl rfl (UOp_conv _ _ _ _ _ _ rfl rfl Try.underlying93 rfl) ?_
    refine AU_u 6 20 _ rfl (by kernel_rfl) rfl rfl rfl (UOp_shl _ _ _ _ _ _ _ _ hc2 rfl rfl rfl) ?_
    refine AU_u 7 21 _ rfl (by kernel_rfl) rfl rfl rfl (UOp_sub _ _ _ _ _ _ _ rfl rfl rfl) ?_
    exact AU_to (by kernel_rfl) hS2 (Weak_keep 0 hm [2, 14, 15, 21] [] _ _ rfl rfl rfl)
   refine US_of 8 rfl rfl ?_
   refine AOps_buildSlice 22 _ _ _ [] (rowsD ([] : List (List Int))) _ rfl rfl rfl rfl rfl (by decide) Try.underlying45 Try.sizeOf34 (zero_of Try.typeInfo34 rfl) rfl rfl (rowsD_one _) ?_
   refine AOps_nil ?_
   exact AU_to (by kernel_rfl) hS5 (Weak_keep 0 hm [2, 14, 15, 17, 22] [0] _ _ rfl rfl rfl)
  ·refine US_of 4 rfl rfl ?_
   refine AOps_q 18 _ rfl rfl rfl (QOp_load_pv _ _ _ _ _ rfl Try.isAgg2 rfl rfl) ?_
   refine AOps_nil ?_
   refine AU_u 5 19 _ rfl (by kernel_rfl) rfl rfl rfl (UOp_conv _ _ _ _ _ _ rfl rfl Try.underlying93 rfl) ?_
   refine AU_u 6 20 _ rfl (by kernel_rfl) rfl rfl rfl (UOp_shl _ _ _ _ _ _ _ _ hc2 rfl rfl rfl) ?_
   refine AU_u 7 21 _ rfl (by kernel_rfl) rfl rfl rfl (UOp_sub _ _ _ _ _ _ _ rfl rfl rfl) ?_
   refine AU_all [0, 8] (by kernel_rfl) rfl (allc ?_ (allc ?_ (fun _ h => nomatch h)))
   ·refine US_of 0 rfl rfl ?_
    refine AOps_q 14 _ rfl rfl rfl (QOp_loadN_pv _ _ _ _ _ _ rfl Try.isAgg27 Try.sizeOf27 rfl (colD_all _) (colD_length _)) ?_
    refine AOps_nil ?_
    exact AU_to (by kernel_rfl) hS2 (Weak_keep 0 hm [2, 14, 15, 21] [] _ _ rfl rfl rfl)
   refine US_of 8 rfl rfl ?_
   refine AOps_buildSlice 22 _ _ _ [] (rowsD ([] : List (List Int))) _ rfl rfl rfl rfl rfl (by decide) Try.underlying45 Try.sizeOf34 (zero_of Try.typeInfo34 rfl) rfl rfl (rowsD_one _) ?_
   refine AOps_nil ?_
   exact AU_to (by kernel_rfl) hS3 (Weak_keep 0 hm [2, 15, 21, 22] [0] _ _ rfl rfl rfl)
  refine US_of 8 rfl rfl ?_
  refine AOps_buildSlice 22 _ _ _ [] (rowsD ([] : List (List Int))) _ rfl rfl rfl rfl rfl (by decide) Try.underlying45 Try.sizeOf34 (zero_of Try.typeInfo34 rfl) rfl rfl (rowsD_one _) ?_
  refine AOps_nil ?_
  refine AU_all [0, 4] (by kernel_rfl) rfl (allc ?_ (allc ?_ (fun _ h => nomatch h)))
  ·refine US_of 0 rfl rfl ?_
   refine AOps_q 14 _ rfl rfl rfl (QOp_loadN_pv _ _ _ _ _ _ rfl Try.isAgg27 Try.sizeOf27 rfl (colD_all _) (colD_length _)) ?_
   refine AOps_nil ?_
   exact AU_to (by kernel_rfl) hS5 (Weak_keep 0 hm [2, 14, 15, 17, 22] [0] _ _ rfl rfl rfl)
  refine US_of 4 rfl rfl ?_
  refine AOps_q 18 _ rfl rfl rfl (QOp_load_pv _ _ _ _ _ rfl Try.isAgg2 rfl rfl) ?_
  refine AOps_nil ?_
  refine AU_u 5 19 _ rfl (by kernel_rfl) rfl rfl rfl (UOp_conv _ _ _ _ _ _ rfl rfl Try.underlying93 rfl) ?_
  refine AU_u 6 20 _ rfl (by kernel_rfl) rfl rfl rfl (UOp_shl _ _ _ _ _ _ _ _ hc2 rfl rfl rfl) ?_
  refine AU_u 7 21 _ rfl (by kernel_rfl) rfl rfl rfl (UOp_sub _ _ _ _ _ _ _ rfl rfl rfl) ?_
  exact AU_to (by kernel_rfl) hS3 (Weak_keep 0 hm [2, 15, 21, 22] [0] _ _ rfl rfl rfl)
 refine kR ?_
 refine AOps_q 23 _ rfl rfl rfl (QOp_fieldAddr_pv _ _ _ _ _ 0 _ _ rfl Try.underlying27 rfl _ Try.sizeOf2 rfl rfl) ?_
 refine AOps_q 24 _ rfl rfl rfl (QOp_load_pv _ _ _ _ _ rfl Try.isAgg2 rfl rfl) ?_
 refine AOps_q 25 _ rfl rfl rfl (QOp_conv _ _ _ _ _ _ rfl rfl Try.underlying93 rfl) ?_
 obtain ⟨hc3, h⟩ := guardO h
 refine AOps_q 26 _ rfl rfl rfl (QOp_shl _ _ _ _ _ _ _ _ hc3 rfl rfl rfl) ?_
 obtain ⟨hc4, h⟩ := guardO h
 refine AOps_makeSliceG intsD iD 0 (intsD_rep · _) 27 _ _ _ _ _ _ (bShl .i64 1 (IntKind.u64.wrap p0.p)) (bShl .i64 1 (IntKind.u64.wrap p0.p)) _ (.int .i64 0) rfl rfl rfl rfl rfl rfl Try.underlying34 Try.type2 rfl rfl (by decide) rfl rfl hc4.1 hc4.2.1 hc4.2.2 ?_
 refine kN 1 rfl ?_
 refine kB (fun s9 => [(2, .d (.pv (colD p0) 0)), (5, .vec 0 0), (6, iV (w64 ((bShl .i64 1 (IntKind.u64.wrap p0.p)) - 1))), (7, .vec 1 0), (8, .vec 2 0)]) (fun s9 => [.vec 0 (intsD r1), .vec 0 (rowsD ([] : List (List Int))), .vec 0 (intsD s9)]) h (fun s9 h => ?_) (fun s9 h => ?_)
 ·refine kR ?_
  refine kN 1 rfl ?_
  refine ACode_block ?_
  refine ACode_loopW (fun k0 E H => ∃ (x5 : Int) (x6 : List Int), E = [(2, .d (.pv (colD p0) 0)), (5, .vec 0 0), (6, iV (w64 ((bShl .i64 1 (IntKind.u64.wrap p0.p)) - 1))), (7, .vec 1 0), (8, .vec 2 0), (9, iV x5)] ∧ H = [.vec 0 (intsD r1), .vec 0 (rowsD ([] : List (List Int))), .vec 0 (intsD x6)] ∧ spec_l04Matching_l0 k0 x5 x6 = some s9) k _ _ (Weak_keep 0 hm [2, 5, 6, 7, 8, 9] [0, 1, 2] _ _ rfl rfl rfl) ⟨_, _, rfl, rfl, h⟩ ?_
  clear h
  rintro k0 E H ⟨x5, x6, rfl, rfl, h⟩
  cases k0 with
  | zero => cases (show (none : Option (List Int)) = some _ from h)
  | succ k0 =>
   rw [spec_l04Matching_l0] at h
   refine ACode_seq ?_
   refine kR ?_
   refine kM 2 rfl ?_
   refine AOps_q 30 _ rfl rfl rfl (QOp_len_vec _ _ _ _ _ _ _ _ (intsD_length _) rfl rfl rfl rfl Try.underlying34 rfl rfl) ?_
   refine AOps_q 31 _ rfl rfl rfl (QOp_lss _ _ _ _ _ _ _ rfl rfl rfl) ?_
   refine AOps_nil ?_
   refine kI h rfl (fun h _ => ?_) (fun h _ => ?_)
   ·refine ACode_skip ?_
    refine ACode_seq ?_
    refine ACode_block ?_
    refine (ACode_region ?_)
    refine kM 2 rfl ?_
    obtain ⟨hc8, h⟩ := guardO h
    refine AOps_q 36 _ rfl rfl rfl (QOp_indexAddr_vec _ _ _ _ _ _ _ _ _ rfl Try.underlying34 Try.sizeOf2 hc8.1 (by rw [intsD_length]; exact hc8.2) rfl rfl rfl) ?_
    refine AOps_store_eptr _ _ _ _ _ _ (intsD x6) _ rfl rfl rfl rfl rfl rfl rfl Try.sizeOf2 (by rw [intsD_length]; omega) ?_
    rw [intsD_set]
    refine AOps_nil ?_
    refine (ACode_region ?_)
    refine kM 1 rfl ?_
    refine AOps_q 33 _ rfl rfl rfl (QOp_add _ _ _ _ _ _ _ rfl rfl rfl) ?_
    refine kN 1 rfl ?_
    exact ⟨k0, _, _, Nat.lt_succ_self _, Weak_keep 0 hm [2, 5, 6, 7, 8, 9] [0, 1, 2] _ _ rfl rfl rfl, _, _, rfl, rfl, h⟩
   refine ACode_exit ?_
   cases h
   exact Weak_keep 0 hm [2, 5, 6, 7, 8] [0, 1, 2] _ _ rfl rfl rfl
 refine kB (fun s37 => [(7, .vec 0 0)]) (fun s37 => [.vec 0 (rowsD s37)]) h (fun s37 h => ?_) (fun s37 h => ?_)
 ·refine kR ?_
  refine kN 1 rfl ?_
  refine ACode_block ?_
  refine ACode_loopW (fun k1 E H => ∃ (x10 : Int) (x11 : Int) (x12 : List (List Int)) (x13 : List Int), E = [(2, .d (.pv (colD p0) 0)), (5, .vec 0 0), (6, iV x10), (7, .vec 1 0), (8, .vec 2 0), (10, iV x11)] ∧ H = [.vec 0 (intsD r1), .vec 0 (rowsD x12), .vec 0 (intsD x13)] ∧ spec_l04Matching_l1 k p0 r1 k1 x10 x11 x12 x13 = some s37) k _ _ (Weak_keep 0 hm [2, 5, 6, 7, 8, 10] [0, 1, 2] _ _ rfl rfl rfl) ⟨_, _, _, _, rfl, rfl, h⟩ ?_
  clear h
  rintro k1 E H ⟨x10, x11, x12, x13, rfl, rfl, h⟩
  cases k1 with
  | zero => cases (show (none : Option (List (List Int))) = some _ from h)
  | succ k1 =>
   rw [spec_l04Matching_l1] at h
   refine ACode_seq ?_
   refine kR ?_
   refine kM 1 rfl ?_
   refine AOps_q 38 _ rfl rfl rfl (QOp_fieldAddr_pv _ _ _ _ _ 0 _ _ rfl Try.underlying27 rfl _ Try.sizeOf2 rfl rfl) ?_
   refine AOps_q 39 _ rfl rfl rfl (QOp_load_pv _ _ _ _ _ rfl Try.isAgg2 rfl rfl) ?_
   refine AOps_q 40 _ rfl rfl rfl (QOp_lss _ _ _ _ _ _ _ rfl rfl rfl) ?_
   refine AOps_nil ?_
   refine kI h rfl (fun h _ => ?_) (fun h _ => ?_)
   ·refine ACode_skip ?_
    refine kB (fun s36 => [(2, .d (.pv (colD p0) 0)), (5, .vec 0 0), (6, iV s36.1), (7, .vec 1 0), (8, .vec 2 0), (10, iV x11)]) (fun s36 => [.vec 0 (intsD r1), .vec 0 (rowsD s36.2.1), .vec 0 (intsD s36.2.2)]) h (fun s36 h => ?_) (fun s36 h => ?_)
    ·refine ACode_block ?_
     refine kR ?_
     refine kM 1 rfl ?_
     refine AOps_q 44 _ rfl rfl rfl (QOp_conv _ _ _ _ _ _ rfl rfl Try.underlying93 rfl) ?_
     obtain ⟨hc15, h⟩ := guardO h
     refine AOps_q 45 _ rfl rfl rfl (QOp_shl _ _ _ _ _ _ _ _ hc15 rfl rfl rfl) ?_
     refine kN 1 rfl ?_
     refine ACode_seq ?_
     refine kR ?_
     refine kM 2 rfl ?_
     refine AOps_q 48 _ rfl rfl rfl (QOp_and _ _ _ _ _ _ _ rfl rfl rfl) ?_
     refine AOps_q 49 _ rfl rfl rfl (QOp_eql _ _ _ _ _ _ _ rfl rfl rfl) ?_
     refine AOps_nil ?_
     refine kI h rfl (fun h _ => ?_) (fun h _ => ?_)
     ·refine ACode_exit ?_
      cases h
      exact Weak_keep 0 hm [2, 5, 6, 7, 8, 10] [0, 1, 2] _ _ rfl rfl rfl
     refine ACode_skip ?_
     refine kR ?_
     refine kM 2 rfl ?_
     refine AOps_q 52 _ rfl rfl rfl (QOp_xor _ _ _ _ _ _ _ rfl rfl rfl) ?_
     refine kN 1 rfl ?_
     refine kB (fun s35 => [(2, .d (.pv (colD p0) 0)), (5, .vec 0 0), (7, .vec 1 0), (8, .vec 2 0), (10, iV x11), (12, iV s35.1)]) (fun s35 => [.vec 0 (intsD r1), .vec 0 (rowsD s35.2.1), .vec 0 (intsD s35.2.2)]) h (fun s35 h => ?_) (fun s35 h => ?_)
     ·refine kR ?_
      refine kM 1 rfl ?_
      refine AOps_q 54 _ rfl rfl rfl (QOp_add _ _ _ _ _ _ _ rfl rfl rfl) ?_
      refine kN 1 rfl ?_
      refine ACode_block ?_
      refine ACode_loopW (fun k2 E H => ∃ (x17 : Int) (x18 : Int) (x19 : List (List Int)) (x20 : List Int), E = [(2, .d (.pv (colD p0) 0)), (5, .vec 0 0), (6, iV x10), (7, .vec 1 0), (8, .vec 2 0), (10, iV x11), (12, iV x17), (13, iV x18)] ∧ H = [.vec 0 (intsD r1), .vec 0 (rowsD x19), .vec 0 (intsD x20)] ∧ spec_l04Matching_l2 k p0 r1 x10 x11 k2 x17 x18 x19 x20 = some s35) k _ _ (Weak_keep 0 hm [2, 5, 6, 7, 8, 10, 12, 13] [0, 1, 2] _ _ rfl rfl rfl) ⟨_, _, _, _, rfl, rfl, h⟩ ?_
      clear h
      rintro k2 E H ⟨x17, x18, x19, x20, rfl, rfl, h⟩
      cases k2 with
      | zero => cases (show (none : Option (Int × List (List Int) × List Int)) = some _ from h)
      | succ k2 =>
       rw [spec_l04Matching_l2] at h
       refine ACode_seq ?_
       refine kR ?_
       refine kM 1 rfl ?_
       refine AOps_q 56 _ rfl rfl rfl (QOp_fieldAddr_pv _ _ _ _ _ 0 _ _ rfl Try.underlying27 rfl _ Try.sizeOf2 rfl rfl) ?_
       refine AOps_q 57 _ rfl rfl rfl (QOp_load_pv _ _ _ _ _ rfl Try.isAgg2 rfl rfl) ?_
       refine AOps_q 58 _ rfl rfl rfl (QOp_lss _ _ _ _ _ _ _ rfl rfl rfl) ?_
       refine AOps_nil ?_
       refine kI h rfl (fun h _ => ?_) (fun h _ => ?_)
       ·refine ACode_skip ?_
        refine kO (fun s34 => [(2, .d (.pv (colD p0) 0)), (5, .vec 0 0), (6, iV x10), (7, .vec 1 0), (8, .vec 2 0), (10, iV x11), (12, iV x17), (13, iV x18)]) (fun s34 => [.vec 0 (intsD r1), .vec 0 (rowsD x19), .vec 0 (intsD s34)]) h (fun os34 h hks34 => ?_) (fun s34 h => ?_)
        ·refine ACode_block ?_
         refine kB (fun s30 => [(2, .d (.pv (colD p0) 0)), (5, .vec 0 0), (6, iV x10), (7, .vec 1 0), (8, .vec 2 0), (10, iV x11), (12, iV x17), (13, iV x18), (93, bV s30.1)]) (fun s30 => [.vec 0 (intsD r1), .vec 0 (rowsD x19), .vec 0 (intsD s30.2)]) h (fun s30 h => ?_) (fun s30 h => ?_)
         ·refine (ACode_region ?_)
          refine kM 2 rfl ?_
          refine AOps_q 63 _ rfl rfl rfl (QOp_conv _ _ _ _ _ _ rfl rfl Try.underlying93 rfl) ?_
          obtain ⟨hc22, h⟩ := guardO h
          refine AOps_q 64 _ rfl rfl rfl (QOp_shr _ _ _ _ _ _ _ _ hc22 rfl rfl rfl) ?_
          refine AOps_q 65 _ rfl rfl rfl (QOp_and _ _ _ _ _ _ _ rfl rfl rfl) ?_
          refine AOps_q 66 _ rfl rfl rfl (QOp_eql _ _ _ _ _ _ _ rfl rfl rfl) ?_
          refine kM 1 rfl ?_
          refine AOps_case 67 _ rfl (fun hb23 => ?_) (fun hb23 => ?_)
          ·have h := iteT hb23 h
           refine kM 2 rfl ?_
           obtain ⟨hc24, h⟩ := guardO h
           refine AOps_q 70 _ rfl rfl rfl (QOp_indexAddr_vec _ _ _ _ _ _ _ _ _ rfl Try.underlying34 Try.sizeOf2 hc24.1 (by rw [intsD_length]; exact hc24.2) rfl rfl rfl) ?_
           refine AOps_q 71 _ rfl rfl rfl (QOp_load_eptr _ _ _ _ _ _ _ rfl Try.isAgg2 rfl rfl (intsD_get _ _ 0 (by omega))) ?_
           refine kM 1 rfl ?_
           refine AOps_q 73 _ rfl rfl rfl (QOp_conv _ _ _ _ _ _ rfl rfl Try.underlying93 rfl) ?_
           obtain ⟨hc25, h⟩ := guardO h
           refine AOps_q 74 _ rfl rfl rfl (QOp_shr _ _ _ _ _ _ _ _ hc25 rfl rfl rfl) ?_
           refine AOps_q 75 _ rfl rfl rfl (QOp_and _ _ _ _ _ _ _ rfl rfl rfl) ?_
           refine AOps_q 76 _ rfl rfl rfl (QOp_eql _ _ _ _ _ _ _ rfl rfl rfl) ?_
           refine kM 2 rfl ?_
           refine AOps_case 78 _ rfl (fun hb26 => ?_) (fun hb26 => ?_)
           ·have h := iteT hb26 h
            refine kM 4 rfl ?_
            refine AOps_q 83 _ rfl rfl rfl (QOp_conv _ _ _ _ _ _ rfl rfl Try.underlying93 rfl) ?_
            obtain ⟨hc27, h⟩ := guardO h
            refine AOps_q 84 _ rfl rfl rfl (QOp_shl _ _ _ _ _ _ _ _ hc27 rfl rfl rfl) ?_
            refine AOps_q 85 _ rfl rfl rfl (QOp_xor _ _ _ _ _ _ _ rfl rfl rfl) ?_
            obtain ⟨r28, hr28, h⟩ := bindO h
            refine AOps_callL [2] 86 _ _ _ _ _ _ _ _ _ _ rfl rfl rfl rfl rfl rfl rfl Try.call84 rfl (nodupB_sound _ rfl) rfl rfl rfl (spec_l04Match_ac k r1 x20 (bXor .i64 x17 (bShl .i64 1 (IntKind.u64.wrap x18))) _ hr28) ?_
            rintro _ _ ⟨rfl, rfl⟩
            refine ⟨(allc (intsD_flat _) (fun _ h => nomatch h)), (allc (flat_s _) (fun _ h => nomatch h)), AOps_as 86 (v' := iV r28.1) (H' := [.vec 0 (intsD r1), .vec 0 (rowsD x19), .vec 0 (intsD r28.2)]) rfl rfl ?_⟩
            refine AOps_q 87 _ rfl rfl rfl (QOp_add _ _ _ _ _ _ _ rfl rfl rfl) ?_
            refine kM 3 rfl ?_
            obtain ⟨r29, hr29, h⟩ := bindO h
            refine AOps_callL [2] 91 _ _ _ _ _ _ _ _ _ _ rfl rfl rfl rfl rfl rfl rfl Try.call84 rfl (nodupB_sound _ rfl) rfl rfl rfl (spec_l04Match_ac k r1 r28.2 x10 _ hr29) ?_
            rintro _ _ ⟨rfl, rfl⟩
            refine ⟨(allc (intsD_flat _) (fun _ h => nomatch h)), (allc (flat_s _) (fun _ h => nomatch h)), AOps_as 91 (v' := iV r29.1) (H' := [.vec 0 (intsD r1), .vec 0 (rowsD x19), .vec 0 (intsD r29.2)]) rfl rfl ?_⟩
            refine AOps_q 92 _ rfl rfl rfl (QOp_eql _ _ _ _ _ _ _ rfl rfl rfl) ?_
            refine kN 1 rfl ?_
            cases h
            exact Weak_keep 0 hm [2, 5, 6, 7, 8, 10, 12, 13, 93] [0, 1, 2] _ _ rfl rfl rfl
           have h := iteF hb26 h
           refine AOps_skip 79 rfl rfl rfl ?_
           refine AOps_skip 80 rfl rfl rfl ?_
           refine AOps_skip 81 rfl rfl rfl ?_
           refine AOps_skip 82 rfl rfl rfl ?_
           refine AOps_skip 83 rfl rfl rfl ?_
           refine AOps_skip 84 rfl rfl rfl ?_
           refine AOps_skip 85 rfl rfl rfl ?_
           refine AOps_skip 86 rfl rfl rfl ?_
           refine AOps_skip 87 rfl rfl rfl ?_
           refine AOps_skip 88 rfl rfl rfl ?_
           refine AOps_skip 89 rfl rfl rfl ?_
           refine AOps_skip 90 rfl rfl rfl ?_
           refine AOps_skip 91 rfl rfl rfl ?_
           refine AOps_skip 92 rfl rfl rfl ?_
           refine kN 1 rfl ?_
           cases h
           exact Weak_keep 0 hm [2, 5, 6, 7, 8, 10, 12, 13, 93] [0, 1, 2] _ _ rfl rfl rfl
          have h := iteF hb23 h
          refine AOps_skip 68 rfl rfl rfl ?_
          refine AOps_skip 69 rfl rfl rfl ?_
          refine AOps_skip 70 rfl rfl rfl ?_
          refine AOps_skip 71 rfl rfl rfl ?_
          refine AOps_skip 72 rfl rfl rfl ?_
          refine AOps_skip 73 rfl rfl rfl ?_
          refine AOps_skip 74 rfl rfl rfl ?_
          refine AOps_skip 75 rfl rfl rfl ?_
          refine AOps_skip 76 rfl rfl rfl ?_
          refine kM 2 rfl ?_
          refine AOps_skip 79 rfl rfl rfl ?_
          refine AOps_skip 80 rfl rfl rfl ?_
          refine AOps_skip 81 rfl rfl rfl ?_
          refine AOps_skip 82 rfl rfl rfl ?_
          refine AOps_skip 83 rfl rfl rfl ?_
          refine AOps_skip 84 rfl rfl rfl ?_
          refine AOps_skip 85 rfl rfl rfl ?_
          refine AOps_skip 86 rfl rfl rfl ?_
          refine AOps_skip 87 rfl rfl rfl ?_
          refine AOps_skip 88 rfl rfl rfl ?_
          refine AOps_skip 89 rfl rfl rfl ?_
          refine AOps_skip 90 rfl rfl rfl ?_
          refine AOps_skip 91 rfl rfl rfl ?_
          refine AOps_skip 92 rfl rfl rfl ?_
          refine kN 1 rfl ?_
          cases h
          exact Weak_keep 0 hm [2, 5, 6, 7, 8, 10, 12, 13, 93] [0, 1, 2] _ _ rfl rfl rfl
         refine kI h rfl (fun h _ => ?_) (fun h _ => ?_)
         ·refine kR ?_
          refine kM 3 rfl ?_
          refine AOps_buildSlice 97 _ _ _ [_, _] (intsD ([x11, x18])) _ rfl rfl rfl rfl rfl (by decide) Try.underlying34 Try.sizeOf2 (zero_of Try.typeInfo2 rfl) rfl rfl (intsD_one _) ?_
          refine AOps_freeze 97 3 0 _ rfl rfl ?_
          refine AOps_buildSlice 98 _ _ _ [_] (rowsD ([[x11, x18]])) _ rfl rfl rfl rfl rfl (by decide) Try.underlying45 Try.sizeOf34 (zero_of Try.typeInfo34 rfl) rfl rfl (rowsD_one _) ?_
          obtain ⟨hc32, h⟩ := guardO h
          refine AOps_append 99 _ _ _ _ _ _ _ _ _ _ _ _ rfl rfl rfl rfl rfl rfl rfl Try.underlying45 Try.type34 rfl rfl rfl (by decide) rfl rfl rfl rfl (rowsD_one _) (by rw [rowsD_length, rowsD_length]; exact hc32) ?_
          rw [rowsD_app]
          refine kN 1 rfl ?_
          refine kR ?_
          refine kM 2 rfl ?_
          refine AOps_q 102 _ rfl rfl rfl (QOp_conv _ _ _ _ _ _ rfl rfl Try.underlying93 rfl) ?_
          obtain ⟨hc33, h⟩ := guardO h
          refine AOps_q 103 _ rfl rfl rfl (QOp_shl _ _ _ _ _ _ _ _ hc33 rfl rfl rfl) ?_
          refine AOps_q 104 _ rfl rfl rfl (QOp_xor _ _ _ _ _ _ _ rfl rfl rfl) ?_
          refine kN 1 rfl ?_
          refine ACode_exit ?_
          obtain ⟨rr, hz38, h2⟩ := bindO h
          obtain rfl := Option.some.inj h2
          obtain rfl := Option.some.inj (show some rr = some _ from hks34)
          have h := hz38
          cases h
          exact Weak_trans (Weak_keep 0 hm [2, 5, 7, 8, 10, 12] [0, 1, 2] _ _ rfl rfl rfl) (Weak_reset 0 hm hz [2, 5, 7, 8, 10, 12] _ _ rfl rfl)
         refine ACode_skip ?_
         cases h
         exact ⟨_, rfl, Weak_keep 0 hm [2, 5, 6, 7, 8, 10, 12, 13] [0, 1, 2] _ _ rfl rfl rfl⟩
        refine (ACode_region ?_)
        refine kM 1 rfl ?_
        refine AOps_q 60 _ rfl rfl rfl (QOp_add _ _ _ _ _ _ _ rfl rfl rfl) ?_
        refine kN 1 rfl ?_
        exact ⟨k2, _, _, Nat.lt_succ_self _, Weak_keep 0 hm [2, 5, 6, 7, 8, 10, 12, 13] [0, 1, 2] _ _ rfl rfl rfl, _, _, _, _, rfl, rfl, h⟩
       refine ACode_exit ?_
       cases h
       exact Weak_keep 0 hm [2, 5, 7, 8, 10, 12] [0, 1, 2] _ _ rfl rfl rfl
     refine (ACode_region ?_)
     refine kN 2 rfl ?_
     cases h
     exact Weak_keep 0 hm [2, 5, 6, 7, 8, 10] [0, 1, 2] _ _ rfl rfl rfl
    refine (ACode_region ?_)
    refine kM 1 rfl ?_
    refine AOps_q 42 _ rfl rfl rfl (QOp_add _ _ _ _ _ _ _ rfl rfl rfl) ?_
    refine kN 1 rfl ?_
    exact ⟨k1, _, _, Nat.lt_succ_self _, Weak_keep 0 hm [2, 5, 6, 7, 8, 10] [0, 1, 2] _ _ rfl rfl rfl, _, _, _, _, rfl, rfl, h⟩
   refine ACode_exit ?_
   cases h
   exact Weak_keep 0 hm [7] [1] _ _ rfl rfl rfl
 refine kR ?_
 refine kN 2 rfl ?_
 refine ACode_ret ?_
 cases h
 exact ⟨_, _, Weak_reset 0 hm hz [4] _ _ rfl rfl, _, _, [0], _, (.cons (ResV_tmp _ _ rfl) .nil), rfl, rfl, rfl, rfl, rfl⟩

end Go.Proofs.Ytghhnpdhehjlaaa
