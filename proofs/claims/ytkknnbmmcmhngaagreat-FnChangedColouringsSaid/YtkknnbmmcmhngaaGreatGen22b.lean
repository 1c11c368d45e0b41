/- Plain functions of the program and that the program computes them: printed by the own tool gen.py. No conditions. -/
import Derived.Test.YtkknnbmmcmhngaaGreatGen22a
set_option linter.unusedVariables false
set_option linter.unusedSimpArgs false
namespace Go.Proofs.YtkknnbmmcmhngaaGreat
open Go Go.RowKit Ab

-- (loop.example/g01362/impl.Colouring).grown
def impl_Colouring_grown_l0 (p0 : Col) (p1 : List Int) : Nat → Int → Col → Option (Col)
 | 0, _, _ => none
 | k0 + 1, x1, x2 => (if decide (x1 < (p1.length : Int)) then (if 0 ≤ x1 ∧ x1 < (p1.length : Int) then (impl_Colouring_put x2 x1 p0.p (p1.getD x1.toNat 0)).bind fun r5 => impl_Colouring_grown_l0 p0 p1 k0 (w64 (x1 + 1)) r5 else none) else some x2)
def impl_Colouring_grown (k : Nat) (p0 : Col) (p1 : List Int) : Option (Col) :=
 (impl_Colouring_grown_l0 p0 p1 k 0 (⟨w64 (p0.p + 1), p0.k, p0.e⟩ : Col) : Option (Col)).bind fun s6 => some s6
set_option maxRecDepth 100000 in
theorem impl_Colouring_grown_ac (k : Nat) (p0 : Col) (p1 : List Int) (r : Col) (h : impl_Colouring_grown k p0 p1 = some r) : AC Tryz.prog 72 [.d (.agg (colD p0)), .d (.sl none (intsD p1))] [] (fun res H' => res = [.d (.agg (colD r))] ∧ H' = []) := by
 refine AC_of_body true Tryz.func72 rfl Tryz.ntmps72 (rvs := [.cell 4 26]) rfl rfl (fun G hG => ?_)
 have hm : G.H.length = 0 := by rw [hG]; rfl
 have hz : zeroG G.H = true := by rw [hG]; rfl
 unfold impl_Colouring_grown at h
 refine kR ?_
 refine AOps_boxM 2 _ _ (.agg (colD p0)) (colD p0) rfl (colD_one _) rfl rfl rfl rfl rfl ?_
 refine AOps_alloc 4 _ _ (colD Col.zero) (zero_of Tryz.typeInfo26 rfl) (by rfl) rfl rfl rfl rfl ?_
 refine AOps_nil ?_
 refine kR ?_
 refine AOps_q 8 _ rfl rfl rfl (QOp_fieldAddr_ptr _ _ _ _ _ _ 0 _ _ rfl Tryz.underlying26 rfl _ Tryz.sizeOf2 rfl rfl rfl rfl) ?_
 refine AOps_q 9 _ rfl rfl rfl (QOp_load_ptr _ _ _ _ _ _ rfl Tryz.isAgg2 rfl rfl rfl) ?_
 refine kN 1 rfl ?_
 refine kR ?_
 refine AOps_q 10 _ rfl rfl rfl (QOp_fieldAddr_ptr _ _ _ _ _ _ 0 _ _ rfl Tryz.underlying26 rfl _ Tryz.sizeOf2 rfl rfl rfl rfl) ?_
 refine AOps_q 11 _ rfl rfl rfl (QOp_load_ptr _ _ _ _ _ _ rfl Tryz.isAgg2 rfl rfl rfl) ?_
 refine AOps_q 12 _ rfl rfl rfl (QOp_add _ _ _ _ _ _ _ rfl rfl rfl) ?_
 refine AOps_q 13 _ rfl rfl rfl (QOp_fieldAddr_ptr _ _ _ _ _ _ 0 _ _ rfl Tryz.underlying26 rfl _ Tryz.sizeOf2 rfl rfl rfl rfl) ?_
 refine AOps_store1 _ _ _ _ _ _ (colD (⟨w64 (p0.p + 1), p0.k, p0.e⟩ : Col)) _ rfl rfl rfl rfl rfl rfl rfl Tryz.sizeOf2 (by rw [colD_length]; omega) (colD_set0 _ _) ?_
 refine AOps_nil ?_
 refine kB (fun s6 => [(2, .ptr 0 0), (4, .ptr 1 0)]) (fun s6 => [.box (colD s6), .box (colD Col.zero)]) h (fun s6 h => ?_) (fun s6 h => ?_)
 ·refine kR ?_
  refine kM 1 rfl ?_
  refine AOps_q 15 _ rfl rfl rfl (QOp_len_sl _ _ _ _ _ _ _ (intsD_length _) rfl rfl rfl rfl Tryz.underlying27 rfl) ?_
  refine kN 1 rfl ?_
  refine ACode_block ?_
  refine ACode_loopW (fun k0 E H => ∃ (x1 : Int) (x2 : Col), E = [(2, .ptr 0 0), (4, .ptr 1 0), (5, iV p0.p), (14, .d (.sl none (intsD p1))), (15, iV (p1.length : Int)), (16, iV x1)] ∧ H = [.box (colD x2), .box (colD Col.zero)] ∧ impl_Colouring_grown_l0 p0 p1 k0 x1 x2 = some s6) k _ _ (Weak_keep 0 hm [2, 4, 5, 14, 15, 16] [0, 1] _ _ rfl rfl rfl) ⟨_, _, rfl, rfl, h⟩ ?_
  clear h
  rintro k0 E H ⟨x1, x2, rfl, rfl, h⟩
  cases k0 with
  | zero => cases (show (none : Option (Col)) = some _ from h)
  | succ k0 =>
   rw [impl_Colouring_grown_l0] at h
   refine kR ?_
   refine AOps_q 17 _ rfl rfl rfl (QOp_lss _ _ _ _ _ _ _ rfl rfl rfl) ?_
   refine AOps_nil ?_
   refine ACode_seq ?_
   refine kI h rfl (fun h _ => ?_) (fun h _ => ?_)
   ·refine ACode_skip ?_
    refine ACode_seq ?_
    refine ACode_block ?_
    refine kR ?_
    refine kM 1 rfl ?_
    obtain ⟨hc4, h⟩ := guardO h
    refine AOps_q 19 _ rfl rfl rfl (QOp_indexAddr_sl _ _ _ _ _ _ _ _ rfl Tryz.underlying27 Tryz.sizeOf2 hc4.1 (by rw [intsD_length]; exact hc4.2) rfl rfl) ?_
    refine AOps_q 20 _ rfl rfl rfl (QOp_load_pv _ _ _ _ _ rfl Tryz.isAgg2 rfl (intsD_get _ _ 0 (by omega))) ?_
    refine kN 2 rfl ?_
    refine (ACode_region ?_)
    refine kM 3 rfl ?_
    obtain ⟨r5, hr5, h⟩ := bindO h
    refine kC [0] 24 (.tup []) [.box (colD r5), .box (colD Col.zero)] rfl Tryz.call146 rfl rfl (impl_Colouring_put_ac x2 x1 p0.p (p1.getD x1.toNat 0) _ hr5) rfl ?_
    refine AOps_nil ?_
    refine (ACode_region ?_)
    refine AOps_q 25 _ rfl rfl rfl (QOp_add _ _ _ _ _ _ _ rfl rfl rfl) ?_
    refine kN 1 rfl ?_
    exact ⟨k0, _, _, Nat.lt_succ_self _, Weak_keep 0 hm [2, 4, 5, 14, 15, 16] [0, 1] _ _ rfl rfl rfl, _, _, rfl, rfl, h⟩
   refine ACode_exit ?_
   cases h
   exact Weak_keep 0 hm [2, 4] [0, 1] _ _ rfl rfl rfl
 refine kR ?_
 refine AOps_q 26 _ rfl rfl rfl (QOp_loadN_ptr _ _ _ _ _ _ _ rfl Tryz.isAgg26 Tryz.sizeOf26 rfl rfl (colD_all _) (colD_length _)) ?_
 refine AOps_store _ _ _ _ _ _ (colD _) _ _ rfl rfl rfl rfl rfl rfl rfl (colD_one _) (by rw [colD_length]; exact Tryz.sizeOf26) (by rw [colD_length, colD_length]; decide) (colD_whole _ _) ?_
 refine AOps_nil ?_
 refine ACode_ret ?_
 cases h
 exact ⟨_, _, fun r a w h => ⟨r, h⟩, _, _, [], _, (.cons (ResV_agg _ _ _ _ _ _ Tryz.isAgg26 Tryz.sizeOf26 rfl rfl (colD_take _) (colD_length _)) .nil), rfl, rfl, rfl, rfl, rfl⟩

-- loop.example/g01362/impl.PutPoint
def impl_PutPoint (k : Nat) (p0 : Col) (p1 : List Int) : Option (Col × Int) :=
 (impl_Colouring_code k p0 (impl_PutPoint_c1 k p1 p0)).bind fun r1 => letO (letO (if decide (r1 = 0) then decide (p0.p = 17) else false) fun (s3 : Bool) => (if s3 then 3 else r1)) fun (s5 : Int) => (if !decide (s5 = 0) then some ((⟨0, 0, B136.zero⟩ : Col), s5) else (impl_Colouring_grown k p0 p1).bind fun r7 => some (r7, 0))
set_option maxRecDepth 100000 in
theorem impl_PutPoint_ac (k : Nat) (p0 : Col) (p1 : List Int) (r : Col × Int) (h : impl_PutPoint k p0 p1 = some r) : AC Tryz.prog 8 [.d (.agg (colD p0)), .d (.sl none (intsD p1))] [] (fun res H' => res = [.d (.agg (colD r.1)), iV r.2] ∧ H' = []) := by
 refine AC_of_body true Tryz.func8 rfl Tryz.ntmps8 (rvs := [.cell 4 26, .tmp 5]) rfl rfl (fun G hG => ?_)
 have hm : G.H.length = 0 := by rw [hG]; rfl
 have hz : zeroG G.H = true := by rw [hG]; rfl
 unfold impl_PutPoint at h
 refine kR ?_
 refine AOps_boxI 2 _ _ (.agg (colD p0)) (colD p0) rfl (colD_one _) rfl rfl rfl rfl rfl ?_
 refine AOps_boxI 3 _ _ (.sl none (intsD p1)) _ rfl (fun c hc => by cases hc with | head => rfl | tail _ h => cases h) rfl rfl rfl rfl rfl ?_
 refine AOps_alloc 4 _ _ (colD Col.zero) (zero_of Tryz.typeInfo26 rfl) (by rfl) rfl rfl rfl rfl ?_
 refine kN 1 rfl ?_
 refine kR ?_
 refine AOps_q 7 _ rfl rfl rfl (QOp_makeFuncD _ _ _ _ rfl rfl rfl) ?_
 obtain ⟨r1, hr1, h⟩ := bindO h
 refine kC [] 8 (iV r1) [.box (colD Col.zero)] rfl Tryz.call69 rfl rfl (impl_Colouring_code_ac k p0 (impl_PutPoint_c1 k p1 p0) 70 ([.pv ([.sl none (intsD p1)]) 0, .pv (colD p0) 0]) Tryz.call70 (fun r h => impl_PutPoint_c1_ac k p1 p0 r h) _ hr1) rfl ?_
 refine kN 1 rfl ?_
 refine kL (fun s5 => [(2, .d (.pv (colD p0) 0)), (3, .d (.pv ([.sl none (intsD p1)]) 0)), (4, .ptr 0 0), (6, iV s5)]) (fun s5 => [.box (colD Col.zero)]) h (fun s5 h => ?_) (fun s5 h => ?_)
 ·refine kL (fun s3 => [(2, .d (.pv (colD p0) 0)), (3, .d (.pv ([.sl none (intsD p1)]) 0)), (4, .ptr 0 0), (6, iV r1), (15, bV s3)]) (fun s3 => [.box (colD Col.zero)]) h (fun s3 h => ?_) (fun s3 h => ?_)
  ·refine (ACode_region ?_)
   refine kM 1 rfl ?_
   refine AOps_q 10 _ rfl rfl rfl (QOp_eql _ _ _ _ _ _ _ rfl rfl rfl) ?_
   refine kM 1 rfl ?_
   refine AOps_case 11 _ rfl (fun hb2 => ?_) (fun hb2 => ?_)
   ·have h := iteT hb2 h
    refine AOps_q 12 _ rfl rfl rfl (QOp_fieldAddr_pv _ _ _ _ _ 0 _ _ rfl Tryz.underlying26 rfl _ Tryz.sizeOf2 rfl rfl) ?_
    refine AOps_q 13 _ rfl rfl rfl (QOp_load_pv _ _ _ _ _ rfl Tryz.isAgg2 rfl rfl) ?_
    refine AOps_q 14 _ rfl rfl rfl (QOp_eql _ _ _ _ _ _ _ rfl rfl rfl) ?_
    refine kN 1 rfl ?_
    cases h
    exact Weak_keep 0 hm [2, 3, 4, 6, 15] [0] _ _ rfl rfl rfl
   have h := iteF hb2 h
   refine AOps_skip 12 rfl rfl rfl ?_
   refine AOps_skip 13 rfl rfl rfl ?_
   refine AOps_skip 14 rfl rfl rfl ?_
   refine kN 1 rfl ?_
   cases h
   exact Weak_keep 0 hm [2, 3, 4, 6, 15] [0] _ _ rfl rfl rfl
  refine kI h rfl (fun h _ => ?_) (fun h _ => ?_)
  ·refine (ACode_region ?_)
   refine kN 1 rfl ?_
   cases h
   exact Weak_keep 0 hm [2, 3, 4, 6] [0] _ _ rfl rfl rfl
  refine ACode_skip ?_
  cases h
  exact Weak_keep 0 hm [2, 3, 4, 6] [0] _ _ rfl rfl rfl
 refine ACode_seq ?_
 refine kR ?_
 refine kM 1 rfl ?_
 refine AOps_q 17 _ rfl rfl rfl (QOp_neq _ _ _ _ _ _ _ rfl rfl rfl) ?_
 refine AOps_nil ?_
 refine kI h rfl (fun h _ => ?_) (fun h _ => ?_)
 ·refine kR ?_
  refine AOps_q 18 _ rfl rfl rfl (QOp_build _ _ [] [] [] _ (colD Col.zero) (colD (⟨0, 0, B136.zero⟩ : Col)) [(0, 1), (1, 1), (2, 136)] rfl rfl Tryz.underlying26 (zero_of Tryz.typeInfo26 rfl) (fun w => by simp [Tryz.sizeOf2, Tryz.sizeOf2, Tryz.sizeOf24]) rfl (by rfl) (by rfl) (fun _ h => nomatch h)) ?_
  refine kM 1 rfl ?_
  refine AOps_store _ _ _ _ _ _ (colD _) _ _ rfl rfl rfl rfl rfl rfl rfl (colD_one _) (by rw [colD_length]; exact Tryz.sizeOf26) (by rw [colD_length, colD_length]; decide) (colD_whole _ _) ?_
  refine kN 1 rfl ?_
  refine ACode_ret ?_
  cases h
  exact ⟨_, _, fun r a w h => ⟨r, h⟩, _, _, [], _, (.cons (ResV_agg _ _ _ _ _ _ Tryz.isAgg26 Tryz.sizeOf26 rfl rfl (colD_take _) (colD_length _)) (.cons (ResV_tmp _ _ rfl) .nil)), rfl, rfl, rfl, rfl, rfl⟩
 refine ACode_skip ?_
 refine kR ?_
 refine AOps_q 20 _ rfl rfl rfl (QOp_loadN_pv _ _ _ _ _ _ rfl Tryz.isAgg26 Tryz.sizeOf26 rfl (colD_all _) (colD_length _)) ?_
 refine AOps_q 21 _ rfl rfl rfl (QOp_load_pv _ _ _ _ _ rfl Tryz.isAgg27 rfl rfl) ?_
 obtain ⟨r7, hr7, h⟩ := bindO h
 refine kC [] 22 (.d (.agg (colD r7))) [.box (colD Col.zero)] rfl Tryz.call72 rfl rfl (impl_Colouring_grown_ac k p0 p1 _ hr7) rfl ?_
 refine AOps_store _ _ _ _ _ _ (colD _) _ _ rfl rfl rfl rfl rfl rfl rfl (colD_one _) (by rw [colD_length]; exact Tryz.sizeOf26) (by rw [colD_length, colD_length]; decide) (colD_whole _ _) ?_
 refine kN 1 rfl ?_
 refine ACode_ret ?_
 cases h
 exact ⟨_, _, fun r a w h => ⟨r, h⟩, _, _, [], _, (.cons (ResV_agg _ _ _ _ _ _ Tryz.isAgg26 Tryz.sizeOf26 rfl rfl (colD_take _) (colD_length _)) (.cons (ResV_tmp _ _ rfl) .nil)), rfl, rfl, rfl, rfl, rfl⟩

-- loop.example/g01362/spec.l01In
def spec_l01In (p0 : Int) (p1 : Int) (p2 : Int) : Bool :=
 letO (if decide (p1 ≤ p0) then decide (p0 ≤ p2) else false) fun (s2 : Bool) => s2
set_option maxRecDepth 100000 in
theorem spec_l01In_ac (p0 : Int) (p1 : Int) (p2 : Int) : AC Tryz.prog 100 [iV p0, iV p1, iV p2] [] (fun res H' => res = [bV (spec_l01In p0 p1 p2)] ∧ H' = []) := by
 refine AC_of_body true Tryz.func100 rfl Tryz.ntmps100 (rvs := [.tmp 6]) rfl rfl (fun G hG => ?_)
 have hm : G.H.length = 0 := by rw [hG]; rfl
 have hz : zeroG G.H = true := by rw [hG]; rfl
 obtain ⟨r, h⟩ : ∃ r, spec_l01In p0 p1 p2 = r := ⟨_, rfl⟩
 rw [h]
 unfold spec_l01In at h
 refine kR ?_
 refine kN 1 rfl ?_
 refine kL (fun s2 => [(6, bV s2)]) (fun s2 => []) h (fun s2 h => ?_) (fun s2 h => ?_)
 ·refine (ACode_region ?_)
  refine kM 2 rfl ?_
  refine AOps_q 9 _ rfl rfl rfl (QOp_geq _ _ _ _ _ _ _ rfl rfl rfl) ?_
  refine kM 1 rfl ?_
  refine AOps_case 10 _ rfl (fun hb1 => ?_) (fun hb1 => ?_)
  ·have h := iteT hb1 h
   refine kM 2 rfl ?_
   refine AOps_q 13 _ rfl rfl rfl (QOp_leq _ _ _ _ _ _ _ rfl rfl rfl) ?_
   refine kN 2 rfl ?_
   cases h
   exact Weak_keep 0 hm [6] [] _ _ rfl rfl rfl
  have h := iteF hb1 h
  refine AOps_skip 11 rfl rfl rfl ?_
  refine AOps_skip 12 rfl rfl rfl ?_
  refine AOps_skip 13 rfl rfl rfl ?_
  refine kN 2 rfl ?_
  cases h
  exact Weak_keep 0 hm [6] [] _ _ rfl rfl rfl
 refine ACode_ret ?_
 cases h
 exact ⟨_, _, fun r a w h => ⟨r, h⟩, _, _, [], _, (.cons (ResV_tmp _ _ rfl) .nil), rfl, rfl, rfl, rfl, rfl⟩

-- loop.example/g01362/spec.l01Is
def spec_l01Is_l0 (k : Nat) (p0 : Col) : Nat → Int → Option (Sum (Unit) (Bool))
 | 0, _ => none
 | k0 + 1, x7 => (if decide (x7 < 136) then (((if decide (x7 < w64 ((w64 (p0.p * (w64 (p0.p - 1)))).tdiv 2)) then (if 0 ≤ x7 ∧ x7 < 136 then (if decide (p0.k ≤ ((p0.get x7.toNat).toNat : Int)) then some true else (if decide (w64 ((w64 (p0.p * (w64 (p0.p - 1)))).tdiv 2) ≤ x7) then (if 0 ≤ x7 ∧ x7 < 136 then some (!decide (((p0.get x7.toNat).toNat : Int) = 0)) else none) else some false)) else none) else (if decide (w64 ((w64 (p0.p * (w64 (p0.p - 1)))).tdiv 2) ≤ x7) then (if 0 ≤ x7 ∧ x7 < 136 then some (!decide (((p0.get x7.toNat).toNat : Int) = 0)) else none) else some false)) : Option (Bool)).bind fun s16 => (if s16 then (some (.inr false)).bind fun rr => some (.inr rr) else some (.inl ())) : Option (Sum (Unit) (Sum (Unit) (Bool)))).bind fun os18 => (match os18 with | .inl s18 => spec_l01Is_l0 k p0 k0 (w64 (x7 + 1)) | .inr rr => some rr) else some (.inl ()))
def spec_l01Is (k : Nat) (p0 : Col) : Option (Bool) :=
 (letO (if !(spec_l01In p0.p 1 17) then true else !(spec_l01In p0.k 1 4)) fun (s4 : Bool) => (if s4 then some (.inr false) else some (.inl ())) : Option (Sum (Unit) (Bool))).bind fun os6 => (match os6 with | .inl s6 => (spec_l01Is_l0 k p0 k 0 : Option (Sum (Unit) (Bool))).bind fun os19 => (match os19 with | .inl s19 => some true | .inr rr => some rr) | .inr rr => some rr)
set_option maxRecDepth 100000 in
theorem spec_l01Is_ac (k : Nat) (p0 : Col) (r : Bool) (h : spec_l01Is k p0 = some r) : AC Tryz.prog 73 [.d (.agg (colD p0))] [] (fun res H' => res = [bV r] ∧ H' = []) := by
 refine AC_of_body true Tryz.func73 rfl Tryz.ntmps73 (rvs := [.tmp 2]) rfl rfl (fun G hG => ?_)
 have hm : G.H.length = 0 := by rw [hG]; rfl
 have hz : zeroG G.H = true := by rw [hG]; rfl
 unfold spec_l01Is at h
 refine kR ?_
 refine AOps_boxI 1 _ _ (.agg (colD p0)) (colD p0) rfl (colD_one _) rfl rfl rfl rfl rfl ?_
 refine kN 1 rfl ?_
 refine kO (fun s6 => [(1, .d (.pv (colD p0) 0))]) (fun s6 => []) h (fun os6 h hks6 => ?_) (fun s6 h => ?_)
 ·refine kL (fun s4 => [(1, .d (.pv (colD p0) 0)), (14, bV s4)]) (fun s4 => []) h (fun s4 h => ?_) (fun s4 h => ?_)
  ·refine (ACode_region ?_)
   refine AOps_q 5 _ rfl rfl rfl (QOp_fieldAddr_pv _ _ _ _ _ 0 _ _ rfl Tryz.underlying26 rfl _ Tryz.sizeOf2 rfl rfl) ?_
   refine AOps_q 6 _ rfl rfl rfl (QOp_load_pv _ _ _ _ _ rfl Tryz.isAgg2 rfl rfl) ?_
   refine kC [] 7 (bV (spec_l01In p0.p 1 17)) [] rfl Tryz.call100 rfl rfl (spec_l01In_ac p0.p 1 17) rfl ?_
   refine AOps_q 8 _ rfl rfl rfl (QOp_not _ _ _ rfl rfl) ?_
   refine kM 1 rfl ?_
   refine AOps_case 9 _ rfl (fun hb2 => ?_) (fun hb2 => ?_)
   ·have h := iteT hb2 h
    refine AOps_skip 10 rfl rfl rfl ?_
    refine AOps_skip 11 rfl rfl rfl ?_
    refine AOps_skip 12 rfl rfl rfl ?_
    refine AOps_skip 13 rfl rfl rfl ?_
    refine kN 1 rfl ?_
    cases h
    exact Weak_keep 0 hm [1, 14] [] _ _ rfl rfl rfl
   have h := iteF hb2 h
   refine AOps_q 10 _ rfl rfl rfl (QOp_fieldAddr_pv _ _ _ _ _ 1 _ _ rfl Tryz.underlying26 rfl _ Tryz.sizeOf2 rfl rfl) ?_
   refine AOps_q 11 _ rfl rfl rfl (QOp_load_pv _ _ _ _ _ rfl Tryz.isAgg2 rfl rfl) ?_
   refine kC [] 12 (bV (spec_l01In p0.k 1 4)) [] rfl Tryz.call100 rfl rfl (spec_l01In_ac p0.k 1 4) rfl ?_
   refine AOps_q 13 _ rfl rfl rfl (QOp_not _ _ _ rfl rfl) ?_
   refine kN 1 rfl ?_
   cases h
   exact Weak_keep 0 hm [1, 14] [] _ _ rfl rfl rfl
  refine kI h rfl (fun h _ => ?_) (fun h _ => ?_)
  ·refine kR ?_
   refine kN 1 rfl ?_
   refine ACode_ret ?_
   cases h
   have h := hks6
   cases h
   exact ⟨_, _, fun r a w h => ⟨r, h⟩, _, _, [], _, (.cons (ResV_tmp _ _ rfl) .nil), rfl, rfl, rfl, rfl, rfl⟩
  refine ACode_skip ?_
  cases h
  exact ⟨_, rfl, Weak_keep 0 hm [1] [] _ _ rfl rfl rfl⟩
 refine kR ?_
 refine AOps_q 15 _ rfl rfl rfl (QOp_fieldAddr_pv _ _ _ _ _ 0 _ _ rfl Tryz.underlying26 rfl _ Tryz.sizeOf2 rfl rfl) ?_
 refine AOps_q 16 _ rfl rfl rfl (QOp_load_pv _ _ _ _ _ rfl Tryz.isAgg2 rfl rfl) ?_
 refine AOps_q 17 _ rfl rfl rfl (QOp_fieldAddr_pv _ _ _ _ _ 0 _ _ rfl Tryz.underlying26 rfl _ Tryz.sizeOf2 rfl rfl) ?_
 refine AOps_q 18 _ rfl rfl rfl (QOp_load_pv _ _ _ _ _ rfl Tryz.isAgg2 rfl rfl) ?_
 refine AOps_q 19 _ rfl rfl rfl (QOp_sub _ _ _ _ _ _ _ rfl rfl rfl) ?_
 refine AOps_q 20 _ rfl rfl rfl (QOp_mul _ _ _ _ _ _ _ rfl rfl rfl) ?_
 refine AOps_q 21 _ rfl rfl rfl (QOp_quo _ _ _ _ _ _ _ (by decide) rfl rfl rfl) ?_
 refine kN 1 rfl ?_
 refine kO (fun s19 => []) (fun s19 => []) h (fun os19 h hks19 => ?_) (fun s19 h => ?_)
 ·refine kR ?_
  refine kN 1 rfl ?_
  refine ACode_block ?_
  refine ACode_loopW (fun k0 E H => ∃ (x7 : Int), E = [(1, .d (.pv (colD p0) 0)), (3, iV (w64 ((w64 (p0.p * (w64 (p0.p - 1)))).tdiv 2))), (4, iV x7)] ∧ H = [] ∧ spec_l01Is_l0 k p0 k0 x7 = some os19) k _ _ (Weak_keep 0 hm [1, 3, 4] [] _ _ rfl rfl rfl) ⟨_, rfl, rfl, h⟩ ?_
  clear h
  rintro k0 E H ⟨x7, rfl, rfl, h⟩
  cases k0 with
  | zero => cases (show (none : Option (Sum (Unit) (Bool))) = some _ from h)
  | succ k0 =>
   rw [spec_l01Is_l0] at h
   refine ACode_seq ?_
   refine kR ?_
   refine kM 1 rfl ?_
   refine AOps_q 23 _ rfl rfl rfl (QOp_lss _ _ _ _ _ _ _ rfl rfl rfl) ?_
   refine AOps_nil ?_
   refine kI h rfl (fun h _ => ?_) (fun h _ => ?_)
   ·refine ACode_skip ?_
    refine kO (fun s18 => [(1, .d (.pv (colD p0) 0)), (3, iV (w64 ((w64 (p0.p * (w64 (p0.p - 1)))).tdiv 2))), (4, iV x7)]) (fun s18 => []) h (fun os18 h hks18 => ?_) (fun s18 h => ?_)
    ·refine ACode_block ?_
     refine kB (fun s16 => [(1, .d (.pv (colD p0) 0)), (3, iV (w64 ((w64 (p0.p * (w64 (p0.p - 1)))).tdiv 2))), (4, iV x7), (50, bV s16)]) (fun s16 => []) h (fun s16 h => ?_) (fun s16 h => ?_)
     ·refine (ACode_quiet mixed (by kernel_rfl) ?_)
      refine kQ 2 rfl ?_
      refine AQ_q 28 _ rfl rfl rfl (QOp_lss _ _ _ _ _ _ _ rfl rfl rfl) ?_
      refine kQ 1 rfl ?_
      refine AQ_case 29 _ rfl (fun hb9 => ?_) (fun hb9 => ?_)
      ·have h := iteT hb9 h
       refine kQ 1 rfl ?_
       refine AQ_q 31 _ rfl rfl rfl (QOp_fieldAddr_pv _ _ _ _ _ 2 _ _ rfl Tryz.underlying26 rfl _ Tryz.sizeOf24 rfl rfl) ?_
       obtain ⟨hc10, h⟩ := guardO h
       refine AQ_q 32 _ rfl rfl rfl (QOp_indexAddrA_pv _ _ _ _ _ _ _ _ _ rfl Tryz.underlying24 Tryz.sizeOf5 hc10.1 hc10.2 rfl rfl) ?_
       refine AQ_q 33 _ rfl rfl rfl (QOp_load_pv _ _ _ _ _ rfl Tryz.isAgg5 rfl (colD_get _ _ (by omega))) ?_
       refine AQ_q 34 _ rfl rfl rfl (QOp_fromByte _ _ _ _ _ rfl rfl Tryz.underlying2 wrap_i64_byte rfl) ?_
       refine AQ_q 35 _ rfl rfl rfl (QOp_fieldAddr_pv _ _ _ _ _ 1 _ _ rfl Tryz.underlying26 rfl _ Tryz.sizeOf2 rfl rfl) ?_
       refine AQ_q 36 _ rfl rfl rfl (QOp_load_pv _ _ _ _ _ rfl Tryz.isAgg2 rfl rfl) ?_
       refine AQ_q 37 _ rfl rfl rfl (QOp_geq _ _ _ _ _ _ _ rfl rfl rfl) ?_
       refine kQ 2 rfl ?_
       refine AQ_case 39 _ rfl (fun hb11 => ?_) (fun hb11 => ?_)
       ·have h := iteT hb11 h
        refine AQ_skip 40 rfl rfl rfl ?_
        refine AQ_skip 41 rfl rfl rfl ?_
        refine AQ_skip 42 rfl rfl rfl ?_
        refine AQ_skip 43 rfl rfl rfl ?_
        refine AQ_skip 44 rfl rfl rfl ?_
        refine AQ_skip 45 rfl rfl rfl ?_
        refine AQ_skip 46 rfl rfl rfl ?_
        refine AQ_skip 47 rfl rfl rfl ?_
        refine AQ_skip 48 rfl rfl rfl ?_
        refine AQ_skip 49 rfl rfl rfl ?_
        refine kQ 1 rfl ?_
        refine AQ_nil ?_
        cases h
        exact Weak_keep 0 hm [1, 3, 4, 50] [] _ _ rfl rfl rfl
       have h := iteF hb11 h
       refine kQ 2 rfl ?_
       refine AQ_q 42 _ rfl rfl rfl (QOp_geq _ _ _ _ _ _ _ rfl rfl rfl) ?_
       refine kQ 1 rfl ?_
       refine AQ_case 43 _ rfl (fun hb12 => ?_) (fun hb12 => ?_)
       ·have h := iteT hb12 h
        refine kQ 1 rfl ?_
        refine AQ_q 45 _ rfl rfl rfl (QOp_fieldAddr_pv _ _ _ _ _ 2 _ _ rfl Tryz.underlying26 rfl _ Tryz.sizeOf24 rfl rfl) ?_
        obtain ⟨hc13, h⟩ := guardO h
        refine AQ_q 46 _ rfl rfl rfl (QOp_indexAddrA_pv _ _ _ _ _ _ _ _ _ rfl Tryz.underlying24 Tryz.sizeOf5 hc13.1 hc13.2 rfl rfl) ?_
        refine AQ_q 47 _ rfl rfl rfl (QOp_load_pv _ _ _ _ _ rfl Tryz.isAgg5 rfl (colD_get _ _ (by omega))) ?_
        refine AQ_q 48 _ rfl rfl rfl (QOp_neq _ _ _ _ _ _ _ rfl rfl rfl) ?_
        refine kQ 2 rfl ?_
        refine AQ_nil ?_
        cases h
        exact Weak_keep 0 hm [1, 3, 4, 50] [] _ _ rfl rfl rfl
       have h := iteF hb12 h
       refine AQ_skip 44 rfl rfl rfl ?_
       refine AQ_skip 45 rfl rfl rfl ?_
       refine AQ_skip 46 rfl rfl rfl ?_
       refine AQ_skip 47 rfl rfl rfl ?_
       refine AQ_skip 48 rfl rfl rfl ?_
       refine kQ 2 rfl ?_
       refine AQ_nil ?_
       cases h
       exact Weak_keep 0 hm [1, 3, 4, 50] [] _ _ rfl rfl rfl
      have h := iteF hb9 h
      refine AQ_skip 30 rfl rfl rfl ?_
      refine AQ_skip 31 rfl rfl rfl ?_
      refine AQ_skip 32 rfl rfl rfl ?_
      refine AQ_skip 33 rfl rfl rfl ?_
      refine AQ_skip 34 rfl rfl rfl ?_
      refine AQ_skip 35 rfl rfl rfl ?_
      refine AQ_skip 36 rfl rfl rfl ?_
      refine AQ_skip 37 rfl rfl rfl ?_
      refine kQ 4 rfl ?_
      refine AQ_q 42 _ rfl rfl rfl (QOp_geq _ _ _ _ _ _ _ rfl rfl rfl) ?_
      refine kQ 1 rfl ?_
      refine AQ_case 43 _ rfl (fun hb14 => ?_) (fun hb14 => ?_)
      ·have h := iteT hb14 h
       refine kQ 1 rfl ?_
       refine AQ_q 45 _ rfl rfl rfl (QOp_fieldAddr_pv _ _ _ _ _ 2 _ _ rfl Tryz.underlying26 rfl _ Tryz.sizeOf24 rfl rfl) ?_
       obtain ⟨hc15, h⟩ := guardO h
       refine AQ_q 46 _ rfl rfl rfl (QOp_indexAddrA_pv _ _ _ _ _ _ _ _ _ rfl Tryz.underlying24 Tryz.sizeOf5 hc15.1 hc15.2 rfl rfl) ?_
       refine AQ_q 47 _ rfl rfl rfl (QOp_load_pv _ _ _ _ _ rfl Tryz.isAgg5 rfl (colD_get _ _ (by omega))) ?_
       refine AQ_q 48 _ rfl rfl rfl (QOp_neq _ _ _ _ _ _ _ rfl rfl rfl) ?_
       refine kQ 2 rfl ?_
       refine AQ_nil ?_
       cases h
       exact Weak_keep 0 hm [1, 3, 4, 50] [] _ _ rfl rfl rfl
      have h := iteF hb14 h
      refine AQ_skip 44 rfl rfl rfl ?_
      refine AQ_skip 45 rfl rfl rfl ?_
      refine AQ_skip 46 rfl rfl rfl ?_
      refine AQ_skip 47 rfl rfl rfl ?_
      refine AQ_skip 48 rfl rfl rfl ?_
      refine kQ 2 rfl ?_
      refine AQ_nil ?_
      cases h
      exact Weak_keep 0 hm [1, 3, 4, 50] [] _ _ rfl rfl rfl
     refine kI h rfl (fun h _ => ?_) (fun h _ => ?_)
     ·refine kR ?_
      refine kN 1 rfl ?_
      refine ACode_ret ?_
      obtain ⟨rr, hz20, h2⟩ := bindO h
      obtain rfl := Option.some.inj h2
      obtain rfl := Option.some.inj (show some rr = some _ from hks18)
      have h := hz20
      cases h
      have h := hks19
      cases h
      exact ⟨_, _, fun r a w h => ⟨r, h⟩, _, _, [], _, (.cons (ResV_tmp _ _ rfl) .nil), rfl, rfl, rfl, rfl, rfl⟩
     refine ACode_skip ?_
     cases h
     exact ⟨_, rfl, Weak_keep 0 hm [1, 3, 4] [] _ _ rfl rfl rfl⟩
    refine (ACode_region ?_)
    refine kM 1 rfl ?_
    refine AOps_q 25 _ rfl rfl rfl (QOp_add _ _ _ _ _ _ _ rfl rfl rfl) ?_
    refine kN 1 rfl ?_
    exact ⟨k0, _, _, Nat.lt_succ_self _, Weak_keep 0 hm [1, 3, 4] [] _ _ rfl rfl rfl, _, rfl, rfl, h⟩
   refine ACode_exit ?_
   cases h
   exact ⟨_, rfl, Weak_keep 0 hm [] [] _ _ rfl rfl rfl⟩
 refine kR ?_
 refine kN 1 rfl ?_
 refine ACode_ret ?_
 cases h
 exact ⟨_, _, fun r a w h => ⟨r, h⟩, _, _, [], _, (.cons (ResV_tmp _ _ rfl) .nil), rfl, rfl, rfl, rfl, rfl⟩

-- loop.example/g01362/spec.l01All
def spec_l01All_l0 (p0 : List Int) (p1 : Int) : Nat → Int → Option (Sum (Unit) (Bool))
 | 0, _ => none
 | k0 + 1, x1 => (if decide (x1 < (p0.length : Int)) then (if 0 ≤ x1 ∧ x1 < (p0.length : Int) then (if !(spec_l01In (p0.getD x1.toNat 0) 0 (w64 (p1 - 1))) then some (.inr false) else spec_l01All_l0 p0 p1 k0 (w64 (x1 + 1))) else none) else some (.inl ()))
def spec_l01All (k : Nat) (p0 : List Int) (p1 : Int) : Option (Bool) :=
 (spec_l01All_l0 p0 p1 k 0 : Option (Sum (Unit) (Bool))).bind fun os6 => (match os6 with | .inl s6 => some true | .inr rr => some rr)
set_option maxRecDepth 100000 in
theorem spec_l01All_ac (k : Nat) (p0 : List Int) (p1 : Int) (r : Bool) (h : spec_l01All k p0 p1 = some r) : AC Tryz.prog 74 [.d (.sl none (intsD p0)), iV p1] [] (fun res H' => res = [bV r] ∧ H' = []) := by
 refine AC_of_body true Tryz.func74 rfl Tryz.ntmps74 (rvs := [.tmp 4]) rfl rfl (fun G hG => ?_)
 have hm : G.H.length = 0 := by rw [hG]; rfl
 have hz : zeroG G.H = true := by rw [hG]; rfl
 unfold spec_l01All at h
 refine kR ?_
 refine kN 1 rfl ?_
 refine kO (fun s6 => []) (fun s6 => []) h (fun os6 h hks6 => ?_) (fun s6 h => ?_)
 ·refine kR ?_
  refine kN 1 rfl ?_
  refine ACode_block ?_
  refine ACode_loopW (fun k0 E H => ∃ (x1 : Int), E = [(0, .d (.sl none (intsD p0))), (1, iV p1), (5, iV x1)] ∧ H = [] ∧ spec_l01All_l0 p0 p1 k0 x1 = some os6) k _ _ (Weak_keep 0 hm [0, 1, 5] [] _ _ rfl rfl rfl) ⟨_, rfl, rfl, h⟩ ?_
  clear h
  rintro k0 E H ⟨x1, rfl, rfl, h⟩
  cases k0 with
  | zero => cases (show (none : Option (Sum (Unit) (Bool))) = some _ from h)
  | succ k0 =>
   rw [spec_l01All_l0] at h
   refine ACode_seq ?_
   refine kR ?_
   refine kM 2 rfl ?_
   refine AOps_q 8 _ rfl rfl rfl (QOp_len_sl _ _ _ _ _ _ _ (intsD_length _) rfl rfl rfl rfl Tryz.underlying27 rfl) ?_
   refine AOps_q 9 _ rfl rfl rfl (QOp_lss _ _ _ _ _ _ _ rfl rfl rfl) ?_
   refine AOps_nil ?_
   refine kI h rfl (fun h _ => ?_) (fun h _ => ?_)
   ·refine ACode_skip ?_
    refine ACode_seq ?_
    refine ACode_block ?_
    refine kR ?_
    refine kM 2 rfl ?_
    obtain ⟨hc3, h⟩ := guardO h
    refine AOps_q 14 _ rfl rfl rfl (QOp_indexAddr_sl _ _ _ _ _ _ _ _ rfl Tryz.underlying27 Tryz.sizeOf2 hc3.1 (by rw [intsD_length]; exact hc3.2) rfl rfl) ?_
    refine AOps_q 15 _ rfl rfl rfl (QOp_load_pv _ _ _ _ _ rfl Tryz.isAgg2 rfl (intsD_get _ _ 0 (by omega))) ?_
    refine kM 1 rfl ?_
    refine AOps_q 17 _ rfl rfl rfl (QOp_sub _ _ _ _ _ _ _ rfl rfl rfl) ?_
    refine kC [] 18 (bV (spec_l01In (p0.getD x1.toNat 0) 0 (w64 (p1 - 1)))) [] rfl Tryz.call100 rfl rfl (spec_l01In_ac (p0.getD x1.toNat 0) 0 (w64 (p1 - 1))) rfl ?_
    refine AOps_q 19 _ rfl rfl rfl (QOp_not _ _ _ rfl rfl) ?_
    refine AOps_nil ?_
    refine kI h rfl (fun h _ => ?_) (fun h _ => ?_)
    ·refine kR ?_
     refine kN 1 rfl ?_
     refine ACode_ret ?_
     cases h
     have h := hks6
     cases h
     exact ⟨_, _, fun r a w h => ⟨r, h⟩, _, _, [], _, (.cons (ResV_tmp _ _ rfl) .nil), rfl, rfl, rfl, rfl, rfl⟩
    refine ACode_skip ?_
    refine (ACode_region ?_)
    refine kM 1 rfl ?_
    refine AOps_q 11 _ rfl rfl rfl (QOp_add _ _ _ _ _ _ _ rfl rfl rfl) ?_
    refine kN 1 rfl ?_
    exact ⟨k0, _, _, Nat.lt_succ_self _, Weak_keep 0 hm [0, 1, 5] [] _ _ rfl rfl rfl, _, rfl, rfl, h⟩
   refine ACode_exit ?_
   cases h
   exact ⟨_, rfl, Weak_keep 0 hm [] [] _ _ rfl rfl rfl⟩
 refine kR ?_
 refine kN 1 rfl ?_
 refine ACode_ret ?_
 cases h
 exact ⟨_, _, fun r a w h => ⟨r, h⟩, _, _, [], _, (.cons (ResV_tmp _ _ rfl) .nil), rfl, rfl, rfl, rfl, rfl⟩

-- loop.example/g01362/spec.l01Put
def spec_l01Put_l0 (p1 : List Int) : Nat → Int → Col → Option (Col)
 | 0, _, _ => none
 | k0 + 1, x1, x2 => (if decide (x1 < (p1.length : Int)) then (if 0 ≤ x1 ∧ x1 < (p1.length : Int) then (if 0 ≤ (spec_l01Edge x1 (w64 (x2.p - 1))) ∧ (spec_l01Edge x1 (w64 (x2.p - 1))) < 136 then spec_l01Put_l0 p1 k0 (w64 (x1 + 1)) (x2.set ((spec_l01Edge x1 (w64 (x2.p - 1))).toNat) (toByte (p1.getD x1.toNat 0))) else none) else none) else some x2)
def spec_l01Put (k : Nat) (p0 : Col) (p1 : List Int) : Option (Col) :=
 (spec_l01Put_l0 p1 k 0 (⟨w64 (p0.p + 1), p0.k, p0.e⟩ : Col) : Option (Col)).bind fun s7 => some s7
set_option maxRecDepth 100000 in
theorem spec_l01Put_ac (k : Nat) (p0 : Col) (p1 : List Int) (r : Col) (h : spec_l01Put k p0 p1 = some r) : AC Tryz.prog 75 [.d (.agg (colD p0)), .d (.sl none (intsD p1))] [] (fun res H' => res = [.d (.agg (colD r))] ∧ H' = []) := by
 refine AC_of_body true Tryz.func75 rfl Tryz.ntmps75 (rvs := [.cell 4 26]) rfl rfl (fun G hG => ?_)
 have hm : G.H.length = 0 := by rw [hG]; rfl
 have hz : zeroG G.H = true := by rw [hG]; rfl
 unfold spec_l01Put at h
 refine kR ?_
 refine AOps_boxM 2 _ _ (.agg (colD p0)) (colD p0) rfl (colD_one _) rfl rfl rfl rfl rfl ?_
 refine AOps_alloc 4 _ _ (colD Col.zero) (zero_of Tryz.typeInfo26 rfl) (by rfl) rfl rfl rfl rfl ?_
 refine AOps_nil ?_
 refine kR ?_
 refine AOps_q 6 _ rfl rfl rfl (QOp_fieldAddr_ptr _ _ _ _ _ _ 0 _ _ rfl Tryz.underlying26 rfl _ Tryz.sizeOf2 rfl rfl rfl rfl) ?_
 refine AOps_q 7 _ rfl rfl rfl (QOp_load_ptr _ _ _ _ _ _ rfl Tryz.isAgg2 rfl rfl rfl) ?_
 refine AOps_q 8 _ rfl rfl rfl (QOp_add _ _ _ _ _ _ _ rfl rfl rfl) ?_
 refine AOps_q 9 _ rfl rfl rfl (QOp_fieldAddr_ptr _ _ _ _ _ _ 0 _ _ rfl Tryz.underlying26 rfl _ Tryz.sizeOf2 rfl rfl rfl rfl) ?_
 refine AOps_store1 _ _ _ _ _ _ (colD (⟨w64 (p0.p + 1), p0.k, p0.e⟩ : Col)) _ rfl rfl rfl rfl rfl rfl rfl Tryz.sizeOf2 (by rw [colD_length]; omega) (colD_set0 _ _) ?_
 refine AOps_nil ?_
 refine kB (fun s7 => [(2, .ptr 0 0), (4, .ptr 1 0)]) (fun s7 => [.box (colD s7), .box (colD Col.zero)]) h (fun s7 h => ?_) (fun s7 h => ?_)
 ·refine kR ?_
  refine kN 1 rfl ?_
  refine ACode_block ?_
  refine ACode_loopW (fun k0 E H => ∃ (x1 : Int) (x2 : Col), E = [(1, .d (.sl none (intsD p1))), (2, .ptr 0 0), (4, .ptr 1 0), (5, iV x1)] ∧ H = [.box (colD x2), .box (colD Col.zero)] ∧ spec_l01Put_l0 p1 k0 x1 x2 = some s7) k _ _ (Weak_keep 0 hm [1, 2, 4, 5] [0, 1] _ _ rfl rfl rfl) ⟨_, _, rfl, rfl, h⟩ ?_
  clear h
  rintro k0 E H ⟨x1, x2, rfl, rfl, h⟩
  cases k0 with
  | zero => cases (show (none : Option (Col)) = some _ from h)
  | succ k0 =>
   rw [spec_l01Put_l0] at h
   refine ACode_seq ?_
   refine kR ?_
   refine kM 2 rfl ?_
   refine AOps_q 12 _ rfl rfl rfl (QOp_len_sl _ _ _ _ _ _ _ (intsD_length _) rfl rfl rfl rfl Tryz.underlying27 rfl) ?_
   refine AOps_q 13 _ rfl rfl rfl (QOp_lss _ _ _ _ _ _ _ rfl rfl rfl) ?_
   refine AOps_nil ?_
   refine kI h rfl (fun h _ => ?_) (fun h _ => ?_)
   ·refine ACode_skip ?_
    refine ACode_seq ?_
    refine ACode_block ?_
    refine (ACode_last (l := [_, _, _, _, _, _, _, _, _, _, _, _]) mixed (by kernel_rfl) (by kernel_rfl) ?_)
    refine kQ 1 rfl ?_
    refine AQ_q 17 _ rfl rfl rfl (QOp_fieldAddr_ptr _ _ _ _ _ _ 0 _ _ rfl Tryz.underlying26 rfl _ Tryz.sizeOf2 rfl rfl rfl rfl) ?_
    refine AQ_q 18 _ rfl rfl rfl (QOp_load_ptr _ _ _ _ _ _ rfl Tryz.isAgg2 rfl rfl rfl) ?_
    refine AQ_q 19 _ rfl rfl rfl (QOp_sub _ _ _ _ _ _ _ rfl rfl rfl) ?_
    refine AQ_call 20 _ _ _ _ _ _ _ _ _ rfl rfl rfl rfl rfl rfl rfl Tryz.call147 rfl rfl rfl (spec_l01Edge_ac x1 (w64 (x2.p - 1))) ?_
    refine kQ 2 rfl ?_
    obtain ⟨hc5, h⟩ := guardO h
    refine AQ_q 23 _ rfl rfl rfl (QOp_indexAddr_sl _ _ _ _ _ _ _ _ rfl Tryz.underlying27 Tryz.sizeOf2 hc5.1 (by rw [intsD_length]; exact hc5.2) rfl rfl) ?_
    refine AQ_q 24 _ rfl rfl rfl (QOp_load_pv _ _ _ _ _ rfl Tryz.isAgg2 rfl (intsD_get _ _ 0 (by omega))) ?_
    refine AQ_q 25 _ rfl rfl rfl (QOp_toByte _ _ _ _ _ rfl rfl Tryz.underlying5 rfl) ?_
    refine AQ_q 26 _ rfl rfl rfl (QOp_fieldAddr_ptr _ _ _ _ _ _ 2 _ _ rfl Tryz.underlying26 rfl _ Tryz.sizeOf24 rfl rfl rfl rfl) ?_
    obtain ⟨hc6, h⟩ := guardO h
    refine AQ_q 27 _ rfl rfl rfl (QOp_indexAddrA_ptr _ _ _ _ _ _ _ _ _ _ rfl Tryz.underlying24 Tryz.sizeOf5 hc6.1 hc6.2 rfl rfl rfl rfl) ?_
    refine AQ_nil ?_
    refine AOps_store1 _ _ _ _ _ _ (colD (x2.set ((spec_l01Edge x1 (w64 (x2.p - 1))).toNat) (toByte (p1.getD x1.toNat 0)))) _ rfl rfl rfl rfl rfl rfl rfl Tryz.sizeOf5 (by rw [colD_length]; omega) (colD_setE x2 ((spec_l01Edge x1 (w64 (x2.p - 1))).toNat) (toByte (p1.getD x1.toNat 0))) ?_
    refine AOps_nil ?_
    refine (ACode_region ?_)
    refine kM 1 rfl ?_
    refine AOps_q 15 _ rfl rfl rfl (QOp_add _ _ _ _ _ _ _ rfl rfl rfl) ?_
    refine kN 1 rfl ?_
    exact ⟨k0, _, _, Nat.lt_succ_self _, Weak_keep 0 hm [1, 2, 4, 5] [0, 1] _ _ rfl rfl rfl, _, _, rfl, rfl, h⟩
   refine ACode_exit ?_
   cases h
   exact Weak_keep 0 hm [2, 4] [0, 1] _ _ rfl rfl rfl
 refine kR ?_
 refine AOps_q 28 _ rfl rfl rfl (QOp_loadN_ptr _ _ _ _ _ _ _ rfl Tryz.isAgg26 Tryz.sizeOf26 rfl rfl (colD_all _) (colD_length _)) ?_
 refine AOps_store _ _ _ _ _ _ (colD _) _ _ rfl rfl rfl rfl rfl rfl rfl (colD_one _) (by rw [colD_length]; exact Tryz.sizeOf26) (by rw [colD_length, colD_length]; decide) (colD_whole _ _) ?_
 refine AOps_nil ?_
 refine ACode_ret ?_
 cases h
 exact ⟨_, _, fun r a w h => ⟨r, h⟩, _, _, [], _, (.cons (ResV_agg _ _ _ _ _ _ Tryz.isAgg26 Tryz.sizeOf26 rfl rfl (colD_take _) (colD_length _)) .nil), rfl, rfl, rfl, rfl, rfl⟩

-- loop.example/g01362/spec.PutPoint
def spec_PutPoint (k : Nat) (p0 : Col) (p1 : List Int) : Option (Col × Int) :=
 ((spec_l01Is k p0).bind fun r1 => (if !r1 then some (.inr ((⟨0, 0, B136.zero⟩ : Col), 1)) else ((if !decide ((p1.length : Int) = p0.p) then some true else (spec_l01All k p1 p0.k).bind fun r4 => some (!r4)) : Option (Bool)).bind fun s5 => (if s5 then some (.inr ((⟨0, 0, B136.zero⟩ : Col), 2)) else (if decide (p0.p = 17) then some (.inr ((⟨0, 0, B136.zero⟩ : Col), 3)) else some (.inl ())))) : Option (Sum (Unit) (Col × Int))).bind fun os8 => (match os8 with | .inl s8 => (spec_l01Put k p0 p1).bind fun r9 => some (r9, 0) | .inr rr => some rr)
set_option maxRecDepth 100000 in
theorem spec_PutPoint_ac (k : Nat) (p0 : Col) (p1 : List Int) (r : Col × Int) (h : spec_PutPoint k p0 p1 = some r) : AC Tryz.prog 9 [.d (.agg (colD p0)), .d (.sl none (intsD p1))] [] (fun res H' => res = [.d (.agg (colD r.1)), iV r.2] ∧ H' = []) := by
 refine AC_of_body true Tryz.func9 rfl Tryz.ntmps9 (rvs := [.cell 4 26, .tmp 5]) rfl rfl (fun G hG => ?_)
 have hm : G.H.length = 0 := by rw [hG]; rfl
 have hz : zeroG G.H = true := by rw [hG]; rfl
 unfold spec_PutPoint at h
 refine kR ?_
 refine AOps_boxI 2 _ _ (.agg (colD p0)) (colD p0) rfl (colD_one _) rfl rfl rfl rfl rfl ?_
 refine AOps_alloc 4 _ _ (colD Col.zero) (zero_of Tryz.typeInfo26 rfl) (by rfl) rfl rfl rfl rfl ?_
 refine kN 1 rfl ?_
 refine kO (fun s8 => [(1, .d (.sl none (intsD p1))), (2, .d (.pv (colD p0) 0)), (4, .ptr 0 0)]) (fun s8 => [.box (colD Col.zero)]) h (fun os8 h hks8 => ?_) (fun s8 h => ?_)
 ·refine ACode_block ?_
  refine kR ?_
  refine AOps_q 7 _ rfl rfl rfl (QOp_loadN_pv _ _ _ _ _ _ rfl Tryz.isAgg26 Tryz.sizeOf26 rfl (colD_all _) (colD_length _)) ?_
  obtain ⟨r1, hr1, h⟩ := bindO h
  refine kC [] 8 (bV r1) [.box (colD Col.zero)] rfl Tryz.call73 rfl rfl (spec_l01Is_ac k p0 _ hr1) rfl ?_
  refine AOps_q 9 _ rfl rfl rfl (QOp_not _ _ _ rfl rfl) ?_
  refine kN 1 rfl ?_
  refine kI h rfl (fun h _ => ?_) (fun h _ => ?_)
  ·refine kR ?_
   refine AOps_q 10 _ rfl rfl rfl (QOp_build _ _ [] [] [] _ (colD Col.zero) (colD (⟨0, 0, B136.zero⟩ : Col)) [(0, 1), (1, 1), (2, 136)] rfl rfl Tryz.underlying26 (zero_of Tryz.typeInfo26 rfl) (fun w => by simp [Tryz.sizeOf2, Tryz.sizeOf2, Tryz.sizeOf24]) rfl (by rfl) (by rfl) (fun _ h => nomatch h)) ?_
   refine AOps_store _ _ _ _ _ _ (colD _) _ _ rfl rfl rfl rfl rfl rfl rfl (colD_one _) (by rw [colD_length]; exact Tryz.sizeOf26) (by rw [colD_length, colD_length]; decide) (colD_whole _ _) ?_
   refine kN 1 rfl ?_
   refine ACode_ret ?_
   cases h
   have h := hks8
   cases h
   exact ⟨_, _, fun r a w h => ⟨r, h⟩, _, _, [], _, (.cons (ResV_agg _ _ _ _ _ _ Tryz.isAgg26 Tryz.sizeOf26 rfl rfl (colD_take _) (colD_length _)) (.cons (ResV_tmp _ _ rfl) .nil)), rfl, rfl, rfl, rfl, rfl⟩
  refine kB (fun s5 => [(1, .d (.sl none (intsD p1))), (2, .d (.pv (colD p0) 0)), (4, .ptr 0 0), (11, bV s5)]) (fun s5 => [.box (colD Col.zero)]) h (fun s5 h => ?_) (fun s5 h => ?_)
  ·refine (ACode_region ?_)
   refine kM 1 rfl ?_
   refine AOps_q 13 _ rfl rfl rfl (QOp_len_sl _ _ _ _ _ _ _ (intsD_length _) rfl rfl rfl rfl Tryz.underlying27 rfl) ?_
   refine AOps_q 14 _ rfl rfl rfl (QOp_fieldAddr_pv _ _ _ _ _ 0 _ _ rfl Tryz.underlying26 rfl _ Tryz.sizeOf2 rfl rfl) ?_
   refine AOps_q 15 _ rfl rfl rfl (QOp_load_pv _ _ _ _ _ rfl Tryz.isAgg2 rfl rfl) ?_
   refine AOps_q 16 _ rfl rfl rfl (QOp_neq _ _ _ _ _ _ _ rfl rfl rfl) ?_
   refine kM 1 rfl ?_
   refine AOps_case 17 _ rfl (fun hb3 => ?_) (fun hb3 => ?_)
   ·have h := iteT hb3 h
    refine AOps_skip 18 rfl rfl rfl ?_
    refine AOps_skip 19 rfl rfl rfl ?_
    refine AOps_skip 20 rfl rfl rfl ?_
    refine AOps_skip 21 rfl rfl rfl ?_
    refine AOps_skip 22 rfl rfl rfl ?_
    refine kN 2 rfl ?_
    cases h
    exact Weak_keep 0 hm [1, 2, 4, 11] [0] _ _ rfl rfl rfl
   have h := iteF hb3 h
   refine kM 1 rfl ?_
   refine AOps_q 19 _ rfl rfl rfl (QOp_fieldAddr_pv _ _ _ _ _ 1 _ _ rfl Tryz.underlying26 rfl _ Tryz.sizeOf2 rfl rfl) ?_
   refine AOps_q 20 _ rfl rfl rfl (QOp_load_pv _ _ _ _ _ rfl Tryz.isAgg2 rfl rfl) ?_
   obtain ⟨r4, hr4, h⟩ := bindO h
   refine kC [] 21 (bV r4) [.box (colD Col.zero)] rfl Tryz.call74 rfl rfl (spec_l01All_ac k p1 p0.k _ hr4) rfl ?_
   refine AOps_q 22 _ rfl rfl rfl (QOp_not _ _ _ rfl rfl) ?_
   refine kN 2 rfl ?_
   cases h
   exact Weak_keep 0 hm [1, 2, 4, 11] [0] _ _ rfl rfl rfl
  refine kI h rfl (fun h _ => ?_) (fun h _ => ?_)
  ·refine kR ?_
   refine AOps_q 24 _ rfl rfl rfl (QOp_build _ _ [] [] [] _ (colD Col.zero) (colD (⟨0, 0, B136.zero⟩ : Col)) [(0, 1), (1, 1), (2, 136)] rfl rfl Tryz.underlying26 (zero_of Tryz.typeInfo26 rfl) (fun w => by simp [Tryz.sizeOf2, Tryz.sizeOf2, Tryz.sizeOf24]) rfl (by rfl) (by rfl) (fun _ h => nomatch h)) ?_
   refine AOps_store _ _ _ _ _ _ (colD _) _ _ rfl rfl rfl rfl rfl rfl rfl (colD_one _) (by rw [colD_length]; exact Tryz.sizeOf26) (by rw [colD_length, colD_length]; decide) (colD_whole _ _) ?_
   refine kN 1 rfl ?_
   refine ACode_ret ?_
   cases h
   have h := hks8
   cases h
   exact ⟨_, _, fun r a w h => ⟨r, h⟩, _, _, [], _, (.cons (ResV_agg _ _ _ _ _ _ Tryz.isAgg26 Tryz.sizeOf26 rfl rfl (colD_take _) (colD_length _)) (.cons (ResV_tmp _ _ rfl) .nil)), rfl, rfl, rfl, rfl, rfl⟩
  refine kR ?_
  refine AOps_q 26 _ rfl rfl rfl (QOp_fieldAddr_pv _ _ _ _ _ 0 _ _ rfl Tryz.underlying26 rfl _ Tryz.sizeOf2 rfl rfl) ?_
  refine AOps_q 27 _ rfl rfl rfl (QOp_load_pv _ _ _ _ _ rfl Tryz.isAgg2 rfl rfl) ?_
  refine AOps_q 28 _ rfl rfl rfl (QOp_eql _ _ _ _ _ _ _ rfl rfl rfl) ?_
  refine kN 1 rfl ?_
  refine kI h rfl (fun h _ => ?_) (fun h _ => ?_)
  ·refine kR ?_
   refine AOps_q 29 _ rfl rfl rfl (QOp_build _ _ [] [] [] _ (colD Col.zero) (colD (⟨0, 0, B136.zero⟩ : Col)) [(0, 1), (1, 1), (2, 136)] rfl rfl Tryz.underlying26 (zero_of Tryz.typeInfo26 rfl) (fun w => by simp [Tryz.sizeOf2, Tryz.sizeOf2, Tryz.sizeOf24]) rfl (by rfl) (by rfl) (fun _ h => nomatch h)) ?_
   refine AOps_store _ _ _ _ _ _ (colD _) _ _ rfl rfl rfl rfl rfl rfl rfl (colD_one _) (by rw [colD_length]; exact Tryz.sizeOf26) (by rw [colD_length, colD_length]; decide) (colD_whole _ _) ?_
   refine kN 1 rfl ?_
   refine ACode_ret ?_
   cases h
   have h := hks8
   cases h
   exact ⟨_, _, fun r a w h => ⟨r, h⟩, _, _, [], _, (.cons (ResV_agg _ _ _ _ _ _ Tryz.isAgg26 Tryz.sizeOf26 rfl rfl (colD_take _) (colD_length _)) (.cons (ResV_tmp _ _ rfl) .nil)), rfl, rfl, rfl, rfl, rfl⟩
  refine ACode_skip ?_
  cases h
  exact ⟨_, rfl, Weak_keep 0 hm [1, 2, 4] [0] _ _ rfl rfl rfl⟩
 refine kR ?_
 refine AOps_q 30 _ rfl rfl rfl (QOp_loadN_pv _ _ _ _ _ _ rfl Tryz.isAgg26 Tryz.sizeOf26 rfl (colD_all _) (colD_length _)) ?_
 refine kM 1 rfl ?_
 obtain ⟨r9, hr9, h⟩ := bindO h
 refine kC [] 32 (.d (.agg (colD r9))) [.box (colD Col.zero)] rfl Tryz.call75 rfl rfl (spec_l01Put_ac k p0 p1 _ hr9) rfl ?_
 refine AOps_store _ _ _ _ _ _ (colD _) _ _ rfl rfl rfl rfl rfl rfl rfl (colD_one _) (by rw [colD_length]; exact Tryz.sizeOf26) (by rw [colD_length, colD_length]; decide) (colD_whole _ _) ?_
 refine kN 1 rfl ?_
 refine ACode_ret ?_
 cases h
 exact ⟨_, _, fun r a w h => ⟨r, h⟩, _, _, [], _, (.cons (ResV_agg _ _ _ _ _ _ Tryz.isAgg26 Tryz.sizeOf26 rfl rfl (colD_take _) (colD_length _)) (.cons (ResV_tmp _ _ rfl) .nil)), rfl, rfl, rfl, rfl, rfl⟩

-- (*loop.example/g01362/impl.Colouring).has
def impl_Colouring_has (p0 : Col) (p1 : Int) : Bool :=
 (impl_in p1 0 (w64 (p0.p - 1)))
set_option maxRecDepth 100000 in
theorem impl_Colouring_has_ac (p0 : Col) (p1 : Int) : AC Tryz.prog 77 [.d (.pv (colD p0) 0), iV p1] [] (fun res H' => res = [bV (impl_Colouring_has p0 p1)] ∧ H' = []) := by
 refine AC_of_body true Tryz.func77 rfl Tryz.ntmps77 (rvs := [.tmp 4]) rfl rfl (fun G hG => ?_)
 have hm : G.H.length = 0 := by rw [hG]; rfl
 have hz : zeroG G.H = true := by rw [hG]; rfl
 obtain ⟨r, h⟩ : ∃ r, impl_Colouring_has p0 p1 = r := ⟨_, rfl⟩
 rw [h]
 unfold impl_Colouring_has at h
 refine kR ?_
 refine kN 1 rfl ?_
 refine kR ?_
 refine kM 2 rfl ?_
 refine AOps_q 7 _ rfl rfl rfl (QOp_nilCheck_pv _ _ _ rfl rfl) ?_
 refine AOps_q 8 _ rfl rfl rfl (QOp_fieldAddr_pv _ _ _ _ _ 0 _ _ rfl Tryz.underlying26 rfl _ Tryz.sizeOf2 rfl rfl) ?_
 refine AOps_q 9 _ rfl rfl rfl (QOp_load_pv _ _ _ _ _ rfl Tryz.isAgg2 rfl rfl) ?_
 refine AOps_q 10 _ rfl rfl rfl (QOp_sub _ _ _ _ _ _ _ rfl rfl rfl) ?_
 refine kC [] 11 (bV (impl_in p1 0 (w64 (p0.p - 1)))) [] rfl Tryz.call133 rfl rfl (impl_in_ac p1 0 (w64 (p0.p - 1))) rfl ?_
 refine kN 1 rfl ?_
 refine ACode_ret ?_
 cases h
 exact ⟨_, _, fun r a w h => ⟨r, h⟩, _, _, [], _, (.cons (ResV_tmp _ _ rfl) .nil), rfl, rfl, rfl, rfl, rfl⟩

-- loop.example/g01362/impl.TakePoint$1
def impl_TakePoint_c1 (p0 : Col) (p1 : Int) : Bool :=
 (impl_Colouring_has p0 p1)
set_option maxRecDepth 100000 in
theorem impl_TakePoint_c1_ac (p0 : Col) (p1 : Int) : AC Tryz.prog 76 [.d (.pv (colD p0) 0), .d (.pv ([iD p1]) 0)] [] (fun res H' => res = [bV (impl_TakePoint_c1 p0 p1)] ∧ H' = []) := by
 refine AC_of_body true Tryz.func76 rfl Tryz.ntmps76 (rvs := [.tmp 2]) rfl rfl (fun G hG => ?_)
 have hm : G.H.length = 0 := by rw [hG]; rfl
 have hz : zeroG G.H = true := by rw [hG]; rfl
 obtain ⟨r, h⟩ : ∃ r, impl_TakePoint_c1 p0 p1 = r := ⟨_, rfl⟩
 rw [h]
 unfold impl_TakePoint_c1 at h
 refine kR ?_
 refine kN 1 rfl ?_
 refine kR ?_
 refine AOps_q 3 _ rfl rfl rfl (QOp_load_pv _ _ _ _ _ rfl Tryz.isAgg2 rfl rfl) ?_
 refine kC [] 4 (bV (impl_Colouring_has p0 p1)) [] rfl Tryz.call77 rfl rfl (impl_Colouring_has_ac p0 p1) rfl ?_
 refine kN 1 rfl ?_
 refine ACode_ret ?_
 cases h
 exact ⟨_, _, fun r a w h => ⟨r, h⟩, _, _, [], _, (.cons (ResV_tmp _ _ rfl) .nil), rfl, rfl, rfl, rfl, rfl⟩

-- (*loop.example/g01362/impl.Colouring).that
def impl_Colouring_that_l0 (p0 : Col) (p1 : Int → Option (Bool)) : Nat → Int → (List Int) → Option (List Int)
 | 0, _, _ => none
 | k0 + 1, x1, x2 => (if decide (x1 < p0.p) then ((p1 x1).bind fun r4 => (if r4 then (if x2.length + ([x1]).length ≤ 1099511627776 then some (x2 ++ ([x1])) else none) else some x2) : Option (List Int)).bind fun s7 => impl_Colouring_that_l0 p0 p1 k0 (w64 (x1 + 1)) s7 else some x2)
def impl_Colouring_that (k : Nat) (p0 : Col) (p1 : Int → Option (Bool)) : Option (List Int) :=
 (impl_Colouring_that_l0 p0 p1 k 0 ([] : List Int) : Option (List Int)).bind fun s8 => some s8
set_option maxRecDepth 100000 in
theorem impl_Colouring_that_ac (k : Nat) (p0 : Col) (p1 : Int → Option (Bool)) (g_p1 : FuncId) (c_p1 : List D) (hg_p1 : ∀ args w, (callFunc g_p1 args).run Tryz.prog w = .ok (.enter g_p1 args) w) (hf_p1 : ∀ (a0 : Int) (r : Bool), p1 a0 = some r → AC Tryz.prog g_p1 ([iV a0] ++ c_p1.map AV.d) [] (fun res H' => res = [bV r] ∧ H' = [])) (r : List Int) (h : impl_Colouring_that k p0 p1 = some r) : AC Tryz.prog 79 [.d (.pv (colD p0) 0), .d (.clo g_p1 c_p1)] [] (fun res H' => res = [.vec 0 0] ∧ H' = [.vec 0 (intsD r)]) := by
 refine AC_of_body true Tryz.func79 rfl Tryz.ntmps79 (rvs := [.tmp 4]) rfl rfl (fun G hG => ?_)
 have hm : G.H.length = 0 := by rw [hG]; rfl
 have hz : zeroG G.H = true := by rw [hG]; rfl
 unfold impl_Colouring_that at h
 refine kR ?_
 refine kN 1 rfl ?_
 refine kR ?_
 refine AOps_buildSlice 7 _ _ _ [] (intsD ([] : List Int)) _ rfl rfl rfl rfl rfl (by decide) Tryz.underlying27 Tryz.sizeOf2 (zero_of Tryz.typeInfo2 rfl) rfl rfl (intsD_one _) ?_
 refine kN 1 rfl ?_
 refine kB (fun s8 => [(5, .vec 0 0)]) (fun s8 => [.vec 0 (intsD s8)]) h (fun s8 h => ?_) (fun s8 h => ?_)
 ·refine kR ?_
  refine kM 1 rfl ?_
  refine AOps_q 9 _ rfl rfl rfl (QOp_nilCheck_pv _ _ _ rfl rfl) ?_
  refine AOps_q 10 _ rfl rfl rfl (QOp_fieldAddr_pv _ _ _ _ _ 0 _ _ rfl Tryz.underlying26 rfl _ Tryz.sizeOf2 rfl rfl) ?_
  refine AOps_q 11 _ rfl rfl rfl (QOp_load_pv _ _ _ _ _ rfl Tryz.isAgg2 rfl rfl) ?_
  refine kN 1 rfl ?_
  refine ACode_block ?_
  refine ACode_loopW (fun k0 E H => ∃ (x1 : Int) (x2 : List Int), E = [(1, .d (.clo g_p1 c_p1)), (5, .vec 0 0), (11, iV p0.p), (12, iV x1)] ∧ H = [.vec 0 (intsD x2)] ∧ impl_Colouring_that_l0 p0 p1 k0 x1 x2 = some s8) k _ _ (Weak_keep 0 hm [1, 5, 11, 12] [0] _ _ rfl rfl rfl) ⟨_, _, rfl, rfl, h⟩ ?_
  clear h
  rintro k0 E H ⟨x1, x2, rfl, rfl, h⟩
  cases k0 with
  | zero => cases (show (none : Option (List Int)) = some _ from h)
  | succ k0 =>
   rw [impl_Colouring_that_l0] at h
   refine kR ?_
   refine AOps_q 13 _ rfl rfl rfl (QOp_lss _ _ _ _ _ _ _ rfl rfl rfl) ?_
   refine AOps_nil ?_
   refine ACode_seq ?_
   refine kI h rfl (fun h _ => ?_) (fun h _ => ?_)
   ·refine ACode_skip ?_
    refine kB (fun s7 => [(1, .d (.clo g_p1 c_p1)), (5, .vec 0 0), (11, iV p0.p), (12, iV x1)]) (fun s7 => [.vec 0 (intsD s7)]) h (fun s7 h => ?_) (fun s7 h => ?_)
    ·refine ACode_block ?_
     refine kR ?_
     refine kN 2 rfl ?_
     refine kR ?_
     refine kM 2 rfl ?_
     obtain ⟨r4, hr4, h⟩ := bindO h
     refine kC [] 17 (bV r4) [.vec 0 (intsD x2)] rfl hg_p1 rfl (viewA_mapD _) (hf_p1 x1 _ hr4) rfl ?_
     refine AOps_nil ?_
     refine kI h rfl (fun h _ => ?_) (fun h _ => ?_)
     ·refine (ACode_region ?_)
      refine kM 2 rfl ?_
      refine AOps_buildSlice 20 _ _ _ [_] (intsD ([x1])) _ rfl rfl rfl rfl rfl (by decide) Tryz.underlying27 Tryz.sizeOf2 (zero_of Tryz.typeInfo2 rfl) rfl rfl (intsD_one _) ?_
      obtain ⟨hc6, h⟩ := guardO h
      refine AOps_append 21 _ _ _ _ _ _ _ _ _ _ _ _ rfl rfl rfl rfl rfl rfl rfl Tryz.underlying27 Tryz.type2 rfl rfl rfl (by decide) rfl rfl rfl rfl (intsD_one _) (by rw [intsD_length, intsD_length]; exact hc6) ?_
      rw [intsD_app]
      refine kN 1 rfl ?_
      cases h
      exact Weak_trans (Weak_keep 0 hm [1, 5, 11, 12] [0] _ _ rfl rfl rfl) (Weak_reset 0 hm hz [1, 5, 11, 12] _ _ rfl rfl)
     refine ACode_skip ?_
     cases h
     exact Weak_keep 0 hm [1, 5, 11, 12] [0] _ _ rfl rfl rfl
    refine (ACode_region ?_)
    refine AOps_q 22 _ rfl rfl rfl (QOp_add _ _ _ _ _ _ _ rfl rfl rfl) ?_
    refine kN 1 rfl ?_
    exact ⟨k0, _, _, Nat.lt_succ_self _, Weak_keep 0 hm [1, 5, 11, 12] [0] _ _ rfl rfl rfl, _, _, rfl, rfl, h⟩
   refine ACode_exit ?_
   cases h
   exact Weak_keep 0 hm [5] [0] _ _ rfl rfl rfl
 refine kR ?_
 refine kN 2 rfl ?_
 refine ACode_ret ?_
 cases h
 exact ⟨_, _, Weak_reset 0 hm hz [4] _ _ rfl rfl, _, _, [0], _, (.cons (ResV_tmp _ _ rfl) .nil), rfl, rfl, rfl, rfl, rfl⟩

-- loop.example/g01362/impl.TakePoint$2
def impl_TakePoint_c2 (p0 : Int) (p1 : Int) : Bool :=
 !decide (p0 = p1)
set_option maxRecDepth 100000 in
theorem impl_TakePoint_c2_ac (p0 : Int) (p1 : Int) : AC Tryz.prog 80 [iV p0, .d (.pv ([iD p1]) 0)] [] (fun res H' => res = [bV (impl_TakePoint_c2 p0 p1)] ∧ H' = []) := by
 refine AC_of_body true Tryz.func80 rfl Tryz.ntmps80 (rvs := [.tmp 3]) rfl rfl (fun G hG => ?_)
 have hm : G.H.length = 0 := by rw [hG]; rfl
 have hz : zeroG G.H = true := by rw [hG]; rfl
 obtain ⟨r, h⟩ : ∃ r, impl_TakePoint_c2 p0 p1 = r := ⟨_, rfl⟩
 rw [h]
 unfold impl_TakePoint_c2 at h
 refine kR ?_
 refine kN 1 rfl ?_
 refine kR ?_
 refine kM 1 rfl ?_
 refine AOps_q 5 _ rfl rfl rfl (QOp_load_pv _ _ _ _ _ rfl Tryz.isAgg2 rfl rfl) ?_
 refine AOps_q 6 _ rfl rfl rfl (QOp_neq _ _ _ _ _ _ _ rfl rfl rfl) ?_
 refine kN 1 rfl ?_
 refine ACode_ret ?_
 cases h
 exact ⟨_, _, fun r a w h => ⟨r, h⟩, _, _, [], _, (.cons (ResV_tmp _ _ rfl) .nil), rfl, rfl, rfl, rfl, rfl⟩

-- loop.example/g01362/impl.made
def impl_made_l1 (p2 : Int → Int → Option (Int)) (x1 : Int) : Nat → Int → Col → Option (Col)
 | 0, _, _ => none
 | k1 + 1, x4, x5 => (if decide (x4 < x1) then (p2 x4 x1).bind fun r7 => (impl_Colouring_put x5 x4 x1 r7).bind fun r8 => impl_made_l1 p2 x1 k1 (w64 (x4 + 1)) r8 else some x5)
def impl_made_l0 (k : Nat) (p0 : Int) (p2 : Int → Int → Option (Int)) : Nat → Int → Col → Option (Col)
 | 0, _, _ => none
 | k0 + 1, x1, x2 => (if decide (x1 < p0) then (impl_made_l1 p2 x1 k 0 x2 : Option (Col)).bind fun s9 => impl_made_l0 k p0 p2 k0 (w64 (x1 + 1)) s9 else some x2)
def impl_made (k : Nat) (p0 : Int) (p1 : Int) (p2 : Int → Int → Option (Int)) : Option (Col) :=
 (impl_made_l0 k p0 p2 k 0 (⟨p0, p1, B136.zero⟩ : Col) : Option (Col)).bind fun s10 => some s10
set_option maxRecDepth 100000 in
theorem impl_made_ac (k : Nat) (p0 : Int) (p1 : Int) (p2 : Int → Int → Option (Int)) (g_p2 : FuncId) (c_p2 : List D) (hg_p2 : ∀ args w, (callFunc g_p2 args).run Tryz.prog w = .ok (.enter g_p2 args) w) (hf_p2 : ∀ (a0 : Int) (a1 : Int) (r : Int), p2 a0 a1 = some r → AC Tryz.prog g_p2 ([iV a0, iV a1] ++ c_p2.map AV.d) [] (fun res H' => res = [iV r] ∧ H' = [])) (r : Col) (h : impl_made k p0 p1 p2 = some r) : AC Tryz.prog 148 [iV p0, iV p1, .d (.clo g_p2 c_p2)] [] (fun res H' => res = [.d (.agg (colD r))] ∧ H' = []) := by
 refine AC_of_body true Tryz.func148 rfl Tryz.ntmps148 (rvs := [.cell 6 26]) rfl rfl (fun G hG => ?_)
 have hm : G.H.length = 0 := by rw [hG]; rfl
 have hz : zeroG G.H = true := by rw [hG]; rfl
 unfold impl_made at h
 refine kR ?_
 refine AOps_alloc 6 _ _ (colD Col.zero) (zero_of Tryz.typeInfo26 rfl) (by rfl) rfl rfl rfl rfl ?_
 refine AOps_nil ?_
 refine kR ?_
 refine kM 2 rfl ?_
 refine AOps_q 12 _ rfl rfl rfl (QOp_build _ _ [_, _] [0, 1] [iD p0, iD p1] _ (colD Col.zero) (colD (⟨p0, p1, B136.zero⟩ : Col)) [(0, 1), (1, 1), (2, 136)] rfl rfl Tryz.underlying26 (zero_of Tryz.typeInfo26 rfl) (fun w => by simp [Tryz.sizeOf2, Tryz.sizeOf2, Tryz.sizeOf24]) rfl (by rfl) (by rfl) (allc (ok1 rfl) (allc (ok1 rfl) (fun _ h => nomatch h)))) ?_
 refine AOps_alloc 7 _ _ (colD Col.zero) (zero_of Tryz.typeInfo26 rfl) (by rfl) rfl rfl rfl rfl ?_
 refine AOps_store _ _ _ _ _ _ (colD _) _ _ rfl rfl rfl rfl rfl rfl rfl (colD_one _) (by rw [colD_length]; exact Tryz.sizeOf26) (by rw [colD_length, colD_length]; decide) (colD_whole _ _) ?_
 refine AOps_nil ?_
 refine kB (fun s10 => [(6, .ptr 0 0), (7, .ptr 1 0)]) (fun s10 => [.box (colD Col.zero), .box (colD s10)]) h (fun s10 h => ?_) (fun s10 h => ?_)
 ·refine kR ?_
  refine kN 2 rfl ?_
  refine ACode_block ?_
  refine ACode_loopW (fun k0 E H => ∃ (x1 : Int) (x2 : Col), E = [(2, .d (.clo g_p2 c_p2)), (6, .ptr 0 0), (7, .ptr 1 0), (13, iV p0), (14, iV x1)] ∧ H = [.box (colD Col.zero), .box (colD x2)] ∧ impl_made_l0 k p0 p2 k0 x1 x2 = some s10) k _ _ (Weak_keep 0 hm [2, 6, 7, 13, 14] [0, 1] _ _ rfl rfl rfl) ⟨_, _, rfl, rfl, h⟩ ?_
  clear h
  rintro k0 E H ⟨x1, x2, rfl, rfl, h⟩
  cases k0 with
  | zero => cases (show (none : Option (Col)) = some _ from h)
  | succ k0 =>
   rw [impl_made_l0] at h
   refine kR ?_
   refine AOps_q 15 _ rfl rfl rfl (QOp_lss _ _ _ _ _ _ _ rfl rfl rfl) ?_
   refine AOps_nil ?_
   refine ACode_seq ?_
   refine kI h rfl (fun h _ => ?_) (fun h _ => ?_)
   ·refine ACode_skip ?_
    refine kB (fun s9 => [(2, .d (.clo g_p2 c_p2)), (6, .ptr 0 0), (7, .ptr 1 0), (13, iV p0), (14, iV x1)]) (fun s9 => [.box (colD Col.zero), .box (colD s9)]) h (fun s9 h => ?_) (fun s9 h => ?_)
    ·refine ACode_block ?_
     refine kR ?_
     refine kN 2 rfl ?_
     refine kR ?_
     refine kN 2 rfl ?_
     refine ACode_block ?_
     refine ACode_loopW (fun k1 E H => ∃ (x4 : Int) (x5 : Col), E = [(2, .d (.clo g_p2 c_p2)), (6, .ptr 0 0), (7, .ptr 1 0), (8, iV x1), (13, iV p0), (14, iV x1), (17, iV x1), (18, iV x4)] ∧ H = [.box (colD Col.zero), .box (colD x5)] ∧ impl_made_l1 p2 x1 k1 x4 x5 = some s9) k _ _ (Weak_keep 0 hm [2, 6, 7, 8, 13, 14, 17, 18] [0, 1] _ _ rfl rfl rfl) ⟨_, _, rfl, rfl, h⟩ ?_
     clear h
     rintro k1 E H ⟨x4, x5, rfl, rfl, h⟩
     cases k1 with
     | zero => cases (show (none : Option (Col)) = some _ from h)
     | succ k1 =>
      rw [impl_made_l1] at h
      refine kR ?_
      refine AOps_q 19 _ rfl rfl rfl (QOp_lss _ _ _ _ _ _ _ rfl rfl rfl) ?_
      refine AOps_nil ?_
      refine ACode_seq ?_
      refine kI h rfl (fun h _ => ?_) (fun h _ => ?_)
      ·refine ACode_skip ?_
       refine ACode_seq ?_
       refine ACode_block ?_
       refine kR ?_
       refine kN 2 rfl ?_
       refine (ACode_region ?_)
       refine kM 5 rfl ?_
       obtain ⟨r7, hr7, h⟩ := bindO h
       refine kC [] 26 (iV r7) [.box (colD Col.zero), .box (colD x5)] rfl hg_p2 rfl (viewA_mapD _) (hf_p2 x4 x1 _ hr7) rfl ?_
       obtain ⟨r8, hr8, h⟩ := bindO h
       refine kC [1] 27 (.tup []) [.box (colD Col.zero), .box (colD r8)] rfl Tryz.call146 rfl rfl (impl_Colouring_put_ac x5 x4 x1 r7 _ hr8) rfl ?_
       refine AOps_nil ?_
       refine (ACode_region ?_)
       refine AOps_q 28 _ rfl rfl rfl (QOp_add _ _ _ _ _ _ _ rfl rfl rfl) ?_
       refine kN 1 rfl ?_
       exact ⟨k1, _, _, Nat.lt_succ_self _, Weak_keep 0 hm [2, 6, 7, 8, 13, 14, 17, 18] [0, 1] _ _ rfl rfl rfl, _, _, rfl, rfl, h⟩
      refine ACode_exit ?_
      cases h
      exact Weak_keep 0 hm [2, 6, 7, 13, 14] [0, 1] _ _ rfl rfl rfl
    refine (ACode_region ?_)
    refine AOps_q 29 _ rfl rfl rfl (QOp_add _ _ _ _ _ _ _ rfl rfl rfl) ?_
    refine kN 1 rfl ?_
    exact ⟨k0, _, _, Nat.lt_succ_self _, Weak_keep 0 hm [2, 6, 7, 13, 14] [0, 1] _ _ rfl rfl rfl, _, _, rfl, rfl, h⟩
   refine ACode_exit ?_
   cases h
   exact Weak_keep 0 hm [6, 7] [0, 1] _ _ rfl rfl rfl
 refine kR ?_
 refine AOps_q 30 _ rfl rfl rfl (QOp_loadN_ptr _ _ _ _ _ _ _ rfl Tryz.isAgg26 Tryz.sizeOf26 rfl rfl (colD_all _) (colD_length _)) ?_
 refine AOps_store _ _ _ _ _ _ (colD _) _ _ rfl rfl rfl rfl rfl rfl rfl (colD_one _) (by rw [colD_length]; exact Tryz.sizeOf26) (by rw [colD_length, colD_length]; decide) (colD_whole _ _) ?_
 refine AOps_nil ?_
 refine ACode_ret ?_
 cases h
 exact ⟨_, _, fun r a w h => ⟨r, h⟩, _, _, [], _, (.cons (ResV_agg _ _ _ _ _ _ Tryz.isAgg26 Tryz.sizeOf26 rfl rfl (colD_take _) (colD_length _)) .nil), rfl, rfl, rfl, rfl, rfl⟩

-- (*loop.example/g01362/impl.Colouring).at
def impl_Colouring_at (p0 : Col) (p1 : Int) (p2 : Int) : Option (Int) :=
 (if 0 ≤ (impl_number p1 p2) ∧ (impl_number p1 p2) < 136 then some ((p0.get ((impl_number p1 p2).toNat)).toNat : Int) else none)
set_option maxRecDepth 100000 in
theorem impl_Colouring_at_ac (p0 : Col) (p1 : Int) (p2 : Int) (r : Int) (h : impl_Colouring_at p0 p1 p2 = some r) : AC Tryz.prog 129 [.d (.pv (colD p0) 0), iV p1, iV p2] [] (fun res H' => res = [iV r] ∧ H' = []) := by
 refine AC_of_body true Tryz.func129 rfl Tryz.ntmps129 (rvs := [.tmp 6]) rfl rfl (fun G hG => ?_)
 have hm : G.H.length = 0 := by rw [hG]; rfl
 have hz : zeroG G.H = true := by rw [hG]; rfl
 unfold impl_Colouring_at at h
 refine kR ?_
 refine kN 1 rfl ?_
 refine ACode_seq (ACode_quiet mixed (by kernel_rfl) ?_)
 refine kQ 3 rfl ?_
 refine AQ_call 10 _ _ _ _ _ _ _ _ _ rfl rfl rfl rfl rfl rfl rfl Tryz.call168 rfl rfl rfl (impl_number_ac p1 p2) ?_
 refine AQ_q 11 _ rfl rfl rfl (QOp_nilCheck_pv _ _ _ rfl rfl) ?_
 refine AQ_q 12 _ rfl rfl rfl (QOp_fieldAddr_pv _ _ _ _ _ 2 _ _ rfl Tryz.underlying26 rfl _ Tryz.sizeOf24 rfl rfl) ?_
 obtain ⟨hc2, h⟩ := guardO h
 refine AQ_q 13 _ rfl rfl rfl (QOp_indexAddrA_pv _ _ _ _ _ _ _ _ _ rfl Tryz.underlying24 Tryz.sizeOf5 hc2.1 hc2.2 rfl rfl) ?_
 refine AQ_q 14 _ rfl rfl rfl (QOp_load_pv _ _ _ _ _ rfl Tryz.isAgg5 rfl (colD_get _ _ (by omega))) ?_
 refine AQ_q 15 _ rfl rfl rfl (QOp_fromByte _ _ _ _ _ rfl rfl Tryz.underlying2 wrap_i64_byte rfl) ?_
 refine kQ 1 rfl ?_
 refine AQ_nil ?_
 refine ACode_ret ?_
 cases h
 exact ⟨_, _, fun r a w h => ⟨r, h⟩, _, _, [], _, (.cons (ResV_tmp _ _ rfl) .nil), rfl, rfl, rfl, rfl, rfl⟩

-- (*loop.example/g01362/impl.Colouring).part$1
def impl_Colouring_part_c1 (p0 : Int) (p1 : Int) (p2 : Col) (p3 : List Int) : Option (Int) :=
 (if 0 ≤ p0 ∧ p0 < (p3.length : Int) then (if 0 ≤ p1 ∧ p1 < (p3.length : Int) then (impl_Colouring_at p2 (p3.getD p0.toNat 0) (p3.getD p1.toNat 0)).bind fun r3 => some r3 else none) else none)
set_option maxRecDepth 100000 in
theorem impl_Colouring_part_c1_ac (p0 : Int) (p1 : Int) (p2 : Col) (p3 : List Int) (r : Int) (h : impl_Colouring_part_c1 p0 p1 p2 p3 = some r) : AC Tryz.prog 149 [iV p0, iV p1, .d (.pv ([.pv (colD p2) 0]) 0), .d (.pv ([.sl none (intsD p3)]) 0)] [] (fun res H' => res = [iV r] ∧ H' = []) := by
 refine AC_of_body true Tryz.func149 rfl Tryz.ntmps149 (rvs := [.tmp 6]) rfl rfl (fun G hG => ?_)
 have hm : G.H.length = 0 := by rw [hG]; rfl
 have hz : zeroG G.H = true := by rw [hG]; rfl
 unfold impl_Colouring_part_c1 at h
 refine kR ?_
 refine kN 1 rfl ?_
 refine ACode_seq (ACode_quiet mixed (by kernel_rfl) ?_)
 refine AQ_q 7 _ rfl rfl rfl (QOp_load_pv _ _ _ _ _ rfl Tryz.isAgg92 rfl rfl) ?_
 refine AQ_q 8 _ rfl rfl rfl (QOp_load_pv _ _ _ _ _ rfl Tryz.isAgg27 rfl rfl) ?_
 refine kQ 1 rfl ?_
 obtain ⟨hc1, h⟩ := guardO h
 refine AQ_q 10 _ rfl rfl rfl (QOp_indexAddr_sl _ _ _ _ _ _ _ _ rfl Tryz.underlying27 Tryz.sizeOf2 hc1.1 (by rw [intsD_length]; exact hc1.2) rfl rfl) ?_
 refine AQ_q 11 _ rfl rfl rfl (QOp_load_pv _ _ _ _ _ rfl Tryz.isAgg2 rfl (intsD_get _ _ 0 (by omega))) ?_
 refine AQ_q 12 _ rfl rfl rfl (QOp_load_pv _ _ _ _ _ rfl Tryz.isAgg27 rfl rfl) ?_
 refine kQ 1 rfl ?_
 obtain ⟨hc2, h⟩ := guardO h
 refine AQ_q 14 _ rfl rfl rfl (QOp_indexAddr_sl _ _ _ _ _ _ _ _ rfl Tryz.underlying27 Tryz.sizeOf2 hc2.1 (by rw [intsD_length]; exact hc2.2) rfl rfl) ?_
 refine AQ_q 15 _ rfl rfl rfl (QOp_load_pv _ _ _ _ _ rfl Tryz.isAgg2 rfl (intsD_get _ _ 0 (by omega))) ?_
 obtain ⟨r3, hr3, h⟩ := bindO h
 refine AQ_call 16 _ _ _ _ _ _ _ _ _ rfl rfl rfl rfl rfl rfl rfl Tryz.call129 rfl rfl rfl (impl_Colouring_at_ac p2 (p3.getD p0.toNat 0) (p3.getD p1.toNat 0) _ hr3) ?_
 refine kQ 1 rfl ?_
 refine AQ_nil ?_
 refine ACode_ret ?_
 cases h
 exact ⟨_, _, fun r a w h => ⟨r, h⟩, _, _, [], _, (.cons (ResV_tmp _ _ rfl) .nil), rfl, rfl, rfl, rfl, rfl⟩

-- (*loop.example/g01362/impl.Colouring).part
def impl_Colouring_part (k : Nat) (p0 : Col) (p1 : List Int) : Option (Col) :=
 (impl_made k (impl_size p1) p0.k (fun a0 a1 => impl_Colouring_part_c1 a0 a1 p0 p1)).bind fun r2 => some r2
set_option maxRecDepth 100000 in
theorem impl_Colouring_part_ac (k : Nat) (p0 : Col) (p1 : List Int) (r : Col) (h : impl_Colouring_part k p0 p1 = some r) : AC Tryz.prog 78 [.d (.pv (colD p0) 0), .d (.sl none (intsD p1))] [] (fun res H' => res = [.d (.agg (colD r))] ∧ H' = []) := by
 refine AC_of_body true Tryz.func78 rfl Tryz.ntmps78 (rvs := [.cell 4 26]) rfl rfl (fun G hG => ?_)
 have hm : G.H.length = 0 := by rw [hG]; rfl
 have hz : zeroG G.H = true := by rw [hG]; rfl
 unfold impl_Colouring_part at h
 refine kR ?_
 refine AOps_boxI 2 _ _ (.pv (colD p0) 0) _ rfl (fun c hc => by cases hc with | head => rfl | tail _ h => cases h) rfl rfl rfl rfl rfl ?_
 refine AOps_boxI 3 _ _ (.sl none (intsD p1)) _ rfl (fun c hc => by cases hc with | head => rfl | tail _ h => cases h) rfl rfl rfl rfl rfl ?_
 refine AOps_alloc 4 _ _ (colD Col.zero) (zero_of Tryz.typeInfo26 rfl) (by rfl) rfl rfl rfl rfl ?_
 refine AOps_nil ?_
 obtain ⟨r2, hr2, h⟩ := bindO h
 refine ACode_seqJ (fun E' H' => Weak 13 G E' H' [(4, .ptr 0 0)] [.box (colD r2)]) ?_ ?_
 ·refine ACode_anyLast (l := [_, _, _, _, _, _, _, _]) mixed (by kernel_rfl) ?_
  refine AAny_q 0 5 _ rfl (by kernel_rfl) rfl rfl rfl (QOp_load_pv _ _ _ _ _ rfl Tryz.isAgg27 rfl rfl) ?_
  refine AAny_call 1 6 _ _ _ _ _ _ _ _ _ rfl (by kernel_rfl) rfl rfl rfl rfl rfl rfl rfl Tryz.call143 rfl rfl rfl (impl_size_ac p1) ?_
  refine AAny_q 2 7 _ rfl (by kernel_rfl) rfl rfl rfl (QOp_load_pv _ _ _ _ _ rfl Tryz.isAgg92 rfl rfl) ?_
  refine AAny_q 3 8 _ rfl (by kernel_rfl) rfl rfl rfl (QOp_nilCheck_pv _ _ _ rfl rfl) ?_
  refine AAny_q 4 9 _ rfl (by kernel_rfl) rfl rfl rfl (QOp_fieldAddr_pv _ _ _ _ _ 1 _ _ rfl Tryz.underlying26 rfl _ Tryz.sizeOf2 rfl rfl) ?_
  refine AAny_q 5 10 _ rfl (by kernel_rfl) rfl rfl rfl (QOp_load_pv _ _ _ _ _ rfl Tryz.isAgg2 rfl rfl) ?_
  refine AAny_q 6 11 _ rfl (by kernel_rfl) rfl rfl rfl (QOp_makeFuncD _ _ _ _ rfl rfl rfl) ?_
  refine AAny_all [7] (by kernel_rfl) rfl (allc ?_ (fun _ h => nomatch h))
  refine AStep_callN 7 12 _ _ _ _ _ _ _ _ _ rfl rfl rfl rfl rfl rfl rfl rfl Tryz.call148 rfl rfl rfl (impl_made_ac k (impl_size p1) p0.k (fun a0 a1 => impl_Colouring_part_c1 a0 a1 p0 p1) 149 ([.pv ([.pv (colD p0) 0]) 0, .pv ([.sl none (intsD p1)]) 0]) Tryz.call149 (fun a0 a1 r h => impl_Colouring_part_c1_ac a0 a1 p0 p1 r h) _ hr2) ?_
  rintro _ _ ⟨rfl, rfl⟩
  refine ⟨(fun _ h => nomatch h), (allc (trivial) (fun _ h => nomatch h)), AAny_as 12 (v' := .d (.agg (colD r2))) (H' := [.box (colD Col.zero)]) rfl rfl ?_⟩
  refine AAny_done (by kernel_rfl) ?_
  refine AOps_store _ _ _ _ _ _ (colD _) _ _ rfl rfl rfl rfl rfl rfl rfl (colD_one _) (by rw [colD_length]; exact Tryz.sizeOf26) (by rw [colD_length, colD_length]; decide) (colD_whole _ _) ?_
  refine AOps_nil ?_
  exact Weak_keep 0 hm [4] [0] _ _ rfl rfl rfl
 intro E' H' hw
 refine ACode_weak hw ?_
 refine ACode_ret ?_
 cases h
 exact ⟨_, _, fun r a w h => ⟨r, h⟩, _, _, [], _, (.cons (ResV_agg _ _ _ _ _ _ Tryz.isAgg26 Tryz.sizeOf26 rfl rfl (colD_take _) (colD_length _)) .nil), rfl, rfl, rfl, rfl, rfl⟩

-- loop.example/g01362/impl.TakePoint
def impl_TakePoint (k : Nat) (p0 : Col) (p1 : Int) : Option (Col × Int) :=
 (impl_Colouring_code k p0 (some (impl_TakePoint_c1 p0 p1))).bind fun r1 => letO (letO (if decide (r1 = 0) then decide (p0.p = 1) else false) fun (s3 : Bool) => (if s3 then 5 else r1)) fun (s5 : Int) => (if !decide (s5 = 0) then some ((⟨0, 0, B136.zero⟩ : Col), s5) else (impl_Colouring_that k p0 (fun a0 => some (impl_TakePoint_c2 a0 p1))).bind fun r7 => (impl_Colouring_part k p0 r7).bind fun r8 => some (r8, 0))
set_option maxRecDepth 100000 in
theorem impl_TakePoint_ac (k : Nat) (p0 : Col) (p1 : Int) (r : Col × Int) (h : impl_TakePoint k p0 p1 = some r) : AC Tryz.prog 10 [.d (.agg (colD p0)), iV p1] [] (fun res H' => res = [.d (.agg (colD r.1)), iV r.2] ∧ H' = []) := by
 refine AC_of_body true Tryz.func10 rfl Tryz.ntmps10 (rvs := [.cell 4 26, .tmp 5]) rfl rfl (fun G hG => ?_)
 have hm : G.H.length = 0 := by rw [hG]; rfl
 have hz : zeroG G.H = true := by rw [hG]; rfl
 unfold impl_TakePoint at h
 refine kR ?_
 refine AOps_boxI 2 _ _ (.agg (colD p0)) (colD p0) rfl (colD_one _) rfl rfl rfl rfl rfl ?_
 refine AOps_boxI 3 _ _ (iD p1) _ rfl (fun c hc => by cases hc with | head => rfl | tail _ h => cases h) rfl rfl rfl rfl rfl ?_
 refine AOps_alloc 4 _ _ (colD Col.zero) (zero_of Tryz.typeInfo26 rfl) (by rfl) rfl rfl rfl rfl ?_
 refine kN 1 rfl ?_
 refine kR ?_
 refine AOps_q 7 _ rfl rfl rfl (QOp_makeFuncD _ _ _ _ rfl rfl rfl) ?_
 obtain ⟨r1, hr1, h⟩ := bindO h
 refine kC [] 8 (iV r1) [.box (colD Col.zero)] rfl Tryz.call69 rfl rfl (impl_Colouring_code_ac k p0 (some (impl_TakePoint_c1 p0 p1)) 76 ([.pv (colD p0) 0, .pv ([iD p1]) 0]) Tryz.call76 (fun r h => by cases h; exact impl_TakePoint_c1_ac p0 p1) _ hr1) rfl ?_
 refine kN 1 rfl ?_
 refine kL (fun s5 => [(2, .d (.pv (colD p0) 0)), (3, .d (.pv ([iD p1]) 0)), (4, .ptr 0 0), (6, iV s5)]) (fun s5 => [.box (colD Col.zero)]) h (fun s5 h => ?_) (fun s5 h => ?_)
 ·refine kL (fun s3 => [(2, .d (.pv (colD p0) 0)), (3, .d (.pv ([iD p1]) 0)), (4, .ptr 0 0), (6, iV r1), (15, bV s3)]) (fun s3 => [.box (colD Col.zero)]) h (fun s3 h => ?_) (fun s3 h => ?_)
  ·refine (ACode_region ?_)
   refine kM 1 rfl ?_
   refine AOps_q 10 _ rfl rfl rfl (QOp_eql _ _ _ _ _ _ _ rfl rfl rfl) ?_
   refine kM 1 rfl ?_
   refine AOps_case 11 _ rfl (fun hb2 => ?_) (fun hb2 => ?_)
   ·have h := iteT hb2 h
    refine AOps_q 12 _ rfl rfl rfl (QOp_fieldAddr_pv _ _ _ _ _ 0 _ _ rfl Tryz.underlying26 rfl _ Tryz.sizeOf2 rfl rfl) ?_
    refine AOps_q 13 _ rfl rfl rfl (QOp_load_pv _ _ _ _ _ rfl Tryz.isAgg2 rfl rfl) ?_
    refine AOps_q 14 _ rfl rfl rfl (QOp_eql _ _ _ _ _ _ _ rfl rfl rfl) ?_
    refine kN 1 rfl ?_
    cases h
    exact Weak_keep 0 hm [2, 3, 4, 6, 15] [0] _ _ rfl rfl rfl
   have h := iteF hb2 h
   refine AOps_skip 12 rfl rfl rfl ?_
   refine AOps_skip 13 rfl rfl rfl ?_
   refine AOps_skip 14 rfl rfl rfl ?_
   refine kN 1 rfl ?_
   cases h
   exact Weak_keep 0 hm [2, 3, 4, 6, 15] [0] _ _ rfl rfl rfl
  refine kI h rfl (fun h _ => ?_) (fun h _ => ?_)
  ·refine (ACode_region ?_)
   refine kN 1 rfl ?_
   cases h
   exact Weak_keep 0 hm [2, 3, 4, 6] [0] _ _ rfl rfl rfl
  refine ACode_skip ?_
  cases h
  exact Weak_keep 0 hm [2, 3, 4, 6] [0] _ _ rfl rfl rfl
 refine ACode_seq ?_
 refine kR ?_
 refine kM 1 rfl ?_
 refine AOps_q 17 _ rfl rfl rfl (QOp_neq _ _ _ _ _ _ _ rfl rfl rfl) ?_
 refine AOps_nil ?_
 refine kI h rfl (fun h _ => ?_) (fun h _ => ?_)
 ·refine kR ?_
  refine AOps_q 18 _ rfl rfl rfl (QOp_build _ _ [] [] [] _ (colD Col.zero) (colD (⟨0, 0, B136.zero⟩ : Col)) [(0, 1), (1, 1), (2, 136)] rfl rfl Tryz.underlying26 (zero_of Tryz.typeInfo26 rfl) (fun w => by simp [Tryz.sizeOf2, Tryz.sizeOf2, Tryz.sizeOf24]) rfl (by rfl) (by rfl) (fun _ h => nomatch h)) ?_
  refine kM 1 rfl ?_
  refine AOps_store _ _ _ _ _ _ (colD _) _ _ rfl rfl rfl rfl rfl rfl rfl (colD_one _) (by rw [colD_length]; exact Tryz.sizeOf26) (by rw [colD_length, colD_length]; decide) (colD_whole _ _) ?_
  refine kN 1 rfl ?_
  refine ACode_ret ?_
  cases h
  exact ⟨_, _, fun r a w h => ⟨r, h⟩, _, _, [], _, (.cons (ResV_agg _ _ _ _ _ _ Tryz.isAgg26 Tryz.sizeOf26 rfl rfl (colD_take _) (colD_length _)) (.cons (ResV_tmp _ _ rfl) .nil)), rfl, rfl, rfl, rfl, rfl⟩
 refine ACode_skip ?_
 refine kR ?_
 refine AOps_q 20 _ rfl rfl rfl (QOp_makeFuncD _ _ _ _ rfl rfl rfl) ?_
 obtain ⟨r7, hr7, h⟩ := bindO h
 refine kC [] 21 (.vec 1 0) [.box (colD Col.zero), .vec 0 (intsD r7)] rfl Tryz.call79 rfl rfl (impl_Colouring_that_ac k p0 (fun a0 => some (impl_TakePoint_c2 a0 p1)) 80 ([.pv ([iD p1]) 0]) Tryz.call80 (fun a0 r h => by cases h; exact impl_TakePoint_c2_ac a0 p1) _ hr7) rfl ?_
 obtain ⟨r8, hr8, h⟩ := bindO h
 refine AOps_callL [] 22 _ _ _ _ _ _ _ _ _ _ rfl rfl rfl rfl rfl rfl rfl Tryz.call78 rfl (nodupB_sound _ rfl) rfl rfl rfl (impl_Colouring_part_ac k p0 r7 _ hr8) ?_
 rintro _ _ ⟨rfl, rfl⟩
 refine ⟨(fun _ h => nomatch h), (allc (flat_agg (colD_flat _)) (fun _ h => nomatch h)), AOps_as 22 (v' := .d (.agg (colD r8))) (H' := [.box (colD Col.zero), .vec 0 (intsD r7)]) rfl rfl ?_⟩
 refine AOps_store _ _ _ _ _ _ (colD _) _ _ rfl rfl rfl rfl rfl rfl rfl (colD_one _) (by rw [colD_length]; exact Tryz.sizeOf26) (by rw [colD_length, colD_length]; decide) (colD_whole _ _) ?_
 refine kN 1 rfl ?_
 refine ACode_ret ?_
 cases h
 exact ⟨_, _, fun r a w h => ⟨r, h⟩, _, _, [], _, (.cons (ResV_agg _ _ _ _ _ _ Tryz.isAgg26 Tryz.sizeOf26 rfl rfl (colD_take _) (colD_length _)) (.cons (ResV_tmp _ _ rfl) .nil)), rfl, rfl, rfl, rfl, rfl⟩

-- (*loop.example/g01362/impl.Colouring).isSet
def impl_Colouring_isSet_l0 (p0 : Col) (p1 : List Int) : Nat → Int → Option (Sum (Unit) (Bool))
 | 0, _ => none
 | k0 + 1, x1 => (if decide (x1 < (p1.length : Int)) then ((if 0 ≤ x1 ∧ x1 < (p1.length : Int) then ((if !(impl_Colouring_has p0 (p1.getD x1.toNat 0)) then some true else (if decide (0 < x1) then (if 0 ≤ w64 (x1 - 1) ∧ w64 (x1 - 1) < (p1.length : Int) then some (decide ((p1.getD x1.toNat 0) ≤ (p1.getD (w64 (x1 - 1)).toNat 0))) else none) else some false)) : Option (Bool)).bind fun s8 => (if s8 then (some (.inr false)).bind fun rr => some (.inr rr) else some (.inl ())) else none) : Option (Sum (Unit) (Sum (Unit) (Bool)))).bind fun os10 => (match os10 with | .inl s10 => impl_Colouring_isSet_l0 p0 p1 k0 (w64 (x1 + 1)) | .inr rr => some rr) else some (.inl ()))
def impl_Colouring_isSet (k : Nat) (p0 : Col) (p1 : List Int) : Option (Bool) :=
 (impl_Colouring_isSet_l0 p0 p1 k 0 : Option (Sum (Unit) (Bool))).bind fun os11 => (match os11 with | .inl s11 => some true | .inr rr => some rr)
set_option maxRecDepth 100000 in
theorem impl_Colouring_isSet_ac (k : Nat) (p0 : Col) (p1 : List Int) (r : Bool) (h : impl_Colouring_isSet k p0 p1 = some r) : AC Tryz.prog 82 [.d (.pv (colD p0) 0), .d (.sl none (intsD p1))] [] (fun res H' => res = [bV r] ∧ H' = []) := by
 refine AC_of_body true Tryz.func82 rfl Tryz.ntmps82 (rvs := [.tmp 4]) rfl rfl (fun G hG => ?_)
 have hm : G.H.length = 0 := by rw [hG]; rfl
 have hz : zeroG G.H = true := by rw [hG]; rfl
 unfold impl_Colouring_isSet at h
 refine kR ?_
 refine kN 1 rfl ?_
 refine kO (fun s11 => []) (fun s11 => []) h (fun os11 h hks11 => ?_) (fun s11 h => ?_)
 ·refine kR ?_
  refine kM 1 rfl ?_
  refine AOps_q 8 _ rfl rfl rfl (QOp_len_sl _ _ _ _ _ _ _ (intsD_length _) rfl rfl rfl rfl Tryz.underlying27 rfl) ?_
  refine kN 1 rfl ?_
  refine ACode_block ?_
  refine ACode_loopW (fun k0 E H => ∃ (x1 : Int), E = [(0, .d (.pv (colD p0) 0)), (1, .d (.sl none (intsD p1))), (7, .d (.sl none (intsD p1))), (8, iV (p1.length : Int)), (9, iV x1)] ∧ H = [] ∧ impl_Colouring_isSet_l0 p0 p1 k0 x1 = some os11) k _ _ (Weak_keep 0 hm [0, 1, 7, 8, 9] [] _ _ rfl rfl rfl) ⟨_, rfl, rfl, h⟩ ?_
  clear h
  rintro k0 E H ⟨x1, rfl, rfl, h⟩
  cases k0 with
  | zero => cases (show (none : Option (Sum (Unit) (Bool))) = some _ from h)
  | succ k0 =>
   rw [impl_Colouring_isSet_l0] at h
   refine kR ?_
   refine AOps_q 10 _ rfl rfl rfl (QOp_lss _ _ _ _ _ _ _ rfl rfl rfl) ?_
   refine AOps_nil ?_
   refine ACode_seq ?_
   refine kI h rfl (fun h _ => ?_) (fun h _ => ?_)
   ·refine ACode_skip ?_
    refine kO (fun s10 => [(0, .d (.pv (colD p0) 0)), (1, .d (.sl none (intsD p1))), (7, .d (.sl none (intsD p1))), (8, iV (p1.length : Int)), (9, iV x1)]) (fun s10 => []) h (fun os10 h hks10 => ?_) (fun s10 h => ?_)
    ·refine ACode_block ?_
     refine kR ?_
     refine kM 1 rfl ?_
     obtain ⟨hc3, h⟩ := guardO h
     refine AOps_q 12 _ rfl rfl rfl (QOp_indexAddr_sl _ _ _ _ _ _ _ _ rfl Tryz.underlying27 Tryz.sizeOf2 hc3.1 (by rw [intsD_length]; exact hc3.2) rfl rfl) ?_
     refine AOps_q 13 _ rfl rfl rfl (QOp_load_pv _ _ _ _ _ rfl Tryz.isAgg2 rfl (intsD_get _ _ 0 (by omega))) ?_
     refine kN 2 rfl ?_
     refine kB (fun s8 => [(0, .d (.pv (colD p0) 0)), (1, .d (.sl none (intsD p1))), (7, .d (.sl none (intsD p1))), (8, iV (p1.length : Int)), (9, iV x1), (30, bV s8)]) (fun s8 => []) h (fun s8 h => ?_) (fun s8 h => ?_)
     ·refine (ACode_region ?_)
      refine kM 2 rfl ?_
      refine kC [] 16 (bV (impl_Colouring_has p0 (p1.getD x1.toNat 0))) [] rfl Tryz.call77 rfl rfl (impl_Colouring_has_ac p0 (p1.getD x1.toNat 0)) rfl ?_
      refine AOps_q 17 _ rfl rfl rfl (QOp_not _ _ _ rfl rfl) ?_
      refine kM 1 rfl ?_
      refine AOps_case 18 _ rfl (fun hb5 => ?_) (fun hb5 => ?_)
      ·have h := iteT hb5 h
       refine AOps_skip 19 rfl rfl rfl ?_
       refine AOps_skip 20 rfl rfl rfl ?_
       refine AOps_skip 21 rfl rfl rfl ?_
       refine AOps_skip 22 rfl rfl rfl ?_
       refine AOps_skip 23 rfl rfl rfl ?_
       refine AOps_skip 24 rfl rfl rfl ?_
       refine AOps_skip 25 rfl rfl rfl ?_
       refine AOps_skip 26 rfl rfl rfl ?_
       refine AOps_skip 27 rfl rfl rfl ?_
       refine AOps_skip 28 rfl rfl rfl ?_
       refine AOps_skip 29 rfl rfl rfl ?_
       refine kN 1 rfl ?_
       cases h
       exact Weak_keep 0 hm [0, 1, 7, 8, 9, 30] [] _ _ rfl rfl rfl
      have h := iteF hb5 h
      refine kM 1 rfl ?_
      refine AOps_q 20 _ rfl rfl rfl (QOp_gtr _ _ _ _ _ _ _ rfl rfl rfl) ?_
      refine kM 1 rfl ?_
      refine AOps_case 21 _ rfl (fun hb6 => ?_) (fun hb6 => ?_)
      ·have h := iteT hb6 h
       refine kM 2 rfl ?_
       refine AOps_q 24 _ rfl rfl rfl (QOp_sub _ _ _ _ _ _ _ rfl rfl rfl) ?_
       obtain ⟨hc7, h⟩ := guardO h
       refine AOps_q 25 _ rfl rfl rfl (QOp_indexAddr_sl _ _ _ _ _ _ _ _ rfl Tryz.underlying27 Tryz.sizeOf2 hc7.1 (by rw [intsD_length]; exact hc7.2) rfl rfl) ?_
       refine AOps_q 26 _ rfl rfl rfl (QOp_load_pv _ _ _ _ _ rfl Tryz.isAgg2 rfl (intsD_get _ _ 0 (by omega))) ?_
       refine kM 1 rfl ?_
       refine AOps_q 28 _ rfl rfl rfl (QOp_geq _ _ _ _ _ _ _ rfl rfl rfl) ?_
       refine kN 2 rfl ?_
       cases h
       exact Weak_keep 0 hm [0, 1, 7, 8, 9, 30] [] _ _ rfl rfl rfl
      have h := iteF hb6 h
      refine AOps_skip 22 rfl rfl rfl ?_
      refine AOps_skip 23 rfl rfl rfl ?_
      refine AOps_skip 24 rfl rfl rfl ?_
      refine AOps_skip 25 rfl rfl rfl ?_
      refine AOps_skip 26 rfl rfl rfl ?_
      refine AOps_skip 27 rfl rfl rfl ?_
      refine AOps_skip 28 rfl rfl rfl ?_
      refine kN 2 rfl ?_
      cases h
      exact Weak_keep 0 hm [0, 1, 7, 8, 9, 30] [] _ _ rfl rfl rfl
     refine kI h rfl (fun h _ => ?_) (fun h _ => ?_)
     ·refine kR ?_
      refine kN 1 rfl ?_
      refine ACode_ret ?_
      obtain ⟨rr, hz12, h2⟩ := bindO h
      obtain rfl := Option.some.inj h2
      obtain rfl := Option.some.inj (show some rr = some _ from hks10)
      have h := hz12
      cases h
      have h := hks11
      cases h
      exact ⟨_, _, fun r a w h => ⟨r, h⟩, _, _, [], _, (.cons (ResV_tmp _ _ rfl) .nil), rfl, rfl, rfl, rfl, rfl⟩
     refine ACode_skip ?_
     cases h
     exact ⟨_, rfl, Weak_keep 0 hm [0, 1, 7, 8, 9] [] _ _ rfl rfl rfl⟩
    refine (ACode_region ?_)
    refine AOps_q 31 _ rfl rfl rfl (QOp_add _ _ _ _ _ _ _ rfl rfl rfl) ?_
    refine kN 1 rfl ?_
    exact ⟨k0, _, _, Nat.lt_succ_self _, Weak_keep 0 hm [0, 1, 7, 8, 9] [] _ _ rfl rfl rfl, _, rfl, rfl, h⟩
   refine ACode_exit ?_
   cases h
   exact ⟨_, rfl, Weak_keep 0 hm [] [] _ _ rfl rfl rfl⟩
 refine kR ?_
 refine kN 1 rfl ?_
 refine ACode_ret ?_
 cases h
 exact ⟨_, _, fun r a w h => ⟨r, h⟩, _, _, [], _, (.cons (ResV_tmp _ _ rfl) .nil), rfl, rfl, rfl, rfl, rfl⟩

-- loop.example/g01362/impl.PartOn$1
def impl_PartOn_c1 (k : Nat) (p0 : Col) (p1 : List Int) : Option (Bool) :=
 ((impl_Colouring_isSet k p0 p1).bind fun r1 => (if r1 then some (decide (0 < (p1.length : Int))) else some false) : Option (Bool)).bind fun s3 => some s3
set_option maxRecDepth 100000 in
theorem impl_PartOn_c1_ac (k : Nat) (p0 : Col) (p1 : List Int) (r : Bool) (h : impl_PartOn_c1 k p0 p1 = some r) : AC Tryz.prog 81 [.d (.pv (colD p0) 0), .d (.pv ([.sl none (intsD p1)]) 0)] [] (fun res H' => res = [bV r] ∧ H' = []) := by
 refine AC_of_body true Tryz.func81 rfl Tryz.ntmps81 (rvs := [.tmp 2]) rfl rfl (fun G hG => ?_)
 have hm : G.H.length = 0 := by rw [hG]; rfl
 have hz : zeroG G.H = true := by rw [hG]; rfl
 unfold impl_PartOn_c1 at h
 refine kR ?_
 refine kN 1 rfl ?_
 refine kB (fun s3 => [(2, bV s3)]) (fun s3 => []) h (fun s3 h => ?_) (fun s3 h => ?_)
 ·refine (ACode_region ?_)
  refine AOps_q 3 _ rfl rfl rfl (QOp_load_pv _ _ _ _ _ rfl Tryz.isAgg27 rfl rfl) ?_
  obtain ⟨r1, hr1, h⟩ := bindO h
  refine kC [] 4 (bV r1) [] rfl Tryz.call82 rfl rfl (impl_Colouring_isSet_ac k p0 p1 _ hr1) rfl ?_
  refine kM 1 rfl ?_
  refine AOps_case 5 _ rfl (fun hb2 => ?_) (fun hb2 => ?_)
  ·have h := iteT hb2 h
   refine AOps_q 6 _ rfl rfl rfl (QOp_load_pv _ _ _ _ _ rfl Tryz.isAgg27 rfl rfl) ?_
   refine AOps_q 7 _ rfl rfl rfl (QOp_len_sl _ _ _ _ _ _ _ (intsD_length _) rfl rfl rfl rfl Tryz.underlying27 rfl) ?_
   refine AOps_q 8 _ rfl rfl rfl (QOp_gtr _ _ _ _ _ _ _ rfl rfl rfl) ?_
   refine kN 2 rfl ?_
   cases h
   exact Weak_keep 0 hm [2] [] _ _ rfl rfl rfl
  have h := iteF hb2 h
  refine AOps_skip 6 rfl rfl rfl ?_
  refine AOps_skip 7 rfl rfl rfl ?_
  refine AOps_skip 8 rfl rfl rfl ?_
  refine kN 2 rfl ?_
  cases h
  exact Weak_keep 0 hm [2] [] _ _ rfl rfl rfl
 refine ACode_ret ?_
 cases h
 exact ⟨_, _, fun r a w h => ⟨r, h⟩, _, _, [], _, (.cons (ResV_tmp _ _ rfl) .nil), rfl, rfl, rfl, rfl, rfl⟩

-- loop.example/g01362/impl.PartOn
def impl_PartOn (k : Nat) (p0 : Col) (p1 : List Int) : Option (Col × Int) :=
 (impl_Colouring_code k p0 (impl_PartOn_c1 k p0 p1)).bind fun r1 => (if !decide (r1 = 0) then some ((⟨0, 0, B136.zero⟩ : Col), r1) else (impl_Colouring_part k p0 p1).bind fun r3 => some (r3, 0))
set_option maxRecDepth 100000 in
theorem impl_PartOn_ac (k : Nat) (p0 : Col) (p1 : List Int) (r : Col × Int) (h : impl_PartOn k p0 p1 = some r) : AC Tryz.prog 11 [.d (.agg (colD p0)), .d (.sl none (intsD p1))] [] (fun res H' => res = [.d (.agg (colD r.1)), iV r.2] ∧ H' = []) := by
 refine AC_of_body true Tryz.func11 rfl Tryz.ntmps11 (rvs := [.cell 4 26, .tmp 5]) rfl rfl (fun G hG => ?_)
 have hm : G.H.length = 0 := by rw [hG]; rfl
 have hz : zeroG G.H = true := by rw [hG]; rfl
 unfold impl_PartOn at h
 refine kR ?_
 refine AOps_boxI 2 _ _ (.agg (colD p0)) (colD p0) rfl (colD_one _) rfl rfl rfl rfl rfl ?_
 refine AOps_boxI 3 _ _ (.sl none (intsD p1)) _ rfl (fun c hc => by cases hc with | head => rfl | tail _ h => cases h) rfl rfl rfl rfl rfl ?_
 refine AOps_alloc 4 _ _ (colD Col.zero) (zero_of Tryz.typeInfo26 rfl) (by rfl) rfl rfl rfl rfl ?_
 refine kN 1 rfl ?_
 refine ACode_seq ?_
 refine kR ?_
 refine AOps_q 7 _ rfl rfl rfl (QOp_makeFuncD _ _ _ _ rfl rfl rfl) ?_
 obtain ⟨r1, hr1, h⟩ := bindO h
 refine kC [] 8 (iV r1) [.box (colD Col.zero)] rfl Tryz.call69 rfl rfl (impl_Colouring_code_ac k p0 (impl_PartOn_c1 k p0 p1) 81 ([.pv (colD p0) 0, .pv ([.sl none (intsD p1)]) 0]) Tryz.call81 (fun r h => impl_PartOn_c1_ac k p0 p1 r h) _ hr1) rfl ?_
 refine kN 1 rfl ?_
 refine kR ?_
 refine kM 1 rfl ?_
 refine AOps_q 10 _ rfl rfl rfl (QOp_neq _ _ _ _ _ _ _ rfl rfl rfl) ?_
 refine AOps_nil ?_
 refine kI h rfl (fun h _ => ?_) (fun h _ => ?_)
 ·refine kR ?_
  refine AOps_q 11 _ rfl rfl rfl (QOp_build _ _ [] [] [] _ (colD Col.zero) (colD (⟨0, 0, B136.zero⟩ : Col)) [(0, 1), (1, 1), (2, 136)] rfl rfl Tryz.underlying26 (zero_of Tryz.typeInfo26 rfl) (fun w => by simp [Tryz.sizeOf2, Tryz.sizeOf2, Tryz.sizeOf24]) rfl (by rfl) (by rfl) (fun _ h => nomatch h)) ?_
  refine kM 1 rfl ?_
  refine AOps_store _ _ _ _ _ _ (colD _) _ _ rfl rfl rfl rfl rfl rfl rfl (colD_one _) (by rw [colD_length]; exact Tryz.sizeOf26) (by rw [colD_length, colD_length]; decide) (colD_whole _ _) ?_
  refine kN 1 rfl ?_
  refine ACode_ret ?_
  cases h
  exact ⟨_, _, fun r a w h => ⟨r, h⟩, _, _, [], _, (.cons (ResV_agg _ _ _ _ _ _ Tryz.isAgg26 Tryz.sizeOf26 rfl rfl (colD_take _) (colD_length _)) (.cons (ResV_tmp _ _ rfl) .nil)), rfl, rfl, rfl, rfl, rfl⟩
 refine ACode_skip ?_
 refine kR ?_
 refine AOps_q 13 _ rfl rfl rfl (QOp_load_pv _ _ _ _ _ rfl Tryz.isAgg27 rfl rfl) ?_
 obtain ⟨r3, hr3, h⟩ := bindO h
 refine kC [] 14 (.d (.agg (colD r3))) [.box (colD Col.zero)] rfl Tryz.call78 rfl rfl (impl_Colouring_part_ac k p0 p1 _ hr3) rfl ?_
 refine AOps_store _ _ _ _ _ _ (colD _) _ _ rfl rfl rfl rfl rfl rfl rfl (colD_one _) (by rw [colD_length]; exact Tryz.sizeOf26) (by rw [colD_length, colD_length]; decide) (colD_whole _ _) ?_
 refine kN 1 rfl ?_
 refine ACode_ret ?_
 cases h
 exact ⟨_, _, fun r a w h => ⟨r, h⟩, _, _, [], _, (.cons (ResV_agg _ _ _ _ _ _ Tryz.isAgg26 Tryz.sizeOf26 rfl rfl (colD_take _) (colD_length _)) (.cons (ResV_tmp _ _ rfl) .nil)), rfl, rfl, rfl, rfl, rfl⟩

-- loop.example/g01362/spec.DrawRenumberPoints
def spec_DrawRenumberPoints (k : Nat) (p0 : List UInt8) : Option (Col × List Int) :=
 (spec_l01From k p0).bind fun r1 => (spec_l01Draw k r1).bind fun r2 => (spec_l01DrawOrder k r2.2 r2.1.p).bind fun r3 => ((spec_l01Next r3.2 16).bind fun r4 => (if decide (r4.1 = 0) then (if r3.1.length + ([0]).length ≤ 1099511627776 then some (r4.2, (r3.1 ++ ([0]))) else none) else (if decide (r4.1 = 1) then (if 0 ≤ w64 ((r3.1.length : Int) - 1) ∧ w64 ((r3.1.length : Int) - 1) < (r3.1.length : Int) then (spec_l01Pick r4.2 ([(-1), r2.1.p, (r3.1.getD (w64 ((r3.1.length : Int) - 1)).toNat 0)])).bind fun r9 => (if 0 ≤ (0 : Int) ∧ (0 : Int) < (r3.1.length : Int) then some (r9.2, r3.1.set (0 : Int).toNat r9.1) else none) else none) else some (r4.2, r3.1))) : Option (Src × List Int)).bind fun s11 => (spec_l01Bad s11.1 r2.1).bind fun r12 => some (r12.1, s11.2)
set_option maxRecDepth 100000 in
theorem spec_DrawRenumberPoints_ac (k : Nat) (p0 : List UInt8) (r : Col × List Int) (h : spec_DrawRenumberPoints k p0 = some r) : AC Tryz.prog 12 [.d (.sl none (bysD p0))] [] (fun res H' => res = [.d (.agg (colD r.1)), .vec 0 0] ∧ H' = [.vec 0 (intsD r.2)]) := by
 refine AC_of_body true Tryz.func12 rfl Tryz.ntmps12 (rvs := [.cell 2 26, .tmp 3]) rfl rfl (fun G hG => ?_)
 have hm : G.H.length = 0 := by rw [hG]; rfl
 have hz : zeroG G.H = true := by rw [hG]; rfl
 unfold spec_DrawRenumberPoints at h
 refine kR ?_
 refine AOps_alloc 2 _ _ (colD Col.zero) (zero_of Tryz.typeInfo26 rfl) (by rfl) rfl rfl rfl rfl ?_
 refine kN 1 rfl ?_
 refine kR ?_
 refine kM 1 rfl ?_
 obtain ⟨r1, hr1, h⟩ := bindO h
 refine kC [] 8 (.ptr 1 0) [.box (colD Col.zero), .box (srcD r1)] rfl Tryz.call64 rfl rfl (spec_l01From_ac k p0 _ hr1) rfl ?_
 refine kN 1 rfl ?_
 refine kR ?_
 refine kM 1 rfl ?_
 obtain ⟨r2, hr2, h⟩ := bindO h
 refine kC [1] 10 (.d (.agg (colD r2.1))) [.box (colD Col.zero), .box (srcD r2.2)] rfl Tryz.call65 rfl rfl (spec_l01Draw_ac k r1 _ hr2) rfl ?_
 refine AOps_alloc 5 _ _ (colD Col.zero) (zero_of Tryz.typeInfo26 rfl) (by rfl) rfl rfl rfl rfl ?_
 refine AOps_store _ _ _ _ _ _ (colD _) _ _ rfl rfl rfl rfl rfl rfl rfl (colD_one _) (by rw [colD_length]; exact Tryz.sizeOf26) (by rw [colD_length, colD_length]; decide) (colD_whole _ _) ?_
 refine AOps_nil ?_
 refine kR ?_
 refine kM 1 rfl ?_
 refine AOps_q 12 _ rfl rfl rfl (QOp_fieldAddr_ptr _ _ _ _ _ _ 0 _ _ rfl Tryz.underlying26 rfl _ Tryz.sizeOf2 rfl rfl rfl rfl) ?_
 refine AOps_q 13 _ rfl rfl rfl (QOp_load_ptr _ _ _ _ _ _ rfl Tryz.isAgg2 rfl rfl rfl) ?_
 obtain ⟨r3, hr3, h⟩ := bindO h
 refine kC [1] 14 (.vec 3 0) [.box (colD Col.zero), .box (srcD r3.2), .box (colD r2.1), .vec 0 (intsD r3.1)] rfl Tryz.call83 rfl rfl (spec_l01DrawOrder_ac k r2.2 r2.1.p _ hr3) rfl ?_
 refine kN 1 rfl ?_
 refine kB (fun s11 => [(2, .ptr 0 0), (4, .ptr 1 0), (5, .ptr 2 0), (6, .vec 3 0)]) (fun s11 => [.box (colD Col.zero), .box (srcD s11.1), .box (colD r2.1), .vec 0 (intsD s11.2)]) h (fun s11 h => ?_) (fun s11 h => ?_)
 ·refine kR ?_
  refine kM 1 rfl ?_
  obtain ⟨r4, hr4, h⟩ := bindO h
  refine kC [1] 16 (iV r4.1) [.box (colD Col.zero), .box (srcD r4.2), .box (colD r2.1), .vec 0 (intsD r3.1)] rfl Tryz.call66 rfl rfl (spec_l01Next_ac r3.2 16 _ hr4) rfl ?_
  refine AOps_nil ?_
  refine ACode_block ?_
  refine kR ?_
  refine AOps_q 18 _ rfl rfl rfl (QOp_eql _ _ _ _ _ _ _ rfl rfl rfl) ?_
  refine kN 1 rfl ?_
  refine kI h rfl (fun h _ => ?_) (fun h _ => ?_)
  ·refine (ACode_region ?_)
   refine kM 1 rfl ?_
   refine AOps_buildSlice 20 _ _ _ [_] (intsD ([0])) _ rfl rfl rfl rfl rfl (by decide) Tryz.underlying27 Tryz.sizeOf2 (zero_of Tryz.typeInfo2 rfl) rfl rfl (intsD_one _) ?_
   obtain ⟨hc6, h⟩ := guardO h
   refine AOps_append 21 _ _ _ _ _ _ _ _ _ _ _ _ rfl rfl rfl rfl rfl rfl rfl Tryz.underlying27 Tryz.type2 rfl rfl rfl (by decide) rfl rfl rfl rfl (intsD_one _) (by rw [intsD_length, intsD_length]; exact hc6) ?_
   rw [intsD_app]
   refine kN 1 rfl ?_
   cases h
   exact Weak_trans (Weak_keep 0 hm [2, 4, 5, 6] [0, 1, 2, 3] _ _ rfl rfl rfl) (Weak_reset 0 hm hz [2, 4, 5, 6] _ _ rfl rfl)
  refine kR ?_
  refine AOps_q 23 _ rfl rfl rfl (QOp_eql _ _ _ _ _ _ _ rfl rfl rfl) ?_
  refine kN 1 rfl ?_
  refine kI h rfl (fun h _ => ?_) (fun h _ => ?_)
  ·obtain ⟨hc8, h⟩ := guardO h
   obtain ⟨r9, hr9, h⟩ := bindO h
   obtain ⟨hc10, h⟩ := guardO h
   refine ACode_reg [(2, .ptr 0 0), (4, .ptr 1 0), (5, .ptr 2 0), (6, .vec 3 0)] [.box (colD Col.zero), .box (srcD r9.2), .box (colD r2.1), .vec 0 (intsD (r3.1.set (0 : Int).toNat r9.1))] ?_ ?_
   ·refine ACode_anyU mixed ?_
    refine AU_cut 4 #[true, true, true, true, true, true, true, true, true, true, false, false, false, false] [(2, .ptr 0 0), (4, .ptr 1 0), (5, .ptr 2 0), (6, .vec 3 0), (24, .vec 3 0), (25, .ptr 1 0), (27, iV r2.1.p), (33, iV (r3.1.getD (w64 ((r3.1.length : Int) - 1)).toNat 0))] [.box (colD Col.zero), .box (srcD r4.2), .box (colD r2.1), .vec 0 (intsD r3.1)] ?_ (fun hS0 => ?_)
    ·refine AU_one 10 (by kernel_rfl) rfl rfl ?_
     refine AOps_buildSlice 34 _ _ _ [_, _, _] (intsD ([(-1), r2.1.p, (r3.1.getD (w64 ((r3.1.length : Int) - 1)).toNat 0)])) _ rfl rfl rfl rfl rfl (by decide) Tryz.underlying27 Tryz.sizeOf2 (zero_of Tryz.typeInfo2 rfl) rfl rfl (intsD_one _) ?_
     refine AOps_nil ?_
     refine AU_one 11 (by kernel_rfl) rfl rfl ?_
     refine AOps_freezeL [34] 4 0 _ (allc (rfl) (fun _ h => nomatch h)) rfl ?_
     refine kC [1] 35 (iV r9.1) [.box (colD Col.zero), .box (srcD r9.2), .box (colD r2.1), .vec 0 (intsD r3.1), .gone] rfl Tryz.call67 rfl rfl (spec_l01Pick_ac r4.2 ([(-1), r2.1.p, (r3.1.getD (w64 ((r3.1.length : Int) - 1)).toNat 0)]) _ hr9) rfl ?_
     refine AOps_nil ?_
     refine AU_u 12 36 _ rfl (by kernel_rfl) rfl rfl rfl (UOp_indexAddr_vec _ _ _ _ _ _ _ _ _ rfl Tryz.underlying27 Tryz.sizeOf2 hc10.1 (by rw [intsD_length]; exact hc10.2) rfl rfl rfl) ?_
     refine AU_one 13 (by kernel_rfl) rfl rfl ?_
     refine AOps_store_eptr _ _ _ _ _ _ (intsD r3.1) _ rfl rfl rfl rfl rfl rfl rfl Tryz.sizeOf2 (by rw [intsD_length]; omega) ?_
     rw [intsD_set]
     refine AOps_nil ?_
     refine AU_done (by kernel_rfl) ?_
     exact ⟨rfl, Weak_keep 0 hm [2, 4, 5, 6] [0, 1, 2, 3] _ _ rfl rfl rfl⟩
    refine AU_u 0 24 _ rfl (by kernel_rfl) rfl rfl rfl (UOp_move _ _ rfl rfl) ?_
    refine AU_u 1 25 _ rfl (by kernel_rfl) rfl rfl rfl (UOp_move _ _ rfl rfl) ?_
    refine AU_u 2 26 _ rfl (by kernel_rfl) rfl rfl rfl (UOp_fieldAddr_ptr _ _ _ _ _ _ 0 _ _ rfl Tryz.underlying26 rfl _ Tryz.sizeOf2 rfl rfl rfl rfl) ?_
    refine AU_u 4 28 _ rfl (by kernel_rfl) rfl rfl rfl (UOp_move _ _ rfl rfl) ?_
    refine AU_u 5 29 _ rfl (by kernel_rfl) rfl rfl rfl (UOp_move _ _ rfl rfl) ?_
    refine AU_u 6 30 _ rfl (by kernel_rfl) rfl rfl rfl (UOp_len_vec _ _ _ _ _ _ _ _ (intsD_length _) rfl rfl rfl rfl Tryz.underlying27 rfl rfl) ?_
    refine AU_u 7 31 _ rfl (by kernel_rfl) rfl rfl rfl (UOp_sub _ _ _ _ _ _ _ rfl rfl rfl) ?_
    refine AU_u 8 32 _ rfl (by kernel_rfl) rfl rfl rfl (UOp_indexAddr_vec _ _ _ _ _ _ _ _ _ rfl Tryz.underlying27 Tryz.sizeOf2 hc8.1 (by rw [intsD_length]; exact hc8.2) rfl rfl rfl) ?_
    refine AU_all [3, 9] (by kernel_rfl) rfl (allc ?_ (allc ?_ (fun _ h => nomatch h)))
    ·refine US_of 3 rfl rfl ?_
     refine AOps_q 27 _ rfl rfl rfl (QOp_load_ptr _ _ _ _ _ _ rfl Tryz.isAgg2 rfl rfl rfl) ?_
     refine AOps_nil ?_
     refine AU_one 9 (by kernel_rfl) rfl rfl ?_
     refine AOps_q 33 _ rfl rfl rfl (QOp_load_eptr _ _ _ _ _ _ _ rfl Tryz.isAgg2 rfl rfl (intsD_get _ _ 0 (by omega))) ?_
     refine AOps_nil ?_
     exact AU_to (by kernel_rfl) hS0 (Weak_keep 0 hm [2, 4, 5, 6, 24, 25, 27, 33] [0, 1, 2, 3] _ _ rfl rfl rfl)
    refine US_of 9 rfl rfl ?_
    refine AOps_q 33 _ rfl rfl rfl (QOp_load_eptr _ _ _ _ _ _ _ rfl Tryz.isAgg2 rfl rfl (intsD_get _ _ 0 (by omega))) ?_
    refine AOps_nil ?_
    refine AU_one 3 (by kernel_rfl) rfl rfl ?_
    refine AOps_q 27 _ rfl rfl rfl (QOp_load_ptr _ _ _ _ _ _ rfl Tryz.isAgg2 rfl rfl rfl) ?_
    refine AOps_nil ?_
    exact AU_to (by kernel_rfl) hS0 (Weak_keep 0 hm [2, 4, 5, 6, 24, 25, 27, 33] [0, 1, 2, 3] _ _ rfl rfl rfl)
   cases h
   exact Weak_keep 0 hm [2, 4, 5, 6] [0, 1, 2, 3] _ _ rfl rfl rfl
  refine ACode_skip ?_
  cases h
  exact Weak_keep 0 hm [2, 4, 5, 6] [0, 1, 2, 3] _ _ rfl rfl rfl
 refine kR ?_
 refine kM 1 rfl ?_
 refine AOps_q 38 _ rfl rfl rfl (QOp_loadN_ptr _ _ _ _ _ _ _ rfl Tryz.isAgg26 Tryz.sizeOf26 rfl rfl (colD_all _) (colD_length _)) ?_
 obtain ⟨r12, hr12, h⟩ := bindO h
 refine kC [1] 39 (.d (.agg (colD r12.1))) [.box (colD Col.zero), .box (srcD r12.2), .box (colD r2.1), .vec 0 (intsD s11.2)] rfl Tryz.call68 rfl rfl (spec_l01Bad_ac s11.1 r2.1 _ hr12) rfl ?_
 refine kM 1 rfl ?_
 refine AOps_store _ _ _ _ _ _ (colD _) _ _ rfl rfl rfl rfl rfl rfl rfl (colD_one _) (by rw [colD_length]; exact Tryz.sizeOf26) (by rw [colD_length, colD_length]; decide) (colD_whole _ _) ?_
 refine kN 1 rfl ?_
 refine ACode_ret ?_
 cases h
 exact ⟨_, _, Weak_reset 0 hm hz [2, 3] _ _ rfl rfl, _, _, [3], _, (.cons (ResV_agg _ _ _ _ _ _ Tryz.isAgg26 Tryz.sizeOf26 rfl rfl (colD_take _) (colD_length _)) (.cons (ResV_tmp _ _ rfl) .nil)), rfl, rfl, rfl, rfl, rfl⟩

-- loop.example/g01362/impl.isOrder
def impl_isOrder_l0 (r2 : List Int) : Nat → Int → Option (Sum (Unit) (Bool))
 | 0, _ => none
 | k0 + 1, x3 => (if decide (x3 < (r2.length : Int)) then (if 0 ≤ x3 ∧ x3 < (r2.length : Int) then (if !decide (x3 = (r2.getD x3.toNat 0)) then some (.inr false) else impl_isOrder_l0 r2 k0 (w64 (x3 + 1))) else none) else some (.inl ()))
def impl_isOrder (k : Nat) (p0 : List Int) (p1 : Int) : Option (Bool) :=
 ((sortedI p0).bind fun r2 => impl_isOrder_l0 r2 k 0 : Option (Sum (Unit) (Bool))).bind fun os7 => (match os7 with | .inl s7 => some (decide ((impl_size p0) = p1)) | .inr rr => some rr)
set_option maxRecDepth 100000 in
theorem impl_isOrder_ac (k : Nat) (p0 : List Int) (p1 : Int) (r : Bool) (h : impl_isOrder k p0 p1 = some r) : AC Tryz.prog 85 [.d (.sl none (intsD p0)), iV p1] [] (fun res H' => res = [bV r] ∧ H' = []) := by
 refine AC_of_body true Tryz.func85 rfl Tryz.ntmps85 (rvs := [.tmp 4]) rfl rfl (fun G hG => ?_)
 have hm : G.H.length = 0 := by rw [hG]; rfl
 have hz : zeroG G.H = true := by rw [hG]; rfl
 unfold impl_isOrder at h
 refine kR ?_
 refine kN 1 rfl ?_
 refine kO (fun s7 => [(0, .d (.sl none (intsD p0))), (1, iV p1)]) (fun s7 => []) h (fun os7 h hks7 => ?_) (fun s7 h => ?_)
 ·refine kR ?_
  refine kM 1 rfl ?_
  refine kC [] 8 (.d (.clo 175 [.pv ([.sl none (intsD p0)]) 0])) [] rfl Tryz.call152 rfl rfl (values_ac p0) rfl ?_
  obtain ⟨r2, hr2, h⟩ := bindO h
  refine kC [] 9 (.d (.sl none (intsD r2))) [] rfl Tryz.call151 rfl rfl (sorted_ac p0 _ hr2) rfl ?_
  refine AOps_q 10 _ rfl rfl rfl (QOp_len_sl _ _ _ _ _ _ _ (intsD_length _) rfl rfl rfl rfl Tryz.underlying27 rfl) ?_
  refine kN 1 rfl ?_
  refine ACode_block ?_
  refine ACode_loopW (fun k0 E H => ∃ (x3 : Int), E = [(0, .d (.sl none (intsD p0))), (1, iV p1), (9, .d (.sl none (intsD r2))), (10, iV (r2.length : Int)), (11, iV x3)] ∧ H = [] ∧ impl_isOrder_l0 r2 k0 x3 = some os7) k _ _ (Weak_keep 0 hm [0, 1, 9, 10, 11] [] _ _ rfl rfl rfl) ⟨_, rfl, rfl, h⟩ ?_
  clear h
  rintro k0 E H ⟨x3, rfl, rfl, h⟩
  cases k0 with
  | zero => cases (show (none : Option (Sum (Unit) (Bool))) = some _ from h)
  | succ k0 =>
   rw [impl_isOrder_l0] at h
   refine kR ?_
   refine AOps_q 12 _ rfl rfl rfl (QOp_lss _ _ _ _ _ _ _ rfl rfl rfl) ?_
   refine AOps_nil ?_
   refine ACode_seq ?_
   refine kI h rfl (fun h _ => ?_) (fun h _ => ?_)
   ·refine ACode_skip ?_
    refine ACode_seq ?_
    refine ACode_block ?_
    refine kR ?_
    refine kM 1 rfl ?_
    obtain ⟨hc5, h⟩ := guardO h
    refine AOps_q 14 _ rfl rfl rfl (QOp_indexAddr_sl _ _ _ _ _ _ _ _ rfl Tryz.underlying27 Tryz.sizeOf2 hc5.1 (by rw [intsD_length]; exact hc5.2) rfl rfl) ?_
    refine AOps_q 15 _ rfl rfl rfl (QOp_load_pv _ _ _ _ _ rfl Tryz.isAgg2 rfl (intsD_get _ _ 0 (by omega))) ?_
    refine kN 2 rfl ?_
    refine kR ?_
    refine kM 2 rfl ?_
    refine AOps_q 18 _ rfl rfl rfl (QOp_neq _ _ _ _ _ _ _ rfl rfl rfl) ?_
    refine AOps_nil ?_
    refine kI h rfl (fun h _ => ?_) (fun h _ => ?_)
    ·refine kR ?_
     refine kN 1 rfl ?_
     refine ACode_ret ?_
     cases h
     have h := hks7
     cases h
     exact ⟨_, _, fun r a w h => ⟨r, h⟩, _, _, [], _, (.cons (ResV_tmp _ _ rfl) .nil), rfl, rfl, rfl, rfl, rfl⟩
    refine ACode_skip ?_
    refine (ACode_region ?_)
    refine AOps_q 19 _ rfl rfl rfl (QOp_add _ _ _ _ _ _ _ rfl rfl rfl) ?_
    refine kN 1 rfl ?_
    exact ⟨k0, _, _, Nat.lt_succ_self _, Weak_keep 0 hm [0, 1, 9, 10, 11] [] _ _ rfl rfl rfl, _, rfl, rfl, h⟩
   refine ACode_exit ?_
   cases h
   exact ⟨_, rfl, Weak_keep 0 hm [0, 1] [] _ _ rfl rfl rfl⟩
 refine kR ?_
 refine kM 1 rfl ?_
 refine kC [] 21 (iV (impl_size p0)) [] rfl Tryz.call143 rfl rfl (impl_size_ac p0) rfl ?_
 refine kM 1 rfl ?_
 refine AOps_q 23 _ rfl rfl rfl (QOp_eql _ _ _ _ _ _ _ rfl rfl rfl) ?_
 refine kN 1 rfl ?_
 refine ACode_ret ?_
 cases h
 exact ⟨_, _, fun r a w h => ⟨r, h⟩, _, _, [], _, (.cons (ResV_tmp _ _ rfl) .nil), rfl, rfl, rfl, rfl, rfl⟩

-- loop.example/g01362/impl.RenumberPoints$1
def impl_RenumberPoints_c1 (k : Nat) (p0 : List Int) (p1 : Col) : Option (Bool) :=
 (impl_isOrder k p0 p1.p).bind fun r1 => some r1
set_option maxRecDepth 100000 in
theorem impl_RenumberPoints_c1_ac (k : Nat) (p0 : List Int) (p1 : Col) (r : Bool) (h : impl_RenumberPoints_c1 k p0 p1 = some r) : AC Tryz.prog 84 [.d (.pv ([.sl none (intsD p0)]) 0), .d (.pv (colD p1) 0)] [] (fun res H' => res = [bV r] ∧ H' = []) := by
 refine AC_of_body true Tryz.func84 rfl Tryz.ntmps84 (rvs := [.tmp 2]) rfl rfl (fun G hG => ?_)
 have hm : G.H.length = 0 := by rw [hG]; rfl
 have hz : zeroG G.H = true := by rw [hG]; rfl
 unfold impl_RenumberPoints_c1 at h
 refine kR ?_
 refine kN 1 rfl ?_
 refine kR ?_
 refine AOps_q 3 _ rfl rfl rfl (QOp_load_pv _ _ _ _ _ rfl Tryz.isAgg27 rfl rfl) ?_
 refine AOps_q 4 _ rfl rfl rfl (QOp_fieldAddr_pv _ _ _ _ _ 0 _ _ rfl Tryz.underlying26 rfl _ Tryz.sizeOf2 rfl rfl) ?_
 refine AOps_q 5 _ rfl rfl rfl (QOp_load_pv _ _ _ _ _ rfl Tryz.isAgg2 rfl rfl) ?_
 obtain ⟨r1, hr1, h⟩ := bindO h
 refine kC [] 6 (bV r1) [] rfl Tryz.call85 rfl rfl (impl_isOrder_ac k p0 p1.p _ hr1) rfl ?_
 refine kN 1 rfl ?_
 refine ACode_ret ?_
 cases h
 exact ⟨_, _, fun r a w h => ⟨r, h⟩, _, _, [], _, (.cons (ResV_tmp _ _ rfl) .nil), rfl, rfl, rfl, rfl, rfl⟩

-- (*loop.example/g01362/impl.Colouring).renumbered
def impl_Colouring_renumbered_l1 (p0 : Col) (p1 : List Int) (x1 : Int) : Nat → Int → Col → Option (Col)
 | 0, _, _ => none
 | k1 + 1, x4, x5 => (if decide (x4 < x1) then (if 0 ≤ x4 ∧ x4 < (p1.length : Int) then (if 0 ≤ x1 ∧ x1 < (p1.length : Int) then (impl_Colouring_at p0 x4 x1).bind fun r9 => (impl_Colouring_put x5 (p1.getD x4.toNat 0) (p1.getD x1.toNat 0) r9).bind fun r10 => impl_Colouring_renumbered_l1 p0 p1 x1 k1 (w64 (x4 + 1)) r10 else none) else none) else some x5)
def impl_Colouring_renumbered_l0 (k : Nat) (p0 : Col) (p1 : List Int) : Nat → Int → Col → Option (Col)
 | 0, _, _ => none
 | k0 + 1, x1, x2 => (if decide (x1 < p0.p) then (impl_Colouring_renumbered_l1 p0 p1 x1 k 0 x2 : Option (Col)).bind fun s11 => impl_Colouring_renumbered_l0 k p0 p1 k0 (w64 (x1 + 1)) s11 else some x2)
def impl_Colouring_renumbered (k : Nat) (p0 : Col) (p1 : List Int) : Option (Col) :=
 (impl_Colouring_renumbered_l0 k p0 p1 k 0 (⟨p0.p, p0.k, B136.zero⟩ : Col) : Option (Col)).bind fun s12 => some s12
set_option maxRecDepth 100000 in
theorem impl_Colouring_renumbered_ac (k : Nat) (p0 : Col) (p1 : List Int) (r : Col) (h : impl_Colouring_renumbered k p0 p1 = some r) : AC Tryz.prog 86 [.d (.pv (colD p0) 0), .d (.sl none (intsD p1))] [] (fun res H' => res = [.d (.agg (colD r))] ∧ H' = []) := by
 refine AC_of_body true Tryz.func86 rfl Tryz.ntmps86 (rvs := [.cell 4 26]) rfl rfl (fun G hG => ?_)
 have hm : G.H.length = 0 := by rw [hG]; rfl
 have hz : zeroG G.H = true := by rw [hG]; rfl
 unfold impl_Colouring_renumbered at h
 refine kR ?_
 refine AOps_alloc 4 _ _ (colD Col.zero) (zero_of Tryz.typeInfo26 rfl) (by rfl) rfl rfl rfl rfl ?_
 refine AOps_nil ?_
 refine ACode_seqJ (fun E' H' => Weak 44 G E' H' [(0, .d (.pv (colD p0) 0)), (1, .d (.sl none (intsD p1))), (4, .ptr 0 0), (5, .ptr 1 0)] [.box (colD Col.zero), .box (colD (⟨p0.p, p0.k, B136.zero⟩ : Col))]) ?_ ?_
 ·refine ACode_anyLast (l := [_, _, _, _, _, _, _, _, _, _]) mixed (by kernel_rfl) ?_
  refine AAny_q 0 8 _ rfl (by kernel_rfl) rfl rfl rfl (QOp_move _ _ rfl rfl) ?_
  refine AAny_q 1 9 _ rfl (by kernel_rfl) rfl rfl rfl (QOp_nilCheck_pv _ _ _ rfl rfl) ?_
  refine AAny_q 2 10 _ rfl (by kernel_rfl) rfl rfl rfl (QOp_fieldAddr_pv _ _ _ _ _ 0 _ _ rfl Tryz.underlying26 rfl _ Tryz.sizeOf2 rfl rfl) ?_
  refine AAny_q 3 11 _ rfl (by kernel_rfl) rfl rfl rfl (QOp_load_pv _ _ _ _ _ rfl Tryz.isAgg2 rfl rfl) ?_
  refine AAny_q 4 12 _ rfl (by kernel_rfl) rfl rfl rfl (QOp_move _ _ rfl rfl) ?_
  refine AAny_q 5 13 _ rfl (by kernel_rfl) rfl rfl rfl (QOp_nilCheck_pv _ _ _ rfl rfl) ?_
  refine AAny_q 6 14 _ rfl (by kernel_rfl) rfl rfl rfl (QOp_fieldAddr_pv _ _ _ _ _ 1 _ _ rfl Tryz.underlying26 rfl _ Tryz.sizeOf2 rfl rfl) ?_
  refine AAny_q 7 15 _ rfl (by kernel_rfl) rfl rfl rfl (QOp_load_pv _ _ _ _ _ rfl Tryz.isAgg2 rfl rfl) ?_
  refine AAny_q 8 16 _ rfl (by kernel_rfl) rfl rfl rfl (QOp_build _ _ [_, _] [0, 1] [iD p0.p, iD p0.k] _ (colD Col.zero) (colD (⟨p0.p, p0.k, B136.zero⟩ : Col)) [(0, 1), (1, 1), (2, 136)] rfl rfl Tryz.underlying26 (zero_of Tryz.typeInfo26 rfl) (fun w => by simp [Tryz.sizeOf2, Tryz.sizeOf2, Tryz.sizeOf24]) rfl (by rfl) (by rfl) (allc (ok1 rfl) (allc (ok1 rfl) (fun _ h => nomatch h)))) ?_
  refine AAny_all [9] (by kernel_rfl) rfl (allc ?_ (fun _ h => nomatch h))
  refine AStep_of 9 rfl rfl (Bl_alloc _ _ (zero_of Tryz.typeInfo26 rfl) rfl) ?_
  refine AOps_alloc 5 _ _ (colD Col.zero) (zero_of Tryz.typeInfo26 rfl) (by rfl) rfl rfl rfl rfl ?_
  refine AOps_nil ?_
  refine AAny_done (by kernel_rfl) ?_
  refine AOps_store _ _ _ _ _ _ (colD _) _ _ rfl rfl rfl rfl rfl rfl rfl (colD_one _) (by rw [colD_length]; exact Tryz.sizeOf26) (by rw [colD_length, colD_length]; decide) (colD_whole _ _) ?_
  refine AOps_nil ?_
  exact Weak_keep 0 hm [0, 1, 4, 5] [0, 1] _ _ rfl rfl rfl
 intro E' H' hw
 refine ACode_weak hw ?_
 refine kB (fun s12 => [(4, .ptr 0 0), (5, .ptr 1 0)]) (fun s12 => [.box (colD Col.zero), .box (colD s12)]) h (fun s12 h => ?_) (fun s12 h => ?_)
 ·refine kR ?_
  refine kM 1 rfl ?_
  refine AOps_q 18 _ rfl rfl rfl (QOp_nilCheck_pv _ _ _ rfl rfl) ?_
  refine AOps_q 19 _ rfl rfl rfl (QOp_fieldAddr_pv _ _ _ _ _ 0 _ _ rfl Tryz.underlying26 rfl _ Tryz.sizeOf2 rfl rfl) ?_
  refine AOps_q 20 _ rfl rfl rfl (QOp_load_pv _ _ _ _ _ rfl Tryz.isAgg2 rfl rfl) ?_
  refine kN 1 rfl ?_
  refine ACode_block ?_
  refine ACode_loopW (fun k0 E H => ∃ (x1 : Int) (x2 : Col), E = [(0, .d (.pv (colD p0) 0)), (1, .d (.sl none (intsD p1))), (4, .ptr 0 0), (5, .ptr 1 0), (20, iV p0.p), (21, iV x1)] ∧ H = [.box (colD Col.zero), .box (colD x2)] ∧ impl_Colouring_renumbered_l0 k p0 p1 k0 x1 x2 = some s12) k _ _ (Weak_keep 0 hm [0, 1, 4, 5, 20, 21] [0, 1] _ _ rfl rfl rfl) ⟨_, _, rfl, rfl, h⟩ ?_
  clear h
  rintro k0 E H ⟨x1, x2, rfl, rfl, h⟩
  cases k0 with
  | zero => cases (show (none : Option (Col)) = some _ from h)
  | succ k0 =>
   rw [impl_Colouring_renumbered_l0] at h
   refine kR ?_
   refine AOps_q 22 _ rfl rfl rfl (QOp_lss _ _ _ _ _ _ _ rfl rfl rfl) ?_
   refine AOps_nil ?_
   refine ACode_seq ?_
   refine kI h rfl (fun h _ => ?_) (fun h _ => ?_)
   ·refine ACode_skip ?_
    refine kB (fun s11 => [(0, .d (.pv (colD p0) 0)), (1, .d (.sl none (intsD p1))), (4, .ptr 0 0), (5, .ptr 1 0), (20, iV p0.p), (21, iV x1)]) (fun s11 => [.box (colD Col.zero), .box (colD s11)]) h (fun s11 h => ?_) (fun s11 h => ?_)
    ·refine ACode_block ?_
     refine kR ?_
     refine kN 2 rfl ?_
     refine kR ?_
     refine kN 2 rfl ?_
     refine ACode_block ?_
     refine ACode_loopW (fun k1 E H => ∃ (x4 : Int) (x5 : Col), E = [(0, .d (.pv (colD p0) 0)), (1, .d (.sl none (intsD p1))), (4, .ptr 0 0), (5, .ptr 1 0), (6, iV x1), (20, iV p0.p), (21, iV x1), (24, iV x1), (25, iV x4)] ∧ H = [.box (colD Col.zero), .box (colD x5)] ∧ impl_Colouring_renumbered_l1 p0 p1 x1 k1 x4 x5 = some s11) k _ _ (Weak_keep 0 hm [0, 1, 4, 5, 6, 20, 21, 24, 25] [0, 1] _ _ rfl rfl rfl) ⟨_, _, rfl, rfl, h⟩ ?_
     clear h
     rintro k1 E H ⟨x4, x5, rfl, rfl, h⟩
     cases k1 with
     | zero => cases (show (none : Option (Col)) = some _ from h)
     | succ k1 =>
      rw [impl_Colouring_renumbered_l1] at h
      refine kR ?_
      refine AOps_q 26 _ rfl rfl rfl (QOp_lss _ _ _ _ _ _ _ rfl rfl rfl) ?_
      refine AOps_nil ?_
      refine ACode_seq ?_
      refine kI h rfl (fun h _ => ?_) (fun h _ => ?_)
      ·refine ACode_skip ?_
       refine ACode_seq ?_
       refine ACode_block ?_
       refine kR ?_
       refine kN 2 rfl ?_
       refine (ACode_last (l := [_, _, _, _, _, _, _, _, _, _, _, _]) mixed (by kernel_rfl) (by kernel_rfl) ?_)
       refine kQ 2 rfl ?_
       obtain ⟨hc7, h⟩ := guardO h
       refine AQ_q 30 _ rfl rfl rfl (QOp_indexAddr_sl _ _ _ _ _ _ _ _ rfl Tryz.underlying27 Tryz.sizeOf2 hc7.1 (by rw [intsD_length]; exact hc7.2) rfl rfl) ?_
       refine AQ_q 31 _ rfl rfl rfl (QOp_load_pv _ _ _ _ _ rfl Tryz.isAgg2 rfl (intsD_get _ _ 0 (by omega))) ?_
       refine kQ 2 rfl ?_
       obtain ⟨hc8, h⟩ := guardO h
       refine AQ_q 34 _ rfl rfl rfl (QOp_indexAddr_sl _ _ _ _ _ _ _ _ rfl Tryz.underlying27 Tryz.sizeOf2 hc8.1 (by rw [intsD_length]; exact hc8.2) rfl rfl) ?_
       refine AQ_q 35 _ rfl rfl rfl (QOp_load_pv _ _ _ _ _ rfl Tryz.isAgg2 rfl (intsD_get _ _ 0 (by omega))) ?_
       refine kQ 3 rfl ?_
       obtain ⟨r9, hr9, h⟩ := bindO h
       refine AQ_call 39 _ _ _ _ _ _ _ _ _ rfl rfl rfl rfl rfl rfl rfl Tryz.call129 rfl rfl rfl (impl_Colouring_at_ac p0 x4 x1 _ hr9) ?_
       refine AQ_nil ?_
       obtain ⟨r10, hr10, h⟩ := bindO h
       refine kC [1] 40 (.tup []) [.box (colD Col.zero), .box (colD r10)] rfl Tryz.call146 rfl rfl (impl_Colouring_put_ac x5 (p1.getD x4.toNat 0) (p1.getD x1.toNat 0) r9 _ hr10) rfl ?_
       refine AOps_nil ?_
       refine (ACode_region ?_)
       refine AOps_q 41 _ rfl rfl rfl (QOp_add _ _ _ _ _ _ _ rfl rfl rfl) ?_
       refine kN 1 rfl ?_
       exact ⟨k1, _, _, Nat.lt_succ_self _, Weak_keep 0 hm [0, 1, 4, 5, 6, 20, 21, 24, 25] [0, 1] _ _ rfl rfl rfl, _, _, rfl, rfl, h⟩
      refine ACode_exit ?_
      cases h
      exact Weak_keep 0 hm [0, 1, 4, 5, 20, 21] [0, 1] _ _ rfl rfl rfl
    refine (ACode_region ?_)
    refine AOps_q 42 _ rfl rfl rfl (QOp_add _ _ _ _ _ _ _ rfl rfl rfl) ?_
    refine kN 1 rfl ?_
    exact ⟨k0, _, _, Nat.lt_succ_self _, Weak_keep 0 hm [0, 1, 4, 5, 20, 21] [0, 1] _ _ rfl rfl rfl, _, _, rfl, rfl, h⟩
   refine ACode_exit ?_
   cases h
   exact Weak_keep 0 hm [4, 5] [0, 1] _ _ rfl rfl rfl
 refine kR ?_
 refine AOps_q 43 _ rfl rfl rfl (QOp_loadN_ptr _ _ _ _ _ _ _ rfl Tryz.isAgg26 Tryz.sizeOf26 rfl rfl (colD_all _) (colD_length _)) ?_
 refine AOps_store _ _ _ _ _ _ (colD _) _ _ rfl rfl rfl rfl rfl rfl rfl (colD_one _) (by rw [colD_length]; exact Tryz.sizeOf26) (by rw [colD_length, colD_length]; decide) (colD_whole _ _) ?_
 refine AOps_nil ?_
 refine ACode_ret ?_
 cases h
 exact ⟨_, _, fun r a w h => ⟨r, h⟩, _, _, [], _, (.cons (ResV_agg _ _ _ _ _ _ Tryz.isAgg26 Tryz.sizeOf26 rfl rfl (colD_take _) (colD_length _)) .nil), rfl, rfl, rfl, rfl, rfl⟩

-- loop.example/g01362/impl.RenumberPoints
def impl_RenumberPoints (k : Nat) (p0 : Col) (p1 : List Int) : Option (Col × Int) :=
 (impl_Colouring_code k p0 (impl_RenumberPoints_c1 k p1 p0)).bind fun r1 => (if !decide (r1 = 0) then some ((⟨0, 0, B136.zero⟩ : Col), r1) else (impl_Colouring_renumbered k p0 p1).bind fun r3 => some (r3, 0))
set_option maxRecDepth 100000 in
theorem impl_RenumberPoints_ac (k : Nat) (p0 : Col) (p1 : List Int) (r : Col × Int) (h : impl_RenumberPoints k p0 p1 = some r) : AC Tryz.prog 13 [.d (.agg (colD p0)), .d (.sl none (intsD p1))] [] (fun res H' => res = [.d (.agg (colD r.1)), iV r.2] ∧ H' = []) := by
 refine AC_of_body true Tryz.func13 rfl Tryz.ntmps13 (rvs := [.cell 4 26, .tmp 5]) rfl rfl (fun G hG => ?_)
 have hm : G.H.length = 0 := by rw [hG]; rfl
 have hz : zeroG G.H = true := by rw [hG]; rfl
 unfold impl_RenumberPoints at h
 refine kR ?_
 refine AOps_boxI 2 _ _ (.agg (colD p0)) (colD p0) rfl (colD_one _) rfl rfl rfl rfl rfl ?_
 refine AOps_boxI 3 _ _ (.sl none (intsD p1)) _ rfl (fun c hc => by cases hc with | head => rfl | tail _ h => cases h) rfl rfl rfl rfl rfl ?_
 refine AOps_alloc 4 _ _ (colD Col.zero) (zero_of Tryz.typeInfo26 rfl) (by rfl) rfl rfl rfl rfl ?_
 refine kN 1 rfl ?_
 refine ACode_seq ?_
 refine kR ?_
 refine AOps_q 7 _ rfl rfl rfl (QOp_makeFuncD _ _ _ _ rfl rfl rfl) ?_
 obtain ⟨r1, hr1, h⟩ := bindO h
 refine kC [] 8 (iV r1) [.box (colD Col.zero)] rfl Tryz.call69 rfl rfl (impl_Colouring_code_ac k p0 (impl_RenumberPoints_c1 k p1 p0) 84 ([.pv ([.sl none (intsD p1)]) 0, .pv (colD p0) 0]) Tryz.call84 (fun r h => impl_RenumberPoints_c1_ac k p1 p0 r h) _ hr1) rfl ?_
 refine kN 1 rfl ?_
 refine kR ?_
 refine kM 1 rfl ?_
 refine AOps_q 10 _ rfl rfl rfl (QOp_neq _ _ _ _ _ _ _ rfl rfl rfl) ?_
 refine AOps_nil ?_
 refine kI h rfl (fun h _ => ?_) (fun h _ => ?_)
 ·refine kR ?_
  refine AOps_q 11 _ rfl rfl rfl (QOp_build _ _ [] [] [] _ (colD Col.zero) (colD (⟨0, 0, B136.zero⟩ : Col)) [(0, 1), (1, 1), (2, 136)] rfl rfl Tryz.underlying26 (zero_of Tryz.typeInfo26 rfl) (fun w => by simp [Tryz.sizeOf2, Tryz.sizeOf2, Tryz.sizeOf24]) rfl (by rfl) (by rfl) (fun _ h => nomatch h)) ?_
  refine kM 1 rfl ?_
  refine AOps_store _ _ _ _ _ _ (colD _) _ _ rfl rfl rfl rfl rfl rfl rfl (colD_one _) (by rw [colD_length]; exact Tryz.sizeOf26) (by rw [colD_length, colD_length]; decide) (colD_whole _ _) ?_
  refine kN 1 rfl ?_
  refine ACode_ret ?_
  cases h
  exact ⟨_, _, fun r a w h => ⟨r, h⟩, _, _, [], _, (.cons (ResV_agg _ _ _ _ _ _ Tryz.isAgg26 Tryz.sizeOf26 rfl rfl (colD_take _) (colD_length _)) (.cons (ResV_tmp _ _ rfl) .nil)), rfl, rfl, rfl, rfl, rfl⟩
 refine ACode_skip ?_
 refine kR ?_
 refine AOps_q 13 _ rfl rfl rfl (QOp_load_pv _ _ _ _ _ rfl Tryz.isAgg27 rfl rfl) ?_
 obtain ⟨r3, hr3, h⟩ := bindO h
 refine kC [] 14 (.d (.agg (colD r3))) [.box (colD Col.zero)] rfl Tryz.call86 rfl rfl (impl_Colouring_renumbered_ac k p0 p1 _ hr3) rfl ?_
 refine AOps_store _ _ _ _ _ _ (colD _) _ _ rfl rfl rfl rfl rfl rfl rfl (colD_one _) (by rw [colD_length]; exact Tryz.sizeOf26) (by rw [colD_length, colD_length]; decide) (colD_whole _ _) ?_
 refine kN 1 rfl ?_
 refine ACode_ret ?_
 cases h
 exact ⟨_, _, fun r a w h => ⟨r, h⟩, _, _, [], _, (.cons (ResV_agg _ _ _ _ _ _ Tryz.isAgg26 Tryz.sizeOf26 rfl rfl (colD_take _) (colD_length _)) (.cons (ResV_tmp _ _ rfl) .nil)), rfl, rfl, rfl, rfl, rfl⟩

-- loop.example/g01362/spec.l01Order
def spec_l01Order_l0 (p0 : List Int) (p1 : Int) : Nat → Int → (List Bool) → Option (Sum (Unit) (Bool))
 | 0, _, _ => none
 | k0 + 1, x2, x3 => (if decide (x2 < (p0.length : Int)) then ((((if 0 ≤ x2 ∧ x2 < (p0.length : Int) then (if !(spec_l01In (p0.getD x2.toNat 0) 0 (w64 (p1 - 1))) then some true else (if 0 ≤ x2 ∧ x2 < (p0.length : Int) then (if 0 ≤ (p0.getD x2.toNat 0) ∧ (p0.getD x2.toNat 0) < (x3.length : Int) then some (x3.getD (p0.getD x2.toNat 0).toNat false) else none) else none)) else none) : Option (Bool)).bind fun s10 => (if s10 then ((some (.inr false)).bind fun rr => some (.inr rr)).bind fun rr => some (.inr rr) else some (.inl ())) : Option (Sum (Unit) (Sum (Unit) (Sum (Unit) (Bool))))).bind fun os12 => (match os12 with | .inl s12 => (if 0 ≤ x2 ∧ x2 < (p0.length : Int) then (if 0 ≤ (p0.getD x2.toNat 0) ∧ (p0.getD x2.toNat 0) < (x3.length : Int) then some (.inl ()) else none) else none) | .inr rr => some rr) : Option (Sum (Unit) (Sum (Unit) (Bool)))).bind fun os15 => (match os15 with | .inl s15 => spec_l01Order_l0 p0 p1 k0 (w64 (x2 + 1)) (x3.set (p0.getD x2.toNat 0).toNat true) | .inr rr => some rr) else some (.inl ()))
def spec_l01Order (k : Nat) (p0 : List Int) (p1 : Int) : Option (Bool) :=
 (if 0 ≤ p1 ∧ p1 ≤ p1 ∧ p1 ≤ 1099511627776 then (spec_l01Order_l0 p0 p1 k 0 (List.replicate p1.toNat (false : Bool)) : Option (Sum (Unit) (Bool))).bind fun os16 => (match os16 with | .inl s16 => some (decide ((p0.length : Int) = p1)) | .inr rr => some rr) else none)
set_option maxRecDepth 100000 in
theorem spec_l01Order_ac (k : Nat) (p0 : List Int) (p1 : Int) (r : Bool) (h : spec_l01Order k p0 p1 = some r) : AC Tryz.prog 87 [.d (.sl none (intsD p0)), iV p1] [] (fun res H' => res = [bV r] ∧ H' = []) := by
 refine AC_of_body true Tryz.func87 rfl Tryz.ntmps87 (rvs := [.tmp 4]) rfl rfl (fun G hG => ?_)
 have hm : G.H.length = 0 := by rw [hG]; rfl
 have hz : zeroG G.H = true := by rw [hG]; rfl
 unfold spec_l01Order at h
 refine kR ?_
 refine kN 1 rfl ?_
 refine kR ?_
 refine kM 1 rfl ?_
 obtain ⟨hc1, h⟩ := guardO h
 refine AOps_makeSliceG bosD bD false (bosD_rep · _) 8 _ _ _ _ _ _ p1 p1 _ (.bool false) rfl rfl rfl rfl rfl rfl Tryz.underlying125 Tryz.type4 rfl rfl (by decide) rfl rfl hc1.1 hc1.2.1 hc1.2.2 ?_
 refine kN 1 rfl ?_
 refine kO (fun s16 => [(0, .d (.sl none (intsD p0))), (1, iV p1)]) (fun s16 => []) h (fun os16 h hks16 => ?_) (fun s16 h => ?_)
 ·refine kR ?_
  refine kN 1 rfl ?_
  refine ACode_block ?_
  refine ACode_loopW (fun k0 E H => ∃ (x2 : Int) (x3 : List Bool), E = [(0, .d (.sl none (intsD p0))), (1, iV p1), (5, .vec 0 0), (6, iV x2)] ∧ H = [.vec 0 (bosD x3)] ∧ spec_l01Order_l0 p0 p1 k0 x2 x3 = some os16) k _ _ (Weak_keep 0 hm [0, 1, 5, 6] [0] _ _ rfl rfl rfl) ⟨_, _, rfl, rfl, h⟩ ?_
  clear h
  rintro k0 E H ⟨x2, x3, rfl, rfl, h⟩
  cases k0 with
  | zero => cases (show (none : Option (Sum (Unit) (Bool))) = some _ from h)
  | succ k0 =>
   rw [spec_l01Order_l0] at h
   refine ACode_seq ?_
   refine kR ?_
   refine kM 2 rfl ?_
   refine AOps_q 11 _ rfl rfl rfl (QOp_len_sl _ _ _ _ _ _ _ (intsD_length _) rfl rfl rfl rfl Tryz.underlying27 rfl) ?_
   refine AOps_q 12 _ rfl rfl rfl (QOp_lss _ _ _ _ _ _ _ rfl rfl rfl) ?_
   refine AOps_nil ?_
   refine kI h rfl (fun h _ => ?_) (fun h _ => ?_)
   ·refine ACode_skip ?_
    refine kO (fun s15 => [(0, .d (.sl none (intsD p0))), (1, iV p1), (5, .vec 0 0), (6, iV x2)]) (fun s15 => [.vec 0 (bosD (x3.set (p0.getD x2.toNat 0).toNat true))]) h (fun os15 h hks15 => ?_) (fun s15 h => ?_)
    ·refine ACode_block ?_
     refine kO (fun s12 => [(0, .d (.sl none (intsD p0))), (1, iV p1), (5, .vec 0 0), (6, iV x2)]) (fun s12 => [.vec 0 (bosD x3)]) h (fun os12 h hks12 => ?_) (fun s12 h => ?_)
     ·refine kB (fun s10 => [(0, .d (.sl none (intsD p0))), (1, iV p1), (5, .vec 0 0), (6, iV x2), (31, bV s10)]) (fun s10 => [.vec 0 (bosD x3)]) h (fun s10 h => ?_) (fun s10 h => ?_)
      ·refine (ACode_region ?_)
       refine kM 2 rfl ?_
       obtain ⟨hc5, h⟩ := guardO h
       refine AOps_q 17 _ rfl rfl rfl (QOp_indexAddr_sl _ _ _ _ _ _ _ _ rfl Tryz.underlying27 Tryz.sizeOf2 hc5.1 (by rw [intsD_length]; exact hc5.2) rfl rfl) ?_
       refine AOps_q 18 _ rfl rfl rfl (QOp_load_pv _ _ _ _ _ rfl Tryz.isAgg2 rfl (intsD_get _ _ 0 (by omega))) ?_
       refine kM 1 rfl ?_
       refine AOps_q 20 _ rfl rfl rfl (QOp_sub _ _ _ _ _ _ _ rfl rfl rfl) ?_
       refine kC [] 21 (bV (spec_l01In (p0.getD x2.toNat 0) 0 (w64 (p1 - 1)))) [.vec 0 (bosD x3)] rfl Tryz.call100 rfl rfl (spec_l01In_ac (p0.getD x2.toNat 0) 0 (w64 (p1 - 1))) rfl ?_
       refine AOps_q 22 _ rfl rfl rfl (QOp_not _ _ _ rfl rfl) ?_
       refine kM 1 rfl ?_
       refine AOps_case 23 _ rfl (fun hb7 => ?_) (fun hb7 => ?_)
       ·have h := iteT hb7 h
        refine AOps_skip 24 rfl rfl rfl ?_
        refine AOps_skip 25 rfl rfl rfl ?_
        refine AOps_skip 26 rfl rfl rfl ?_
        refine AOps_skip 27 rfl rfl rfl ?_
        refine AOps_skip 28 rfl rfl rfl ?_
        refine AOps_skip 29 rfl rfl rfl ?_
        refine AOps_skip 30 rfl rfl rfl ?_
        refine kN 1 rfl ?_
        cases h
        exact Weak_keep 0 hm [0, 1, 5, 6, 31] [0] _ _ rfl rfl rfl
       have h := iteF hb7 h
       refine kM 3 rfl ?_
       obtain ⟨hc8, h⟩ := guardO h
       refine AOps_q 27 _ rfl rfl rfl (QOp_indexAddr_sl _ _ _ _ _ _ _ _ rfl Tryz.underlying27 Tryz.sizeOf2 hc8.1 (by rw [intsD_length]; exact hc8.2) rfl rfl) ?_
       refine AOps_q 28 _ rfl rfl rfl (QOp_load_pv _ _ _ _ _ rfl Tryz.isAgg2 rfl (intsD_get _ _ 0 (by omega))) ?_
       obtain ⟨hc9, h⟩ := guardO h
       refine AOps_q 29 _ rfl rfl rfl (QOp_indexAddr_vec _ _ _ _ _ _ _ _ _ rfl Tryz.underlying125 Tryz.sizeOf4 hc9.1 (by rw [bosD_length]; exact hc9.2) rfl rfl rfl) ?_
       refine AOps_q 30 _ rfl rfl rfl (QOp_load_eptr _ _ _ _ _ _ _ rfl Tryz.isAgg4 rfl rfl (bosD_get _ _ false (by omega))) ?_
       refine kN 1 rfl ?_
       cases h
       exact Weak_keep 0 hm [0, 1, 5, 6, 31] [0] _ _ rfl rfl rfl
      refine kI h rfl (fun h _ => ?_) (fun h _ => ?_)
      ·refine kR ?_
       refine kN 1 rfl ?_
       refine ACode_ret ?_
       obtain ⟨rr, hz18, h2⟩ := bindO h
       obtain rfl := Option.some.inj h2
       obtain rfl := Option.some.inj (show some rr = some _ from hks12)
       have h := hz18
       obtain ⟨rr, hz17, h2⟩ := bindO h
       obtain rfl := Option.some.inj h2
       obtain rfl := Option.some.inj (show some rr = some _ from hks15)
       have h := hz17
       cases h
       have h := hks16
       cases h
       exact ⟨_, _, fun r a w h => ⟨r, h⟩, _, _, [], _, (.cons (ResV_tmp _ _ rfl) .nil), rfl, rfl, rfl, rfl, rfl⟩
      refine ACode_skip ?_
      cases h
      exact ⟨_, rfl, Weak_keep 0 hm [0, 1, 5, 6] [0] _ _ rfl rfl rfl⟩
     refine (ACode_region ?_)
     refine kM 3 rfl ?_
     obtain ⟨hc13, h⟩ := guardO h
     refine AOps_q 35 _ rfl rfl rfl (QOp_indexAddr_sl _ _ _ _ _ _ _ _ rfl Tryz.underlying27 Tryz.sizeOf2 hc13.1 (by rw [intsD_length]; exact hc13.2) rfl rfl) ?_
     refine AOps_q 36 _ rfl rfl rfl (QOp_load_pv _ _ _ _ _ rfl Tryz.isAgg2 rfl (intsD_get _ _ 0 (by omega))) ?_
     obtain ⟨hc14, h⟩ := guardO h
     refine AOps_q 37 _ rfl rfl rfl (QOp_indexAddr_vec _ _ _ _ _ _ _ _ _ rfl Tryz.underlying125 Tryz.sizeOf4 hc14.1 (by rw [bosD_length]; exact hc14.2) rfl rfl rfl) ?_
     refine AOps_store_eptr _ _ _ _ _ _ (bosD x3) _ rfl rfl rfl rfl rfl rfl rfl Tryz.sizeOf4 (by rw [bosD_length]; omega) ?_
     rw [bosD_set]
     refine AOps_nil ?_
     cases h
     exact ⟨_, rfl, Weak_keep 0 hm [0, 1, 5, 6] [0] _ _ rfl rfl rfl⟩
    refine (ACode_region ?_)
    refine kM 1 rfl ?_
    refine AOps_q 14 _ rfl rfl rfl (QOp_add _ _ _ _ _ _ _ rfl rfl rfl) ?_
    refine kN 1 rfl ?_
    exact ⟨k0, _, _, Nat.lt_succ_self _, Weak_keep 0 hm [0, 1, 5, 6] [0] _ _ rfl rfl rfl, _, _, rfl, rfl, h⟩
   refine ACode_exit ?_
   cases h
   exact ⟨_, rfl, Weak_keep 0 hm [0, 1] [] _ _ rfl rfl rfl⟩
 refine kR ?_
 refine kM 1 rfl ?_
 refine AOps_q 39 _ rfl rfl rfl (QOp_len_sl _ _ _ _ _ _ _ (intsD_length _) rfl rfl rfl rfl Tryz.underlying27 rfl) ?_
 refine kM 1 rfl ?_
 refine AOps_q 41 _ rfl rfl rfl (QOp_eql _ _ _ _ _ _ _ rfl rfl rfl) ?_
 refine kN 1 rfl ?_
 refine ACode_ret ?_
 cases h
 exact ⟨_, _, fun r a w h => ⟨r, h⟩, _, _, [], _, (.cons (ResV_tmp _ _ rfl) .nil), rfl, rfl, rfl, rfl, rfl⟩

-- loop.example/g01362/spec.RenumberPoints
def spec_RenumberPoints (k : Nat) (p0 : Col) (p1 : List Int) : Option (Col × Int) :=
 (spec_l01Is k p0).bind fun r1 => (if !r1 then some ((⟨0, 0, B136.zero⟩ : Col), 1) else (spec_l01Order k p1 p0.p).bind fun r3 => (if !r3 then some ((⟨0, 0, B136.zero⟩ : Col), 2) else (spec_l01Renamed k p0 p1).bind fun r5 => some (r5, 0)))
set_option maxRecDepth 100000 in
theorem spec_RenumberPoints_ac (k : Nat) (p0 : Col) (p1 : List Int) (r : Col × Int) (h : spec_RenumberPoints k p0 p1 = some r) : AC Tryz.prog 14 [.d (.agg (colD p0)), .d (.sl none (intsD p1))] [] (fun res H' => res = [.d (.agg (colD r.1)), iV r.2] ∧ H' = []) := by
 refine AC_of_body true Tryz.func14 rfl Tryz.ntmps14 (rvs := [.cell 4 26, .tmp 5]) rfl rfl (fun G hG => ?_)
 have hm : G.H.length = 0 := by rw [hG]; rfl
 have hz : zeroG G.H = true := by rw [hG]; rfl
 unfold spec_RenumberPoints at h
 refine kR ?_
 refine AOps_boxI 2 _ _ (.agg (colD p0)) (colD p0) rfl (colD_one _) rfl rfl rfl rfl rfl ?_
 refine AOps_alloc 4 _ _ (colD Col.zero) (zero_of Tryz.typeInfo26 rfl) (by rfl) rfl rfl rfl rfl ?_
 refine kN 1 rfl ?_
 refine ACode_seq ?_
 refine ACode_block ?_
 refine kR ?_
 refine AOps_q 7 _ rfl rfl rfl (QOp_loadN_pv _ _ _ _ _ _ rfl Tryz.isAgg26 Tryz.sizeOf26 rfl (colD_all _) (colD_length _)) ?_
 obtain ⟨r1, hr1, h⟩ := bindO h
 refine kC [] 8 (bV r1) [.box (colD Col.zero)] rfl Tryz.call73 rfl rfl (spec_l01Is_ac k p0 _ hr1) rfl ?_
 refine AOps_q 9 _ rfl rfl rfl (QOp_not _ _ _ rfl rfl) ?_
 refine kN 1 rfl ?_
 refine kI h rfl (fun h _ => ?_) (fun h _ => ?_)
 ·refine kR ?_
  refine AOps_q 10 _ rfl rfl rfl (QOp_build _ _ [] [] [] _ (colD Col.zero) (colD (⟨0, 0, B136.zero⟩ : Col)) [(0, 1), (1, 1), (2, 136)] rfl rfl Tryz.underlying26 (zero_of Tryz.typeInfo26 rfl) (fun w => by simp [Tryz.sizeOf2, Tryz.sizeOf2, Tryz.sizeOf24]) rfl (by rfl) (by rfl) (fun _ h => nomatch h)) ?_
  refine AOps_store _ _ _ _ _ _ (colD _) _ _ rfl rfl rfl rfl rfl rfl rfl (colD_one _) (by rw [colD_length]; exact Tryz.sizeOf26) (by rw [colD_length, colD_length]; decide) (colD_whole _ _) ?_
  refine kN 1 rfl ?_
  refine ACode_ret ?_
  cases h
  exact ⟨_, _, fun r a w h => ⟨r, h⟩, _, _, [], _, (.cons (ResV_agg _ _ _ _ _ _ Tryz.isAgg26 Tryz.sizeOf26 rfl rfl (colD_take _) (colD_length _)) (.cons (ResV_tmp _ _ rfl) .nil)), rfl, rfl, rfl, rfl, rfl⟩
 refine kR ?_
 refine kM 1 rfl ?_
 refine AOps_q 13 _ rfl rfl rfl (QOp_fieldAddr_pv _ _ _ _ _ 0 _ _ rfl Tryz.underlying26 rfl _ Tryz.sizeOf2 rfl rfl) ?_
 refine AOps_q 14 _ rfl rfl rfl (QOp_load_pv _ _ _ _ _ rfl Tryz.isAgg2 rfl rfl) ?_
 obtain ⟨r3, hr3, h⟩ := bindO h
 refine kC [] 15 (bV r3) [.box (colD Col.zero)] rfl Tryz.call87 rfl rfl (spec_l01Order_ac k p1 p0.p _ hr3) rfl ?_
 refine AOps_q 16 _ rfl rfl rfl (QOp_not _ _ _ rfl rfl) ?_
 refine kN 1 rfl ?_
 refine kI h rfl (fun h _ => ?_) (fun h _ => ?_)
 ·refine kR ?_
  refine AOps_q 17 _ rfl rfl rfl (QOp_build _ _ [] [] [] _ (colD Col.zero) (colD (⟨0, 0, B136.zero⟩ : Col)) [(0, 1), (1, 1), (2, 136)] rfl rfl Tryz.underlying26 (zero_of Tryz.typeInfo26 rfl) (fun w => by simp [Tryz.sizeOf2, Tryz.sizeOf2, Tryz.sizeOf24]) rfl (by rfl) (by rfl) (fun _ h => nomatch h)) ?_
  refine AOps_store _ _ _ _ _ _ (colD _) _ _ rfl rfl rfl rfl rfl rfl rfl (colD_one _) (by rw [colD_length]; exact Tryz.sizeOf26) (by rw [colD_length, colD_length]; decide) (colD_whole _ _) ?_
  refine kN 1 rfl ?_
  refine ACode_ret ?_
  cases h
  exact ⟨_, _, fun r a w h => ⟨r, h⟩, _, _, [], _, (.cons (ResV_agg _ _ _ _ _ _ Tryz.isAgg26 Tryz.sizeOf26 rfl rfl (colD_take _) (colD_length _)) (.cons (ResV_tmp _ _ rfl) .nil)), rfl, rfl, rfl, rfl, rfl⟩
 refine ACode_skip ?_
 refine kR ?_
 refine AOps_q 18 _ rfl rfl rfl (QOp_loadN_pv _ _ _ _ _ _ rfl Tryz.isAgg26 Tryz.sizeOf26 rfl (colD_all _) (colD_length _)) ?_
 refine kM 1 rfl ?_
 obtain ⟨r5, hr5, h⟩ := bindO h
 refine kC [] 20 (.d (.agg (colD r5))) [.box (colD Col.zero)] rfl Tryz.call88 rfl rfl (spec_l01Renamed_ac k p0 p1 _ hr5) rfl ?_
 refine AOps_store _ _ _ _ _ _ (colD _) _ _ rfl rfl rfl rfl rfl rfl rfl (colD_one _) (by rw [colD_length]; exact Tryz.sizeOf26) (by rw [colD_length, colD_length]; decide) (colD_whole _ _) ?_
 refine kN 1 rfl ?_
 refine ACode_ret ?_
 cases h
 exact ⟨_, _, fun r a w h => ⟨r, h⟩, _, _, [], _, (.cons (ResV_agg _ _ _ _ _ _ Tryz.isAgg26 Tryz.sizeOf26 rfl rfl (colD_take _) (colD_length _)) (.cons (ResV_tmp _ _ rfl) .nil)), rfl, rfl, rfl, rfl, rfl⟩

-- loop.example/g01362/spec.DrawExchangeColours
def spec_DrawExchangeColours (k : Nat) (p0 : List UInt8) : Option (Col × List Int) :=
 (spec_l01From k p0).bind fun r1 => (spec_l01Draw k r1).bind fun r2 => (spec_l01DrawOrder k r2.2 r2.1.k).bind fun r3 => ((spec_l01Next r3.2 16).bind fun r4 => (if decide (r4.1 = 0) then (if r3.1.length + ([0]).length ≤ 1099511627776 then some (r4.2, (r3.1 ++ ([0]))) else none) else (if decide (r4.1 = 1) then (if 0 ≤ w64 ((r3.1.length : Int) - 1) ∧ w64 ((r3.1.length : Int) - 1) < (r3.1.length : Int) then (spec_l01Pick r4.2 ([(-1), r2.1.k, (r3.1.getD (w64 ((r3.1.length : Int) - 1)).toNat 0)])).bind fun r9 => (if 0 ≤ (0 : Int) ∧ (0 : Int) < (r3.1.length : Int) then some (r9.2, r3.1.set (0 : Int).toNat r9.1) else none) else none) else some (r4.2, r3.1))) : Option (Src × List Int)).bind fun s11 => (spec_l01Bad s11.1 r2.1).bind fun r12 => some (r12.1, s11.2)
set_option maxRecDepth 100000 in
theorem spec_DrawExchangeColours_ac (k : Nat) (p0 : List UInt8) (r : Col × List Int) (h : spec_DrawExchangeColours k p0 = some r) : AC Tryz.prog 15 [.d (.sl none (bysD p0))] [] (fun res H' => res = [.d (.agg (colD r.1)), .vec 0 0] ∧ H' = [.vec 0 (intsD r.2)]) := by
 refine AC_of_body true Tryz.func15 rfl Tryz.ntmps15 (rvs := [.cell 2 26, .tmp 3]) rfl rfl (fun G hG => ?_)
 have hm : G.H.length = 0 := by rw [hG]; rfl
 have hz : zeroG G.H = true := by rw [hG]; rfl
 unfold spec_DrawExchangeColours at h
 refine kR ?_
 refine AOps_alloc 2 _ _ (colD Col.zero) (zero_of Tryz.typeInfo26 rfl) (by rfl) rfl rfl rfl rfl ?_
 refine kN 1 rfl ?_
 refine kR ?_
 refine kM 1 rfl ?_
 obtain ⟨r1, hr1, h⟩ := bindO h
 refine kC [] 8 (.ptr 1 0) [.box (colD Col.zero), .box (srcD r1)] rfl Tryz.call64 rfl rfl (spec_l01From_ac k p0 _ hr1) rfl ?_
 refine kN 1 rfl ?_
 refine kR ?_
 refine kM 1 rfl ?_
 obtain ⟨r2, hr2, h⟩ := bindO h
 refine kC [1] 10 (.d (.agg (colD r2.1))) [.box (colD Col.zero), .box (srcD r2.2)] rfl Tryz.call65 rfl rfl (spec_l01Draw_ac k r1 _ hr2) rfl ?_
 refine AOps_alloc 5 _ _ (colD Col.zero) (zero_of Tryz.typeInfo26 rfl) (by rfl) rfl rfl rfl rfl ?_
 refine AOps_store _ _ _ _ _ _ (colD _) _ _ rfl rfl rfl rfl rfl rfl rfl (colD_one _) (by rw [colD_length]; exact Tryz.sizeOf26) (by rw [colD_length, colD_length]; decide) (colD_whole _ _) ?_
 refine AOps_nil ?_
 refine kR ?_
 refine kM 1 rfl ?_
 refine AOps_q 12 _ rfl rfl rfl (QOp_fieldAddr_ptr _ _ _ _ _ _ 1 _ _ rfl Tryz.underlying26 rfl _ Tryz.sizeOf2 rfl rfl rfl rfl) ?_
 refine AOps_q 13 _ rfl rfl rfl (QOp_load_ptr _ _ _ _ _ _ rfl Tryz.isAgg2 rfl rfl rfl) ?_
 obtain ⟨r3, hr3, h⟩ := bindO h
 refine kC [1] 14 (.vec 3 0) [.box (colD Col.zero), .box (srcD r3.2), .box (colD r2.1), .vec 0 (intsD r3.1)] rfl Tryz.call83 rfl rfl (spec_l01DrawOrder_ac k r2.2 r2.1.k _ hr3) rfl ?_
 refine kN 1 rfl ?_
 refine kB (fun s11 => [(2, .ptr 0 0), (4, .ptr 1 0), (5, .ptr 2 0), (6, .vec 3 0)]) (fun s11 => [.box (colD Col.zero), .box (srcD s11.1), .box (colD r2.1), .vec 0 (intsD s11.2)]) h (fun s11 h => ?_) (fun s11 h => ?_)
 ·refine kR ?_
  refine kM 1 rfl ?_
  obtain ⟨r4, hr4, h⟩ := bindO h
  refine kC [1] 16 (iV r4.1) [.box (colD Col.zero), .box (srcD r4.2), .box (colD r2.1), .vec 0 (intsD r3.1)] rfl Tryz.call66 rfl rfl (spec_l01Next_ac r3.2 16 _ hr4) rfl ?_
  refine AOps_nil ?_
  refine ACode_block ?_
  refine kR ?_
  refine AOps_q 18 _ rfl rfl rfl (QOp_eql _ _ _ _ _ _ _ rfl rfl rfl) ?_
  refine kN 1 rfl ?_
  refine kI h rfl (fun h _ => ?_) (fun h _ => ?_)
  ·refine (ACode_region ?_)
   refine kM 1 rfl ?_
   refine AOps_buildSlice 20 _ _ _ [_] (intsD ([0])) _ rfl rfl rfl rfl rfl (by decide) Tryz.underlying27 Tryz.sizeOf2 (zero_of Tryz.typeInfo2 rfl) rfl rfl (intsD_one _) ?_
   obtain ⟨hc6, h⟩ := guardO h
   refine AOps_append 21 _ _ _ _ _ _ _ _ _ _ _ _ rfl rfl rfl rfl rfl rfl rfl Tryz.underlying27 Tryz.type2 rfl rfl rfl (by decide) rfl rfl rfl rfl (intsD_one _) (by rw [intsD_length, intsD_length]; exact hc6) ?_
   rw [intsD_app]
   refine kN 1 rfl ?_
   cases h
   exact Weak_trans (Weak_keep 0 hm [2, 4, 5, 6] [0, 1, 2, 3] _ _ rfl rfl rfl) (Weak_reset 0 hm hz [2, 4, 5, 6] _ _ rfl rfl)
  refine kR ?_
  refine AOps_q 23 _ rfl rfl rfl (QOp_eql _ _ _ _ _ _ _ rfl rfl rfl) ?_
  refine kN 1 rfl ?_
  refine kI h rfl (fun h _ => ?_) (fun h _ => ?_)
  ·obtain ⟨hc8, h⟩ := guardO h
   obtain ⟨r9, hr9, h⟩ := bindO h
   obtain ⟨hc10, h⟩ := guardO h
   refine ACode_reg [(2, .ptr 0 0), (4, .ptr 1 0), (5, .ptr 2 0), (6, .vec 3 0)] [.box (colD Col.zero), .box (srcD r9.2), .box (colD r2.1), .vec 0 (intsD (r3.1.set (0 : Int).toNat r9.1))] ?_ ?_
   ·refine ACode_anyU mixed ?_
    refine AU_cut 4 #[true, true, true, true, true, true, true, true, true, true, false, false, false, false] [(2, .ptr 0 0), (4, .ptr 1 0), (5, .ptr 2 0), (6, .vec 3 0), (24, .vec 3 0), (25, .ptr 1 0), (27, iV r2.1.k), (33, iV (r3.1.getD (w64 ((r3.1.length : Int) - 1)).toNat 0))] [.box (colD Col.zero), .box (srcD r4.2), .box (colD r2.1), .vec 0 (intsD r3.1)] ?_ (fun hS0 => ?_)
    ·refine AU_one 10 (by kernel_rfl) rfl rfl ?_
     refine AOps_buildSlice 34 _ _ _ [_, _, _] (intsD ([(-1), r2.1.k, (r3.1.getD (w64 ((r3.1.length : Int) - 1)).toNat 0)])) _ rfl rfl rfl rfl rfl (by decide) Tryz.underlying27 Tryz.sizeOf2 (zero_of Tryz.typeInfo2 rfl) rfl rfl (intsD_one _) ?_
     refine AOps_nil ?_
     refine AU_one 11 (by kernel_rfl) rfl rfl ?_
     refine AOps_freezeL [34] 4 0 _ (allc (rfl) (fun _ h => nomatch h)) rfl ?_
     refine kC [1] 35 (iV r9.1) [.box (colD Col.zero), .box (srcD r9.2), .box (colD r2.1), .vec 0 (intsD r3.1), .gone] rfl Tryz.call67 rfl rfl (spec_l01Pick_ac r4.2 ([(-1), r2.1.k, (r3.1.getD (w64 ((r3.1.length : Int) - 1)).toNat 0)]) _ hr9) rfl ?_
     refine AOps_nil ?_
     refine AU_u 12 36 _ rfl (by kernel_rfl) rfl rfl rfl (UOp_indexAddr_vec _ _ _ _ _ _ _ _ _ rfl Tryz.underlying27 Tryz.sizeOf2 hc10.1 (by rw [intsD_length]; exact hc10.2) rfl rfl rfl) ?_
     refine AU_one 13 (by kernel_rfl) rfl rfl ?_
     refine AOps_store_eptr _ _ _ _ _ _ (intsD r3.1) _ rfl rfl rfl rfl rfl rfl rfl Tryz.sizeOf2 (by rw [intsD_length]; omega) ?_
     rw [intsD_set]
     refine AOps_nil ?_
     refine AU_done (by kernel_rfl) ?_
     exact ⟨rfl, Weak_keep 0 hm [2, 4, 5, 6] [0, 1, 2, 3] _ _ rfl rfl rfl⟩
    refine AU_u 0 24 _ rfl (by kernel_rfl) rfl rfl rfl (UOp_move _ _ rfl rfl) ?_
    refine AU_u 1 25 _ rfl (by kernel_rfl) rfl rfl rfl (UOp_move _ _ rfl rfl) ?_
    refine AU_u 2 26 _ rfl (by kernel_rfl) rfl rfl rfl (UOp_fieldAddr_ptr _ _ _ _ _ _ 1 _ _ rfl Tryz.underlying26 rfl _ Tryz.sizeOf2 rfl rfl rfl rfl) ?_
    refine AU_u 4 28 _ rfl (by kernel_rfl) rfl rfl rfl (UOp_move _ _ rfl rfl) ?_
    refine AU_u 5 29 _ rfl (by kernel_rfl) rfl rfl rfl (UOp_move _ _ rfl rfl) ?_
    refine AU_u 6 30 _ rfl (by kernel_rfl) rfl rfl rfl (UOp_len_vec _ _ _ _ _ _ _ _ (intsD_length _) rfl rfl rfl rfl Tryz.underlying27 rfl rfl) ?_
    refine AU_u 7 31 _ rfl (by kernel_rfl) rfl rfl rfl (UOp_sub _ _ _ _ _ _ _ rfl rfl rfl) ?_
    refine AU_u 8 32 _ rfl (by kernel_rfl) rfl rfl rfl (UOp_indexAddr_vec _ _ _ _ _ _ _ _ _ rfl Tryz.underlying27 Tryz.sizeOf2 hc8.1 (by rw [intsD_length]; exact hc8.2) rfl rfl rfl) ?_
    refine AU_all [3, 9] (by kernel_rfl) rfl (allc ?_ (allc ?_ (fun _ h => nomatch h)))
    ·refine US_of 3 rfl rfl ?_
     refine AOps_q 27 _ rfl rfl rfl (QOp_load_ptr _ _ _ _ _ _ rfl Tryz.isAgg2 rfl rfl rfl) ?_
     refine AOps_nil ?_
     refine AU_one 9 (by kernel_rfl) rfl rfl ?_
     refine AOps_q 33 _ rfl rfl rfl (QOp_load_eptr _ _ _ _ _ _ _ rfl Tryz.isAgg2 rfl rfl (intsD_get _ _ 0 (by omega))) ?_
     refine AOps_nil ?_
     exact AU_to (by kernel_rfl) hS0 (Weak_keep 0 hm [2, 4, 5, 6, 24, 25, 27, 33] [0, 1, 2, 3] _ _ rfl rfl rfl)
    refine US_of 9 rfl rfl ?_
    refine AOps_q 33 _ rfl rfl rfl (QOp_load_eptr _ _ _ _ _ _ _ rfl Tryz.isAgg2 rfl rfl (intsD_get _ _ 0 (by omega))) ?_
    refine AOps_nil ?_
    refine AU_one 3 (by kernel_rfl) rfl rfl ?_
    refine AOps_q 27 _ rfl rfl rfl (QOp_load_ptr _ _ _ _ _ _ rfl Tryz.isAgg2 rfl rfl rfl) ?_
    refine AOps_nil ?_
    exact AU_to (by kernel_rfl) hS0 (Weak_keep 0 hm [2, 4, 5, 6, 24, 25, 27, 33] [0, 1, 2, 3] _ _ rfl rfl rfl)
   cases h
   exact Weak_keep 0 hm [2, 4, 5, 6] [0, 1, 2, 3] _ _ rfl rfl rfl
  refine ACode_skip ?_
  cases h
  exact Weak_keep 0 hm [2, 4, 5, 6] [0, 1, 2, 3] _ _ rfl rfl rfl
 refine kR ?_
 refine kM 1 rfl ?_
 refine AOps_q 38 _ rfl rfl rfl (QOp_loadN_ptr _ _ _ _ _ _ _ rfl Tryz.isAgg26 Tryz.sizeOf26 rfl rfl (colD_all _) (colD_length _)) ?_
 obtain ⟨r12, hr12, h⟩ := bindO h
 refine kC [1] 39 (.d (.agg (colD r12.1))) [.box (colD Col.zero), .box (srcD r12.2), .box (colD r2.1), .vec 0 (intsD s11.2)] rfl Tryz.call68 rfl rfl (spec_l01Bad_ac s11.1 r2.1 _ hr12) rfl ?_
 refine kM 1 rfl ?_
 refine AOps_store _ _ _ _ _ _ (colD _) _ _ rfl rfl rfl rfl rfl rfl rfl (colD_one _) (by rw [colD_length]; exact Tryz.sizeOf26) (by rw [colD_length, colD_length]; decide) (colD_whole _ _) ?_
 refine kN 1 rfl ?_
 refine ACode_ret ?_
 cases h
 exact ⟨_, _, Weak_reset 0 hm hz [2, 3] _ _ rfl rfl, _, _, [3], _, (.cons (ResV_agg _ _ _ _ _ _ Tryz.isAgg26 Tryz.sizeOf26 rfl rfl (colD_take _) (colD_length _)) (.cons (ResV_tmp _ _ rfl) .nil)), rfl, rfl, rfl, rfl, rfl⟩

-- loop.example/g01362/impl.ExchangeColours$1
def impl_ExchangeColours_c1 (k : Nat) (p0 : List Int) (p1 : Col) : Option (Bool) :=
 (impl_isOrder k p0 p1.k).bind fun r1 => some r1
set_option maxRecDepth 100000 in
theorem impl_ExchangeColours_c1_ac (k : Nat) (p0 : List Int) (p1 : Col) (r : Bool) (h : impl_ExchangeColours_c1 k p0 p1 = some r) : AC Tryz.prog 89 [.d (.pv ([.sl none (intsD p0)]) 0), .d (.pv (colD p1) 0)] [] (fun res H' => res = [bV r] ∧ H' = []) := by
 refine AC_of_body true Tryz.func89 rfl Tryz.ntmps89 (rvs := [.tmp 2]) rfl rfl (fun G hG => ?_)
 have hm : G.H.length = 0 := by rw [hG]; rfl
 have hz : zeroG G.H = true := by rw [hG]; rfl
 unfold impl_ExchangeColours_c1 at h
 refine kR ?_
 refine kN 1 rfl ?_
 refine kR ?_
 refine AOps_q 3 _ rfl rfl rfl (QOp_load_pv _ _ _ _ _ rfl Tryz.isAgg27 rfl rfl) ?_
 refine AOps_q 4 _ rfl rfl rfl (QOp_fieldAddr_pv _ _ _ _ _ 1 _ _ rfl Tryz.underlying26 rfl _ Tryz.sizeOf2 rfl rfl) ?_
 refine AOps_q 5 _ rfl rfl rfl (QOp_load_pv _ _ _ _ _ rfl Tryz.isAgg2 rfl rfl) ?_
 obtain ⟨r1, hr1, h⟩ := bindO h
 refine kC [] 6 (bV r1) [] rfl Tryz.call85 rfl rfl (impl_isOrder_ac k p0 p1.k _ hr1) rfl ?_
 refine kN 1 rfl ?_
 refine ACode_ret ?_
 cases h
 exact ⟨_, _, fun r a w h => ⟨r, h⟩, _, _, [], _, (.cons (ResV_tmp _ _ rfl) .nil), rfl, rfl, rfl, rfl, rfl⟩

-- (*loop.example/g01362/impl.Colouring).recoloured$1
def impl_Colouring_recoloured_c1 (p0 : Int) (p1 : Int) (p2 : Int → Option (Int)) (p3 : Col) : Option (Int) :=
 (impl_Colouring_at p3 p0 p1).bind fun r1 => (p2 r1).bind fun r2 => some r2
set_option maxRecDepth 100000 in
theorem impl_Colouring_recoloured_c1_ac (p0 : Int) (p1 : Int) (p2 : Int → Option (Int)) (p3 : Col) (g_p2 : FuncId) (c_p2 : List D) (hg_p2 : ∀ args w, (callFunc g_p2 args).run Tryz.prog w = .ok (.enter g_p2 args) w) (hf_p2 : ∀ (a0 : Int) (r : Int), p2 a0 = some r → AC Tryz.prog g_p2 ([iV a0] ++ c_p2.map AV.d) [] (fun res H' => res = [iV r] ∧ H' = [])) (r : Int) (h : impl_Colouring_recoloured_c1 p0 p1 p2 p3 = some r) : AC Tryz.prog 153 [iV p0, iV p1, .d (.pv ([.clo g_p2 c_p2]) 0), .d (.pv ([.pv (colD p3) 0]) 0)] [] (fun res H' => res = [iV r] ∧ H' = []) := by
 refine AC_of_body true Tryz.func153 rfl Tryz.ntmps153 (rvs := [.tmp 6]) rfl rfl (fun G hG => ?_)
 have hm : G.H.length = 0 := by rw [hG]; rfl
 have hz : zeroG G.H = true := by rw [hG]; rfl
 unfold impl_Colouring_recoloured_c1 at h
 refine kR ?_
 refine kN 1 rfl ?_
 refine ACode_seq (ACode_quiet mixed (by kernel_rfl) ?_)
 refine AQ_q 7 _ rfl rfl rfl (QOp_load_pv _ _ _ _ _ rfl Tryz.isAgg78 rfl rfl) ?_
 refine AQ_q 8 _ rfl rfl rfl (QOp_load_pv _ _ _ _ _ rfl Tryz.isAgg92 rfl rfl) ?_
 refine kQ 2 rfl ?_
 obtain ⟨r1, hr1, h⟩ := bindO h
 refine AQ_call 11 _ _ _ _ _ _ _ _ _ rfl rfl rfl rfl rfl rfl rfl Tryz.call129 rfl rfl rfl (impl_Colouring_at_ac p3 p0 p1 _ hr1) ?_
 obtain ⟨r2, hr2, h⟩ := bindO h
 refine AQ_call 12 _ _ _ _ _ _ _ _ _ rfl rfl rfl rfl rfl rfl rfl hg_p2 rfl rfl (viewA_mapD _) (hf_p2 r1 _ hr2) ?_
 refine kQ 1 rfl ?_
 refine AQ_nil ?_
 refine ACode_ret ?_
 cases h
 exact ⟨_, _, fun r a w h => ⟨r, h⟩, _, _, [], _, (.cons (ResV_tmp _ _ rfl) .nil), rfl, rfl, rfl, rfl, rfl⟩

-- (*loop.example/g01362/impl.Colouring).recoloured
def impl_Colouring_recoloured (k : Nat) (p0 : Col) (p1 : Int) (p2 : Int → Option (Int)) : Option (Col) :=
 (impl_made k p0.p p1 (fun a0 a1 => impl_Colouring_recoloured_c1 a0 a1 p2 p0)).bind fun r1 => some r1
set_option maxRecDepth 100000 in
theorem impl_Colouring_recoloured_ac (k : Nat) (p0 : Col) (p1 : Int) (p2 : Int → Option (Int)) (g_p2 : FuncId) (c_p2 : List D) (hg_p2 : ∀ args w, (callFunc g_p2 args).run Tryz.prog w = .ok (.enter g_p2 args) w) (hf_p2 : ∀ (a0 : Int) (r : Int), p2 a0 = some r → AC Tryz.prog g_p2 ([iV a0] ++ c_p2.map AV.d) [] (fun res H' => res = [iV r] ∧ H' = [])) (r : Col) (h : impl_Colouring_recoloured k p0 p1 p2 = some r) : AC Tryz.prog 90 [.d (.pv (colD p0) 0), iV p1, .d (.clo g_p2 c_p2)] [] (fun res H' => res = [.d (.agg (colD r))] ∧ H' = []) := by
 refine AC_of_body true Tryz.func90 rfl Tryz.ntmps90 (rvs := [.cell 6 26]) rfl rfl (fun G hG => ?_)
 have hm : G.H.length = 0 := by rw [hG]; rfl
 have hz : zeroG G.H = true := by rw [hG]; rfl
 unfold impl_Colouring_recoloured at h
 refine kR ?_
 refine AOps_boxI 3 _ _ (.pv (colD p0) 0) _ rfl (fun c hc => by cases hc with | head => rfl | tail _ h => cases h) rfl rfl rfl rfl rfl ?_
 refine AOps_boxI 5 _ _ (.clo g_p2 c_p2) _ rfl (fun c hc => by cases hc with | head => rfl | tail _ h => cases h) rfl rfl rfl rfl rfl ?_
 refine AOps_alloc 6 _ _ (colD Col.zero) (zero_of Tryz.typeInfo26 rfl) (by rfl) rfl rfl rfl rfl ?_
 refine AOps_nil ?_
 refine kR ?_
 refine AOps_q 7 _ rfl rfl rfl (QOp_load_pv _ _ _ _ _ rfl Tryz.isAgg92 rfl rfl) ?_
 refine AOps_q 8 _ rfl rfl rfl (QOp_nilCheck_pv _ _ _ rfl rfl) ?_
 refine AOps_q 9 _ rfl rfl rfl (QOp_fieldAddr_pv _ _ _ _ _ 0 _ _ rfl Tryz.underlying26 rfl _ Tryz.sizeOf2 rfl rfl) ?_
 refine AOps_q 10 _ rfl rfl rfl (QOp_load_pv _ _ _ _ _ rfl Tryz.isAgg2 rfl rfl) ?_
 refine kM 1 rfl ?_
 refine AOps_q 12 _ rfl rfl rfl (QOp_makeFuncD _ _ _ _ rfl rfl rfl) ?_
 obtain ⟨r1, hr1, h⟩ := bindO h
 refine kC [] 13 (.d (.agg (colD r1))) [.box (colD Col.zero)] rfl Tryz.call148 rfl rfl (impl_made_ac k p0.p p1 (fun a0 a1 => impl_Colouring_recoloured_c1 a0 a1 p2 p0) 153 ([.pv ([.clo g_p2 c_p2]) 0, .pv ([.pv (colD p0) 0]) 0]) Tryz.call153 (fun a0 a1 r h => impl_Colouring_recoloured_c1_ac a0 a1 p2 p0 g_p2 c_p2 hg_p2 hf_p2 r h) _ hr1) rfl ?_
 refine AOps_store _ _ _ _ _ _ (colD _) _ _ rfl rfl rfl rfl rfl rfl rfl (colD_one _) (by rw [colD_length]; exact Tryz.sizeOf26) (by rw [colD_length, colD_length]; decide) (colD_whole _ _) ?_
 refine AOps_nil ?_
 refine ACode_ret ?_
 cases h
 exact ⟨_, _, fun r a w h => ⟨r, h⟩, _, _, [], _, (.cons (ResV_agg _ _ _ _ _ _ Tryz.isAgg26 Tryz.sizeOf26 rfl rfl (colD_take _) (colD_length _)) .nil), rfl, rfl, rfl, rfl, rfl⟩

-- loop.example/g01362/impl.ExchangeColours$2
def impl_ExchangeColours_c2 (p0 : Int) (p1 : List Int) : Option (Int) :=
 (if 0 ≤ p0 ∧ p0 < (p1.length : Int) then some (p1.getD p0.toNat 0) else none)
set_option maxRecDepth 100000 in
theorem impl_ExchangeColours_c2_ac (p0 : Int) (p1 : List Int) (r : Int) (h : impl_ExchangeColours_c2 p0 p1 = some r) : AC Tryz.prog 91 [iV p0, .d (.pv ([.sl none (intsD p1)]) 0)] [] (fun res H' => res = [iV r] ∧ H' = []) := by
 refine AC_of_body true Tryz.func91 rfl Tryz.ntmps91 (rvs := [.tmp 3]) rfl rfl (fun G hG => ?_)
 have hm : G.H.length = 0 := by rw [hG]; rfl
 have hz : zeroG G.H = true := by rw [hG]; rfl
 unfold impl_ExchangeColours_c2 at h
 refine kR ?_
 refine kN 1 rfl ?_
 refine kR ?_
 refine AOps_q 4 _ rfl rfl rfl (QOp_load_pv _ _ _ _ _ rfl Tryz.isAgg27 rfl rfl) ?_
 refine kM 1 rfl ?_
 obtain ⟨hc1, h⟩ := guardO h
 refine AOps_q 6 _ rfl rfl rfl (QOp_indexAddr_sl _ _ _ _ _ _ _ _ rfl Tryz.underlying27 Tryz.sizeOf2 hc1.1 (by rw [intsD_length]; exact hc1.2) rfl rfl) ?_
 refine AOps_q 7 _ rfl rfl rfl (QOp_load_pv _ _ _ _ _ rfl Tryz.isAgg2 rfl (intsD_get _ _ 0 (by omega))) ?_
 refine kN 1 rfl ?_
 refine ACode_ret ?_
 cases h
 exact ⟨_, _, fun r a w h => ⟨r, h⟩, _, _, [], _, (.cons (ResV_tmp _ _ rfl) .nil), rfl, rfl, rfl, rfl, rfl⟩

-- loop.example/g01362/impl.ExchangeColours
def impl_ExchangeColours (k : Nat) (p0 : Col) (p1 : List Int) : Option (Col × Int) :=
 (impl_Colouring_code k p0 (impl_ExchangeColours_c1 k p1 p0)).bind fun r1 => (if !decide (r1 = 0) then some ((⟨0, 0, B136.zero⟩ : Col), r1) else (impl_Colouring_recoloured k p0 p0.k (fun a0 => impl_ExchangeColours_c2 a0 p1)).bind fun r3 => some (r3, 0))
set_option maxRecDepth 100000 in
theorem impl_ExchangeColours_ac (k : Nat) (p0 : Col) (p1 : List Int) (r : Col × Int) (h : impl_ExchangeColours k p0 p1 = some r) : AC Tryz.prog 16 [.d (.agg (colD p0)), .d (.sl none (intsD p1))] [] (fun res H' => res = [.d (.agg (colD r.1)), iV r.2] ∧ H' = []) := by
 refine AC_of_body true Tryz.func16 rfl Tryz.ntmps16 (rvs := [.cell 4 26, .tmp 5]) rfl rfl (fun G hG => ?_)
 have hm : G.H.length = 0 := by rw [hG]; rfl
 have hz : zeroG G.H = true := by rw [hG]; rfl
 unfold impl_ExchangeColours at h
 refine kR ?_
 refine AOps_boxI 2 _ _ (.agg (colD p0)) (colD p0) rfl (colD_one _) rfl rfl rfl rfl rfl ?_
 refine AOps_boxI 3 _ _ (.sl none (intsD p1)) _ rfl (fun c hc => by cases hc with | head => rfl | tail _ h => cases h) rfl rfl rfl rfl rfl ?_
 refine AOps_alloc 4 _ _ (colD Col.zero) (zero_of Tryz.typeInfo26 rfl) (by rfl) rfl rfl rfl rfl ?_
 refine kN 1 rfl ?_
 refine ACode_seq ?_
 refine kR ?_
 refine AOps_q 7 _ rfl rfl rfl (QOp_makeFuncD _ _ _ _ rfl rfl rfl) ?_
 obtain ⟨r1, hr1, h⟩ := bindO h
 refine kC [] 8 (iV r1) [.box (colD Col.zero)] rfl Tryz.call69 rfl rfl (impl_Colouring_code_ac k p0 (impl_ExchangeColours_c1 k p1 p0) 89 ([.pv ([.sl none (intsD p1)]) 0, .pv (colD p0) 0]) Tryz.call89 (fun r h => impl_ExchangeColours_c1_ac k p1 p0 r h) _ hr1) rfl ?_
 refine kN 1 rfl ?_
 refine kR ?_
 refine kM 1 rfl ?_
 refine AOps_q 10 _ rfl rfl rfl (QOp_neq _ _ _ _ _ _ _ rfl rfl rfl) ?_
 refine AOps_nil ?_
 refine kI h rfl (fun h _ => ?_) (fun h _ => ?_)
 ·refine kR ?_
  refine AOps_q 11 _ rfl rfl rfl (QOp_build _ _ [] [] [] _ (colD Col.zero) (colD (⟨0, 0, B136.zero⟩ : Col)) [(0, 1), (1, 1), (2, 136)] rfl rfl Tryz.underlying26 (zero_of Tryz.typeInfo26 rfl) (fun w => by simp [Tryz.sizeOf2, Tryz.sizeOf2, Tryz.sizeOf24]) rfl (by rfl) (by rfl) (fun _ h => nomatch h)) ?_
  refine kM 1 rfl ?_
  refine AOps_store _ _ _ _ _ _ (colD _) _ _ rfl rfl rfl rfl rfl rfl rfl (colD_one _) (by rw [colD_length]; exact Tryz.sizeOf26) (by rw [colD_length, colD_length]; decide) (colD_whole _ _) ?_
  refine kN 1 rfl ?_
  refine ACode_ret ?_
  cases h
  exact ⟨_, _, fun r a w h => ⟨r, h⟩, _, _, [], _, (.cons (ResV_agg _ _ _ _ _ _ Tryz.isAgg26 Tryz.sizeOf26 rfl rfl (colD_take _) (colD_length _)) (.cons (ResV_tmp _ _ rfl) .nil)), rfl, rfl, rfl, rfl, rfl⟩
 refine ACode_skip ?_
 refine kR ?_
 refine AOps_q 13 _ rfl rfl rfl (QOp_fieldAddr_pv _ _ _ _ _ 1 _ _ rfl Tryz.underlying26 rfl _ Tryz.sizeOf2 rfl rfl) ?_
 refine AOps_q 14 _ rfl rfl rfl (QOp_load_pv _ _ _ _ _ rfl Tryz.isAgg2 rfl rfl) ?_
 refine AOps_q 15 _ rfl rfl rfl (QOp_makeFuncD _ _ _ _ rfl rfl rfl) ?_
 obtain ⟨r3, hr3, h⟩ := bindO h
 refine kC [] 16 (.d (.agg (colD r3))) [.box (colD Col.zero)] rfl Tryz.call90 rfl rfl (impl_Colouring_recoloured_ac k p0 p0.k (fun a0 => impl_ExchangeColours_c2 a0 p1) 91 ([.pv ([.sl none (intsD p1)]) 0]) Tryz.call91 (fun a0 r h => impl_ExchangeColours_c2_ac a0 p1 r h) _ hr3) rfl ?_
 refine AOps_store _ _ _ _ _ _ (colD _) _ _ rfl rfl rfl rfl rfl rfl rfl (colD_one _) (by rw [colD_length]; exact Tryz.sizeOf26) (by rw [colD_length, colD_length]; decide) (colD_whole _ _) ?_
 refine kN 1 rfl ?_
 refine ACode_ret ?_
 cases h
 exact ⟨_, _, fun r a w h => ⟨r, h⟩, _, _, [], _, (.cons (ResV_agg _ _ _ _ _ _ Tryz.isAgg26 Tryz.sizeOf26 rfl rfl (colD_take _) (colD_length _)) (.cons (ResV_tmp _ _ rfl) .nil)), rfl, rfl, rfl, rfl, rfl⟩

-- loop.example/g01362/spec.l01Turned
def spec_l01Turned_l0 (p1 : List Int) : Nat → Int → Col → Option (Col)
 | 0, _, _ => none
 | k0 + 1, x1, x2 => (if decide (x1 < w64 ((w64 (x2.p * (w64 (x2.p - 1)))).tdiv 2)) then (if 0 ≤ x1 ∧ x1 < 136 then (if 0 ≤ ((x2.get x1.toNat).toNat : Int) ∧ ((x2.get x1.toNat).toNat : Int) < (p1.length : Int) then (if 0 ≤ x1 ∧ x1 < 136 then spec_l01Turned_l0 p1 k0 (w64 (x1 + 1)) (x2.set x1.toNat (toByte (p1.getD ((x2.get x1.toNat).toNat : Int).toNat 0))) else none) else none) else none) else some x2)
def spec_l01Turned (k : Nat) (p0 : Col) (p1 : List Int) : Option (Col) :=
 (spec_l01Turned_l0 p1 k 0 p0 : Option (Col)).bind fun s7 => some s7
set_option maxRecDepth 100000 in
theorem spec_l01Turned_ac (k : Nat) (p0 : Col) (p1 : List Int) (r : Col) (h : spec_l01Turned k p0 p1 = some r) : AC Tryz.prog 92 [.d (.agg (colD p0)), .d (.sl none (intsD p1))] [] (fun res H' => res = [.d (.agg (colD r))] ∧ H' = []) := by
 refine AC_of_body true Tryz.func92 rfl Tryz.ntmps92 (rvs := [.cell 4 26]) rfl rfl (fun G hG => ?_)
 have hm : G.H.length = 0 := by rw [hG]; rfl
 have hz : zeroG G.H = true := by rw [hG]; rfl
 unfold spec_l01Turned at h
 refine kR ?_
 refine AOps_boxM 2 _ _ (.agg (colD p0)) (colD p0) rfl (colD_one _) rfl rfl rfl rfl rfl ?_
 refine AOps_alloc 4 _ _ (colD Col.zero) (zero_of Tryz.typeInfo26 rfl) (by rfl) rfl rfl rfl rfl ?_
 refine AOps_nil ?_
 refine kB (fun s7 => [(2, .ptr 0 0), (4, .ptr 1 0)]) (fun s7 => [.box (colD s7), .box (colD Col.zero)]) h (fun s7 h => ?_) (fun s7 h => ?_)
 ·refine kR ?_
  refine kN 1 rfl ?_
  refine ACode_block ?_
  refine ACode_loopW (fun k0 E H => ∃ (x1 : Int) (x2 : Col), E = [(1, .d (.sl none (intsD p1))), (2, .ptr 0 0), (4, .ptr 1 0), (5, iV x1)] ∧ H = [.box (colD x2), .box (colD Col.zero)] ∧ spec_l01Turned_l0 p1 k0 x1 x2 = some s7) k _ _ (Weak_keep 0 hm [1, 2, 4, 5] [0, 1] _ _ rfl rfl rfl) ⟨_, _, rfl, rfl, h⟩ ?_
  clear h
  rintro k0 E H ⟨x1, x2, rfl, rfl, h⟩
  cases k0 with
  | zero => cases (show (none : Option (Col)) = some _ from h)
  | succ k0 =>
   rw [spec_l01Turned_l0] at h
   refine ACode_seq ?_
   refine kR ?_
   refine kM 1 rfl ?_
   refine AOps_q 7 _ rfl rfl rfl (QOp_fieldAddr_ptr _ _ _ _ _ _ 0 _ _ rfl Tryz.underlying26 rfl _ Tryz.sizeOf2 rfl rfl rfl rfl) ?_
   refine AOps_q 8 _ rfl rfl rfl (QOp_load_ptr _ _ _ _ _ _ rfl Tryz.isAgg2 rfl rfl rfl) ?_
   refine AOps_q 9 _ rfl rfl rfl (QOp_fieldAddr_ptr _ _ _ _ _ _ 0 _ _ rfl Tryz.underlying26 rfl _ Tryz.sizeOf2 rfl rfl rfl rfl) ?_
   refine AOps_q 10 _ rfl rfl rfl (QOp_load_ptr _ _ _ _ _ _ rfl Tryz.isAgg2 rfl rfl rfl) ?_
   refine AOps_q 11 _ rfl rfl rfl (QOp_sub _ _ _ _ _ _ _ rfl rfl rfl) ?_
   refine AOps_q 12 _ rfl rfl rfl (QOp_mul _ _ _ _ _ _ _ rfl rfl rfl) ?_
   refine AOps_q 13 _ rfl rfl rfl (QOp_quo _ _ _ _ _ _ _ (by decide) rfl rfl rfl) ?_
   refine AOps_q 14 _ rfl rfl rfl (QOp_lss _ _ _ _ _ _ _ rfl rfl rfl) ?_
   refine AOps_nil ?_
   refine kI h rfl (fun h _ => ?_) (fun h _ => ?_)
   ·refine ACode_skip ?_
    refine ACode_seq ?_
    refine ACode_block ?_
    refine (ACode_region ?_)
    refine kM 3 rfl ?_
    refine AOps_q 20 _ rfl rfl rfl (QOp_fieldAddr_ptr _ _ _ _ _ _ 2 _ _ rfl Tryz.underlying26 rfl _ Tryz.sizeOf24 rfl rfl rfl rfl) ?_
    obtain ⟨hc4, h⟩ := guardO h
    refine AOps_q 21 _ rfl rfl rfl (QOp_indexAddrA_ptr _ _ _ _ _ _ _ _ _ _ rfl Tryz.underlying24 Tryz.sizeOf5 hc4.1 hc4.2 rfl rfl rfl rfl) ?_
    refine AOps_q 22 _ rfl rfl rfl (QOp_load_ptr _ _ _ _ _ _ rfl Tryz.isAgg5 rfl rfl (colD_get _ _ (by omega))) ?_
    obtain ⟨hc5, h⟩ := guardO h
    refine AOps_q 23 _ rfl rfl rfl (QOp_indexAddr_sl _ _ _ _ _ _ _ _ rfl Tryz.underlying27 Tryz.sizeOf2 hc5.1 (by rw [intsD_length]; exact hc5.2) rfl rfl) ?_
    refine AOps_q 24 _ rfl rfl rfl (QOp_load_pv _ _ _ _ _ rfl Tryz.isAgg2 rfl (intsD_get _ _ 0 (by omega))) ?_
    refine AOps_q 25 _ rfl rfl rfl (QOp_toByte _ _ _ _ _ rfl rfl Tryz.underlying5 rfl) ?_
    refine AOps_q 26 _ rfl rfl rfl (QOp_fieldAddr_ptr _ _ _ _ _ _ 2 _ _ rfl Tryz.underlying26 rfl _ Tryz.sizeOf24 rfl rfl rfl rfl) ?_
    obtain ⟨hc6, h⟩ := guardO h
    refine AOps_q 27 _ rfl rfl rfl (QOp_indexAddrA_ptr _ _ _ _ _ _ _ _ _ _ rfl Tryz.underlying24 Tryz.sizeOf5 hc6.1 hc6.2 rfl rfl rfl rfl) ?_
    refine AOps_store1 _ _ _ _ _ _ (colD (x2.set x1.toNat (toByte (p1.getD ((x2.get x1.toNat).toNat : Int).toNat 0)))) _ rfl rfl rfl rfl rfl rfl rfl Tryz.sizeOf5 (by rw [colD_length]; omega) (colD_setE x2 x1.toNat (toByte (p1.getD ((x2.get x1.toNat).toNat : Int).toNat 0))) ?_
    refine AOps_nil ?_
    refine (ACode_region ?_)
    refine kM 1 rfl ?_
    refine AOps_q 16 _ rfl rfl rfl (QOp_add _ _ _ _ _ _ _ rfl rfl rfl) ?_
    refine kN 1 rfl ?_
    exact ⟨k0, _, _, Nat.lt_succ_self _, Weak_keep 0 hm [1, 2, 4, 5] [0, 1] _ _ rfl rfl rfl, _, _, rfl, rfl, h⟩
   refine ACode_exit ?_
   cases h
   exact Weak_keep 0 hm [2, 4] [0, 1] _ _ rfl rfl rfl
 refine kR ?_
 refine AOps_q 28 _ rfl rfl rfl (QOp_loadN_ptr _ _ _ _ _ _ _ rfl Tryz.isAgg26 Tryz.sizeOf26 rfl rfl (colD_all _) (colD_length _)) ?_
 refine AOps_store _ _ _ _ _ _ (colD _) _ _ rfl rfl rfl rfl rfl rfl rfl (colD_one _) (by rw [colD_length]; exact Tryz.sizeOf26) (by rw [colD_length, colD_length]; decide) (colD_whole _ _) ?_
 refine AOps_nil ?_
 refine ACode_ret ?_
 cases h
 exact ⟨_, _, fun r a w h => ⟨r, h⟩, _, _, [], _, (.cons (ResV_agg _ _ _ _ _ _ Tryz.isAgg26 Tryz.sizeOf26 rfl rfl (colD_take _) (colD_length _)) .nil), rfl, rfl, rfl, rfl, rfl⟩

-- loop.example/g01362/spec.ExchangeColours
def spec_ExchangeColours (k : Nat) (p0 : Col) (p1 : List Int) : Option (Col × Int) :=
 (spec_l01Is k p0).bind fun r1 => (if !r1 then some ((⟨0, 0, B136.zero⟩ : Col), 1) else (spec_l01Order k p1 p0.k).bind fun r3 => (if !r3 then some ((⟨0, 0, B136.zero⟩ : Col), 2) else (spec_l01Turned k p0 p1).bind fun r5 => some (r5, 0)))
set_option maxRecDepth 100000 in
theorem spec_ExchangeColours_ac (k : Nat) (p0 : Col) (p1 : List Int) (r : Col × Int) (h : spec_ExchangeColours k p0 p1 = some r) : AC Tryz.prog 17 [.d (.agg (colD p0)), .d (.sl none (intsD p1))] [] (fun res H' => res = [.d (.agg (colD r.1)), iV r.2] ∧ H' = []) := by
 refine AC_of_body true Tryz.func17 rfl Tryz.ntmps17 (rvs := [.cell 4 26, .tmp 5]) rfl rfl (fun G hG => ?_)
 have hm : G.H.length = 0 := by rw [hG]; rfl
 have hz : zeroG G.H = true := by rw [hG]; rfl
 unfold spec_ExchangeColours at h
 refine kR ?_
 refine AOps_boxI 2 _ _ (.agg (colD p0)) (colD p0) rfl (colD_one _) rfl rfl rfl rfl rfl ?_
 refine AOps_alloc 4 _ _ (colD Col.zero) (zero_of Tryz.typeInfo26 rfl) (by rfl) rfl rfl rfl rfl ?_
 refine kN 1 rfl ?_
 refine ACode_seq ?_
 refine ACode_block ?_
 refine kR ?_
 refine AOps_q 7 _ rfl rfl rfl (QOp_loadN_pv _ _ _ _ _ _ rfl Tryz.isAgg26 Tryz.sizeOf26 rfl (colD_all _) (colD_length _)) ?_
 obtain ⟨r1, hr1, h⟩ := bindO h
 refine kC [] 8 (bV r1) [.box (colD Col.zero)] rfl Tryz.call73 rfl rfl (spec_l01Is_ac k p0 _ hr1) rfl ?_
 refine AOps_q 9 _ rfl rfl rfl (QOp_not _ _ _ rfl rfl) ?_
 refine kN 1 rfl ?_
 refine kI h rfl (fun h _ => ?_) (fun h _ => ?_)
 ·refine kR ?_
  refine AOps_q 10 _ rfl rfl rfl (QOp_build _ _ [] [] [] _ (colD Col.zero) (colD (⟨0, 0, B136.zero⟩ : Col)) [(0, 1), (1, 1), (2, 136)] rfl rfl Tryz.underlying26 (zero_of Tryz.typeInfo26 rfl) (fun w => by simp [Tryz.sizeOf2, Tryz.sizeOf2, Tryz.sizeOf24]) rfl (by rfl) (by rfl) (fun _ h => nomatch h)) ?_
  refine AOps_store _ _ _ _ _ _ (colD _) _ _ rfl rfl rfl rfl rfl rfl rfl (colD_one _) (by rw [colD_length]; exact Tryz.sizeOf26) (by rw [colD_length, colD_length]; decide) (colD_whole _ _) ?_
  refine kN 1 rfl ?_
  refine ACode_ret ?_
  cases h
  exact ⟨_, _, fun r a w h => ⟨r, h⟩, _, _, [], _, (.cons (ResV_agg _ _ _ _ _ _ Tryz.isAgg26 Tryz.sizeOf26 rfl rfl (colD_take _) (colD_length _)) (.cons (ResV_tmp _ _ rfl) .nil)), rfl, rfl, rfl, rfl, rfl⟩
 refine kR ?_
 refine kM 1 rfl ?_
 refine AOps_q 13 _ rfl rfl rfl (QOp_fieldAddr_pv _ _ _ _ _ 1 _ _ rfl Tryz.underlying26 rfl _ Tryz.sizeOf2 rfl rfl) ?_
 refine AOps_q 14 _ rfl rfl rfl (QOp_load_pv _ _ _ _ _ rfl Tryz.isAgg2 rfl rfl) ?_
 obtain ⟨r3, hr3, h⟩ := bindO h
 refine kC [] 15 (bV r3) [.box (colD Col.zero)] rfl Tryz.call87 rfl rfl (spec_l01Order_ac k p1 p0.k _ hr3) rfl ?_
 refine AOps_q 16 _ rfl rfl rfl (QOp_not _ _ _ rfl rfl) ?_
 refine kN 1 rfl ?_
 refine kI h rfl (fun h _ => ?_) (fun h _ => ?_)
 ·refine kR ?_
  refine AOps_q 17 _ rfl rfl rfl (QOp_build _ _ [] [] [] _ (colD Col.zero) (colD (⟨0, 0, B136.zero⟩ : Col)) [(0, 1), (1, 1), (2, 136)] rfl rfl Tryz.underlying26 (zero_of Tryz.typeInfo26 rfl) (fun w => by simp [Tryz.sizeOf2, Tryz.sizeOf2, Tryz.sizeOf24]) rfl (by rfl) (by rfl) (fun _ h => nomatch h)) ?_
  refine AOps_store _ _ _ _ _ _ (colD _) _ _ rfl rfl rfl rfl rfl rfl rfl (colD_one _) (by rw [colD_length]; exact Tryz.sizeOf26) (by rw [colD_length, colD_length]; decide) (colD_whole _ _) ?_
  refine kN 1 rfl ?_
  refine ACode_ret ?_
  cases h
  exact ⟨_, _, fun r a w h => ⟨r, h⟩, _, _, [], _, (.cons (ResV_agg _ _ _ _ _ _ Tryz.isAgg26 Tryz.sizeOf26 rfl rfl (colD_take _) (colD_length _)) (.cons (ResV_tmp _ _ rfl) .nil)), rfl, rfl, rfl, rfl, rfl⟩
 refine ACode_skip ?_
 refine kR ?_
 refine AOps_q 18 _ rfl rfl rfl (QOp_loadN_pv _ _ _ _ _ _ rfl Tryz.isAgg26 Tryz.sizeOf26 rfl (colD_all _) (colD_length _)) ?_
 refine kM 1 rfl ?_
 obtain ⟨r5, hr5, h⟩ := bindO h
 refine kC [] 20 (.d (.agg (colD r5))) [.box (colD Col.zero)] rfl Tryz.call92 rfl rfl (spec_l01Turned_ac k p0 p1 _ hr5) rfl ?_
 refine AOps_store _ _ _ _ _ _ (colD _) _ _ rfl rfl rfl rfl rfl rfl rfl (colD_one _) (by rw [colD_length]; exact Tryz.sizeOf26) (by rw [colD_length, colD_length]; decide) (colD_whole _ _) ?_
 refine kN 1 rfl ?_
 refine ACode_ret ?_
 cases h
 exact ⟨_, _, fun r a w h => ⟨r, h⟩, _, _, [], _, (.cons (ResV_agg _ _ _ _ _ _ Tryz.isAgg26 Tryz.sizeOf26 rfl rfl (colD_take _) (colD_length _)) (.cons (ResV_tmp _ _ rfl) .nil)), rfl, rfl, rfl, rfl, rfl⟩

-- loop.example/g01362/impl.always
def impl_always : Bool :=
 true
set_option maxRecDepth 100000 in
theorem impl_always_ac : AC Tryz.prog 93 [] [] (fun res H' => res = [bV (impl_always)] ∧ H' = []) := by
 refine AC_of_body true Tryz.func93 rfl Tryz.ntmps93 (rvs := [.tmp 0]) rfl rfl (fun G hG => ?_)
 have hm : G.H.length = 0 := by rw [hG]; rfl
 have hz : zeroG G.H = true := by rw [hG]; rfl
 obtain ⟨r, h⟩ : ∃ r, impl_always = r := ⟨_, rfl⟩
 rw [h]
 unfold impl_always at h
 refine kR ?_
 refine kN 1 rfl ?_
 refine kR ?_
 refine kN 1 rfl ?_
 refine ACode_ret ?_
 cases h
 exact ⟨_, _, fun r a w h => ⟨r, h⟩, _, _, [], _, (.cons (ResV_tmp _ _ rfl) .nil), rfl, rfl, rfl, rfl, rfl⟩

-- (*loop.example/g01362/impl.Colouring).counts
def impl_Colouring_counts_l0 (p0 : Col) : Nat → Int → (List Int) → Option (List Int)
 | 0, _, _ => none
 | k0 + 1, x4, x5 => (if decide (x4 < ((p0.e.l.take (impl_Colouring_edges p0).toNat).length : Int)) then (if 0 ≤ x4 ∧ x4 < ((p0.e.l.take (impl_Colouring_edges p0).toNat).length : Int) then (if 0 ≤ (((p0.e.l.take (impl_Colouring_edges p0).toNat).getD x4.toNat 0).toNat : Int) ∧ (((p0.e.l.take (impl_Colouring_edges p0).toNat).getD x4.toNat 0).toNat : Int) < (x5.length : Int) then (if 0 ≤ (((p0.e.l.take (impl_Colouring_edges p0).toNat).getD x4.toNat 0).toNat : Int) ∧ (((p0.e.l.take (impl_Colouring_edges p0).toNat).getD x4.toNat 0).toNat : Int) < (x5.length : Int) then impl_Colouring_counts_l0 p0 k0 (w64 (x4 + 1)) (x5.set (((p0.e.l.take (impl_Colouring_edges p0).toNat).getD x4.toNat 0).toNat : Int).toNat (w64 ((x5.getD (((p0.e.l.take (impl_Colouring_edges p0).toNat).getD x4.toNat 0).toNat : Int).toNat 0) + 1))) else none) else none) else none) else some x5)
def impl_Colouring_counts (k : Nat) (p0 : Col) : Option (List Int) :=
 (if 0 ≤ p0.k ∧ p0.k ≤ p0.k ∧ p0.k ≤ 1099511627776 then ((if 0 ≤ (0 : Int) ∧ 0 ≤ (impl_Colouring_edges p0) ∧ (impl_Colouring_edges p0) ≤ 136 then impl_Colouring_counts_l0 p0 k 0 (List.replicate p0.k.toNat (0 : Int)) else none) : Option (List Int)).bind fun s10 => some s10 else none)
set_option maxRecDepth 100000 in
theorem impl_Colouring_counts_ac (k : Nat) (p0 : Col) (r : List Int) (h : impl_Colouring_counts k p0 = some r) : AC Tryz.prog 94 [.d (.pv (colD p0) 0)] [] (fun res H' => res = [.vec 0 0] ∧ H' = [.vec 0 (intsD r)]) := by
 refine AC_of_body true Tryz.func94 rfl Tryz.ntmps94 (rvs := [.tmp 2]) rfl rfl (fun G hG => ?_)
 have hm : G.H.length = 0 := by rw [hG]; rfl
 have hz : zeroG G.H = true := by rw [hG]; rfl
 unfold impl_Colouring_counts at h
 refine kR ?_
 refine kN 1 rfl ?_
 refine kR ?_
 refine kM 1 rfl ?_
 refine AOps_q 7 _ rfl rfl rfl (QOp_nilCheck_pv _ _ _ rfl rfl) ?_
 refine AOps_q 8 _ rfl rfl rfl (QOp_fieldAddr_pv _ _ _ _ _ 1 _ _ rfl Tryz.underlying26 rfl _ Tryz.sizeOf2 rfl rfl) ?_
 refine AOps_q 9 _ rfl rfl rfl (QOp_load_pv _ _ _ _ _ rfl Tryz.isAgg2 rfl rfl) ?_
 obtain ⟨hc1, h⟩ := guardO h
 refine AOps_makeSliceG intsD iD 0 (intsD_rep · _) 10 _ _ _ _ _ _ p0.k p0.k _ (.int .i64 0) rfl rfl rfl rfl rfl rfl Tryz.underlying27 Tryz.type2 rfl rfl (by decide) rfl rfl hc1.1 hc1.2.1 hc1.2.2 ?_
 refine kN 1 rfl ?_
 refine kB (fun s10 => [(3, .vec 0 0)]) (fun s10 => [.vec 0 (intsD s10)]) h (fun s10 h => ?_) (fun s10 h => ?_)
 ·refine ACode_seq (ACode_quiet mixed (by kernel_rfl) ?_)
  refine kQ 1 rfl ?_
  refine AQ_q 12 _ rfl rfl rfl (QOp_nilCheck_pv _ _ _ rfl rfl) ?_
  refine AQ_q 13 _ rfl rfl rfl (QOp_fieldAddr_pv _ _ _ _ _ 2 _ _ rfl Tryz.underlying26 rfl _ Tryz.sizeOf24 rfl rfl) ?_
  refine kQ 1 rfl ?_
  refine AQ_call 15 _ _ _ _ _ _ _ _ _ rfl rfl rfl rfl rfl rfl rfl Tryz.call154 rfl rfl rfl (impl_Colouring_edges_ac p0) ?_
  obtain ⟨hc3, h⟩ := guardO h
  refine AQ_q 16 _ rfl rfl rfl (QOp_slice_pv _ _ _ _ _ _ _ _ _ (0) ((impl_Colouring_edges p0).toNat) rfl Tryz.underlying24 Tryz.sizeOf5 rfl rfl (by exact ⟨_, by rw [Int.toNat_of_nonneg (by omega)]; rfl⟩) (by omega) (by omega) (by rw [colD_length]; omega) (bysD_part p0.e.l (0) ((impl_Colouring_edges p0).toNat))) ?_
  refine AQ_q 17 _ rfl rfl rfl (QOp_len_sl _ _ _ _ _ _ _ (bysD_length _) rfl rfl rfl rfl Tryz.underlying22 rfl) ?_
  refine kQ 1 rfl ?_
  refine AQ_nil ?_
  refine ACode_block ?_
  refine ACode_loopW (fun k0 E H => ∃ (x4 : Int) (x5 : List Int), E = [(3, .vec 0 0), (16, .d (.sl (some false) (bysD (p0.e.l.take (impl_Colouring_edges p0).toNat)))), (17, iV ((p0.e.l.take (impl_Colouring_edges p0).toNat).length : Int)), (18, iV x4)] ∧ H = [.vec 0 (intsD x5)] ∧ impl_Colouring_counts_l0 p0 k0 x4 x5 = some s10) k _ _ (Weak_keep 0 hm [3, 16, 17, 18] [0] _ _ rfl rfl rfl) ⟨_, _, rfl, rfl, h⟩ ?_
  clear h
  rintro k0 E H ⟨x4, x5, rfl, rfl, h⟩
  cases k0 with
  | zero => cases (show (none : Option (List Int)) = some _ from h)
  | succ k0 =>
   rw [impl_Colouring_counts_l0] at h
   refine kR ?_
   refine AOps_q 19 _ rfl rfl rfl (QOp_lss _ _ _ _ _ _ _ rfl rfl rfl) ?_
   refine AOps_nil ?_
   refine ACode_seq ?_
   refine kI h rfl (fun h _ => ?_) (fun h _ => ?_)
   ·refine ACode_skip ?_
    refine ACode_seq ?_
    refine ACode_block ?_
    refine kR ?_
    obtain ⟨hc7, h⟩ := guardO h
    refine AOps_q 20 _ rfl rfl rfl (QOp_indexAddr_sl _ _ _ _ _ _ _ _ rfl Tryz.underlying22 Tryz.sizeOf5 hc7.1 (by rw [bysD_length]; exact hc7.2) rfl rfl) ?_
    refine AOps_q 21 _ rfl rfl rfl (QOp_load_pv _ _ _ _ _ rfl Tryz.isAgg5 rfl (bysD_get _ _ 0 (by omega))) ?_
    refine kN 1 rfl ?_
    refine (ACode_region ?_)
    refine kM 2 rfl ?_
    obtain ⟨hc8, h⟩ := guardO h
    refine AOps_q 24 _ rfl rfl rfl (QOp_indexAddr_vec _ _ _ _ _ _ _ _ _ rfl Tryz.underlying27 Tryz.sizeOf2 hc8.1 (by rw [intsD_length]; exact hc8.2) rfl rfl rfl) ?_
    refine AOps_q 25 _ rfl rfl rfl (QOp_load_eptr _ _ _ _ _ _ _ rfl Tryz.isAgg2 rfl rfl (intsD_get _ _ 0 (by omega))) ?_
    refine AOps_q 26 _ rfl rfl rfl (QOp_add _ _ _ _ _ _ _ rfl rfl rfl) ?_
    obtain ⟨hc9, h⟩ := guardO h
    refine AOps_q 27 _ rfl rfl rfl (QOp_indexAddr_vec _ _ _ _ _ _ _ _ _ rfl Tryz.underlying27 Tryz.sizeOf2 hc9.1 (by rw [intsD_length]; exact hc9.2) rfl rfl rfl) ?_
    refine AOps_store_eptr _ _ _ _ _ _ (intsD x5) _ rfl rfl rfl rfl rfl rfl rfl Tryz.sizeOf2 (by rw [intsD_length]; omega) ?_
    rw [intsD_set]
    refine AOps_nil ?_
    refine (ACode_region ?_)
    refine AOps_q 28 _ rfl rfl rfl (QOp_add _ _ _ _ _ _ _ rfl rfl rfl) ?_
    refine kN 1 rfl ?_
    exact ⟨k0, _, _, Nat.lt_succ_self _, Weak_keep 0 hm [3, 16, 17, 18] [0] _ _ rfl rfl rfl, _, _, rfl, rfl, h⟩
   refine ACode_exit ?_
   cases h
   exact Weak_keep 0 hm [3] [0] _ _ rfl rfl rfl
 refine kR ?_
 refine kN 2 rfl ?_
 refine ACode_ret ?_
 cases h
 exact ⟨_, _, Weak_reset 0 hm hz [2] _ _ rfl rfl, _, _, [0], _, (.cons (ResV_tmp _ _ rfl) .nil), rfl, rfl, rfl, rfl, rfl⟩

-- loop.example/g01362/impl.CountEdges
def impl_CountEdges (k : Nat) (p0 : Col) : Option (Option (List Int) × Int) :=
 (impl_Colouring_code k p0 (some (impl_always))).bind fun r1 => (if !decide (r1 = 0) then some (none, r1) else (impl_Colouring_counts k p0).bind fun r3 => some (some r3, 0))
set_option maxRecDepth 100000 in
theorem impl_CountEdges_ac (k : Nat) (p0 : Col) (r : Option (List Int) × Int) (h : impl_CountEdges k p0 = some r) : AC Tryz.prog 18 [.d (.agg (colD p0))] [] (fun res H' => res = [ownA 0 (r.1.map intsD), iV r.2] ∧ H' = [] ++ ownH (r.1.map intsD)) := by
 refine AC_of_body false Tryz.func18 rfl Tryz.ntmps18 (rvs := [.tmp 2, .tmp 3]) rfl rfl (fun G hG => ?_)
 have hm : G.H.length = 0 := by rw [hG]; rfl
 have hz : zeroG G.H = true := by rw [hG]; rfl
 unfold impl_CountEdges at h
 refine kR ?_
 refine AOps_boxI 1 _ _ (.agg (colD p0)) (colD p0) rfl (colD_one _) rfl rfl rfl rfl rfl ?_
 refine kN 2 rfl ?_
 refine ACode_seq ?_
 refine kR ?_
 obtain ⟨r1, hr1, h⟩ := bindO h
 refine kC [] 5 (iV r1) [] rfl Tryz.call69 rfl rfl (impl_Colouring_code_ac k p0 (some (impl_always)) 93 ([]) Tryz.call93 (fun r h => by cases h; exact impl_always_ac) _ hr1) rfl ?_
 refine kN 1 rfl ?_
 refine kR ?_
 refine kM 1 rfl ?_
 refine AOps_q 7 _ rfl rfl rfl (QOp_neq _ _ _ _ _ _ _ rfl rfl rfl) ?_
 refine AOps_nil ?_
 refine kI h rfl (fun h _ => ?_) (fun h _ => ?_)
 ·refine kR ?_
  refine kN 3 rfl ?_
  refine ACode_ret ?_
  cases h
  exact ⟨_, _, fun r a w h => ⟨r, h⟩, _, _, [], _, (.cons (ResV_tmp _ _ rfl) (.cons (ResV_tmp _ _ rfl) .nil)), rfl, rfl, rfl, rfl, rfl⟩
 refine ACode_skip ?_
 refine kR ?_
 obtain ⟨r3, hr3, h⟩ := bindO h
 refine kC [] 9 (.vec 0 0) [.vec 0 (intsD r3)] rfl Tryz.call94 rfl rfl (impl_Colouring_counts_ac k p0 _ hr3) rfl ?_
 refine kN 2 rfl ?_
 refine ACode_ret ?_
 cases h
 exact ⟨_, _, Weak_reset 0 hm hz [2, 3] _ _ rfl rfl, _, _, [0], _, (.cons (ResV_tmp _ _ rfl) (.cons (ResV_tmp _ _ rfl) .nil)), rfl, rfl, rfl, rfl, rfl⟩

-- loop.example/g01362/spec.l01Near
def spec_l01Near (p0 : Src) (p1 : Int) : Option (Int × Src) :=
 (spec_l01Next p0 14).bind fun r1 => (if decide (r1.1 = 0) then (spec_l01Pick r1.2 ([(-1), w64 (p1 + 1), 1099511627776, (-4611686018427387904)])).bind fun r3 => some (r3.1, r3.2) else (spec_l01Next r1.2 (w64 (p1 + 1))).bind fun r4 => some (r4.1, r4.2))
set_option maxRecDepth 100000 in
theorem spec_l01Near_ac (p0 : Src) (p1 : Int) (r : Int × Src) (h : spec_l01Near p0 p1 = some r) : AC Tryz.prog 95 [.ptr 0 0, iV p1] [.box (srcD p0)] (fun res H' => res = [iV r.1] ∧ H' = [.box (srcD r.2)]) := by
 refine AC_of_body true Tryz.func95 rfl Tryz.ntmps95 (rvs := [.tmp 4]) rfl rfl (fun G hG => ?_)
 have hm : G.H.length = 1 := by rw [hG]; rfl
 have hz : zeroG G.H = true := by rw [hG]; rfl
 unfold spec_l01Near at h
 refine kR ?_
 refine kN 1 rfl ?_
 refine ACode_seq ?_
 refine kR ?_
 refine kM 1 rfl ?_
 obtain ⟨r1, hr1, h⟩ := bindO h
 refine kC [0] 6 (iV r1.1) [.box (srcD r1.2)] rfl Tryz.call66 rfl rfl (spec_l01Next_ac p0 14 _ hr1) rfl ?_
 refine AOps_q 7 _ rfl rfl rfl (QOp_eql _ _ _ _ _ _ _ rfl rfl rfl) ?_
 refine AOps_nil ?_
 refine kI h rfl (fun h _ => ?_) (fun h _ => ?_)
 ·refine kR ?_
  refine kM 2 rfl ?_
  refine AOps_q 10 _ rfl rfl rfl (QOp_add _ _ _ _ _ _ _ rfl rfl rfl) ?_
  refine AOps_buildSlice 11 _ _ _ [_, _, _, _] (intsD ([(-1), w64 (p1 + 1), 1099511627776, (-4611686018427387904)])) _ rfl rfl rfl rfl rfl (by decide) Tryz.underlying27 Tryz.sizeOf2 (zero_of Tryz.typeInfo2 rfl) rfl rfl (intsD_one _) ?_
  refine AOps_freezeL [11] 1 0 _ (allc (rfl) (fun _ h => nomatch h)) rfl ?_
  obtain ⟨r3, hr3, h⟩ := bindO h
  refine kC [0] 12 (iV r3.1) [.box (srcD r3.2), .gone] rfl Tryz.call67 rfl rfl (spec_l01Pick_ac r1.2 ([(-1), w64 (p1 + 1), 1099511627776, (-4611686018427387904)]) _ hr3) rfl ?_
  refine kN 1 rfl ?_
  refine ACode_ret ?_
  cases h
  exact ⟨_, _, fun r a w h => ⟨r, h⟩, _, _, [], _, (.cons (ResV_tmp _ _ rfl) .nil), rfl, rfl, rfl, rfl, rfl⟩
 refine ACode_skip ?_
 refine kR ?_
 refine kM 2 rfl ?_
 refine AOps_q 15 _ rfl rfl rfl (QOp_add _ _ _ _ _ _ _ rfl rfl rfl) ?_
 obtain ⟨r4, hr4, h⟩ := bindO h
 refine kC [0] 16 (iV r4.1) [.box (srcD r4.2)] rfl Tryz.call66 rfl rfl (spec_l01Next_ac r1.2 (w64 (p1 + 1)) _ hr4) rfl ?_
 refine kN 1 rfl ?_
 refine ACode_ret ?_
 cases h
 exact ⟨_, _, fun r a w h => ⟨r, h⟩, _, _, [], _, (.cons (ResV_tmp _ _ rfl) .nil), rfl, rfl, rfl, rfl, rfl⟩

-- loop.example/g01362/spec.DrawJoinColours
def spec_DrawJoinColours (k : Nat) (p0 : List UInt8) : Option (Col × Int × Int) :=
 (spec_l01From k p0).bind fun r1 => (spec_l01Draw k r1).bind fun r2 => (spec_l01Near r2.2 (if w64 (r2.1.k - 2) < 0 then 0 else w64 (r2.1.k - 2))).bind fun r3 => (spec_l01Near r3.2 (w64 (r2.1.k - 1))).bind fun r4 => ((spec_l01Next r4.2 2).bind fun r5 => (if decide (r5.1 = 0) then some (w64 (r2.1.k - 1), r5.2) else some (r4.1, r5.2)) : Option (Int × Src)).bind fun s7 => (spec_l01Bad s7.2 r2.1).bind fun r8 => some (r8.1, r3.1, s7.1)
set_option maxRecDepth 100000 in
theorem spec_DrawJoinColours_ac (k : Nat) (p0 : List UInt8) (r : Col × Int × Int) (h : spec_DrawJoinColours k p0 = some r) : AC Tryz.prog 19 [.d (.sl none (bysD p0))] [] (fun res H' => res = [.d (.agg (colD r.1)), iV r.2.1, iV r.2.2] ∧ H' = []) := by
 refine AC_of_body true Tryz.func19 rfl Tryz.ntmps19 (rvs := [.cell 2 26, .tmp 3, .tmp 4]) rfl rfl (fun G hG => ?_)
 have hm : G.H.length = 0 := by rw [hG]; rfl
 have hz : zeroG G.H = true := by rw [hG]; rfl
 unfold spec_DrawJoinColours at h
 refine kR ?_
 refine AOps_alloc 2 _ _ (colD Col.zero) (zero_of Tryz.typeInfo26 rfl) (by rfl) rfl rfl rfl rfl ?_
 refine kN 2 rfl ?_
 refine kR ?_
 refine kM 1 rfl ?_
 obtain ⟨r1, hr1, h⟩ := bindO h
 refine kC [] 10 (.ptr 1 0) [.box (colD Col.zero), .box (srcD r1)] rfl Tryz.call64 rfl rfl (spec_l01From_ac k p0 _ hr1) rfl ?_
 refine kN 1 rfl ?_
 refine kR ?_
 refine kM 1 rfl ?_
 obtain ⟨r2, hr2, h⟩ := bindO h
 refine kC [1] 12 (.d (.agg (colD r2.1))) [.box (colD Col.zero), .box (srcD r2.2)] rfl Tryz.call65 rfl rfl (spec_l01Draw_ac k r1 _ hr2) rfl ?_
 refine AOps_alloc 6 _ _ (colD Col.zero) (zero_of Tryz.typeInfo26 rfl) (by rfl) rfl rfl rfl rfl ?_
 refine AOps_store _ _ _ _ _ _ (colD _) _ _ rfl rfl rfl rfl rfl rfl rfl (colD_one _) (by rw [colD_length]; exact Tryz.sizeOf26) (by rw [colD_length, colD_length]; decide) (colD_whole _ _) ?_
 refine AOps_nil ?_
 refine kR ?_
 refine kM 1 rfl ?_
 refine AOps_q 14 _ rfl rfl rfl (QOp_fieldAddr_ptr _ _ _ _ _ _ 1 _ _ rfl Tryz.underlying26 rfl _ Tryz.sizeOf2 rfl rfl rfl rfl) ?_
 refine AOps_q 15 _ rfl rfl rfl (QOp_load_ptr _ _ _ _ _ _ rfl Tryz.isAgg2 rfl rfl rfl) ?_
 refine AOps_q 16 _ rfl rfl rfl (QOp_sub _ _ _ _ _ _ _ rfl rfl rfl) ?_
 refine AOps_q 17 _ rfl rfl rfl (QOp_max _ _ _ _ _ _ rfl rfl rfl rfl rfl) ?_
 obtain ⟨r3, hr3, h⟩ := bindO h
 refine kC [1] 18 (iV r3.1) [.box (colD Col.zero), .box (srcD r3.2), .box (colD r2.1)] rfl Tryz.call95 rfl rfl (spec_l01Near_ac r2.2 (if w64 (r2.1.k - 2) < 0 then 0 else w64 (r2.1.k - 2)) _ hr3) rfl ?_
 refine kN 1 rfl ?_
 refine kR ?_
 refine kM 1 rfl ?_
 refine AOps_q 20 _ rfl rfl rfl (QOp_fieldAddr_ptr _ _ _ _ _ _ 1 _ _ rfl Tryz.underlying26 rfl _ Tryz.sizeOf2 rfl rfl rfl rfl) ?_
 refine AOps_q 21 _ rfl rfl rfl (QOp_load_ptr _ _ _ _ _ _ rfl Tryz.isAgg2 rfl rfl rfl) ?_
 refine AOps_q 22 _ rfl rfl rfl (QOp_sub _ _ _ _ _ _ _ rfl rfl rfl) ?_
 obtain ⟨r4, hr4, h⟩ := bindO h
 refine kC [1] 23 (iV r4.1) [.box (colD Col.zero), .box (srcD r4.2), .box (colD r2.1)] rfl Tryz.call95 rfl rfl (spec_l01Near_ac r3.2 (w64 (r2.1.k - 1)) _ hr4) rfl ?_
 refine kN 1 rfl ?_
 refine kB (fun s7 => [(2, .ptr 0 0), (5, .ptr 1 0), (6, .ptr 2 0), (7, iV r3.1), (8, iV s7.1)]) (fun s7 => [.box (colD Col.zero), .box (srcD s7.2), .box (colD r2.1)]) h (fun s7 h => ?_) (fun s7 h => ?_)
 ·refine kR ?_
  refine kM 1 rfl ?_
  obtain ⟨r5, hr5, h⟩ := bindO h
  refine kC [1] 25 (iV r5.1) [.box (colD Col.zero), .box (srcD r5.2), .box (colD r2.1)] rfl Tryz.call66 rfl rfl (spec_l01Next_ac r4.2 2 _ hr5) rfl ?_
  refine AOps_q 26 _ rfl rfl rfl (QOp_eql _ _ _ _ _ _ _ rfl rfl rfl) ?_
  refine AOps_nil ?_
  refine kI h rfl (fun h _ => ?_) (fun h _ => ?_)
  ·refine (ACode_region ?_)
   refine AOps_q 27 _ rfl rfl rfl (QOp_fieldAddr_ptr _ _ _ _ _ _ 1 _ _ rfl Tryz.underlying26 rfl _ Tryz.sizeOf2 rfl rfl rfl rfl) ?_
   refine AOps_q 28 _ rfl rfl rfl (QOp_load_ptr _ _ _ _ _ _ rfl Tryz.isAgg2 rfl rfl rfl) ?_
   refine AOps_q 29 _ rfl rfl rfl (QOp_sub _ _ _ _ _ _ _ rfl rfl rfl) ?_
   refine kN 1 rfl ?_
   cases h
   exact Weak_keep 0 hm [2, 5, 6, 7, 8] [0, 1, 2] _ _ rfl rfl rfl
  refine ACode_skip ?_
  cases h
  exact Weak_keep 0 hm [2, 5, 6, 7, 8] [0, 1, 2] _ _ rfl rfl rfl
 refine kR ?_
 refine kM 1 rfl ?_
 refine AOps_q 31 _ rfl rfl rfl (QOp_loadN_ptr _ _ _ _ _ _ _ rfl Tryz.isAgg26 Tryz.sizeOf26 rfl rfl (colD_all _) (colD_length _)) ?_
 obtain ⟨r8, hr8, h⟩ := bindO h
 refine kC [1] 32 (.d (.agg (colD r8.1))) [.box (colD Col.zero), .box (srcD r8.2), .box (colD r2.1)] rfl Tryz.call68 rfl rfl (spec_l01Bad_ac s7.2 r2.1 _ hr8) rfl ?_
 refine kM 2 rfl ?_
 refine AOps_store _ _ _ _ _ _ (colD _) _ _ rfl rfl rfl rfl rfl rfl rfl (colD_one _) (by rw [colD_length]; exact Tryz.sizeOf26) (by rw [colD_length, colD_length]; decide) (colD_whole _ _) ?_
 refine kN 2 rfl ?_
 refine ACode_ret ?_
 cases h
 exact ⟨_, _, fun r a w h => ⟨r, h⟩, _, _, [], _, (.cons (ResV_agg _ _ _ _ _ _ Tryz.isAgg26 Tryz.sizeOf26 rfl rfl (colD_take _) (colD_length _)) (.cons (ResV_tmp _ _ rfl) (.cons (ResV_tmp _ _ rfl) .nil))), rfl, rfl, rfl, rfl, rfl⟩

-- (*loop.example/g01362/impl.Colouring).hasColour
def impl_Colouring_hasColour (p0 : Col) (p1 : Int) : Bool :=
 (impl_in p1 0 (w64 (p0.k - 1)))
set_option maxRecDepth 100000 in
theorem impl_Colouring_hasColour_ac (p0 : Col) (p1 : Int) : AC Tryz.prog 97 [.d (.pv (colD p0) 0), iV p1] [] (fun res H' => res = [bV (impl_Colouring_hasColour p0 p1)] ∧ H' = []) := by
 refine AC_of_body true Tryz.func97 rfl Tryz.ntmps97 (rvs := [.tmp 4]) rfl rfl (fun G hG => ?_)
 have hm : G.H.length = 0 := by rw [hG]; rfl
 have hz : zeroG G.H = true := by rw [hG]; rfl
 obtain ⟨r, h⟩ : ∃ r, impl_Colouring_hasColour p0 p1 = r := ⟨_, rfl⟩
 rw [h]
 unfold impl_Colouring_hasColour at h
 refine kR ?_
 refine kN 1 rfl ?_
 refine kR ?_
 refine kM 2 rfl ?_
 refine AOps_q 7 _ rfl rfl rfl (QOp_nilCheck_pv _ _ _ rfl rfl) ?_
 refine AOps_q 8 _ rfl rfl rfl (QOp_fieldAddr_pv _ _ _ _ _ 1 _ _ rfl Tryz.underlying26 rfl _ Tryz.sizeOf2 rfl rfl) ?_
 refine AOps_q 9 _ rfl rfl rfl (QOp_load_pv _ _ _ _ _ rfl Tryz.isAgg2 rfl rfl) ?_
 refine AOps_q 10 _ rfl rfl rfl (QOp_sub _ _ _ _ _ _ _ rfl rfl rfl) ?_
 refine kC [] 11 (bV (impl_in p1 0 (w64 (p0.k - 1)))) [] rfl Tryz.call133 rfl rfl (impl_in_ac p1 0 (w64 (p0.k - 1))) rfl ?_
 refine kN 1 rfl ?_
 refine ACode_ret ?_
 cases h
 exact ⟨_, _, fun r a w h => ⟨r, h⟩, _, _, [], _, (.cons (ResV_tmp _ _ rfl) .nil), rfl, rfl, rfl, rfl, rfl⟩

-- loop.example/g01362/impl.JoinColours$1
def impl_JoinColours_c1 (p0 : Col) (p1 : Int) (p2 : Int) : Bool :=
 letO (if (impl_Colouring_hasColour p0 p1) then (if (impl_Colouring_hasColour p0 p2) then decide (p1 < p2) else false) else false) fun (s5 : Bool) => s5
set_option maxRecDepth 100000 in
theorem impl_JoinColours_c1_ac (p0 : Col) (p1 : Int) (p2 : Int) : AC Tryz.prog 96 [.d (.pv (colD p0) 0), .d (.pv ([iD p1]) 0), .d (.pv ([iD p2]) 0)] [] (fun res H' => res = [bV (impl_JoinColours_c1 p0 p1 p2)] ∧ H' = []) := by
 refine AC_of_body true Tryz.func96 rfl Tryz.ntmps96 (rvs := [.tmp 3]) rfl rfl (fun G hG => ?_)
 have hm : G.H.length = 0 := by rw [hG]; rfl
 have hz : zeroG G.H = true := by rw [hG]; rfl
 obtain ⟨r, h⟩ : ∃ r, impl_JoinColours_c1 p0 p1 p2 = r := ⟨_, rfl⟩
 rw [h]
 unfold impl_JoinColours_c1 at h
 refine kR ?_
 refine kN 1 rfl ?_
 refine kL (fun s5 => [(3, bV s5)]) (fun s5 => []) h (fun s5 h => ?_) (fun s5 h => ?_)
 ·refine (ACode_region ?_)
  refine AOps_q 4 _ rfl rfl rfl (QOp_load_pv _ _ _ _ _ rfl Tryz.isAgg2 rfl rfl) ?_
  refine kC [] 5 (bV (impl_Colouring_hasColour p0 p1)) [] rfl Tryz.call97 rfl rfl (impl_Colouring_hasColour_ac p0 p1) rfl ?_
  refine kM 1 rfl ?_
  refine AOps_case 6 _ rfl (fun hb2 => ?_) (fun hb2 => ?_)
  ·have h := iteT hb2 h
   refine AOps_q 7 _ rfl rfl rfl (QOp_load_pv _ _ _ _ _ rfl Tryz.isAgg2 rfl rfl) ?_
   refine kC [] 8 (bV (impl_Colouring_hasColour p0 p2)) [] rfl Tryz.call97 rfl rfl (impl_Colouring_hasColour_ac p0 p2) rfl ?_
   refine kM 2 rfl ?_
   refine AOps_case 10 _ rfl (fun hb4 => ?_) (fun hb4 => ?_)
   ·have h := iteT hb4 h
    refine AOps_q 11 _ rfl rfl rfl (QOp_load_pv _ _ _ _ _ rfl Tryz.isAgg2 rfl rfl) ?_
    refine AOps_q 12 _ rfl rfl rfl (QOp_load_pv _ _ _ _ _ rfl Tryz.isAgg2 rfl rfl) ?_
    refine AOps_q 13 _ rfl rfl rfl (QOp_lss _ _ _ _ _ _ _ rfl rfl rfl) ?_
    refine kN 2 rfl ?_
    cases h
    exact Weak_keep 0 hm [3] [] _ _ rfl rfl rfl
   have h := iteF hb4 h
   refine AOps_skip 11 rfl rfl rfl ?_
   refine AOps_skip 12 rfl rfl rfl ?_
   refine AOps_skip 13 rfl rfl rfl ?_
   refine kN 2 rfl ?_
   cases h
   exact Weak_keep 0 hm [3] [] _ _ rfl rfl rfl
  have h := iteF hb2 h
  refine AOps_skip 7 rfl rfl rfl ?_
  refine AOps_skip 8 rfl rfl rfl ?_
  refine kM 2 rfl ?_
  refine AOps_skip 11 rfl rfl rfl ?_
  refine AOps_skip 12 rfl rfl rfl ?_
  refine AOps_skip 13 rfl rfl rfl ?_
  refine kN 2 rfl ?_
  cases h
  exact Weak_keep 0 hm [3] [] _ _ rfl rfl rfl
 refine ACode_ret ?_
 cases h
 exact ⟨_, _, fun r a w h => ⟨r, h⟩, _, _, [], _, (.cons (ResV_tmp _ _ rfl) .nil), rfl, rfl, rfl, rfl, rfl⟩

-- loop.example/g01362/impl.JoinColours$2
def impl_JoinColours_c2 (p0 : Int) (p1 : Int) (p2 : Int) : Int :=
 (if decide (p0 = p1) then p2 else (if decide (p1 < p0) then w64 (p0 - 1) else p0))
set_option maxRecDepth 100000 in
theorem impl_JoinColours_c2_ac (p0 : Int) (p1 : Int) (p2 : Int) : AC Tryz.prog 98 [iV p0, .d (.pv ([iD p1]) 0), .d (.pv ([iD p2]) 0)] [] (fun res H' => res = [iV (impl_JoinColours_c2 p0 p1 p2)] ∧ H' = []) := by
 refine AC_of_body true Tryz.func98 rfl Tryz.ntmps98 (rvs := [.tmp 4]) rfl rfl (fun G hG => ?_)
 have hm : G.H.length = 0 := by rw [hG]; rfl
 have hz : zeroG G.H = true := by rw [hG]; rfl
 obtain ⟨r, h⟩ : ∃ r, impl_JoinColours_c2 p0 p1 p2 = r := ⟨_, rfl⟩
 rw [h]
 unfold impl_JoinColours_c2 at h
 refine kR ?_
 refine kN 1 rfl ?_
 refine ACode_seq ?_
 refine ACode_block ?_
 refine kR ?_
 refine kM 1 rfl ?_
 refine AOps_q 7 _ rfl rfl rfl (QOp_load_pv _ _ _ _ _ rfl Tryz.isAgg2 rfl rfl) ?_
 refine AOps_q 8 _ rfl rfl rfl (QOp_eql _ _ _ _ _ _ _ rfl rfl rfl) ?_
 refine kN 1 rfl ?_
 refine kI h rfl (fun h _ => ?_) (fun h _ => ?_)
 ·refine kR ?_
  refine AOps_q 9 _ rfl rfl rfl (QOp_load_pv _ _ _ _ _ rfl Tryz.isAgg2 rfl rfl) ?_
  refine kN 1 rfl ?_
  refine ACode_ret ?_
  cases h
  exact ⟨_, _, fun r a w h => ⟨r, h⟩, _, _, [], _, (.cons (ResV_tmp _ _ rfl) .nil), rfl, rfl, rfl, rfl, rfl⟩
 refine kR ?_
 refine kM 1 rfl ?_
 refine AOps_q 12 _ rfl rfl rfl (QOp_load_pv _ _ _ _ _ rfl Tryz.isAgg2 rfl rfl) ?_
 refine AOps_q 13 _ rfl rfl rfl (QOp_gtr _ _ _ _ _ _ _ rfl rfl rfl) ?_
 refine kN 1 rfl ?_
 refine kI h rfl (fun h _ => ?_) (fun h _ => ?_)
 ·refine kR ?_
  refine kM 1 rfl ?_
  refine AOps_q 15 _ rfl rfl rfl (QOp_sub _ _ _ _ _ _ _ rfl rfl rfl) ?_
  refine kN 1 rfl ?_
  refine ACode_ret ?_
  cases h
  exact ⟨_, _, fun r a w h => ⟨r, h⟩, _, _, [], _, (.cons (ResV_tmp _ _ rfl) .nil), rfl, rfl, rfl, rfl, rfl⟩
 refine ACode_skip ?_
 refine kR ?_
 refine kN 2 rfl ?_
 refine ACode_ret ?_
 cases h
 exact ⟨_, _, fun r a w h => ⟨r, h⟩, _, _, [], _, (.cons (ResV_tmp _ _ rfl) .nil), rfl, rfl, rfl, rfl, rfl⟩

-- loop.example/g01362/impl.JoinColours
def impl_JoinColours (k : Nat) (p0 : Col) (p1 : Int) (p2 : Int) : Option (Col × Int) :=
 (impl_Colouring_code k p0 (some (impl_JoinColours_c1 p0 p1 p2))).bind fun r1 => (if !decide (r1 = 0) then some ((⟨0, 0, B136.zero⟩ : Col), r1) else (impl_Colouring_recoloured k p0 (w64 (p0.k - 1)) (fun a0 => some (impl_JoinColours_c2 a0 p2 p1))).bind fun r3 => some (r3, 0))
set_option maxRecDepth 100000 in
theorem impl_JoinColours_ac (k : Nat) (p0 : Col) (p1 : Int) (p2 : Int) (r : Col × Int) (h : impl_JoinColours k p0 p1 p2 = some r) : AC Tryz.prog 20 [.d (.agg (colD p0)), iV p1, iV p2] [] (fun res H' => res = [.d (.agg (colD r.1)), iV r.2] ∧ H' = []) := by
 refine AC_of_body true Tryz.func20 rfl Tryz.ntmps20 (rvs := [.cell 6 26, .tmp 7]) rfl rfl (fun G hG => ?_)
 have hm : G.H.length = 0 := by rw [hG]; rfl
 have hz : zeroG G.H = true := by rw [hG]; rfl
 unfold impl_JoinColours at h
 refine kR ?_
 refine AOps_boxI 3 _ _ (.agg (colD p0)) (colD p0) rfl (colD_one _) rfl rfl rfl rfl rfl ?_
 refine AOps_boxI 4 _ _ (iD p1) _ rfl (fun c hc => by cases hc with | head => rfl | tail _ h => cases h) rfl rfl rfl rfl rfl ?_
 refine AOps_boxI 5 _ _ (iD p2) _ rfl (fun c hc => by cases hc with | head => rfl | tail _ h => cases h) rfl rfl rfl rfl rfl ?_
 refine AOps_alloc 6 _ _ (colD Col.zero) (zero_of Tryz.typeInfo26 rfl) (by rfl) rfl rfl rfl rfl ?_
 refine kN 1 rfl ?_
 refine ACode_seq ?_
 refine kR ?_
 refine AOps_q 9 _ rfl rfl rfl (QOp_makeFuncD _ _ _ _ rfl rfl rfl) ?_
 obtain ⟨r1, hr1, h⟩ := bindO h
 refine kC [] 10 (iV r1) [.box (colD Col.zero)] rfl Tryz.call69 rfl rfl (impl_Colouring_code_ac k p0 (some (impl_JoinColours_c1 p0 p1 p2)) 96 ([.pv (colD p0) 0, .pv ([iD p1]) 0, .pv ([iD p2]) 0]) Tryz.call96 (fun r h => by cases h; exact impl_JoinColours_c1_ac p0 p1 p2) _ hr1) rfl ?_
 refine kN 1 rfl ?_
 refine kR ?_
 refine kM 1 rfl ?_
 refine AOps_q 12 _ rfl rfl rfl (QOp_neq _ _ _ _ _ _ _ rfl rfl rfl) ?_
 refine AOps_nil ?_
 refine kI h rfl (fun h _ => ?_) (fun h _ => ?_)
 ·refine kR ?_
  refine AOps_q 13 _ rfl rfl rfl (QOp_build _ _ [] [] [] _ (colD Col.zero) (colD (⟨0, 0, B136.zero⟩ : Col)) [(0, 1), (1, 1), (2, 136)] rfl rfl Tryz.underlying26 (zero_of Tryz.typeInfo26 rfl) (fun w => by simp [Tryz.sizeOf2, Tryz.sizeOf2, Tryz.sizeOf24]) rfl (by rfl) (by rfl) (fun _ h => nomatch h)) ?_
  refine kM 1 rfl ?_
  refine AOps_store _ _ _ _ _ _ (colD _) _ _ rfl rfl rfl rfl rfl rfl rfl (colD_one _) (by rw [colD_length]; exact Tryz.sizeOf26) (by rw [colD_length, colD_length]; decide) (colD_whole _ _) ?_
  refine kN 1 rfl ?_
  refine ACode_ret ?_
  cases h
  exact ⟨_, _, fun r a w h => ⟨r, h⟩, _, _, [], _, (.cons (ResV_agg _ _ _ _ _ _ Tryz.isAgg26 Tryz.sizeOf26 rfl rfl (colD_take _) (colD_length _)) (.cons (ResV_tmp _ _ rfl) .nil)), rfl, rfl, rfl, rfl, rfl⟩
 refine ACode_skip ?_
 refine kR ?_
 refine AOps_q 15 _ rfl rfl rfl (QOp_fieldAddr_pv _ _ _ _ _ 1 _ _ rfl Tryz.underlying26 rfl _ Tryz.sizeOf2 rfl rfl) ?_
 refine AOps_q 16 _ rfl rfl rfl (QOp_load_pv _ _ _ _ _ rfl Tryz.isAgg2 rfl rfl) ?_
 refine AOps_q 17 _ rfl rfl rfl (QOp_sub _ _ _ _ _ _ _ rfl rfl rfl) ?_
 refine AOps_q 18 _ rfl rfl rfl (QOp_makeFuncD _ _ _ _ rfl rfl rfl) ?_
 obtain ⟨r3, hr3, h⟩ := bindO h
 refine kC [] 19 (.d (.agg (colD r3))) [.box (colD Col.zero)] rfl Tryz.call90 rfl rfl (impl_Colouring_recoloured_ac k p0 (w64 (p0.k - 1)) (fun a0 => some (impl_JoinColours_c2 a0 p2 p1)) 98 ([.pv ([iD p2]) 0, .pv ([iD p1]) 0]) Tryz.call98 (fun a0 r h => by cases h; exact impl_JoinColours_c2_ac a0 p2 p1) _ hr3) rfl ?_
 refine AOps_store _ _ _ _ _ _ (colD _) _ _ rfl rfl rfl rfl rfl rfl rfl (colD_one _) (by rw [colD_length]; exact Tryz.sizeOf26) (by rw [colD_length, colD_length]; decide) (colD_whole _ _) ?_
 refine kN 1 rfl ?_
 refine ACode_ret ?_
 cases h
 exact ⟨_, _, fun r a w h => ⟨r, h⟩, _, _, [], _, (.cons (ResV_agg _ _ _ _ _ _ Tryz.isAgg26 Tryz.sizeOf26 rfl rfl (colD_take _) (colD_length _)) (.cons (ResV_tmp _ _ rfl) .nil)), rfl, rfl, rfl, rfl, rfl⟩

-- loop.example/g01362/spec.l01Given
def spec_l01Given (k : Nat) (p0 : Col) (p1 : Int) (p2 : List Int) : Option (Int) :=
 ((spec_l01Is k p0).bind fun r1 => (if !r1 then some (.inr 1) else ((if !(spec_l01In p1 0 (w64 (p0.k - 1))) then some true else (spec_l01All k p2 p0.p).bind fun r5 => some (!r5)) : Option (Bool)).bind fun s6 => (if s6 then some (.inr 2) else some (.inl ()))) : Option (Sum (Unit) (Int))).bind fun os8 => (match os8 with | .inl s8 => some 0 | .inr rr => some rr)
set_option maxRecDepth 100000 in
theorem spec_l01Given_ac (k : Nat) (p0 : Col) (p1 : Int) (p2 : List Int) (r : Int) (h : spec_l01Given k p0 p1 p2 = some r) : AC Tryz.prog 99 [.d (.agg (colD p0)), iV p1, .d (.sl none (intsD p2))] [] (fun res H' => res = [iV r] ∧ H' = []) := by
 refine AC_of_body true Tryz.func99 rfl Tryz.ntmps99 (rvs := [.tmp 6]) rfl rfl (fun G hG => ?_)
 have hm : G.H.length = 0 := by rw [hG]; rfl
 have hz : zeroG G.H = true := by rw [hG]; rfl
 unfold spec_l01Given at h
 refine kR ?_
 refine AOps_boxI 3 _ _ (.agg (colD p0)) (colD p0) rfl (colD_one _) rfl rfl rfl rfl rfl ?_
 refine kN 1 rfl ?_
 refine kO (fun s8 => []) (fun s8 => []) h (fun os8 h hks8 => ?_) (fun s8 h => ?_)
 ·refine ACode_block ?_
  refine kR ?_
  refine AOps_q 8 _ rfl rfl rfl (QOp_loadN_pv _ _ _ _ _ _ rfl Tryz.isAgg26 Tryz.sizeOf26 rfl (colD_all _) (colD_length _)) ?_
  obtain ⟨r1, hr1, h⟩ := bindO h
  refine kC [] 9 (bV r1) [] rfl Tryz.call73 rfl rfl (spec_l01Is_ac k p0 _ hr1) rfl ?_
  refine AOps_q 10 _ rfl rfl rfl (QOp_not _ _ _ rfl rfl) ?_
  refine kN 1 rfl ?_
  refine kI h rfl (fun h _ => ?_) (fun h _ => ?_)
  ·refine kR ?_
   refine kN 1 rfl ?_
   refine ACode_ret ?_
   cases h
   have h := hks8
   cases h
   exact ⟨_, _, fun r a w h => ⟨r, h⟩, _, _, [], _, (.cons (ResV_tmp _ _ rfl) .nil), rfl, rfl, rfl, rfl, rfl⟩
  refine kB (fun s6 => [(11, bV s6)]) (fun s6 => []) h (fun s6 h => ?_) (fun s6 h => ?_)
  ·refine (ACode_region ?_)
   refine kM 1 rfl ?_
   refine AOps_q 13 _ rfl rfl rfl (QOp_fieldAddr_pv _ _ _ _ _ 1 _ _ rfl Tryz.underlying26 rfl _ Tryz.sizeOf2 rfl rfl) ?_
   refine AOps_q 14 _ rfl rfl rfl (QOp_load_pv _ _ _ _ _ rfl Tryz.isAgg2 rfl rfl) ?_
   refine AOps_q 15 _ rfl rfl rfl (QOp_sub _ _ _ _ _ _ _ rfl rfl rfl) ?_
   refine kC [] 16 (bV (spec_l01In p1 0 (w64 (p0.k - 1)))) [] rfl Tryz.call100 rfl rfl (spec_l01In_ac p1 0 (w64 (p0.k - 1))) rfl ?_
   refine AOps_q 17 _ rfl rfl rfl (QOp_not _ _ _ rfl rfl) ?_
   refine kM 1 rfl ?_
   refine AOps_case 18 _ rfl (fun hb4 => ?_) (fun hb4 => ?_)
   ·have h := iteT hb4 h
    refine AOps_skip 19 rfl rfl rfl ?_
    refine AOps_skip 20 rfl rfl rfl ?_
    refine AOps_skip 21 rfl rfl rfl ?_
    refine AOps_skip 22 rfl rfl rfl ?_
    refine AOps_skip 23 rfl rfl rfl ?_
    refine kN 2 rfl ?_
    cases h
    exact Weak_keep 0 hm [11] [] _ _ rfl rfl rfl
   have h := iteF hb4 h
   refine kM 1 rfl ?_
   refine AOps_q 20 _ rfl rfl rfl (QOp_fieldAddr_pv _ _ _ _ _ 0 _ _ rfl Tryz.underlying26 rfl _ Tryz.sizeOf2 rfl rfl) ?_
   refine AOps_q 21 _ rfl rfl rfl (QOp_load_pv _ _ _ _ _ rfl Tryz.isAgg2 rfl rfl) ?_
   obtain ⟨r5, hr5, h⟩ := bindO h
   refine kC [] 22 (bV r5) [] rfl Tryz.call74 rfl rfl (spec_l01All_ac k p2 p0.p _ hr5) rfl ?_
   refine AOps_q 23 _ rfl rfl rfl (QOp_not _ _ _ rfl rfl) ?_
   refine kN 2 rfl ?_
   cases h
   exact Weak_keep 0 hm [11] [] _ _ rfl rfl rfl
  refine kI h rfl (fun h _ => ?_) (fun h _ => ?_)
  ·refine kR ?_
   refine kN 1 rfl ?_
   refine ACode_ret ?_
   cases h
   have h := hks8
   cases h
   exact ⟨_, _, fun r a w h => ⟨r, h⟩, _, _, [], _, (.cons (ResV_tmp _ _ rfl) .nil), rfl, rfl, rfl, rfl, rfl⟩
  refine ACode_skip ?_
  cases h
  exact ⟨_, rfl, Weak_keep 0 hm [] [] _ _ rfl rfl rfl⟩
 refine kR ?_
 refine kN 1 rfl ?_
 refine ACode_ret ?_
 cases h
 exact ⟨_, _, fun r a w h => ⟨r, h⟩, _, _, [], _, (.cons (ResV_tmp _ _ rfl) .nil), rfl, rfl, rfl, rfl, rfl⟩

end Go.Proofs.YtkknnbmmcmhngaaGreat
