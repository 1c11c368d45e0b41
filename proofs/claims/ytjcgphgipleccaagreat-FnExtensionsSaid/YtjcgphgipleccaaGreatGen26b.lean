/- Plain functions of the program and that the program computes them: printed by the own tool gen.py. No conditions. -/
import Derived.Test.YtjcgphgipleccaaGreatGen26a
set_option linter.unusedVariables false
set_option linter.unusedSimpArgs false
namespace Go.Proofs.YtjcgphgipleccaaGreat
open Go Go.RowKit Ab

-- loop.example/g01362/spec.DrawExtensionsByDegree
def spec_DrawExtensionsByDegree (k : Nat) (p0 : List UInt8) : Option (Col × List Int) :=
 (spec_l05Draw k p0).bind fun r1 => some (r1.1, r1.2)
set_option maxRecDepth 100000 in
theorem spec_DrawExtensionsByDegree_ac (k : Nat) (p0 : List UInt8) (r : Col × List Int) (h : spec_DrawExtensionsByDegree k p0 = some r) : AC Tryz.prog 5 [.d (.sl none (bysD p0))] [] (fun res H' => res = [.d (.agg (colD r.1)), .d (.sl none (intsD r.2))] ∧ H' = []) := by
 refine AC_of_body true Tryz.func5 rfl Tryz.ntmps5 (rvs := [.cell 2 26, .tmp 3]) rfl rfl (fun G hG => ?_)
 have hm : G.H.length = 0 := by rw [hG]; rfl
 have hz : zeroG G.H = true := by rw [hG]; rfl
 unfold spec_DrawExtensionsByDegree at h
 refine kR ?_
 refine AOps_alloc 2 _ _ (colD Col.zero) (zero_of Tryz.typeInfo26 rfl) (by rfl) rfl rfl rfl rfl ?_
 refine kN 1 rfl ?_
 refine kR ?_
 refine kM 1 rfl ?_
 obtain ⟨r1, hr1, h⟩ := bindO h
 refine kC [] 8 (.tup [.d (.agg (colD r1.1)), .d (.sl none (intsD r1.2))]) [.box (colD Col.zero)] rfl Tryz.call27 rfl rfl (spec_l05Draw_ac k p0 _ hr1) rfl ?_
 refine kM 3 rfl ?_
 refine AOps_alloc 4 _ _ (colD Col.zero) (zero_of Tryz.typeInfo26 rfl) (by rfl) rfl rfl rfl rfl ?_
 refine AOps_store _ _ _ _ _ _ (colD _) _ _ rfl rfl rfl rfl rfl rfl rfl (colD_one _) (by rw [colD_length]; exact Tryz.sizeOf26) (by rw [colD_length, colD_length]; decide) (colD_whole _ _) ?_
 refine kN 1 rfl ?_
 refine kR ?_
 refine AOps_q 11 _ rfl rfl rfl (QOp_loadN_ptr _ _ _ _ _ _ _ rfl Tryz.isAgg26 Tryz.sizeOf26 rfl rfl (colD_all _) (colD_length _)) ?_
 refine kM 1 rfl ?_
 refine AOps_store _ _ _ _ _ _ (colD _) _ _ rfl rfl rfl rfl rfl rfl rfl (colD_one _) (by rw [colD_length]; exact Tryz.sizeOf26) (by rw [colD_length, colD_length]; decide) (colD_whole _ _) ?_
 refine kN 1 rfl ?_
 refine ACode_ret ?_
 cases h
 exact ⟨_, _, fun r a w h => ⟨r, h⟩, _, _, [], _, (.cons (ResV_agg _ _ _ _ _ _ Tryz.isAgg26 Tryz.sizeOf26 rfl rfl (colD_take _) (colD_length _)) (.cons (ResV_tmp _ _ rfl) .nil)), rfl, rfl, rfl, rfl, rfl⟩

-- loop.example/g01362/impl.in
def impl_in (p0 : Int) (p1 : Int) (p2 : Int) : Bool :=
 letO (if decide (p1 ≤ p0) then decide (p0 ≤ p2) else false) fun (s2 : Bool) => s2
set_option maxRecDepth 100000 in
theorem impl_in_ac (p0 : Int) (p1 : Int) (p2 : Int) : AC Tryz.prog 77 [iV p0, iV p1, iV p2] [] (fun res H' => res = [bV (impl_in p0 p1 p2)] ∧ H' = []) := by
 refine AC_of_body true Tryz.func77 rfl Tryz.ntmps77 (rvs := [.tmp 6]) rfl rfl (fun G hG => ?_)
 have hm : G.H.length = 0 := by rw [hG]; rfl
 have hz : zeroG G.H = true := by rw [hG]; rfl
 obtain ⟨r, h⟩ : ∃ r, impl_in p0 p1 p2 = r := ⟨_, rfl⟩
 rw [h]
 unfold impl_in at h
 refine kR ?_
 refine kN 1 rfl ?_
 refine kL (fun s2 => [(6, bV s2)]) (fun s2 => []) h (fun s2 h => ?_) (fun s2 h => ?_)
 ·refine (ACode_region ?_)
  refine kM 2 rfl ?_
  refine AOps_q 9 _ rfl rfl rfl (QOp_geq _ _ _ _ _ _ _ rfl rfl rfl) ?_
  refine kM 1 rfl ?_
  refine AOps_case 10 _ rfl (fun hb1 => ?_) (fun hb1 => ?_)
  ·have h := iteT hb1 h
   refine kM 2 rfl ?_
   refine AOps_q 13 _ rfl rfl rfl (QOp_leq _ _ _ _ _ _ _ rfl rfl rfl) ?_
   refine kN 2 rfl ?_
   cases h
   exact Weak_keep 0 hm [6] [] _ _ rfl rfl rfl
  have h := iteF hb1 h
  refine AOps_skip 11 rfl rfl rfl ?_
  refine AOps_skip 12 rfl rfl rfl ?_
  refine AOps_skip 13 rfl rfl rfl ?_
  refine kN 2 rfl ?_
  cases h
  exact Weak_keep 0 hm [6] [] _ _ rfl rfl rfl
 refine ACode_ret ?_
 cases h
 exact ⟨_, _, fun r a w h => ⟨r, h⟩, _, _, [], _, (.cons (ResV_tmp _ _ rfl) .nil), rfl, rfl, rfl, rfl, rfl⟩

-- (*loop.example/g01362/impl.Colouring).edges
def impl_Colouring_edges (p0 : Col) : Int :=
 w64 ((w64 (p0.p * (w64 (p0.p - 1)))).tdiv 2)
set_option maxRecDepth 100000 in
theorem impl_Colouring_edges_ac (p0 : Col) : AC Tryz.prog 102 [.d (.pv (colD p0) 0)] [] (fun res H' => res = [iV (impl_Colouring_edges p0)] ∧ H' = []) := by
 refine AC_of_body true Tryz.func102 rfl Tryz.ntmps102 (rvs := [.tmp 2]) rfl rfl (fun G hG => ?_)
 have hm : G.H.length = 0 := by rw [hG]; rfl
 have hz : zeroG G.H = true := by rw [hG]; rfl
 obtain ⟨r, h⟩ : ∃ r, impl_Colouring_edges p0 = r := ⟨_, rfl⟩
 rw [h]
 unfold impl_Colouring_edges at h
 refine kR ?_
 refine kN 1 rfl ?_
 refine ACode_seq (ACode_quiet mixed (by kernel_rfl) ?_)
 refine kQ 1 rfl ?_
 refine AQ_q 4 _ rfl rfl rfl (QOp_nilCheck_pv _ _ _ rfl rfl) ?_
 refine AQ_q 5 _ rfl rfl rfl (QOp_fieldAddr_pv _ _ _ _ _ 0 _ _ rfl Tryz.underlying26 rfl _ Tryz.sizeOf2 rfl rfl) ?_
 refine AQ_q 6 _ rfl rfl rfl (QOp_load_pv _ _ _ _ _ rfl Tryz.isAgg2 rfl rfl) ?_
 refine kQ 1 rfl ?_
 refine AQ_q 8 _ rfl rfl rfl (QOp_nilCheck_pv _ _ _ rfl rfl) ?_
 refine AQ_q 9 _ rfl rfl rfl (QOp_fieldAddr_pv _ _ _ _ _ 0 _ _ rfl Tryz.underlying26 rfl _ Tryz.sizeOf2 rfl rfl) ?_
 refine AQ_q 10 _ rfl rfl rfl (QOp_load_pv _ _ _ _ _ rfl Tryz.isAgg2 rfl rfl) ?_
 refine AQ_q 11 _ rfl rfl rfl (QOp_sub _ _ _ _ _ _ _ rfl rfl rfl) ?_
 refine AQ_q 12 _ rfl rfl rfl (QOp_mul _ _ _ _ _ _ _ rfl rfl rfl) ?_
 refine AQ_q 13 _ rfl rfl rfl (QOp_quo _ _ _ _ _ _ _ (by decide) rfl rfl rfl) ?_
 refine kQ 1 rfl ?_
 refine AQ_nil ?_
 refine ACode_ret ?_
 cases h
 exact ⟨_, _, fun r a w h => ⟨r, h⟩, _, _, [], _, (.cons (ResV_tmp _ _ rfl) .nil), rfl, rfl, rfl, rfl, rfl⟩

-- (*loop.example/g01362/impl.Colouring).isColouring
def impl_Colouring_isColouring_l0 (k : Nat) (p0 : Col) : Nat → Int → Option (Sum (Unit) (Bool))
 | 0, _ => none
 | k0 + 1, x7 => (if decide (x7 < 136) then ((if 0 ≤ x7 ∧ x7 < 136 then letO (if decide (p0.k ≤ ((p0.e.get x7.toNat).toNat : Int)) then true else (if decide ((impl_Colouring_edges p0) ≤ x7) then !decide (((p0.e.get x7.toNat).toNat : Int) = 0) else false)) fun (s13 : Bool) => (if s13 then (some (.inr false)).bind fun rr => some (.inr rr) else some (.inl ())) else none) : Option (Sum (Unit) (Sum (Unit) (Bool)))).bind fun os15 => (match os15 with | .inl s15 => impl_Colouring_isColouring_l0 k p0 k0 (w64 (x7 + 1)) | .inr rr => some rr) else some (.inl ()))
def impl_Colouring_isColouring (k : Nat) (p0 : Col) : Option (Bool) :=
 (letO (if !(impl_in p0.p 1 17) then true else !(impl_in p0.k 1 4)) fun (s4 : Bool) => (if s4 then some (.inr false) else some (.inl ())) : Option (Sum (Unit) (Bool))).bind fun os6 => (match os6 with | .inl s6 => (impl_Colouring_isColouring_l0 k p0 k 0 : Option (Sum (Unit) (Bool))).bind fun os16 => (match os16 with | .inl s16 => some true | .inr rr => some rr) | .inr rr => some rr)
set_option maxRecDepth 100000 in
theorem impl_Colouring_isColouring_ac (k : Nat) (p0 : Col) (r : Bool) (h : impl_Colouring_isColouring k p0 = some r) : AC Tryz.prog 79 [.d (.pv (colD p0) 0)] [] (fun res H' => res = [bV r] ∧ H' = []) := by
 refine AC_of_body true Tryz.func79 rfl Tryz.ntmps79 (rvs := [.tmp 2]) rfl rfl (fun G hG => ?_)
 have hm : G.H.length = 0 := by rw [hG]; rfl
 have hz : zeroG G.H = true := by rw [hG]; rfl
 unfold impl_Colouring_isColouring at h
 refine kR ?_
 refine kN 1 rfl ?_
 refine kO (fun s6 => [(0, .d (.pv (colD p0) 0))]) (fun s6 => []) h (fun os6 h hks6 => ?_) (fun s6 h => ?_)
 ·refine kL (fun s4 => [(0, .d (.pv (colD p0) 0)), (18, bV s4)]) (fun s4 => []) h (fun s4 h => ?_) (fun s4 h => ?_)
  ·refine (ACode_region ?_)
   refine kM 1 rfl ?_
   refine AOps_q 6 _ rfl rfl rfl (QOp_nilCheck_pv _ _ _ rfl rfl) ?_
   refine AOps_q 7 _ rfl rfl rfl (QOp_fieldAddr_pv _ _ _ _ _ 0 _ _ rfl Tryz.underlying26 rfl _ Tryz.sizeOf2 rfl rfl) ?_
   refine AOps_q 8 _ rfl rfl rfl (QOp_load_pv _ _ _ _ _ rfl Tryz.isAgg2 rfl rfl) ?_
   refine kC [] 9 (bV (impl_in p0.p 1 17)) [] rfl Tryz.call77 rfl rfl (impl_in_ac p0.p 1 17) rfl ?_
   refine AOps_q 10 _ rfl rfl rfl (QOp_not _ _ _ rfl rfl) ?_
   refine kM 1 rfl ?_
   refine AOps_case 11 _ rfl (fun hb2 => ?_) (fun hb2 => ?_)
   ·have h := iteT hb2 h
    refine AOps_skip 12 rfl rfl rfl ?_
    refine AOps_skip 13 rfl rfl rfl ?_
    refine AOps_skip 14 rfl rfl rfl ?_
    refine AOps_skip 15 rfl rfl rfl ?_
    refine AOps_skip 16 rfl rfl rfl ?_
    refine AOps_skip 17 rfl rfl rfl ?_
    refine kN 1 rfl ?_
    cases h
    exact Weak_keep 0 hm [0, 18] [] _ _ rfl rfl rfl
   have h := iteF hb2 h
   refine kM 1 rfl ?_
   refine AOps_q 13 _ rfl rfl rfl (QOp_nilCheck_pv _ _ _ rfl rfl) ?_
   refine AOps_q 14 _ rfl rfl rfl (QOp_fieldAddr_pv _ _ _ _ _ 1 _ _ rfl Tryz.underlying26 rfl _ Tryz.sizeOf2 rfl rfl) ?_
   refine AOps_q 15 _ rfl rfl rfl (QOp_load_pv _ _ _ _ _ rfl Tryz.isAgg2 rfl rfl) ?_
   refine kC [] 16 (bV (impl_in p0.k 1 4)) [] rfl Tryz.call77 rfl rfl (impl_in_ac p0.k 1 4) rfl ?_
   refine AOps_q 17 _ rfl rfl rfl (QOp_not _ _ _ rfl rfl) ?_
   refine kN 1 rfl ?_
   cases h
   exact Weak_keep 0 hm [0, 18] [] _ _ rfl rfl rfl
  refine kI h rfl (fun h _ => ?_) (fun h _ => ?_)
  ·refine kR ?_
   refine kN 1 rfl ?_
   refine ACode_ret ?_
   cases h
   have h := hks6
   cases h
   exact ⟨_, _, fun r a w h => ⟨r, h⟩, _, _, [], _, (.cons (ResV_tmp _ _ rfl) .nil), rfl, rfl, rfl, rfl, rfl⟩
  refine ACode_skip ?_
  cases h
  exact ⟨_, rfl, Weak_keep 0 hm [0] [] _ _ rfl rfl rfl⟩
 refine kO (fun s16 => []) (fun s16 => []) h (fun os16 h hks16 => ?_) (fun s16 h => ?_)
 ·refine kR ?_
  refine kM 1 rfl ?_
  refine AOps_q 20 _ rfl rfl rfl (QOp_nilCheck_pv _ _ _ rfl rfl) ?_
  refine AOps_q 21 _ rfl rfl rfl (QOp_fieldAddr_pv _ _ _ _ _ 2 _ _ rfl Tryz.underlying26 rfl _ Tryz.sizeOf24 rfl rfl) ?_
  refine AOps_q 22 _ rfl rfl rfl (QOp_loadN_pv _ _ _ _ _ _ rfl Tryz.isAgg24 Tryz.sizeOf24 rfl (colD_edges _) (byD_length _)) ?_
  refine kN 1 rfl ?_
  refine ACode_block ?_
  refine ACode_loopW (fun k0 E H => ∃ (x7 : Int), E = [(0, .d (.pv (colD p0) 0)), (22, .d (.agg (byD p0.e))), (23, iV x7)] ∧ H = [] ∧ impl_Colouring_isColouring_l0 k p0 k0 x7 = some os16) k _ _ (Weak_keep 0 hm [0, 22, 23] [] _ _ rfl rfl rfl) ⟨_, rfl, rfl, h⟩ ?_
  clear h
  rintro k0 E H ⟨x7, rfl, rfl, h⟩
  cases k0 with
  | zero => cases (show (none : Option (Sum (Unit) (Bool))) = some _ from h)
  | succ k0 =>
   rw [impl_Colouring_isColouring_l0] at h
   refine kR ?_
   refine AOps_q 24 _ rfl rfl rfl (QOp_lss _ _ _ _ _ _ _ rfl rfl rfl) ?_
   refine AOps_nil ?_
   refine ACode_seq ?_
   refine kI h rfl (fun h _ => ?_) (fun h _ => ?_)
   ·refine ACode_skip ?_
    refine kO (fun s15 => [(0, .d (.pv (colD p0) 0)), (22, .d (.agg (byD p0.e))), (23, iV x7)]) (fun s15 => []) h (fun os15 h hks15 => ?_) (fun s15 h => ?_)
    ·refine ACode_block ?_
     refine kR ?_
     refine kM 1 rfl ?_
     obtain ⟨hc9, h⟩ := guardO h
     refine AOps_q 26 _ rfl rfl rfl (QOp_index_agg _ _ _ _ _ _ _ _ _ rfl Tryz.underlying24 Tryz.sizeOf5 Tryz.isAgg5 hc9.1 hc9.2 rfl rfl (byD_get _ _ (by omega))) ?_
     refine kN 2 rfl ?_
     refine kL (fun s13 => [(0, .d (.pv (colD p0) 0)), (22, .d (.agg (byD p0.e))), (23, iV x7), (43, bV s13)]) (fun s13 => []) h (fun s13 h => ?_) (fun s13 h => ?_)
     ·refine (ACode_region ?_)
      refine kM 1 rfl ?_
      refine AOps_q 28 _ rfl rfl rfl (QOp_fromByte _ _ _ _ _ rfl rfl Tryz.underlying2 wrap_i64_byte rfl) ?_
      refine kM 1 rfl ?_
      refine AOps_q 30 _ rfl rfl rfl (QOp_nilCheck_pv _ _ _ rfl rfl) ?_
      refine AOps_q 31 _ rfl rfl rfl (QOp_fieldAddr_pv _ _ _ _ _ 1 _ _ rfl Tryz.underlying26 rfl _ Tryz.sizeOf2 rfl rfl) ?_
      refine AOps_q 32 _ rfl rfl rfl (QOp_load_pv _ _ _ _ _ rfl Tryz.isAgg2 rfl rfl) ?_
      refine AOps_q 33 _ rfl rfl rfl (QOp_geq _ _ _ _ _ _ _ rfl rfl rfl) ?_
      refine kM 1 rfl ?_
      refine AOps_case 34 _ rfl (fun hb10 => ?_) (fun hb10 => ?_)
      ·have h := iteT hb10 h
       refine AOps_skip 35 rfl rfl rfl ?_
       refine AOps_skip 36 rfl rfl rfl ?_
       refine AOps_skip 37 rfl rfl rfl ?_
       refine AOps_skip 38 rfl rfl rfl ?_
       refine AOps_skip 39 rfl rfl rfl ?_
       refine AOps_skip 40 rfl rfl rfl ?_
       refine AOps_skip 41 rfl rfl rfl ?_
       refine AOps_skip 42 rfl rfl rfl ?_
       refine kN 1 rfl ?_
       cases h
       exact Weak_keep 0 hm [0, 22, 23, 43] [] _ _ rfl rfl rfl
      have h := iteF hb10 h
      refine kM 2 rfl ?_
      refine kC [] 37 (iV (impl_Colouring_edges p0)) [] rfl Tryz.call102 rfl rfl (impl_Colouring_edges_ac p0) rfl ?_
      refine AOps_q 38 _ rfl rfl rfl (QOp_geq _ _ _ _ _ _ _ rfl rfl rfl) ?_
      refine kM 1 rfl ?_
      refine AOps_case 39 _ rfl (fun hb12 => ?_) (fun hb12 => ?_)
      ·have h := iteT hb12 h
       refine kM 1 rfl ?_
       refine AOps_q 41 _ rfl rfl rfl (QOp_neq _ _ _ _ _ _ _ rfl rfl rfl) ?_
       refine kN 2 rfl ?_
       cases h
       exact Weak_keep 0 hm [0, 22, 23, 43] [] _ _ rfl rfl rfl
      have h := iteF hb12 h
      refine AOps_skip 40 rfl rfl rfl ?_
      refine AOps_skip 41 rfl rfl rfl ?_
      refine kN 2 rfl ?_
      cases h
      exact Weak_keep 0 hm [0, 22, 23, 43] [] _ _ rfl rfl rfl
     refine kI h rfl (fun h _ => ?_) (fun h _ => ?_)
     ·refine kR ?_
      refine kN 1 rfl ?_
      refine ACode_ret ?_
      obtain ⟨rr, hz17, h2⟩ := bindO h
      obtain rfl := Option.some.inj h2
      obtain rfl := Option.some.inj (show some rr = some _ from hks15)
      have h := hz17
      cases h
      have h := hks16
      cases h
      exact ⟨_, _, fun r a w h => ⟨r, h⟩, _, _, [], _, (.cons (ResV_tmp _ _ rfl) .nil), rfl, rfl, rfl, rfl, rfl⟩
     refine ACode_skip ?_
     cases h
     exact ⟨_, rfl, Weak_keep 0 hm [0, 22, 23] [] _ _ rfl rfl rfl⟩
    refine (ACode_region ?_)
    refine AOps_q 44 _ rfl rfl rfl (QOp_add _ _ _ _ _ _ _ rfl rfl rfl) ?_
    refine kN 1 rfl ?_
    exact ⟨k0, _, _, Nat.lt_succ_self _, Weak_keep 0 hm [0, 22, 23] [] _ _ rfl rfl rfl, _, rfl, rfl, h⟩
   refine ACode_exit ?_
   cases h
   exact ⟨_, rfl, Weak_keep 0 hm [] [] _ _ rfl rfl rfl⟩
 refine kR ?_
 refine kN 1 rfl ?_
 refine ACode_ret ?_
 cases h
 exact ⟨_, _, fun r a w h => ⟨r, h⟩, _, _, [], _, (.cons (ResV_tmp _ _ rfl) .nil), rfl, rfl, rfl, rfl, rfl⟩

-- (*loop.example/g01362/impl.Colouring).code
def impl_Colouring_code (k : Nat) (p0 : Col) (p1 : Option (Bool)) : Option (Int) :=
 (impl_Colouring_isColouring k p0).bind fun r1 => (if !r1 then some 1 else (p1).bind fun r3 => (if !r3 then some 2 else some 0))
set_option maxRecDepth 100000 in
theorem impl_Colouring_code_ac (k : Nat) (p0 : Col) (p1 : Option (Bool)) (g_p1 : FuncId) (c_p1 : List D) (hg_p1 : ∀ args w, (callFunc g_p1 args).run Tryz.prog w = .ok (.enter g_p1 args) w) (hf_p1 : ∀ (r : Bool), p1 = some r → AC Tryz.prog g_p1 ([] ++ c_p1.map AV.d) [] (fun res H' => res = [bV r] ∧ H' = [])) (r : Int) (h : impl_Colouring_code k p0 p1 = some r) : AC Tryz.prog 46 [.d (.pv (colD p0) 0), .d (.clo g_p1 c_p1)] [] (fun res H' => res = [iV r] ∧ H' = []) := by
 refine AC_of_body true Tryz.func46 rfl Tryz.ntmps46 (rvs := [.tmp 4]) rfl rfl (fun G hG => ?_)
 have hm : G.H.length = 0 := by rw [hG]; rfl
 have hz : zeroG G.H = true := by rw [hG]; rfl
 unfold impl_Colouring_code at h
 refine kR ?_
 refine kN 1 rfl ?_
 refine ACode_seq ?_
 refine ACode_block ?_
 refine kR ?_
 refine kM 1 rfl ?_
 obtain ⟨r1, hr1, h⟩ := bindO h
 refine kC [] 7 (bV r1) [] rfl Tryz.call79 rfl rfl (impl_Colouring_isColouring_ac k p0 _ hr1) rfl ?_
 refine AOps_q 8 _ rfl rfl rfl (QOp_not _ _ _ rfl rfl) ?_
 refine kN 1 rfl ?_
 refine kI h rfl (fun h _ => ?_) (fun h _ => ?_)
 ·refine kR ?_
  refine kN 1 rfl ?_
  refine ACode_ret ?_
  cases h
  exact ⟨_, _, fun r a w h => ⟨r, h⟩, _, _, [], _, (.cons (ResV_tmp _ _ rfl) .nil), rfl, rfl, rfl, rfl, rfl⟩
 refine kR ?_
 refine kM 1 rfl ?_
 obtain ⟨r3, hr3, h⟩ := bindO h
 refine kC [] 11 (bV r3) [] rfl hg_p1 rfl (viewA_mapD _) (hf_p1 _ hr3) rfl ?_
 refine AOps_q 12 _ rfl rfl rfl (QOp_not _ _ _ rfl rfl) ?_
 refine kN 1 rfl ?_
 refine kI h rfl (fun h _ => ?_) (fun h _ => ?_)
 ·refine kR ?_
  refine kN 1 rfl ?_
  refine ACode_ret ?_
  cases h
  exact ⟨_, _, fun r a w h => ⟨r, h⟩, _, _, [], _, (.cons (ResV_tmp _ _ rfl) .nil), rfl, rfl, rfl, rfl, rfl⟩
 refine ACode_skip ?_
 refine kR ?_
 refine kN 1 rfl ?_
 refine ACode_ret ?_
 cases h
 exact ⟨_, _, fun r a w h => ⟨r, h⟩, _, _, [], _, (.cons (ResV_tmp _ _ rfl) .nil), rfl, rfl, rfl, rfl, rfl⟩

-- loop.example/g01362/impl.size[int64]
def impl_size (p0 : List Int) : Int :=
 (p0.length : Int)
set_option maxRecDepth 100000 in
theorem impl_size_ac (p0 : List Int) : AC Tryz.prog 74 [.d (.sl none (intsD p0))] [] (fun res H' => res = [iV (impl_size p0)] ∧ H' = []) := by
 refine AC_of_body true Tryz.func74 rfl Tryz.ntmps74 (rvs := [.tmp 2]) rfl rfl (fun G hG => ?_)
 have hm : G.H.length = 0 := by rw [hG]; rfl
 have hz : zeroG G.H = true := by rw [hG]; rfl
 obtain ⟨r, h⟩ : ∃ r, impl_size p0 = r := ⟨_, rfl⟩
 rw [h]
 unfold impl_size at h
 refine kR ?_
 refine kN 1 rfl ?_
 refine kR ?_
 refine kM 1 rfl ?_
 refine AOps_q 4 _ rfl rfl rfl (QOp_len_sl _ _ _ _ _ _ _ (intsD_length _) rfl rfl rfl rfl Tryz.underlying27 rfl) ?_
 refine kN 1 rfl ?_
 refine ACode_ret ?_
 cases h
 exact ⟨_, _, fun r a w h => ⟨r, h⟩, _, _, [], _, (.cons (ResV_tmp _ _ rfl) .nil), rfl, rfl, rfl, rfl, rfl⟩

-- slices.IndexFunc[[]int64,int64]
def slices_IndexFunc_l0 (p0 : List Int) (p1 : Int → Option (Bool)) : Nat → Int → Option (Sum (Unit) (Int))
 | 0, _ => none
 | k0 + 1, x1 => (if decide (x1 < (p0.length : Int)) then (if 0 ≤ x1 ∧ x1 < (p0.length : Int) then (p1 (p0.getD x1.toNat 0)).bind fun r4 => (if r4 then some (.inr x1) else slices_IndexFunc_l0 p0 p1 k0 (w64 (x1 + 1))) else none) else some (.inl ()))
def slices_IndexFunc (k : Nat) (p0 : List Int) (p1 : Int → Option (Bool)) : Option (Int) :=
 (slices_IndexFunc_l0 p0 p1 k 0 : Option (Sum (Unit) (Int))).bind fun os6 => (match os6 with | .inl s6 => some (-1) | .inr rr => some rr)
set_option maxRecDepth 100000 in
theorem slices_IndexFunc_ac (k : Nat) (p0 : List Int) (p1 : Int → Option (Bool)) (g_p1 : FuncId) (c_p1 : List D) (hg_p1 : ∀ args w, (callFunc g_p1 args).run Tryz.prog w = .ok (.enter g_p1 args) w) (hf_p1 : ∀ (a0 : Int) (r : Bool), p1 a0 = some r → AC Tryz.prog g_p1 ([iV a0] ++ c_p1.map AV.d) [] (fun res H' => res = [bV r] ∧ H' = [])) (r : Int) (h : slices_IndexFunc k p0 p1 = some r) : AC Tryz.prog 100 [.d (.sl none (intsD p0)), .d (.clo g_p1 c_p1)] [] (fun res H' => res = [iV r] ∧ H' = []) := by
 refine AC_of_body true Tryz.func100 rfl Tryz.ntmps100 (rvs := [.tmp 4]) rfl rfl (fun G hG => ?_)
 have hm : G.H.length = 0 := by rw [hG]; rfl
 have hz : zeroG G.H = true := by rw [hG]; rfl
 unfold slices_IndexFunc at h
 refine kR ?_
 refine kN 1 rfl ?_
 refine kO (fun s6 => []) (fun s6 => []) h (fun os6 h hks6 => ?_) (fun s6 h => ?_)
 ·refine kR ?_
  refine kM 1 rfl ?_
  refine AOps_q 7 _ rfl rfl rfl (QOp_len_sl _ _ _ _ _ _ _ (intsD_length _) rfl rfl rfl rfl Tryz.underlying27 rfl) ?_
  refine kN 1 rfl ?_
  refine ACode_block ?_
  refine ACode_loopW (fun k0 E H => ∃ (x1 : Int), E = [(0, .d (.sl none (intsD p0))), (1, .d (.clo g_p1 c_p1)), (7, iV (p0.length : Int)), (8, iV x1)] ∧ H = [] ∧ slices_IndexFunc_l0 p0 p1 k0 x1 = some os6) k _ _ (Weak_keep 0 hm [0, 1, 7, 8] [] _ _ rfl rfl rfl) ⟨_, rfl, rfl, h⟩ ?_
  clear h
  rintro k0 E H ⟨x1, rfl, rfl, h⟩
  cases k0 with
  | zero => cases (show (none : Option (Sum (Unit) (Int))) = some _ from h)
  | succ k0 =>
   rw [slices_IndexFunc_l0] at h
   refine kR ?_
   refine AOps_q 9 _ rfl rfl rfl (QOp_lss _ _ _ _ _ _ _ rfl rfl rfl) ?_
   refine AOps_nil ?_
   refine ACode_seq ?_
   refine kI h rfl (fun h _ => ?_) (fun h _ => ?_)
   ·refine ACode_skip ?_
    refine ACode_seq ?_
    refine ACode_block ?_
    refine kR ?_
    refine kN 2 rfl ?_
    refine kR ?_
    refine kM 3 rfl ?_
    obtain ⟨hc3, h⟩ := guardO h
    refine AOps_q 14 _ rfl rfl rfl (QOp_indexAddr_sl _ _ _ _ _ _ _ _ rfl Tryz.underlying27 Tryz.sizeOf2 hc3.1 (by rw [intsD_length]; exact hc3.2) rfl rfl) ?_
    refine AOps_q 15 _ rfl rfl rfl (QOp_load_pv _ _ _ _ _ rfl Tryz.isAgg2 rfl (intsD_get _ _ 0 (by omega))) ?_
    obtain ⟨r4, hr4, h⟩ := bindO h
    refine kC [] 16 (bV r4) [] rfl hg_p1 rfl (viewA_mapD _) (hf_p1 (p0.getD x1.toNat 0) _ hr4) rfl ?_
    refine AOps_nil ?_
    refine kI h rfl (fun h _ => ?_) (fun h _ => ?_)
    ·refine kR ?_
     refine kN 2 rfl ?_
     refine ACode_ret ?_
     cases h
     have h := hks6
     cases h
     exact ⟨_, _, fun r a w h => ⟨r, h⟩, _, _, [], _, (.cons (ResV_tmp _ _ rfl) .nil), rfl, rfl, rfl, rfl, rfl⟩
    refine ACode_skip ?_
    refine (ACode_region ?_)
    refine AOps_q 18 _ rfl rfl rfl (QOp_add _ _ _ _ _ _ _ rfl rfl rfl) ?_
    refine kN 1 rfl ?_
    exact ⟨k0, _, _, Nat.lt_succ_self _, Weak_keep 0 hm [0, 1, 7, 8] [] _ _ rfl rfl rfl, _, rfl, rfl, h⟩
   refine ACode_exit ?_
   cases h
   exact ⟨_, rfl, Weak_keep 0 hm [] [] _ _ rfl rfl rfl⟩
 refine kR ?_
 refine kN 1 rfl ?_
 refine ACode_ret ?_
 cases h
 exact ⟨_, _, fun r a w h => ⟨r, h⟩, _, _, [], _, (.cons (ResV_tmp _ _ rfl) .nil), rfl, rfl, rfl, rfl, rfl⟩

-- slices.ContainsFunc[[]int64,int64]
def slices_ContainsFunc (k : Nat) (p0 : List Int) (p1 : Int → Option (Bool)) : Option (Bool) :=
 (slices_IndexFunc k p0 p1).bind fun r1 => some (decide (0 ≤ r1))
set_option maxRecDepth 100000 in
theorem slices_ContainsFunc_ac (k : Nat) (p0 : List Int) (p1 : Int → Option (Bool)) (g_p1 : FuncId) (c_p1 : List D) (hg_p1 : ∀ args w, (callFunc g_p1 args).run Tryz.prog w = .ok (.enter g_p1 args) w) (hf_p1 : ∀ (a0 : Int) (r : Bool), p1 a0 = some r → AC Tryz.prog g_p1 ([iV a0] ++ c_p1.map AV.d) [] (fun res H' => res = [bV r] ∧ H' = [])) (r : Bool) (h : slices_ContainsFunc k p0 p1 = some r) : AC Tryz.prog 75 [.d (.sl none (intsD p0)), .d (.clo g_p1 c_p1)] [] (fun res H' => res = [bV r] ∧ H' = []) := by
 refine AC_of_body true Tryz.func75 rfl Tryz.ntmps75 (rvs := [.tmp 4]) rfl rfl (fun G hG => ?_)
 have hm : G.H.length = 0 := by rw [hG]; rfl
 have hz : zeroG G.H = true := by rw [hG]; rfl
 unfold slices_ContainsFunc at h
 refine kR ?_
 refine kN 1 rfl ?_
 refine kR ?_
 refine kM 2 rfl ?_
 obtain ⟨r1, hr1, h⟩ := bindO h
 refine kC [] 7 (iV r1) [] rfl Tryz.call100 rfl rfl (slices_IndexFunc_ac k p0 p1 g_p1 c_p1 hg_p1 hf_p1 _ hr1) rfl ?_
 refine AOps_q 8 _ rfl rfl rfl (QOp_geq _ _ _ _ _ _ _ rfl rfl rfl) ?_
 refine kN 1 rfl ?_
 refine ACode_ret ?_
 cases h
 exact ⟨_, _, fun r a w h => ⟨r, h⟩, _, _, [], _, (.cons (ResV_tmp _ _ rfl) .nil), rfl, rfl, rfl, rfl, rfl⟩

-- loop.example/g01362/impl.areIn$1
def impl_areIn_c1 (p0 : Int) (p1 : Int) (p2 : Int) : Bool :=
 !(impl_in p0 p1 p2)
set_option maxRecDepth 100000 in
theorem impl_areIn_c1_ac (p0 : Int) (p1 : Int) (p2 : Int) : AC Tryz.prog 76 [iV p0, .d (.pv ([iD p1]) 0), .d (.pv ([iD p2]) 0)] [] (fun res H' => res = [bV (impl_areIn_c1 p0 p1 p2)] ∧ H' = []) := by
 refine AC_of_body true Tryz.func76 rfl Tryz.ntmps76 (rvs := [.tmp 4]) rfl rfl (fun G hG => ?_)
 have hm : G.H.length = 0 := by rw [hG]; rfl
 have hz : zeroG G.H = true := by rw [hG]; rfl
 obtain ⟨r, h⟩ : ∃ r, impl_areIn_c1 p0 p1 p2 = r := ⟨_, rfl⟩
 rw [h]
 unfold impl_areIn_c1 at h
 refine kR ?_
 refine kN 1 rfl ?_
 refine kR ?_
 refine kM 1 rfl ?_
 refine AOps_q 6 _ rfl rfl rfl (QOp_load_pv _ _ _ _ _ rfl Tryz.isAgg2 rfl rfl) ?_
 refine AOps_q 7 _ rfl rfl rfl (QOp_load_pv _ _ _ _ _ rfl Tryz.isAgg2 rfl rfl) ?_
 refine kC [] 8 (bV (impl_in p0 p1 p2)) [] rfl Tryz.call77 rfl rfl (impl_in_ac p0 p1 p2) rfl ?_
 refine AOps_q 9 _ rfl rfl rfl (QOp_not _ _ _ rfl rfl) ?_
 refine kN 1 rfl ?_
 refine ACode_ret ?_
 cases h
 exact ⟨_, _, fun r a w h => ⟨r, h⟩, _, _, [], _, (.cons (ResV_tmp _ _ rfl) .nil), rfl, rfl, rfl, rfl, rfl⟩

-- loop.example/g01362/impl.areIn
def impl_areIn (k : Nat) (p0 : List Int) (p1 : Int) (p2 : Int) (p3 : Int) : Option (Bool) :=
 ((if decide ((impl_size p0) = p1) then (slices_ContainsFunc k p0 (fun a0 => some (impl_areIn_c1 a0 p2 p3))).bind fun r3 => some (!r3) else some false) : Option (Bool)).bind fun s4 => some s4
set_option maxRecDepth 100000 in
theorem impl_areIn_ac (k : Nat) (p0 : List Int) (p1 : Int) (p2 : Int) (p3 : Int) (r : Bool) (h : impl_areIn k p0 p1 p2 p3 = some r) : AC Tryz.prog 44 [.d (.sl none (intsD p0)), iV p1, iV p2, iV p3] [] (fun res H' => res = [bV r] ∧ H' = []) := by
 refine AC_of_body true Tryz.func44 rfl Tryz.ntmps44 (rvs := [.tmp 8]) rfl rfl (fun G hG => ?_)
 have hm : G.H.length = 0 := by rw [hG]; rfl
 have hz : zeroG G.H = true := by rw [hG]; rfl
 unfold impl_areIn at h
 refine kR ?_
 refine AOps_boxI 6 _ _ (iD p2) _ rfl (fun c hc => by cases hc with | head => rfl | tail _ h => cases h) rfl rfl rfl rfl rfl ?_
 refine AOps_boxI 7 _ _ (iD p3) _ rfl (fun c hc => by cases hc with | head => rfl | tail _ h => cases h) rfl rfl rfl rfl rfl ?_
 refine kN 1 rfl ?_
 refine kB (fun s4 => [(8, bV s4)]) (fun s4 => []) h (fun s4 h => ?_) (fun s4 h => ?_)
 ·refine (ACode_region ?_)
  refine kM 1 rfl ?_
  refine kC [] 10 (iV (impl_size p0)) [] rfl Tryz.call74 rfl rfl (impl_size_ac p0) rfl ?_
  refine kM 1 rfl ?_
  refine AOps_q 12 _ rfl rfl rfl (QOp_eql _ _ _ _ _ _ _ rfl rfl rfl) ?_
  refine kM 1 rfl ?_
  refine AOps_case 13 _ rfl (fun hb2 => ?_) (fun hb2 => ?_)
  ·have h := iteT hb2 h
   refine kM 1 rfl ?_
   refine AOps_q 15 _ rfl rfl rfl (QOp_makeFuncD _ _ _ _ rfl rfl rfl) ?_
   obtain ⟨r3, hr3, h⟩ := bindO h
   refine kC [] 16 (bV r3) [] rfl Tryz.call75 rfl rfl (slices_ContainsFunc_ac k p0 (fun a0 => some (impl_areIn_c1 a0 p2 p3)) 76 ([.pv ([iD p2]) 0, .pv ([iD p3]) 0]) Tryz.call76 (fun a0 r h => by cases h; exact impl_areIn_c1_ac a0 p2 p3) _ hr3) rfl ?_
   refine AOps_q 17 _ rfl rfl rfl (QOp_not _ _ _ rfl rfl) ?_
   refine kN 2 rfl ?_
   cases h
   exact Weak_keep 0 hm [8] [] _ _ rfl rfl rfl
  have h := iteF hb2 h
  refine AOps_skip 14 rfl rfl rfl ?_
  refine AOps_skip 15 rfl rfl rfl ?_
  refine AOps_skip 16 rfl rfl rfl ?_
  refine AOps_skip 17 rfl rfl rfl ?_
  refine kN 2 rfl ?_
  cases h
  exact Weak_keep 0 hm [8] [] _ _ rfl rfl rfl
 refine ACode_ret ?_
 cases h
 exact ⟨_, _, fun r a w h => ⟨r, h⟩, _, _, [], _, (.cons (ResV_tmp _ _ rfl) .nil), rfl, rfl, rfl, rfl, rfl⟩

-- loop.example/g01362/impl.areForbidden
def impl_areForbidden (k : Nat) (p0 : List Int) (p1 : Int) : Option (Bool) :=
 (impl_areIn k p0 p1 1 17).bind fun r1 => some r1
set_option maxRecDepth 100000 in
theorem impl_areForbidden_ac (k : Nat) (p0 : List Int) (p1 : Int) (r : Bool) (h : impl_areForbidden k p0 p1 = some r) : AC Tryz.prog 69 [.d (.sl none (intsD p0)), iV p1] [] (fun res H' => res = [bV r] ∧ H' = []) := by
 refine AC_of_body true Tryz.func69 rfl Tryz.ntmps69 (rvs := [.tmp 4]) rfl rfl (fun G hG => ?_)
 have hm : G.H.length = 0 := by rw [hG]; rfl
 have hz : zeroG G.H = true := by rw [hG]; rfl
 unfold impl_areForbidden at h
 refine kR ?_
 refine kN 1 rfl ?_
 refine kR ?_
 refine kM 2 rfl ?_
 obtain ⟨r1, hr1, h⟩ := bindO h
 refine kC [] 7 (bV r1) [] rfl Tryz.call44 rfl rfl (impl_areIn_ac k p0 p1 1 17 _ hr1) rfl ?_
 refine kN 1 rfl ?_
 refine ACode_ret ?_
 cases h
 exact ⟨_, _, fun r a w h => ⟨r, h⟩, _, _, [], _, (.cons (ResV_tmp _ _ rfl) .nil), rfl, rfl, rfl, rfl, rfl⟩

-- (*loop.example/g01362/impl.Colouring).sizesCode$1
def impl_Colouring_sizesCode_c1 (k : Nat) (p0 : List Int) (p1 : Col) (p2 : Option (Bool)) : Option (Bool) :=
 ((impl_areForbidden k p0 p1.k).bind fun r1 => (if r1 then (p2).bind fun r3 => some r3 else some false) : Option (Bool)).bind fun s4 => some s4
set_option maxRecDepth 100000 in
theorem impl_Colouring_sizesCode_c1_ac (k : Nat) (p0 : List Int) (p1 : Col) (p2 : Option (Bool)) (g_p2 : FuncId) (c_p2 : List D) (hg_p2 : ∀ args w, (callFunc g_p2 args).run Tryz.prog w = .ok (.enter g_p2 args) w) (hf_p2 : ∀ (r : Bool), p2 = some r → AC Tryz.prog g_p2 ([] ++ c_p2.map AV.d) [] (fun res H' => res = [bV r] ∧ H' = [])) (r : Bool) (h : impl_Colouring_sizesCode_c1 k p0 p1 p2 = some r) : AC Tryz.prog 68 [.d (.pv ([.sl none (intsD p0)]) 0), .d (.pv ([.pv (colD p1) 0]) 0), .d (.pv ([.clo g_p2 c_p2]) 0)] [] (fun res H' => res = [bV r] ∧ H' = []) := by
 refine AC_of_body true Tryz.func68 rfl Tryz.ntmps68 (rvs := [.tmp 3]) rfl rfl (fun G hG => ?_)
 have hm : G.H.length = 0 := by rw [hG]; rfl
 have hz : zeroG G.H = true := by rw [hG]; rfl
 unfold impl_Colouring_sizesCode_c1 at h
 refine kR ?_
 refine kN 1 rfl ?_
 refine kB (fun s4 => [(3, bV s4)]) (fun s4 => []) h (fun s4 h => ?_) (fun s4 h => ?_)
 ·refine (ACode_quiet mixed (by kernel_rfl) ?_)
  refine AQ_q 4 _ rfl rfl rfl (QOp_load_pv _ _ _ _ _ rfl Tryz.isAgg27 rfl rfl) ?_
  refine AQ_q 5 _ rfl rfl rfl (QOp_load_pv _ _ _ _ _ rfl Tryz.isAgg75 rfl rfl) ?_
  refine AQ_q 6 _ rfl rfl rfl (QOp_nilCheck_pv _ _ _ rfl rfl) ?_
  refine AQ_q 7 _ rfl rfl rfl (QOp_fieldAddr_pv _ _ _ _ _ 1 _ _ rfl Tryz.underlying26 rfl _ Tryz.sizeOf2 rfl rfl) ?_
  refine AQ_q 8 _ rfl rfl rfl (QOp_load_pv _ _ _ _ _ rfl Tryz.isAgg2 rfl rfl) ?_
  obtain ⟨r1, hr1, h⟩ := bindO h
  refine AQ_call 9 _ _ _ _ _ _ _ _ _ rfl rfl rfl rfl rfl rfl rfl Tryz.call69 rfl rfl rfl (impl_areForbidden_ac k p0 p1.k _ hr1) ?_
  refine kQ 1 rfl ?_
  refine AQ_case 10 _ rfl (fun hb2 => ?_) (fun hb2 => ?_)
  ·have h := iteT hb2 h
   refine AQ_q 11 _ rfl rfl rfl (QOp_load_pv _ _ _ _ _ rfl Tryz.isAgg48 rfl rfl) ?_
   obtain ⟨r3, hr3, h⟩ := bindO h
   refine AQ_call 12 _ _ _ _ _ _ _ _ _ rfl rfl rfl rfl rfl rfl rfl hg_p2 rfl rfl (viewA_mapD _) (hf_p2 _ hr3) ?_
   refine kQ 2 rfl ?_
   refine AQ_nil ?_
   cases h
   exact Weak_keep 0 hm [3] [] _ _ rfl rfl rfl
  have h := iteF hb2 h
  refine AQ_skip 11 rfl rfl rfl ?_
  refine AQ_skip 12 rfl rfl rfl ?_
  refine kQ 2 rfl ?_
  refine AQ_nil ?_
  cases h
  exact Weak_keep 0 hm [3] [] _ _ rfl rfl rfl
 refine ACode_ret ?_
 cases h
 exact ⟨_, _, fun r a w h => ⟨r, h⟩, _, _, [], _, (.cons (ResV_tmp _ _ rfl) .nil), rfl, rfl, rfl, rfl, rfl⟩

-- (*loop.example/g01362/impl.Colouring).sizesCode
def impl_Colouring_sizesCode (k : Nat) (p0 : Col) (p1 : List Int) (p2 : Option (Bool)) : Option (Int) :=
 (impl_Colouring_code k p0 (impl_Colouring_sizesCode_c1 k p1 p0 p2)).bind fun r1 => some r1
set_option maxRecDepth 100000 in
theorem impl_Colouring_sizesCode_ac (k : Nat) (p0 : Col) (p1 : List Int) (p2 : Option (Bool)) (g_p2 : FuncId) (c_p2 : List D) (hg_p2 : ∀ args w, (callFunc g_p2 args).run Tryz.prog w = .ok (.enter g_p2 args) w) (hf_p2 : ∀ (r : Bool), p2 = some r → AC Tryz.prog g_p2 ([] ++ c_p2.map AV.d) [] (fun res H' => res = [bV r] ∧ H' = [])) (r : Int) (h : impl_Colouring_sizesCode k p0 p1 p2 = some r) : AC Tryz.prog 39 [.d (.pv (colD p0) 0), .d (.sl none (intsD p1)), .d (.clo g_p2 c_p2)] [] (fun res H' => res = [iV r] ∧ H' = []) := by
 refine AC_of_body true Tryz.func39 rfl Tryz.ntmps39 (rvs := [.tmp 6]) rfl rfl (fun G hG => ?_)
 have hm : G.H.length = 0 := by rw [hG]; rfl
 have hz : zeroG G.H = true := by rw [hG]; rfl
 unfold impl_Colouring_sizesCode at h
 refine kR ?_
 refine AOps_boxI 3 _ _ (.pv (colD p0) 0) _ rfl (fun c hc => by cases hc with | head => rfl | tail _ h => cases h) rfl rfl rfl rfl rfl ?_
 refine AOps_boxI 4 _ _ (.sl none (intsD p1)) _ rfl (fun c hc => by cases hc with | head => rfl | tail _ h => cases h) rfl rfl rfl rfl rfl ?_
 refine AOps_boxI 5 _ _ (.clo g_p2 c_p2) _ rfl (fun c hc => by cases hc with | head => rfl | tail _ h => cases h) rfl rfl rfl rfl rfl ?_
 refine kN 1 rfl ?_
 refine kR ?_
 refine AOps_q 7 _ rfl rfl rfl (QOp_load_pv _ _ _ _ _ rfl Tryz.isAgg75 rfl rfl) ?_
 refine AOps_q 8 _ rfl rfl rfl (QOp_makeFuncD _ _ _ _ rfl rfl rfl) ?_
 obtain ⟨r1, hr1, h⟩ := bindO h
 refine kC [] 9 (iV r1) [] rfl Tryz.call46 rfl rfl (impl_Colouring_code_ac k p0 (impl_Colouring_sizesCode_c1 k p1 p0 p2) 68 ([.pv ([.sl none (intsD p1)]) 0, .pv ([.pv (colD p0) 0]) 0, .pv ([.clo g_p2 c_p2]) 0]) Tryz.call68 (fun r h => impl_Colouring_sizesCode_c1_ac k p1 p0 p2 g_p2 c_p2 hg_p2 hf_p2 r h) _ hr1) rfl ?_
 refine kN 1 rfl ?_
 refine ACode_ret ?_
 cases h
 exact ⟨_, _, fun r a w h => ⟨r, h⟩, _, _, [], _, (.cons (ResV_tmp _ _ rfl) .nil), rfl, rfl, rfl, rfl, rfl⟩

-- (*loop.example/g01362/impl.Colouring).firstOf$1
def impl_Colouring_firstOf_c1 (p0 : List Int) (p1 : Int) (p2 : List Int) : Bool × List Int :=
 (if decide ((impl_size p0) < p1) then (true, p2) else (false, p0))
set_option maxRecDepth 100000 in
theorem impl_Colouring_firstOf_c1_ac (p0 : List Int) (p1 : Int) (p2 : List Int) : AC Tryz.prog 99 [.d (.sl none (intsD p0)), .d (.pv ([iD p1]) 0), .ptr 0 0] [.box [.sl none (intsD p2)]] (fun res H' => res = [bV ((impl_Colouring_firstOf_c1 p0 p1 p2).1)] ∧ H' = [.box [.sl none (intsD ((impl_Colouring_firstOf_c1 p0 p1 p2).2))]]) := by
 refine AC_of_body true Tryz.func99 rfl Tryz.ntmps99 (rvs := [.tmp 4]) rfl rfl (fun G hG => ?_)
 have hm : G.H.length = 1 := by rw [hG]; rfl
 have hz : zeroG G.H = true := by rw [hG]; rfl
 obtain ⟨r, h⟩ : ∃ r, impl_Colouring_firstOf_c1 p0 p1 p2 = r := ⟨_, rfl⟩
 rw [h]
 unfold impl_Colouring_firstOf_c1 at h
 refine kR ?_
 refine kN 1 rfl ?_
 refine ACode_seq ?_
 refine ACode_seq (ACode_quiet mixed (by kernel_rfl) ?_)
 refine kQ 1 rfl ?_
 refine AQ_call 6 _ _ _ _ _ _ _ _ _ rfl rfl rfl rfl rfl rfl rfl Tryz.call74 rfl rfl rfl (impl_size_ac p0) ?_
 refine AQ_q 7 _ rfl rfl rfl (QOp_load_pv _ _ _ _ _ rfl Tryz.isAgg2 rfl rfl) ?_
 refine AQ_q 8 _ rfl rfl rfl (QOp_lss _ _ _ _ _ _ _ rfl rfl rfl) ?_
 refine AQ_nil ?_
 refine kI h rfl (fun h _ => ?_) (fun h _ => ?_)
 ·refine kR ?_
  refine kN 1 rfl ?_
  refine ACode_ret ?_
  cases h
  exact ⟨_, _, fun r a w h => ⟨r, h⟩, _, _, [], _, (.cons (ResV_tmp _ _ rfl) .nil), rfl, rfl, rfl, rfl, rfl⟩
 refine ACode_skip ?_
 refine kR ?_
 refine kM 1 rfl ?_
 refine AOps_store1 _ _ _ _ _ _ _ _ rfl rfl rfl rfl rfl rfl rfl Tryz.sizeOf27 (Nat.le_of_ble_eq_true rfl) rfl ?_
 refine AOps_nil ?_
 refine kR ?_
 refine kN 1 rfl ?_
 refine ACode_ret ?_
 cases h
 exact ⟨_, _, fun r a w h => ⟨r, h⟩, _, _, [], _, (.cons (ResV_tmp _ _ rfl) .nil), rfl, rfl, rfl, rfl, rfl⟩

-- loop.example/g01362/impl.number
def impl_number (p0 : Int) (p1 : Int) : Int :=
 w64 ((w64 ((w64 ((if p0 < p1 then p1 else p0) * (w64 ((if p0 < p1 then p1 else p0) - 1)))).tdiv 2)) + (if p1 < p0 then p1 else p0))
set_option maxRecDepth 100000 in
theorem impl_number_ac (p0 : Int) (p1 : Int) : AC Tryz.prog 101 [iV p0, iV p1] [] (fun res H' => res = [iV (impl_number p0 p1)] ∧ H' = []) := by
 refine AC_of_body true Tryz.func101 rfl Tryz.ntmps101 (rvs := [.tmp 4]) rfl rfl (fun G hG => ?_)
 have hm : G.H.length = 0 := by rw [hG]; rfl
 have hz : zeroG G.H = true := by rw [hG]; rfl
 obtain ⟨r, h⟩ : ∃ r, impl_number p0 p1 = r := ⟨_, rfl⟩
 rw [h]
 unfold impl_number at h
 refine kR ?_
 refine kN 1 rfl ?_
 refine kR ?_
 refine kM 2 rfl ?_
 refine AOps_q 7 _ rfl rfl rfl (QOp_min _ _ _ _ _ _ rfl rfl rfl rfl rfl) ?_
 refine kM 2 rfl ?_
 refine AOps_q 10 _ rfl rfl rfl (QOp_max _ _ _ _ _ _ rfl rfl rfl rfl rfl) ?_
 refine kN 2 rfl ?_
 refine kR ?_
 refine kM 2 rfl ?_
 refine AOps_q 13 _ rfl rfl rfl (QOp_sub _ _ _ _ _ _ _ rfl rfl rfl) ?_
 refine AOps_q 14 _ rfl rfl rfl (QOp_mul _ _ _ _ _ _ _ rfl rfl rfl) ?_
 refine AOps_q 15 _ rfl rfl rfl (QOp_quo _ _ _ _ _ _ _ (by decide) rfl rfl rfl) ?_
 refine kM 1 rfl ?_
 refine AOps_q 17 _ rfl rfl rfl (QOp_add _ _ _ _ _ _ _ rfl rfl rfl) ?_
 refine kN 1 rfl ?_
 refine ACode_ret ?_
 cases h
 exact ⟨_, _, fun r a w h => ⟨r, h⟩, _, _, [], _, (.cons (ResV_tmp _ _ rfl) .nil), rfl, rfl, rfl, rfl, rfl⟩

-- (*loop.example/g01362/impl.Colouring).at
def impl_Colouring_at (p0 : Col) (p1 : Int) (p2 : Int) : Option (Int) :=
 (if 0 ≤ (impl_number p1 p2) ∧ (impl_number p1 p2) < 136 then some ((p0.get ((impl_number p1 p2).toNat)).toNat : Int) else none)
set_option maxRecDepth 100000 in
theorem impl_Colouring_at_ac (p0 : Col) (p1 : Int) (p2 : Int) (r : Int) (h : impl_Colouring_at p0 p1 p2 = some r) : AC Tryz.prog 92 [.d (.pv (colD p0) 0), iV p1, iV p2] [] (fun res H' => res = [iV r] ∧ H' = []) := by
 refine AC_of_body true Tryz.func92 rfl Tryz.ntmps92 (rvs := [.tmp 6]) rfl rfl (fun G hG => ?_)
 have hm : G.H.length = 0 := by rw [hG]; rfl
 have hz : zeroG G.H = true := by rw [hG]; rfl
 unfold impl_Colouring_at at h
 refine kR ?_
 refine kN 1 rfl ?_
 refine ACode_seq (ACode_quiet mixed (by kernel_rfl) ?_)
 refine kQ 3 rfl ?_
 refine AQ_call 10 _ _ _ _ _ _ _ _ _ rfl rfl rfl rfl rfl rfl rfl Tryz.call101 rfl rfl rfl (impl_number_ac p1 p2) ?_
 refine AQ_q 11 _ rfl rfl rfl (QOp_nilCheck_pv _ _ _ rfl rfl) ?_
 refine AQ_q 12 _ rfl rfl rfl (QOp_fieldAddr_pv _ _ _ _ _ 2 _ _ rfl Tryz.underlying26 rfl _ Tryz.sizeOf24 rfl rfl) ?_
 obtain ⟨hc2, h⟩ := guardO h
 refine AQ_q 13 _ rfl rfl rfl (QOp_indexAddrA_pv _ _ _ _ _ _ _ _ _ rfl Tryz.underlying24 Tryz.sizeOf5 hc2.1 hc2.2 rfl rfl) ?_
 refine AQ_q 14 _ rfl rfl rfl (QOp_load_pv _ _ _ _ _ rfl Tryz.isAgg5 rfl (colD_get _ _ (by omega))) ?_
 refine AQ_q 15 _ rfl rfl rfl (QOp_fromByte _ _ _ _ _ rfl rfl Tryz.underlying2 wrap_i64_byte rfl) ?_
 refine kQ 1 rfl ?_
 refine AQ_nil ?_
 refine ACode_ret ?_
 cases h
 exact ⟨_, _, fun r a w h => ⟨r, h⟩, _, _, [], _, (.cons (ResV_tmp _ _ rfl) .nil), rfl, rfl, rfl, rfl, rfl⟩

-- (*loop.example/g01362/impl.Colouring).joins
def impl_Colouring_joins (p0 : Col) (p1 : Int) (p2 : Int) (p3 : Int) : Option (Bool) :=
 ((if !decide (p1 = p2) then (impl_Colouring_at p0 p1 p2).bind fun r2 => some (decide (r2 = p3)) else some false) : Option (Bool)).bind fun s3 => some s3
set_option maxRecDepth 100000 in
theorem impl_Colouring_joins_ac (p0 : Col) (p1 : Int) (p2 : Int) (p3 : Int) (r : Bool) (h : impl_Colouring_joins p0 p1 p2 p3 = some r) : AC Tryz.prog 94 [.d (.pv (colD p0) 0), iV p1, iV p2, iV p3] [] (fun res H' => res = [bV r] ∧ H' = []) := by
 refine AC_of_body true Tryz.func94 rfl Tryz.ntmps94 (rvs := [.tmp 8]) rfl rfl (fun G hG => ?_)
 have hm : G.H.length = 0 := by rw [hG]; rfl
 have hz : zeroG G.H = true := by rw [hG]; rfl
 unfold impl_Colouring_joins at h
 refine kR ?_
 refine kN 1 rfl ?_
 refine kB (fun s3 => [(8, bV s3)]) (fun s3 => []) h (fun s3 h => ?_) (fun s3 h => ?_)
 ·refine (ACode_region ?_)
  refine kM 2 rfl ?_
  refine AOps_q 11 _ rfl rfl rfl (QOp_neq _ _ _ _ _ _ _ rfl rfl rfl) ?_
  refine kM 1 rfl ?_
  refine AOps_case 12 _ rfl (fun hb1 => ?_) (fun hb1 => ?_)
  ·have h := iteT hb1 h
   refine kM 3 rfl ?_
   obtain ⟨r2, hr2, h⟩ := bindO h
   refine kC [] 16 (iV r2) [] rfl Tryz.call92 rfl rfl (impl_Colouring_at_ac p0 p1 p2 _ hr2) rfl ?_
   refine kM 1 rfl ?_
   refine AOps_q 18 _ rfl rfl rfl (QOp_eql _ _ _ _ _ _ _ rfl rfl rfl) ?_
   refine kN 2 rfl ?_
   cases h
   exact Weak_keep 0 hm [8] [] _ _ rfl rfl rfl
  have h := iteF hb1 h
  refine AOps_skip 13 rfl rfl rfl ?_
  refine AOps_skip 14 rfl rfl rfl ?_
  refine AOps_skip 15 rfl rfl rfl ?_
  refine AOps_skip 16 rfl rfl rfl ?_
  refine AOps_skip 17 rfl rfl rfl ?_
  refine AOps_skip 18 rfl rfl rfl ?_
  refine kN 2 rfl ?_
  cases h
  exact Weak_keep 0 hm [8] [] _ _ rfl rfl rfl
 refine ACode_ret ?_
 cases h
 exact ⟨_, _, fun r a w h => ⟨r, h⟩, _, _, [], _, (.cons (ResV_tmp _ _ rfl) .nil), rfl, rfl, rfl, rfl, rfl⟩

-- (*loop.example/g01362/impl.Colouring).goesWith$1
def impl_Colouring_goesWith_c1 (p0 : Int) (p1 : Col) (p2 : Int) (p3 : Int) : Option (Bool) :=
 (impl_Colouring_joins p1 p0 p2 p3).bind fun r1 => some (!r1)
set_option maxRecDepth 100000 in
theorem impl_Colouring_goesWith_c1_ac (p0 : Int) (p1 : Col) (p2 : Int) (p3 : Int) (r : Bool) (h : impl_Colouring_goesWith_c1 p0 p1 p2 p3 = some r) : AC Tryz.prog 105 [iV p0, .d (.pv ([.pv (colD p1) 0]) 0), .d (.pv ([iD p2]) 0), .d (.pv ([iD p3]) 0)] [] (fun res H' => res = [bV r] ∧ H' = []) := by
 refine AC_of_body true Tryz.func105 rfl Tryz.ntmps105 (rvs := [.tmp 5]) rfl rfl (fun G hG => ?_)
 have hm : G.H.length = 0 := by rw [hG]; rfl
 have hz : zeroG G.H = true := by rw [hG]; rfl
 unfold impl_Colouring_goesWith_c1 at h
 refine kR ?_
 refine kN 1 rfl ?_
 refine kR ?_
 refine AOps_q 6 _ rfl rfl rfl (QOp_load_pv _ _ _ _ _ rfl Tryz.isAgg75 rfl rfl) ?_
 refine kM 1 rfl ?_
 refine AOps_q 8 _ rfl rfl rfl (QOp_load_pv _ _ _ _ _ rfl Tryz.isAgg2 rfl rfl) ?_
 refine AOps_q 9 _ rfl rfl rfl (QOp_load_pv _ _ _ _ _ rfl Tryz.isAgg2 rfl rfl) ?_
 obtain ⟨r1, hr1, h⟩ := bindO h
 refine kC [] 10 (bV r1) [] rfl Tryz.call94 rfl rfl (impl_Colouring_joins_ac p1 p0 p2 p3 _ hr1) rfl ?_
 refine AOps_q 11 _ rfl rfl rfl (QOp_not _ _ _ rfl rfl) ?_
 refine kN 1 rfl ?_
 refine ACode_ret ?_
 cases h
 exact ⟨_, _, fun r a w h => ⟨r, h⟩, _, _, [], _, (.cons (ResV_tmp _ _ rfl) .nil), rfl, rfl, rfl, rfl, rfl⟩

-- (*loop.example/g01362/impl.Colouring).goesWith
def impl_Colouring_goesWith (k : Nat) (p0 : Col) (p1 : Int) (p2 : List Int) (p3 : Int) : Option (Bool) :=
 (slices_ContainsFunc k p2 (fun a0 => impl_Colouring_goesWith_c1 a0 p0 p3 p1)).bind fun r1 => some (!r1)
set_option maxRecDepth 100000 in
theorem impl_Colouring_goesWith_ac (k : Nat) (p0 : Col) (p1 : Int) (p2 : List Int) (p3 : Int) (r : Bool) (h : impl_Colouring_goesWith k p0 p1 p2 p3 = some r) : AC Tryz.prog 104 [.d (.pv (colD p0) 0), iV p1, .d (.sl none (intsD p2)), iV p3] [] (fun res H' => res = [bV r] ∧ H' = []) := by
 refine AC_of_body true Tryz.func104 rfl Tryz.ntmps104 (rvs := [.tmp 8]) rfl rfl (fun G hG => ?_)
 have hm : G.H.length = 0 := by rw [hG]; rfl
 have hz : zeroG G.H = true := by rw [hG]; rfl
 unfold impl_Colouring_goesWith at h
 refine kR ?_
 refine AOps_boxI 4 _ _ (.pv (colD p0) 0) _ rfl (fun c hc => by cases hc with | head => rfl | tail _ h => cases h) rfl rfl rfl rfl rfl ?_
 refine AOps_boxI 5 _ _ (iD p1) _ rfl (fun c hc => by cases hc with | head => rfl | tail _ h => cases h) rfl rfl rfl rfl rfl ?_
 refine AOps_boxI 7 _ _ (iD p3) _ rfl (fun c hc => by cases hc with | head => rfl | tail _ h => cases h) rfl rfl rfl rfl rfl ?_
 refine kN 1 rfl ?_
 refine kR ?_
 refine kM 1 rfl ?_
 refine AOps_q 10 _ rfl rfl rfl (QOp_makeFuncD _ _ _ _ rfl rfl rfl) ?_
 obtain ⟨r1, hr1, h⟩ := bindO h
 refine kC [] 11 (bV r1) [] rfl Tryz.call75 rfl rfl (slices_ContainsFunc_ac k p2 (fun a0 => impl_Colouring_goesWith_c1 a0 p0 p3 p1) 105 ([.pv ([.pv (colD p0) 0]) 0, .pv ([iD p3]) 0, .pv ([iD p1]) 0]) Tryz.call105 (fun a0 r h => impl_Colouring_goesWith_c1_ac a0 p0 p3 p1 r h) _ hr1) rfl ?_
 refine AOps_q 12 _ rfl rfl rfl (QOp_not _ _ _ rfl rfl) ?_
 refine kN 1 rfl ?_
 refine ACode_ret ?_
 cases h
 exact ⟨_, _, fun r a w h => ⟨r, h⟩, _, _, [], _, (.cons (ResV_tmp _ _ rfl) .nil), rfl, rfl, rfl, rfl, rfl⟩

-- (*loop.example/g01362/impl.Colouring).cliques
def impl_Colouring_cliques_on_firstOf_c1_l0 (k : Nat) (self : Col → Int → (List Int) → Int → (List Int) → Option (Bool × List Int)) (p0 : Col) (p1 : Int) (p2 : List Int) (p3_0 : Int) : Nat → Int → (List Int) → Option (Sum (List Int) (Bool × List Int))
 | 0, _, _ => none
 | k0 + 1, x6, x7 => (if decide (x6 < p0.p) then (((impl_Colouring_goesWith k p0 p1 p2 x6).bind fun r9 => (if r9 then (if p2.isEmpty then (if ([x6]).length ≤ 1099511627776 ∧ ([x6]).length ≠ 0 then (self p0 p1 ([x6]) p3_0 x7).bind fun r14 => some (!r14.1, r14.2) else none) else (cloneA p2).bind fun r15 => (if r15.length + ([x6]).length ≤ 1099511627776 then (self p0 p1 (r15 ++ ([x6])) p3_0 x7).bind fun r17 => some (!r17.1, r17.2) else none)) else some (false, x7)) : Option (Bool × List Int)).bind fun s18 => (if s18.1 then (some (.inr (false, s18.2))).bind fun rr => some (.inr rr) else some (.inl s18.2)) : Option (Sum (List Int) (Sum (List Int) (Bool × List Int)))).bind fun os20 => (match os20 with | .inl s20 => impl_Colouring_cliques_on_firstOf_c1_l0 k self p0 p1 p2 p3_0 k0 (w64 (x6 + 1)) s20 | .inr rr => some rr) else some (.inl x7))
def impl_Colouring_cliques_on_firstOf_c1_body (self : Col → Int → (List Int) → Int → (List Int) → Option (Bool × List Int)) (k : Nat) (p0 : Col) (p1 : Int) (p2 : List Int) (p3_0 : Int) (p3_1 : List Int) : Option (Bool × List Int) :=
 (if !((impl_Colouring_firstOf_c1 p2 p3_0 p3_1).1) then some (false, (impl_Colouring_firstOf_c1 p2 p3_0 p3_1).2) else ((if decide (0 < (p2.length : Int)) then (if 0 ≤ w64 ((p2.length : Int) - 1) ∧ w64 ((p2.length : Int) - 1) < (p2.length : Int) then some (w64 ((p2.getD (w64 ((p2.length : Int) - 1)).toNat 0) + 1)) else none) else some 0) : Option (Int)).bind fun s5 => (impl_Colouring_cliques_on_firstOf_c1_l0 k self p0 p1 p2 p3_0 k s5 ((impl_Colouring_firstOf_c1 p2 p3_0 p3_1).2) : Option (Sum (List Int) (Bool × List Int))).bind fun os21 => (match os21 with | .inl s21 => some (true, s21) | .inr rr => some rr))
def impl_Colouring_cliques_on_firstOf_c1 : Nat → Col → Int → (List Int) → Int → (List Int) → Option (Bool × List Int)
 | 0, _, _, _, _, _ => none
 | k + 1, p0, p1, p2, p3_0, p3_1 => impl_Colouring_cliques_on_firstOf_c1_body (impl_Colouring_cliques_on_firstOf_c1 k) k p0 p1 p2 p3_0 p3_1
set_option maxRecDepth 100000 in
theorem impl_Colouring_cliques_on_firstOf_c1_ac (k : Nat) (p0 : Col) (p1 : Int) (p2 : List Int) (p3_0 : Int) (p3_1 : List Int) (r : Bool × List Int) (h : impl_Colouring_cliques_on_firstOf_c1 k p0 p1 p2 p3_0 p3_1 = some r) : AC Tryz.prog 98 [.d (.pv (colD p0) 0), iV p1, .d (.sl none (intsD p2)), .clo 99 [.d (.pv ([iD p3_0]) 0), .ptr 0 0]] [.box [.sl none (intsD p3_1)]] (fun res H' => res = [bV r.1] ∧ H' = [.box [.sl none (intsD r.2)]]) := by
 induction k generalizing p0 p1 p2 p3_0 p3_1 r with
 | zero => simp [impl_Colouring_cliques_on_firstOf_c1] at h
 | succ k ih =>
  rw [impl_Colouring_cliques_on_firstOf_c1] at h
  obtain ⟨self, hself, hk⟩ : ∃ self : Col → Int → (List Int) → Int → (List Int) → Option (Bool × List Int), (∀ (p0 : Col) (p1 : Int) (p2 : List Int) (p3_0 : Int) (p3_1 : List Int) (r : Bool × List Int), self p0 p1 p2 p3_0 p3_1 = some r → AC Tryz.prog 98 [.d (.pv (colD p0) 0), iV p1, .d (.sl none (intsD p2)), .clo 99 [.d (.pv ([iD p3_0]) 0), .ptr 0 0]] [.box [.sl none (intsD p3_1)]] (fun res H' => res = [bV r.1] ∧ H' = [.box [.sl none (intsD r.2)]])) ∧ impl_Colouring_cliques_on_firstOf_c1 k = self := ⟨impl_Colouring_cliques_on_firstOf_c1 k, fun p0 p1 p2 p3_0 p3_1 r h => ih p0 p1 p2 p3_0 p3_1 r h, rfl⟩
  rw [hk] at h
  clear ih hk
  refine AC_of_body true Tryz.func98 rfl Tryz.ntmps98 (rvs := [.tmp 8]) rfl rfl (fun G hG => ?_)
  have hm : G.H.length = 1 := by rw [hG]; rfl
  have hz : zeroG G.H = true := by rw [hG]; rfl
  unfold impl_Colouring_cliques_on_firstOf_c1_body at h
  refine kR ?_
  refine kN 1 rfl ?_
  refine ACode_seq ?_
  refine kR ?_
  refine kM 2 rfl ?_
  refine kC [0] 13 (bV ((impl_Colouring_firstOf_c1 p2 p3_0 p3_1).1)) [.box [.sl none (intsD ((impl_Colouring_firstOf_c1 p2 p3_0 p3_1).2))]] rfl Tryz.call99 rfl rfl (impl_Colouring_firstOf_c1_ac p2 p3_0 p3_1) rfl ?_
  refine AOps_q 14 _ rfl rfl rfl (QOp_not _ _ _ rfl rfl) ?_
  refine AOps_nil ?_
  refine kI h rfl (fun h _ => ?_) (fun h _ => ?_)
  ·refine kR ?_
   refine kN 1 rfl ?_
   refine ACode_ret ?_
   cases h
   exact ⟨_, _, fun r a w h => ⟨r, h⟩, _, _, [], _, (.cons (ResV_tmp _ _ rfl) .nil), rfl, rfl, rfl, rfl, rfl⟩
  refine ACode_skip ?_
  refine kR ?_
  refine kN 1 rfl ?_
  refine kB (fun s5 => [(0, .d (.pv (colD p0) 0)), (1, iV p1), (2, .d (.sl none (intsD p2))), (3, .clo 99 [.d (.pv ([iD p3_0]) 0), .ptr 0 0]), (9, iV s5)]) (fun s5 => [.box [.sl none (intsD ((impl_Colouring_firstOf_c1 p2 p3_0 p3_1).2))]]) h (fun s5 h => ?_) (fun s5 h => ?_)
  ·refine kR ?_
   refine kM 1 rfl ?_
   refine AOps_q 16 _ rfl rfl rfl (QOp_len_sl _ _ _ _ _ _ _ (intsD_length _) rfl rfl rfl rfl Tryz.underlying27 rfl) ?_
   refine AOps_q 17 _ rfl rfl rfl (QOp_gtr _ _ _ _ _ _ _ rfl rfl rfl) ?_
   refine AOps_nil ?_
   refine kI h rfl (fun h _ => ?_) (fun h _ => ?_)
   ·refine (ACode_region ?_)
    refine kM 2 rfl ?_
    refine AOps_q 20 _ rfl rfl rfl (QOp_len_sl _ _ _ _ _ _ _ (intsD_length _) rfl rfl rfl rfl Tryz.underlying27 rfl) ?_
    refine AOps_q 21 _ rfl rfl rfl (QOp_sub _ _ _ _ _ _ _ rfl rfl rfl) ?_
    obtain ⟨hc4, h⟩ := guardO h
    refine AOps_q 22 _ rfl rfl rfl (QOp_indexAddr_sl _ _ _ _ _ _ _ _ rfl Tryz.underlying27 Tryz.sizeOf2 hc4.1 (by rw [intsD_length]; exact hc4.2) rfl rfl) ?_
    refine AOps_q 23 _ rfl rfl rfl (QOp_load_pv _ _ _ _ _ rfl Tryz.isAgg2 rfl (intsD_get _ _ 0 (by omega))) ?_
    refine AOps_q 24 _ rfl rfl rfl (QOp_add _ _ _ _ _ _ _ rfl rfl rfl) ?_
    refine kN 1 rfl ?_
    cases h
    exact Weak_keep 1 hm [0, 1, 2, 3, 9] [] _ _ rfl rfl rfl
   refine ACode_skip ?_
   cases h
   exact Weak_keep 1 hm [0, 1, 2, 3, 9] [] _ _ rfl rfl rfl
  refine kO (fun s21 => []) (fun s21 => [.box [.sl none (intsD s21)]]) h (fun os21 h hks21 => ?_) (fun s21 h => ?_)
  ·refine kR ?_
   refine kN 2 rfl ?_
   refine ACode_block ?_
   refine ACode_loopW (fun k0 E H => ∃ (x6 : Int) (x7 : List Int), E = [(0, .d (.pv (colD p0) 0)), (1, iV p1), (2, .d (.sl none (intsD p2))), (3, .clo 99 [.d (.pv ([iD p3_0]) 0), .ptr 0 0]), (10, iV x6)] ∧ H = [.box [.sl none (intsD x7)]] ∧ impl_Colouring_cliques_on_firstOf_c1_l0 k self p0 p1 p2 p3_0 k0 x6 x7 = some os21) k _ _ (Weak_keep 1 hm [0, 1, 2, 3, 10] [] _ _ rfl rfl rfl) ⟨_, _, rfl, rfl, h⟩ ?_
   clear h
   rintro k0 E H ⟨x6, x7, rfl, rfl, h⟩
   cases k0 with
   | zero => cases (show (none : Option (Sum (List Int) (Bool × List Int))) = some _ from h)
   | succ k0 =>
    rw [impl_Colouring_cliques_on_firstOf_c1_l0] at h
    refine ACode_seq ?_
    refine kR ?_
    refine kM 2 rfl ?_
    refine AOps_q 28 _ rfl rfl rfl (QOp_nilCheck_pv _ _ _ rfl rfl) ?_
    refine AOps_q 29 _ rfl rfl rfl (QOp_fieldAddr_pv _ _ _ _ _ 0 _ _ rfl Tryz.underlying26 rfl _ Tryz.sizeOf2 rfl rfl) ?_
    refine AOps_q 30 _ rfl rfl rfl (QOp_load_pv _ _ _ _ _ rfl Tryz.isAgg2 rfl rfl) ?_
    refine AOps_q 31 _ rfl rfl rfl (QOp_lss _ _ _ _ _ _ _ rfl rfl rfl) ?_
    refine AOps_nil ?_
    refine kI h rfl (fun h _ => ?_) (fun h _ => ?_)
    ·refine ACode_skip ?_
     refine kO (fun s20 => [(0, .d (.pv (colD p0) 0)), (1, iV p1), (2, .d (.sl none (intsD p2))), (3, .clo 99 [.d (.pv ([iD p3_0]) 0), .ptr 0 0]), (10, iV x6)]) (fun s20 => [.box [.sl none (intsD s20)]]) h (fun os20 h hks20 => ?_) (fun s20 h => ?_)
     ·refine ACode_block ?_
      refine kB (fun s18 => [(0, .d (.pv (colD p0) 0)), (1, iV p1), (2, .d (.sl none (intsD p2))), (3, .clo 99 [.d (.pv ([iD p3_0]) 0), .ptr 0 0]), (10, iV x6), (50, bV s18.1)]) (fun s18 => [.box [.sl none (intsD s18.2)]]) h (fun s18 h => ?_) (fun s18 h => ?_)
      ·refine (ACode_region ?_)
       refine kM 4 rfl ?_
       obtain ⟨r9, hr9, h⟩ := bindO h
       refine kC [] 38 (bV r9) [.box [.sl none (intsD x7)]] rfl Tryz.call104 rfl rfl (impl_Colouring_goesWith_ac k p0 p1 p2 x6 _ hr9) rfl ?_
       refine kM 1 rfl ?_
       refine AOps_case 39 _ rfl (fun hb10 => ?_) (fun hb10 => ?_)
       ·have h := iteT hb10 h
        refine kM 3 rfl ?_
        refine bsplit (p2.isEmpty) (fun hb11 => ?_) (fun hb11 => ?_)
        ·have h := iteT hb11 h
         refine kC [] 43 (.d (.se none)) [.box [.sl none (intsD x7)]] rfl Tryz.call38 rfl rfl (cloneB_ac p2 hb11) rfl ?_
         refine kM 1 rfl ?_
         refine AOps_buildSlice 45 _ _ _ [_] (intsD ([x6])) _ rfl rfl rfl rfl rfl (by decide) Tryz.underlying27 Tryz.sizeOf2 (zero_of Tryz.typeInfo2 rfl) rfl rfl (intsD_one _) ?_
         obtain ⟨hc13, h⟩ := guardO h
         refine AOps_append0 46 _ _ _ _ _ _ _ _ _ _ rfl rfl rfl rfl rfl rfl rfl Tryz.underlying27 Tryz.type2 rfl rfl rfl (by decide) rfl rfl rfl (intsD_one _) (by rw [intsD_length]; exact hc13.1) (by rw [intsD_length]; exact hc13.2) ?_
         refine kM 1 rfl ?_
         refine AOps_freezeL [46] 2 0 _ (allc (rfl) (fun _ h => nomatch h)) rfl ?_
         obtain ⟨r14, hr14, h⟩ := bindO h
         refine kC [0] 48 (bV r14.1) [.box [.sl none (intsD r14.2)], .vec 0 (intsD ([x6])), .gone] rfl Tryz.call98 rfl rfl (hself p0 p1 ([x6]) p3_0 x7 _ hr14) rfl ?_
         refine AOps_q 49 _ rfl rfl rfl (QOp_not _ _ _ rfl rfl) ?_
         refine kN 1 rfl ?_
         cases h
         exact Weak_keep 1 hm [0, 1, 2, 3, 10, 50] [] _ _ rfl rfl rfl
        have h := iteF hb11 h
        obtain ⟨r15, hr15, h⟩ := bindO h
        refine kC [] 43 (.vec 1 0) [.box [.sl none (intsD x7)], .vec 0 (intsD r15)] rfl Tryz.call38 rfl rfl (cloneA_ac p2 _ hb11 hr15) rfl ?_
        refine kM 1 rfl ?_
        refine AOps_buildSlice 45 _ _ _ [_] (intsD ([x6])) _ rfl rfl rfl rfl rfl (by decide) Tryz.underlying27 Tryz.sizeOf2 (zero_of Tryz.typeInfo2 rfl) rfl rfl (intsD_one _) ?_
        obtain ⟨hc16, h⟩ := guardO h
        refine AOps_append 46 _ _ _ _ _ _ _ _ _ _ _ _ rfl rfl rfl rfl rfl rfl rfl Tryz.underlying27 Tryz.type2 rfl rfl rfl (by decide) rfl rfl rfl rfl (intsD_one _) (by rw [intsD_length, intsD_length]; exact hc16) ?_
        rw [intsD_app]
        refine kM 1 rfl ?_
        refine AOps_freezeL [46] 1 1 _ (allc (rfl) (fun _ h => nomatch h)) rfl ?_
        obtain ⟨r17, hr17, h⟩ := bindO h
        refine kC [0] 48 (bV r17.1) [.box [.sl none (intsD r17.2)], .gone, .vec 0 (intsD ([x6]))] rfl Tryz.call98 rfl rfl (hself p0 p1 (r15 ++ ([x6])) p3_0 x7 _ hr17) rfl ?_
        refine AOps_q 49 _ rfl rfl rfl (QOp_not _ _ _ rfl rfl) ?_
        refine kN 1 rfl ?_
        cases h
        exact Weak_keep 1 hm [0, 1, 2, 3, 10, 50] [] _ _ rfl rfl rfl
       have h := iteF hb10 h
       refine AOps_skip 40 rfl rfl rfl ?_
       refine AOps_skip 41 rfl rfl rfl ?_
       refine AOps_skip 42 rfl rfl rfl ?_
       refine AOps_skip 43 rfl rfl rfl ?_
       refine AOps_skip 44 rfl rfl rfl ?_
       refine AOps_skip 45 rfl rfl rfl ?_
       refine AOps_skip 46 rfl rfl rfl ?_
       refine AOps_skip 47 rfl rfl rfl ?_
       refine AOps_skip 48 rfl rfl rfl ?_
       refine AOps_skip 49 rfl rfl rfl ?_
       refine kN 1 rfl ?_
       cases h
       exact Weak_keep 1 hm [0, 1, 2, 3, 10, 50] [] _ _ rfl rfl rfl
      refine kI h rfl (fun h _ => ?_) (fun h _ => ?_)
      ·refine kR ?_
       refine kN 1 rfl ?_
       refine ACode_ret ?_
       obtain ⟨rr, hz22, h2⟩ := bindO h
       obtain rfl := Option.some.inj h2
       obtain rfl := Option.some.inj (show some rr = some _ from hks20)
       have h := hz22
       cases h
       have h := hks21
       cases h
       exact ⟨_, _, fun r a w h => ⟨r, h⟩, _, _, [], _, (.cons (ResV_tmp _ _ rfl) .nil), rfl, rfl, rfl, rfl, rfl⟩
      refine ACode_skip ?_
      cases h
      exact ⟨_, rfl, Weak_keep 1 hm [0, 1, 2, 3, 10] [] _ _ rfl rfl rfl⟩
     refine (ACode_region ?_)
     refine kM 1 rfl ?_
     refine AOps_q 33 _ rfl rfl rfl (QOp_add _ _ _ _ _ _ _ rfl rfl rfl) ?_
     refine kN 1 rfl ?_
     exact ⟨k0, _, _, Nat.lt_succ_self _, Weak_keep 1 hm [0, 1, 2, 3, 10] [] _ _ rfl rfl rfl, _, _, rfl, rfl, h⟩
    refine ACode_exit ?_
    cases h
    exact ⟨_, rfl, Weak_keep 1 hm [] [] _ _ rfl rfl rfl⟩
  refine kR ?_
  refine kN 1 rfl ?_
  refine ACode_ret ?_
  cases h
  exact ⟨_, _, fun r a w h => ⟨r, h⟩, _, _, [], _, (.cons (ResV_tmp _ _ rfl) .nil), rfl, rfl, rfl, rfl, rfl⟩

-- (*loop.example/g01362/impl.Colouring).firstOf
def impl_Colouring_firstOf (k : Nat) (p0 : Col) (p1 : Int) (p2 : Int) : Option (List Int × Bool) :=
 (impl_Colouring_cliques_on_firstOf_c1 k p0 p1 ([]) p2 ([] : List Int)).bind fun r1 => some (r1.2, !r1.1)
set_option maxRecDepth 100000 in
theorem impl_Colouring_firstOf_ac (k : Nat) (p0 : Col) (p1 : Int) (p2 : Int) (r : List Int × Bool) (h : impl_Colouring_firstOf k p0 p1 p2 = some r) : AC Tryz.prog 70 [.d (.pv (colD p0) 0), iV p1, iV p2] [] (fun res H' => res = [.d (.sl none (intsD r.1)), bV r.2] ∧ H' = []) := by
 refine AC_of_body true Tryz.func70 rfl Tryz.ntmps70 (rvs := [.tmp 6, .tmp 7]) rfl rfl (fun G hG => ?_)
 have hm : G.H.length = 0 := by rw [hG]; rfl
 have hz : zeroG G.H = true := by rw [hG]; rfl
 unfold impl_Colouring_firstOf at h
 refine kR ?_
 refine AOps_boxI 5 _ _ (iD p2) _ rfl (fun c hc => by cases hc with | head => rfl | tail _ h => cases h) rfl rfl rfl rfl rfl ?_
 refine kN 2 rfl ?_
 refine kR ?_
 refine AOps_buildSlice 10 _ _ _ [] (intsD ([] : List Int)) _ rfl rfl rfl rfl rfl (by decide) Tryz.underlying27 Tryz.sizeOf2 (zero_of Tryz.typeInfo2 rfl) rfl rfl (intsD_one _) ?_
 refine AOps_alloc 8 _ _ ([.sl (some true) []]) (zero_of Tryz.typeInfo27 rfl) (by rfl) rfl rfl rfl rfl ?_
 refine AOps_freeze 10 0 0 _ rfl rfl ?_
 refine AOps_store1 _ _ _ _ _ _ _ _ rfl rfl rfl rfl rfl rfl rfl Tryz.sizeOf27 (Nat.le_of_ble_eq_true rfl) rfl ?_
 refine AOps_nil ?_
 refine kR ?_
 refine kM 2 rfl ?_
 refine AOps_q 13 _ rfl rfl rfl (QOp_makeFunc _ _ _ rfl rfl) ?_
 obtain ⟨r1, hr1, h⟩ := bindO h
 refine kC [1] 14 (bV r1.1) [.gone, .box [.sl none (intsD r1.2)]] rfl Tryz.call98 rfl rfl (impl_Colouring_cliques_on_firstOf_c1_ac k p0 p1 ([]) p2 ([] : List Int) _ hr1) rfl ?_
 refine kN 1 rfl ?_
 refine kR ?_
 refine AOps_q 15 _ rfl rfl rfl (QOp_load_ptr _ _ _ _ _ _ rfl Tryz.isAgg27 rfl rfl rfl) ?_
 refine kM 1 rfl ?_
 refine AOps_q 17 _ rfl rfl rfl (QOp_not _ _ _ rfl rfl) ?_
 refine kN 2 rfl ?_
 refine ACode_ret ?_
 cases h
 exact ⟨_, _, fun r a w h => ⟨r, h⟩, _, _, [], _, (.cons (ResV_tmp _ _ rfl) (.cons (ResV_tmp _ _ rfl) .nil)), rfl, rfl, rfl, rfl, rfl⟩

-- (*loop.example/g01362/impl.Colouring).avoids
def impl_Colouring_avoids_l0 (k : Nat) (p0 : Col) (p1 : List Int) : Nat → Int → Option (Sum (Unit) (Bool))
 | 0, _ => none
 | k0 + 1, x1 => (if decide (x1 < (p1.length : Int)) then (if 0 ≤ x1 ∧ x1 < (p1.length : Int) then (impl_Colouring_firstOf k p0 x1 (p1.getD x1.toNat 0)).bind fun r4 => (if r4.2 then some (.inr false) else impl_Colouring_avoids_l0 k p0 p1 k0 (w64 (x1 + 1))) else none) else some (.inl ()))
def impl_Colouring_avoids (k : Nat) (p0 : Col) (p1 : List Int) : Option (Bool) :=
 (impl_Colouring_avoids_l0 k p0 p1 k 0 : Option (Sum (Unit) (Bool))).bind fun os6 => (match os6 with | .inl s6 => some true | .inr rr => some rr)
set_option maxRecDepth 100000 in
theorem impl_Colouring_avoids_ac (k : Nat) (p0 : Col) (p1 : List Int) (r : Bool) (h : impl_Colouring_avoids k p0 p1 = some r) : AC Tryz.prog 40 [.d (.pv (colD p0) 0), .d (.sl none (intsD p1))] [] (fun res H' => res = [bV r] ∧ H' = []) := by
 refine AC_of_body true Tryz.func40 rfl Tryz.ntmps40 (rvs := [.tmp 4]) rfl rfl (fun G hG => ?_)
 have hm : G.H.length = 0 := by rw [hG]; rfl
 have hz : zeroG G.H = true := by rw [hG]; rfl
 unfold impl_Colouring_avoids at h
 refine kR ?_
 refine kN 1 rfl ?_
 refine kO (fun s6 => []) (fun s6 => []) h (fun os6 h hks6 => ?_) (fun s6 h => ?_)
 ·refine kR ?_
  refine kM 1 rfl ?_
  refine AOps_q 10 _ rfl rfl rfl (QOp_len_sl _ _ _ _ _ _ _ (intsD_length _) rfl rfl rfl rfl Tryz.underlying27 rfl) ?_
  refine kN 1 rfl ?_
  refine ACode_block ?_
  refine ACode_loopW (fun k0 E H => ∃ (x1 : Int), E = [(0, .d (.pv (colD p0) 0)), (9, .d (.sl none (intsD p1))), (10, iV (p1.length : Int)), (11, iV x1)] ∧ H = [] ∧ impl_Colouring_avoids_l0 k p0 p1 k0 x1 = some os6) k _ _ (Weak_keep 0 hm [0, 9, 10, 11] [] _ _ rfl rfl rfl) ⟨_, rfl, rfl, h⟩ ?_
  clear h
  rintro k0 E H ⟨x1, rfl, rfl, h⟩
  cases k0 with
  | zero => cases (show (none : Option (Sum (Unit) (Bool))) = some _ from h)
  | succ k0 =>
   rw [impl_Colouring_avoids_l0] at h
   refine kR ?_
   refine AOps_q 12 _ rfl rfl rfl (QOp_lss _ _ _ _ _ _ _ rfl rfl rfl) ?_
   refine AOps_nil ?_
   refine ACode_seq ?_
   refine kI h rfl (fun h _ => ?_) (fun h _ => ?_)
   ·refine ACode_skip ?_
    refine ACode_seq ?_
    refine ACode_block ?_
    refine kR ?_
    refine kM 1 rfl ?_
    obtain ⟨hc3, h⟩ := guardO h
    refine AOps_q 14 _ rfl rfl rfl (QOp_indexAddr_sl _ _ _ _ _ _ _ _ rfl Tryz.underlying27 Tryz.sizeOf2 hc3.1 (by rw [intsD_length]; exact hc3.2) rfl rfl) ?_
    refine AOps_q 15 _ rfl rfl rfl (QOp_load_pv _ _ _ _ _ rfl Tryz.isAgg2 rfl (intsD_get _ _ 0 (by omega))) ?_
    refine kN 2 rfl ?_
    refine kR ?_
    refine kM 3 rfl ?_
    obtain ⟨r4, hr4, h⟩ := bindO h
    refine kC [] 20 (.tup [.d (.sl none (intsD r4.1)), bV r4.2]) [] rfl Tryz.call70 rfl rfl (impl_Colouring_firstOf_ac k p0 x1 (p1.getD x1.toNat 0) _ hr4) rfl ?_
    refine kN 5 rfl ?_
    refine kR ?_
    refine kN 1 rfl ?_
    refine kI h rfl (fun h _ => ?_) (fun h _ => ?_)
    ·refine kR ?_
     refine kN 1 rfl ?_
     refine ACode_ret ?_
     cases h
     have h := hks6
     cases h
     exact ⟨_, _, fun r a w h => ⟨r, h⟩, _, _, [], _, (.cons (ResV_tmp _ _ rfl) .nil), rfl, rfl, rfl, rfl, rfl⟩
    refine ACode_skip ?_
    refine (ACode_region ?_)
    refine AOps_q 24 _ rfl rfl rfl (QOp_add _ _ _ _ _ _ _ rfl rfl rfl) ?_
    refine kN 1 rfl ?_
    exact ⟨k0, _, _, Nat.lt_succ_self _, Weak_keep 0 hm [0, 9, 10, 11] [] _ _ rfl rfl rfl, _, rfl, rfl, h⟩
   refine ACode_exit ?_
   cases h
   exact ⟨_, rfl, Weak_keep 0 hm [] [] _ _ rfl rfl rfl⟩
 refine kR ?_
 refine kN 1 rfl ?_
 refine ACode_ret ?_
 cases h
 exact ⟨_, _, fun r a w h => ⟨r, h⟩, _, _, [], _, (.cons (ResV_tmp _ _ rfl) .nil), rfl, rfl, rfl, rfl, rfl⟩

-- (*loop.example/g01362/impl.Colouring).extendingCode
def impl_Colouring_extendingCode (k : Nat) (p0 : Col) (p1 : List Int) (p2 : Option (Bool)) (p3 : Int) : Option (Int) :=
 (impl_Colouring_sizesCode k p0 p1 p2).bind fun r1 => (if !decide (r1 = 0) then some r1 else (impl_Colouring_avoids k p0 p1).bind fun r3 => (if !r3 then some 5 else (if decide (p3 < p0.p) then some 3 else some 0)))
set_option maxRecDepth 100000 in
theorem impl_Colouring_extendingCode_ac (k : Nat) (p0 : Col) (p1 : List Int) (p2 : Option (Bool)) (p3 : Int) (g_p2 : FuncId) (c_p2 : List D) (hg_p2 : ∀ args w, (callFunc g_p2 args).run Tryz.prog w = .ok (.enter g_p2 args) w) (hf_p2 : ∀ (r : Bool), p2 = some r → AC Tryz.prog g_p2 ([] ++ c_p2.map AV.d) [] (fun res H' => res = [bV r] ∧ H' = [])) (r : Int) (h : impl_Colouring_extendingCode k p0 p1 p2 p3 = some r) : AC Tryz.prog 28 [.d (.pv (colD p0) 0), .d (.sl none (intsD p1)), .d (.clo g_p2 c_p2), iV p3] [] (fun res H' => res = [iV r] ∧ H' = []) := by
 refine AC_of_body true Tryz.func28 rfl Tryz.ntmps28 (rvs := [.tmp 8]) rfl rfl (fun G hG => ?_)
 have hm : G.H.length = 0 := by rw [hG]; rfl
 have hz : zeroG G.H = true := by rw [hG]; rfl
 unfold impl_Colouring_extendingCode at h
 refine kR ?_
 refine kN 1 rfl ?_
 refine kR ?_
 refine kM 3 rfl ?_
 obtain ⟨r1, hr1, h⟩ := bindO h
 refine kC [] 13 (iV r1) [] rfl Tryz.call39 rfl rfl (impl_Colouring_sizesCode_ac k p0 p1 p2 g_p2 c_p2 hg_p2 hf_p2 _ hr1) rfl ?_
 refine kN 1 rfl ?_
 refine ACode_seq ?_
 refine ACode_block ?_
 refine kR ?_
 refine kM 1 rfl ?_
 refine AOps_q 16 _ rfl rfl rfl (QOp_neq _ _ _ _ _ _ _ rfl rfl rfl) ?_
 refine kN 1 rfl ?_
 refine kI h rfl (fun h _ => ?_) (fun h _ => ?_)
 ·refine kR ?_
  refine kN 2 rfl ?_
  refine ACode_ret ?_
  cases h
  exact ⟨_, _, fun r a w h => ⟨r, h⟩, _, _, [], _, (.cons (ResV_tmp _ _ rfl) .nil), rfl, rfl, rfl, rfl, rfl⟩
 refine kR ?_
 refine kM 2 rfl ?_
 obtain ⟨r3, hr3, h⟩ := bindO h
 refine kC [] 21 (bV r3) [] rfl Tryz.call40 rfl rfl (impl_Colouring_avoids_ac k p0 p1 _ hr3) rfl ?_
 refine AOps_q 22 _ rfl rfl rfl (QOp_not _ _ _ rfl rfl) ?_
 refine kN 1 rfl ?_
 refine kI h rfl (fun h _ => ?_) (fun h _ => ?_)
 ·refine kR ?_
  refine kN 1 rfl ?_
  refine ACode_ret ?_
  cases h
  exact ⟨_, _, fun r a w h => ⟨r, h⟩, _, _, [], _, (.cons (ResV_tmp _ _ rfl) .nil), rfl, rfl, rfl, rfl, rfl⟩
 refine kR ?_
 refine kM 1 rfl ?_
 refine AOps_q 25 _ rfl rfl rfl (QOp_nilCheck_pv _ _ _ rfl rfl) ?_
 refine AOps_q 26 _ rfl rfl rfl (QOp_fieldAddr_pv _ _ _ _ _ 0 _ _ rfl Tryz.underlying26 rfl _ Tryz.sizeOf2 rfl rfl) ?_
 refine AOps_q 27 _ rfl rfl rfl (QOp_load_pv _ _ _ _ _ rfl Tryz.isAgg2 rfl rfl) ?_
 refine kM 1 rfl ?_
 refine AOps_q 29 _ rfl rfl rfl (QOp_gtr _ _ _ _ _ _ _ rfl rfl rfl) ?_
 refine kN 1 rfl ?_
 refine kI h rfl (fun h _ => ?_) (fun h _ => ?_)
 ·refine kR ?_
  refine kN 1 rfl ?_
  refine ACode_ret ?_
  cases h
  exact ⟨_, _, fun r a w h => ⟨r, h⟩, _, _, [], _, (.cons (ResV_tmp _ _ rfl) .nil), rfl, rfl, rfl, rfl, rfl⟩
 refine ACode_skip ?_
 refine kR ?_
 refine kN 1 rfl ?_
 refine ACode_ret ?_
 cases h
 exact ⟨_, _, fun r a w h => ⟨r, h⟩, _, _, [], _, (.cons (ResV_tmp _ _ rfl) .nil), rfl, rfl, rfl, rfl, rfl⟩

-- loop.example/g01362/impl.always
def impl_always : Bool :=
 true
set_option maxRecDepth 100000 in
theorem impl_always_ac : AC Tryz.prog 29 [] [] (fun res H' => res = [bV (impl_always)] ∧ H' = []) := by
 refine AC_of_body true Tryz.func29 rfl Tryz.ntmps29 (rvs := [.tmp 0]) rfl rfl (fun G hG => ?_)
 have hm : G.H.length = 0 := by rw [hG]; rfl
 have hz : zeroG G.H = true := by rw [hG]; rfl
 obtain ⟨r, h⟩ : ∃ r, impl_always = r := ⟨_, rfl⟩
 rw [h]
 unfold impl_always at h
 refine kR ?_
 refine kN 1 rfl ?_
 refine kR ?_
 refine kN 1 rfl ?_
 refine ACode_ret ?_
 cases h
 exact ⟨_, _, fun r a w h => ⟨r, h⟩, _, _, [], _, (.cons (ResV_tmp _ _ rfl) .nil), rfl, rfl, rfl, rfl, rfl⟩

-- loop.example/g01362/impl.ExtensionsByDegree$1
def impl_ExtensionsByDegree_c1_l0 (p0 : List Int) (p0n : Nat) : Nat → Int → Int → Option (Int)
 | 0, _, _ => none
 | k0 + 1, x1, x2 => (if decide (x2 < ((p0n : Nat) : Int)) then ((if 0 ≤ x2 ∧ x2 < ((p0n : Nat) : Int) ∧ 0 + p0n ≤ p0.length then (if decide ((p0.getD (0 + x2.toNat) 0) = 0) then some (w64 (x1 + 1)) else some x1) else none) : Option (Int)).bind fun s6 => impl_ExtensionsByDegree_c1_l0 p0 p0n k0 s6 (w64 (x2 + 1)) else some x1)
def impl_ExtensionsByDegree_c1 (k : Nat) (p0 : List Int) (p0n : Nat) (p1 : List Int) : Option (Bool × List Int × List Int) :=
 (impl_ExtensionsByDegree_c1_l0 p0 p0n k 0 0 : Option (Int)).bind fun s7 => (if 0 ≤ s7 ∧ s7 < (p1.length : Int) then (if 0 ≤ s7 ∧ s7 < (p1.length : Int) then some (true, p0, p1.set s7.toNat (w64 ((p1.getD s7.toNat 0) + 1))) else none) else none)
set_option maxRecDepth 100000 in
theorem impl_ExtensionsByDegree_c1_ac (k : Nat) (p0 : List Int) (p0n : Nat) (p1 : List Int) (r : Bool × List Int × List Int) (h : impl_ExtensionsByDegree_c1 k p0 p0n p1 = some r) : AC Tryz.prog 31 [.part 0 0 0 p0n, .ptr 1 0] [.vec 0 (intsD p0), .ref (.vec 2 0), .vec 0 (intsD p1)] (fun res H' => res = [bV r.1] ∧ H' = [.vec 0 (intsD r.2.1), .ref (.vec 2 1), .vec 1 (intsD r.2.2)]) := by
 refine AC_of_body true Tryz.func31 rfl Tryz.ntmps31 (rvs := [.tmp 3]) rfl rfl (fun G hG => ?_)
 have hm : G.H.length = 3 := by rw [hG]; rfl
 have hz : zeroG G.H = true := by rw [hG]; rfl
 refine ACode_weak (Weak_bump 1 2 _ rfl rfl _ rfl) ?_
 unfold impl_ExtensionsByDegree_c1 at h
 refine kR ?_
 refine kN 1 rfl ?_
 refine kR ?_
 refine kN 1 rfl ?_
 refine kB (fun s7 => [(1, .ptr 1 0), (4, iV s7)]) (fun s7 => [.vec 0 (intsD p0), .ref (.vec 2 1), .vec 1 (intsD p1)]) h (fun s7 h => ?_) (fun s7 h => ?_)
 ·refine kR ?_
  refine kM 1 rfl ?_
  refine AOps_q 8 _ rfl rfl rfl (QOp_len_part _ _ _ _ _ _ _ _ _ _ rfl rfl rfl rfl Tryz.underlying27 rfl rfl rfl) ?_
  refine kN 1 rfl ?_
  refine ACode_block ?_
  refine ACode_loopW (fun k0 E H => ∃ (x1 : Int) (x2 : Int), E = [(1, .ptr 1 0), (4, iV x1), (7, .part 0 0 0 p0n), (8, iV ((p0n : Nat) : Int)), (9, iV x2)] ∧ H = [.vec 0 (intsD p0), .ref (.vec 2 1), .vec 1 (intsD p1)] ∧ impl_ExtensionsByDegree_c1_l0 p0 p0n k0 x1 x2 = some s7) k _ _ (Weak_keep 3 hm [1, 4, 7, 8, 9] [] _ _ rfl rfl rfl) ⟨_, _, rfl, rfl, h⟩ ?_
  clear h
  rintro k0 E H ⟨x1, x2, rfl, rfl, h⟩
  cases k0 with
  | zero => cases (show (none : Option (Int)) = some _ from h)
  | succ k0 =>
   rw [impl_ExtensionsByDegree_c1_l0] at h
   refine kR ?_
   refine AOps_q 10 _ rfl rfl rfl (QOp_lss _ _ _ _ _ _ _ rfl rfl rfl) ?_
   refine AOps_nil ?_
   refine ACode_seq ?_
   refine kI h rfl (fun h _ => ?_) (fun h _ => ?_)
   ·refine ACode_skip ?_
    refine kB (fun s6 => [(1, .ptr 1 0), (4, iV s6), (7, .part 0 0 0 p0n), (8, iV ((p0n : Nat) : Int)), (9, iV x2)]) (fun s6 => [.vec 0 (intsD p0), .ref (.vec 2 1), .vec 1 (intsD p1)]) h (fun s6 h => ?_) (fun s6 h => ?_)
    ·refine ACode_block ?_
     refine kR ?_
     obtain ⟨hc4, h⟩ := guardO h
     refine AOps_q 11 _ rfl rfl rfl (QOp_indexAddr_part _ _ _ _ _ _ _ _ _ _ _ _ rfl Tryz.underlying27 Tryz.sizeOf2 hc4.1 hc4.2.1 rfl rfl rfl rfl) ?_
     refine AOps_q 12 _ rfl rfl rfl (QOp_load_eptr _ _ _ _ _ _ _ rfl Tryz.isAgg2 rfl rfl (intsD_get _ _ 0 (by omega))) ?_
     refine kN 1 rfl ?_
     refine kR ?_
     refine kM 1 rfl ?_
     refine AOps_q 14 _ rfl rfl rfl (QOp_eql _ _ _ _ _ _ _ rfl rfl rfl) ?_
     refine AOps_nil ?_
     refine kI h rfl (fun h _ => ?_) (fun h _ => ?_)
     ·refine (ACode_region ?_)
      refine kM 1 rfl ?_
      refine AOps_q 16 _ rfl rfl rfl (QOp_add _ _ _ _ _ _ _ rfl rfl rfl) ?_
      refine kN 1 rfl ?_
      cases h
      exact Weak_keep 3 hm [1, 4, 7, 8, 9] [] _ _ rfl rfl rfl
     refine ACode_skip ?_
     cases h
     exact Weak_keep 3 hm [1, 4, 7, 8, 9] [] _ _ rfl rfl rfl
    refine (ACode_region ?_)
    refine AOps_q 17 _ rfl rfl rfl (QOp_add _ _ _ _ _ _ _ rfl rfl rfl) ?_
    refine kN 1 rfl ?_
    exact ⟨k0, _, _, Nat.lt_succ_self _, Weak_keep 3 hm [1, 4, 7, 8, 9] [] _ _ rfl rfl rfl, _, _, rfl, rfl, h⟩
   refine ACode_exit ?_
   cases h
   exact Weak_keep 3 hm [1, 4] [] _ _ rfl rfl rfl
 refine kR ?_
 refine AOps_q 18 _ rfl rfl rfl (QOp_load_ref _ _ _ _ rfl Tryz.isAgg27 rfl rfl) ?_
 refine kM 1 rfl ?_
 obtain ⟨hc8, h⟩ := guardO h
 refine AOps_q 20 _ rfl rfl rfl (QOp_indexAddr_vec _ _ _ _ _ _ _ _ _ rfl Tryz.underlying27 Tryz.sizeOf2 hc8.1 (by rw [intsD_length]; exact hc8.2) rfl rfl rfl) ?_
 refine AOps_q 21 _ rfl rfl rfl (QOp_load_eptr _ _ _ _ _ _ _ rfl Tryz.isAgg2 rfl rfl (intsD_get _ _ 0 (by omega))) ?_
 refine AOps_q 22 _ rfl rfl rfl (QOp_add _ _ _ _ _ _ _ rfl rfl rfl) ?_
 obtain ⟨hc9, h⟩ := guardO h
 refine AOps_q 23 _ rfl rfl rfl (QOp_indexAddr_vec _ _ _ _ _ _ _ _ _ rfl Tryz.underlying27 Tryz.sizeOf2 hc9.1 (by rw [intsD_length]; exact hc9.2) rfl rfl rfl) ?_
 refine AOps_store_eptr _ _ _ _ _ _ (intsD p1) _ rfl rfl rfl rfl rfl rfl rfl Tryz.sizeOf2 (by rw [intsD_length]; omega) ?_
 rw [intsD_set]
 refine AOps_nil ?_
 refine kR ?_
 refine kN 1 rfl ?_
 refine ACode_ret ?_
 cases h
 exact ⟨_, _, fun r a w h => ⟨r, h⟩, _, _, [], _, (.cons (ResV_tmp _ _ rfl) .nil), rfl, rfl, rfl, rfl, rfl⟩

-- (*loop.example/g01362/impl.Colouring).hasClique
def impl_Colouring_hasClique_l1 (p0 : Col) (p1 : Int) (p3 : List Int) (x4 : Int) : Nat → Int → (List Int) → Option (List Int)
 | 0, _, _ => none
 | k1 + 1, x8, x9 => (if decide (x8 < (((p3.take p3.length).drop (w64 (x4 + 1)).toNat).length : Int)) then ((if 0 ≤ x8 ∧ x8 < (((p3.take p3.length).drop (w64 (x4 + 1)).toNat).length : Int) then (impl_Colouring_joins p0 (p3.getD x4.toNat 0) (((p3.take p3.length).drop (w64 (x4 + 1)).toNat).getD x8.toNat 0) p1).bind fun r12 => (if r12 then (if x9.length + ([(((p3.take p3.length).drop (w64 (x4 + 1)).toNat).getD x8.toNat 0)]).length ≤ 1099511627776 then some (x9 ++ ([(((p3.take p3.length).drop (w64 (x4 + 1)).toNat).getD x8.toNat 0)])) else none) else some x9) else none) : Option (List Int)).bind fun s15 => impl_Colouring_hasClique_l1 p0 p1 p3 x4 k1 (w64 (x8 + 1)) s15 else some x9)
def impl_Colouring_hasClique_l0 (k : Nat) (self : Col → Int → Int → (List Int) → Option (Bool)) (p0 : Col) (p1 : Int) (p2 : Int) (p3 : List Int) : Nat → Int → Option (Sum (Unit) (Bool))
 | 0, _ => none
 | k0 + 1, x4 => (if decide (x4 < (p3.length : Int)) then ((if 0 ≤ x4 ∧ x4 < (p3.length : Int) then ((if 0 ≤ w64 (x4 + 1) ∧ w64 (x4 + 1) ≤ (p3.length : Int) ∧ (p3.length : Int) ≤ (p3.length : Int) then impl_Colouring_hasClique_l1 p0 p1 p3 x4 k 0 ([] : List Int) else none) : Option (List Int)).bind fun s16 => (self p0 p1 (w64 (p2 - 1)) s16).bind fun r17 => (if r17 then (some (.inr true)).bind fun rr => some (.inr rr) else some (.inl ())) else none) : Option (Sum (Unit) (Sum (Unit) (Bool)))).bind fun os19 => (match os19 with | .inl s19 => impl_Colouring_hasClique_l0 k self p0 p1 p2 p3 k0 (w64 (x4 + 1)) | .inr rr => some rr) else some (.inl ()))
def impl_Colouring_hasClique_body (self : Col → Int → Int → (List Int) → Option (Bool)) (k : Nat) (p0 : Col) (p1 : Int) (p2 : Int) (p3 : List Int) : Option (Bool) :=
 (if decide (p2 ≤ 0) then some true else (if decide ((impl_size p3) < p2) then some false else (impl_Colouring_hasClique_l0 k self p0 p1 p2 p3 k 0 : Option (Sum (Unit) (Bool))).bind fun os20 => (match os20 with | .inl s20 => some false | .inr rr => some rr)))
def impl_Colouring_hasClique : Nat → Col → Int → Int → (List Int) → Option (Bool)
 | 0, _, _, _, _ => none
 | k + 1, p0, p1, p2, p3 => impl_Colouring_hasClique_body (impl_Colouring_hasClique k) k p0 p1 p2 p3
set_option maxRecDepth 100000 in
theorem impl_Colouring_hasClique_ac (k : Nat) (p0 : Col) (p1 : Int) (p2 : Int) (p3 : List Int) (r : Bool) (h : impl_Colouring_hasClique k p0 p1 p2 p3 = some r) : AC Tryz.prog 95 [.d (.pv (colD p0) 0), iV p1, iV p2, .d (.sl none (intsD p3))] [] (fun res H' => res = [bV r] ∧ H' = []) := by
 induction k generalizing p0 p1 p2 p3 r with
 | zero => simp [impl_Colouring_hasClique] at h
 | succ k ih =>
  rw [impl_Colouring_hasClique] at h
  obtain ⟨self, hself, hk⟩ : ∃ self : Col → Int → Int → (List Int) → Option (Bool), (∀ (p0 : Col) (p1 : Int) (p2 : Int) (p3 : List Int) (r : Bool), self p0 p1 p2 p3 = some r → AC Tryz.prog 95 [.d (.pv (colD p0) 0), iV p1, iV p2, .d (.sl none (intsD p3))] [] (fun res H' => res = [bV r] ∧ H' = [])) ∧ impl_Colouring_hasClique k = self := ⟨impl_Colouring_hasClique k, fun p0 p1 p2 p3 r h => ih p0 p1 p2 p3 r h, rfl⟩
  rw [hk] at h
  clear ih hk
  refine AC_of_body true Tryz.func95 rfl Tryz.ntmps95 (rvs := [.tmp 8]) rfl rfl (fun G hG => ?_)
  have hm : G.H.length = 0 := by rw [hG]; rfl
  have hz : zeroG G.H = true := by rw [hG]; rfl
  unfold impl_Colouring_hasClique_body at h
  refine kR ?_
  refine kN 1 rfl ?_
  refine ACode_seq ?_
  refine kR ?_
  refine kM 1 rfl ?_
  refine AOps_q 15 _ rfl rfl rfl (QOp_leq _ _ _ _ _ _ _ rfl rfl rfl) ?_
  refine AOps_nil ?_
  refine kI h rfl (fun h _ => ?_) (fun h _ => ?_)
  ·refine kR ?_
   refine kN 1 rfl ?_
   refine ACode_ret ?_
   cases h
   exact ⟨_, _, fun r a w h => ⟨r, h⟩, _, _, [], _, (.cons (ResV_tmp _ _ rfl) .nil), rfl, rfl, rfl, rfl, rfl⟩
  refine ACode_skip ?_
  refine ACode_seq ?_
  refine kR ?_
  refine kM 1 rfl ?_
  refine kC [] 17 (iV (impl_size p3)) [] rfl Tryz.call74 rfl rfl (impl_size_ac p3) rfl ?_
  refine kM 1 rfl ?_
  refine AOps_q 19 _ rfl rfl rfl (QOp_lss _ _ _ _ _ _ _ rfl rfl rfl) ?_
  refine AOps_nil ?_
  refine kI h rfl (fun h _ => ?_) (fun h _ => ?_)
  ·refine kR ?_
   refine kN 1 rfl ?_
   refine ACode_ret ?_
   cases h
   exact ⟨_, _, fun r a w h => ⟨r, h⟩, _, _, [], _, (.cons (ResV_tmp _ _ rfl) .nil), rfl, rfl, rfl, rfl, rfl⟩
  refine ACode_skip ?_
  refine kO (fun s20 => []) (fun s20 => []) h (fun os20 h hks20 => ?_) (fun s20 h => ?_)
  ·refine kR ?_
   refine kM 1 rfl ?_
   refine AOps_q 21 _ rfl rfl rfl (QOp_len_sl _ _ _ _ _ _ _ (intsD_length _) rfl rfl rfl rfl Tryz.underlying27 rfl) ?_
   refine kN 1 rfl ?_
   refine ACode_block ?_
   refine ACode_loopW (fun k0 E H => ∃ (x4 : Int), E = [(0, .d (.pv (colD p0) 0)), (1, iV p1), (2, iV p2), (3, .d (.sl none (intsD p3))), (20, .d (.sl none (intsD p3))), (21, iV (p3.length : Int)), (22, iV x4)] ∧ H = [] ∧ impl_Colouring_hasClique_l0 k self p0 p1 p2 p3 k0 x4 = some os20) k _ _ (Weak_keep 0 hm [0, 1, 2, 3, 20, 21, 22] [] _ _ rfl rfl rfl) ⟨_, rfl, rfl, h⟩ ?_
   clear h
   rintro k0 E H ⟨x4, rfl, rfl, h⟩
   cases k0 with
   | zero => cases (show (none : Option (Sum (Unit) (Bool))) = some _ from h)
   | succ k0 =>
    rw [impl_Colouring_hasClique_l0] at h
    refine kR ?_
    refine AOps_q 23 _ rfl rfl rfl (QOp_lss _ _ _ _ _ _ _ rfl rfl rfl) ?_
    refine AOps_nil ?_
    refine ACode_seq ?_
    refine kI h rfl (fun h _ => ?_) (fun h _ => ?_)
    ·refine ACode_skip ?_
     refine kO (fun s19 => [(0, .d (.pv (colD p0) 0)), (1, iV p1), (2, iV p2), (3, .d (.sl none (intsD p3))), (20, .d (.sl none (intsD p3))), (21, iV (p3.length : Int)), (22, iV x4)]) (fun s19 => []) h (fun os19 h hks19 => ?_) (fun s19 h => ?_)
     ·refine ACode_block ?_
      refine kR ?_
      refine kM 1 rfl ?_
      obtain ⟨hc6, h⟩ := guardO h
      refine AOps_q 25 _ rfl rfl rfl (QOp_indexAddr_sl _ _ _ _ _ _ _ _ rfl Tryz.underlying27 Tryz.sizeOf2 hc6.1 (by rw [intsD_length]; exact hc6.2) rfl rfl) ?_
      refine AOps_q 26 _ rfl rfl rfl (QOp_load_pv _ _ _ _ _ rfl Tryz.isAgg2 rfl (intsD_get _ _ 0 (by omega))) ?_
      refine kN 2 rfl ?_
      refine kR ?_
      refine AOps_buildSlice 27 _ _ _ [] (intsD ([] : List Int)) _ rfl rfl rfl rfl rfl (by decide) Tryz.underlying27 Tryz.sizeOf2 (zero_of Tryz.typeInfo2 rfl) rfl rfl (intsD_one _) ?_
      refine kN 1 rfl ?_
      refine kB (fun s16 => [(0, .d (.pv (colD p0) 0)), (1, iV p1), (2, iV p2), (3, .d (.sl none (intsD p3))), (11, .vec 0 0), (20, .d (.sl none (intsD p3))), (21, iV (p3.length : Int)), (22, iV x4)]) (fun s16 => [.vec 0 (intsD s16)]) h (fun s16 h => ?_) (fun s16 h => ?_)
      ·refine kR ?_
       refine kM 2 rfl ?_
       refine AOps_q 30 _ rfl rfl rfl (QOp_add _ _ _ _ _ _ _ rfl rfl rfl) ?_
       obtain ⟨hc7, h⟩ := guardO h
       refine AOps_q 31 _ rfl rfl rfl (QOp_slice_sl _ _ _ _ _ _ _ _ ((w64 (x4 + 1)).toNat) (p3.length) rfl Tryz.underlying27 Tryz.sizeOf2 rfl ⟨_, by rw [Int.toNat_of_nonneg (by omega)]; rfl⟩ (by rw [intsD_length]) (by omega) (by rw [intsD_length]; omega) (intsD_part _ _ _)) ?_
       refine AOps_q 32 _ rfl rfl rfl (QOp_len_sl _ _ _ _ _ _ _ (intsD_length _) rfl rfl rfl rfl Tryz.underlying27 rfl) ?_
       refine kN 1 rfl ?_
       refine ACode_block ?_
       refine ACode_loopW (fun k1 E H => ∃ (x8 : Int) (x9 : List Int), E = [(0, .d (.pv (colD p0) 0)), (1, iV p1), (2, iV p2), (3, .d (.sl none (intsD p3))), (10, iV (p3.getD x4.toNat 0)), (11, .vec 0 0), (20, .d (.sl none (intsD p3))), (21, iV (p3.length : Int)), (22, iV x4), (31, .d (.sl none (intsD ((p3.take p3.length).drop (w64 (x4 + 1)).toNat)))), (32, iV (((p3.take p3.length).drop (w64 (x4 + 1)).toNat).length : Int)), (33, iV x8)] ∧ H = [.vec 0 (intsD x9)] ∧ impl_Colouring_hasClique_l1 p0 p1 p3 x4 k1 x8 x9 = some s16) k _ _ (Weak_keep 0 hm [0, 1, 2, 3, 10, 11, 20, 21, 22, 31, 32, 33] [0] _ _ rfl rfl rfl) ⟨_, _, rfl, rfl, h⟩ ?_
       clear h
       rintro k1 E H ⟨x8, x9, rfl, rfl, h⟩
       cases k1 with
       | zero => cases (show (none : Option (List Int)) = some _ from h)
       | succ k1 =>
        rw [impl_Colouring_hasClique_l1] at h
        refine kR ?_
        refine AOps_q 34 _ rfl rfl rfl (QOp_lss _ _ _ _ _ _ _ rfl rfl rfl) ?_
        refine AOps_nil ?_
        refine ACode_seq ?_
        refine kI h rfl (fun h _ => ?_) (fun h _ => ?_)
        ·refine ACode_skip ?_
         refine kB (fun s15 => [(0, .d (.pv (colD p0) 0)), (1, iV p1), (2, iV p2), (3, .d (.sl none (intsD p3))), (10, iV (p3.getD x4.toNat 0)), (11, .vec 0 0), (20, .d (.sl none (intsD p3))), (21, iV (p3.length : Int)), (22, iV x4), (31, .d (.sl none (intsD ((p3.take p3.length).drop (w64 (x4 + 1)).toNat)))), (32, iV (((p3.take p3.length).drop (w64 (x4 + 1)).toNat).length : Int)), (33, iV x8)]) (fun s15 => [.vec 0 (intsD s15)]) h (fun s15 h => ?_) (fun s15 h => ?_)
         ·refine ACode_block ?_
          refine kR ?_
          obtain ⟨hc11, h⟩ := guardO h
          refine AOps_q 35 _ rfl rfl rfl (QOp_indexAddr_sl _ _ _ _ _ _ _ _ rfl Tryz.underlying27 Tryz.sizeOf2 hc11.1 (by rw [intsD_length]; exact hc11.2) rfl rfl) ?_
          refine AOps_q 36 _ rfl rfl rfl (QOp_load_pv _ _ _ _ _ rfl Tryz.isAgg2 rfl (intsD_get _ _ 0 (by omega))) ?_
          refine kN 1 rfl ?_
          refine kR ?_
          refine kM 4 rfl ?_
          obtain ⟨r12, hr12, h⟩ := bindO h
          refine kC [] 41 (bV r12) [.vec 0 (intsD x9)] rfl Tryz.call94 rfl rfl (impl_Colouring_joins_ac p0 (p3.getD x4.toNat 0) (((p3.take p3.length).drop (w64 (x4 + 1)).toNat).getD x8.toNat 0) p1 _ hr12) rfl ?_
          refine AOps_nil ?_
          refine kI h rfl (fun h _ => ?_) (fun h _ => ?_)
          ·refine (ACode_region ?_)
           refine kM 2 rfl ?_
           refine AOps_buildSlice 44 _ _ _ [_] (intsD ([(((p3.take p3.length).drop (w64 (x4 + 1)).toNat).getD x8.toNat 0)])) _ rfl rfl rfl rfl rfl (by decide) Tryz.underlying27 Tryz.sizeOf2 (zero_of Tryz.typeInfo2 rfl) rfl rfl (intsD_one _) ?_
           obtain ⟨hc14, h⟩ := guardO h
           refine AOps_append 45 _ _ _ _ _ _ _ _ _ _ _ _ rfl rfl rfl rfl rfl rfl rfl Tryz.underlying27 Tryz.type2 rfl rfl rfl (by decide) rfl rfl rfl rfl (intsD_one _) (by rw [intsD_length, intsD_length]; exact hc14) ?_
           rw [intsD_app]
           refine kN 1 rfl ?_
           cases h
           exact Weak_trans (Weak_keep 0 hm [0, 1, 2, 3, 10, 11, 20, 21, 22, 31, 32, 33] [0] _ _ rfl rfl rfl) (Weak_reset 0 hm hz [0, 1, 2, 3, 10, 11, 20, 21, 22, 31, 32, 33] _ _ rfl rfl)
          refine ACode_skip ?_
          cases h
          exact Weak_keep 0 hm [0, 1, 2, 3, 10, 11, 20, 21, 22, 31, 32, 33] [0] _ _ rfl rfl rfl
         refine (ACode_region ?_)
         refine AOps_q 46 _ rfl rfl rfl (QOp_add _ _ _ _ _ _ _ rfl rfl rfl) ?_
         refine kN 1 rfl ?_
         exact ⟨k1, _, _, Nat.lt_succ_self _, Weak_keep 0 hm [0, 1, 2, 3, 10, 11, 20, 21, 22, 31, 32, 33] [0] _ _ rfl rfl rfl, _, _, rfl, rfl, h⟩
        refine ACode_exit ?_
        cases h
        exact Weak_keep 0 hm [0, 1, 2, 3, 11, 20, 21, 22] [0] _ _ rfl rfl rfl
      refine kR ?_
      refine kM 3 rfl ?_
      refine AOps_q 50 _ rfl rfl rfl (QOp_sub _ _ _ _ _ _ _ rfl rfl rfl) ?_
      refine kM 1 rfl ?_
      obtain ⟨r17, hr17, h⟩ := bindO h
      refine AOps_callL [] 52 _ _ _ _ _ _ _ _ _ _ rfl rfl rfl rfl rfl rfl rfl Tryz.call95 rfl (nodupB_sound _ rfl) rfl rfl rfl (hself p0 p1 (w64 (p2 - 1)) s16 _ hr17) ?_
      rintro _ _ ⟨rfl, rfl⟩
      refine ⟨(fun _ h => nomatch h), (allc (flat_s _) (fun _ h => nomatch h)), AOps_as 52 (v' := bV r17) (H' := [.vec 0 (intsD s16)]) rfl rfl ?_⟩
      refine AOps_nil ?_
      refine kI h rfl (fun h _ => ?_) (fun h _ => ?_)
      ·refine kR ?_
       refine kN 1 rfl ?_
       refine ACode_ret ?_
       obtain ⟨rr, hz21, h2⟩ := bindO h
       obtain rfl := Option.some.inj h2
       obtain rfl := Option.some.inj (show some rr = some _ from hks19)
       have h := hz21
       cases h
       have h := hks20
       cases h
       exact ⟨_, _, fun r a w h => ⟨r, h⟩, _, _, [], _, (.cons (ResV_tmp _ _ rfl) .nil), rfl, rfl, rfl, rfl, rfl⟩
      refine ACode_skip ?_
      cases h
      exact ⟨_, rfl, Weak_keep 0 hm [0, 1, 2, 3, 20, 21, 22] [] _ _ rfl rfl rfl⟩
     refine (ACode_region ?_)
     refine AOps_q 53 _ rfl rfl rfl (QOp_add _ _ _ _ _ _ _ rfl rfl rfl) ?_
     refine kN 1 rfl ?_
     exact ⟨k0, _, _, Nat.lt_succ_self _, Weak_keep 0 hm [0, 1, 2, 3, 20, 21, 22] [] _ _ rfl rfl rfl, _, rfl, rfl, h⟩
    refine ACode_exit ?_
    cases h
    exact ⟨_, rfl, Weak_keep 0 hm [] [] _ _ rfl rfl rfl⟩
  refine kR ?_
  refine kN 1 rfl ?_
  refine ACode_ret ?_
  cases h
  exact ⟨_, _, fun r a w h => ⟨r, h⟩, _, _, [], _, (.cons (ResV_tmp _ _ rfl) .nil), rfl, rfl, rfl, rfl, rfl⟩

-- (*loop.example/g01362/impl.Colouring).extensions
def impl_Colouring_extensions_on_ExtensionsByDegree_c1_l1 (p0 : Col) (p2 : List Int) (p2n : Nat) (x4 : Int) (x5 : List Int) : Nat → Int → (List Int) → Option (List Int)
 | 0, _, _ => none
 | k1 + 1, x8, x9 => (if decide (x8 < ((p2n : Nat) : Int)) then ((if 0 ≤ x8 ∧ x8 < ((p2n : Nat) : Int) ∧ 0 + p2n ≤ x5.length then ((if decide ((x5.getD (0 + x8.toNat) 0) = x4) then (impl_Colouring_joins p0 x8 (impl_size ((p2.drop 0).take p2n)) x4).bind fun r13 => some r13 else some false) : Option (Bool)).bind fun s14 => (if s14 then (if x9.length + ([x8]).length ≤ 1099511627776 then some (x9 ++ ([x8])) else none) else some x9) else none) : Option (List Int)).bind fun s17 => impl_Colouring_extensions_on_ExtensionsByDegree_c1_l1 p0 p2 p2n x4 x5 k1 (w64 (x8 + 1)) s17 else some x9)
def impl_Colouring_extensions_on_ExtensionsByDegree_c1_l0 (k : Nat) (self : Col → (List Int) → (List Int) → Nat → (List Int) → Option (Bool × List Int × List Int)) (p0 : Col) (p1 : List Int) (p2 : List Int) (p2n : Nat) : Nat → Int → (List Int) → (List Int) → Option (Sum (List Int × List Int) (Bool × List Int × List Int))
 | 0, _, _, _ => none
 | k0 + 1, x4, x5, x6 => (if decide (x4 < p0.k) then ((impl_Colouring_extensions_on_ExtensionsByDegree_c1_l1 p0 p2 p2n x4 x5 k 0 ([] : List Int) : Option (List Int)).bind fun s18 => ((if 0 ≤ x4 ∧ x4 < (p1.length : Int) then (impl_Colouring_hasClique k p0 x4 (w64 ((p1.getD x4.toNat 0) - 2)) s18).bind fun r20 => (if !r20 then (if 0 + p2n + ([x4]).length ≤ x5.length ∧ 1 ≤ ([x4]).length then (self p0 p1 (splicedL x5 (0 + p2n) (([x4]).length) ([x4])) (p2n + ([x4]).length) x6).bind fun r23 => some (!r23.1, r23.2.1, r23.2.2) else none) else some (false, x5, x6)) else none) : Option (Bool × List Int × List Int)).bind fun s24 => (if s24.1 then (some (.inr (false, s24.2.1, s24.2.2))).bind fun rr => some (.inr rr) else some (.inl (s24.2.1, s24.2.2))) : Option (Sum (List Int × List Int) (Sum (List Int × List Int) (Bool × List Int × List Int)))).bind fun os26 => (match os26 with | .inl s26 => impl_Colouring_extensions_on_ExtensionsByDegree_c1_l0 k self p0 p1 p2 p2n k0 (w64 (x4 + 1)) s26.1 s26.2 | .inr rr => some rr) else some (.inl (x5, x6)))
def impl_Colouring_extensions_on_ExtensionsByDegree_c1_body (self : Col → (List Int) → (List Int) → Nat → (List Int) → Option (Bool × List Int × List Int)) (k : Nat) (p0 : Col) (p1 : List Int) (p2 : List Int) (p2n : Nat) (p3_0 : List Int) : Option (Bool × List Int × List Int) :=
 (if decide ((impl_size ((p2.drop 0).take p2n)) = p0.p) then (impl_ExtensionsByDegree_c1 k p2 p2n p3_0).bind fun r3 => some (r3.1, r3.2.1, r3.2.2) else (impl_Colouring_extensions_on_ExtensionsByDegree_c1_l0 k self p0 p1 p2 p2n k 0 p2 p3_0 : Option (Sum (List Int × List Int) (Bool × List Int × List Int))).bind fun os27 => (match os27 with | .inl s27 => some (true, s27.1, s27.2) | .inr rr => some rr))
def impl_Colouring_extensions_on_ExtensionsByDegree_c1 : Nat → Col → (List Int) → (List Int) → Nat → (List Int) → Option (Bool × List Int × List Int)
 | 0, _, _, _, _, _ => none
 | k + 1, p0, p1, p2, p2n, p3_0 => impl_Colouring_extensions_on_ExtensionsByDegree_c1_body (impl_Colouring_extensions_on_ExtensionsByDegree_c1 k) k p0 p1 p2 p2n p3_0
set_option maxRecDepth 100000 in
theorem impl_Colouring_extensions_on_ExtensionsByDegree_c1_ac (k : Nat) (p0 : Col) (p1 : List Int) (p2 : List Int) (p2n : Nat) (p3_0 : List Int) (r : Bool × List Int × List Int) (h : impl_Colouring_extensions_on_ExtensionsByDegree_c1 k p0 p1 p2 p2n p3_0 = some r) : AC Tryz.prog 63 [.d (.pv (colD p0) 0), .d (.sl none (intsD p1)), .part 0 0 0 p2n, .clo 31 [.ptr 1 0]] [.vec 0 (intsD p2), .ref (.vec 2 0), .vec 0 (intsD p3_0)] (fun res H' => res = [bV r.1] ∧ H' = [.vec 0 (intsD r.2.1), .ref (.vec 2 1), .vec 1 (intsD r.2.2)]) := by
 induction k generalizing p0 p1 p2 p2n p3_0 r with
 | zero => simp [impl_Colouring_extensions_on_ExtensionsByDegree_c1] at h
 | succ k ih =>
  rw [impl_Colouring_extensions_on_ExtensionsByDegree_c1] at h
  obtain ⟨self, hself, hk⟩ : ∃ self : Col → (List Int) → (List Int) → Nat → (List Int) → Option (Bool × List Int × List Int), (∀ (p0 : Col) (p1 : List Int) (p2 : List Int) (p2n : Nat) (p3_0 : List Int) (r : Bool × List Int × List Int), self p0 p1 p2 p2n p3_0 = some r → AC Tryz.prog 63 [.d (.pv (colD p0) 0), .d (.sl none (intsD p1)), .part 0 0 0 p2n, .clo 31 [.ptr 1 0]] [.vec 0 (intsD p2), .ref (.vec 2 0), .vec 0 (intsD p3_0)] (fun res H' => res = [bV r.1] ∧ H' = [.vec 0 (intsD r.2.1), .ref (.vec 2 1), .vec 1 (intsD r.2.2)])) ∧ impl_Colouring_extensions_on_ExtensionsByDegree_c1 k = self := ⟨impl_Colouring_extensions_on_ExtensionsByDegree_c1 k, fun p0 p1 p2 p2n p3_0 r h => ih p0 p1 p2 p2n p3_0 r h, rfl⟩
  rw [hk] at h
  clear ih hk
  refine AC_of_body true Tryz.func63 rfl Tryz.ntmps63 (rvs := [.tmp 8]) rfl rfl (fun G hG => ?_)
  have hm : G.H.length = 3 := by rw [hG]; rfl
  have hz : zeroG G.H = true := by rw [hG]; rfl
  refine ACode_weak (Weak_bump 1 2 _ rfl rfl _ rfl) ?_
  unfold impl_Colouring_extensions_on_ExtensionsByDegree_c1_body at h
  refine kR ?_
  refine kN 1 rfl ?_
  refine kR ?_
  refine kM 1 rfl ?_
  refine AOps_callL [] 15 _ _ _ _ _ _ _ _ _ _ rfl rfl rfl rfl rfl rfl rfl Tryz.call74 rfl (nodupB_sound _ rfl) rfl rfl rfl (by have q := impl_size_ac ((p2.drop 0).take p2n); simp only [intsD_dt] at q; exact q) ?_
  rintro _ _ ⟨rfl, rfl⟩
  refine ⟨(fun _ h => nomatch h), (allc (flat_s _) (fun _ h => nomatch h)), AOps_as 15 (v' := iV (impl_size ((p2.drop 0).take p2n))) (H' := [.vec 0 (intsD p2), .ref (.vec 2 1), .vec 1 (intsD p3_0)]) rfl rfl ?_⟩
  refine kN 1 rfl ?_
  refine ACode_seq ?_
  refine kR ?_
  refine kM 2 rfl ?_
  refine AOps_q 18 _ rfl rfl rfl (QOp_nilCheck_pv _ _ _ rfl rfl) ?_
  refine AOps_q 19 _ rfl rfl rfl (QOp_fieldAddr_pv _ _ _ _ _ 0 _ _ rfl Tryz.underlying26 rfl _ Tryz.sizeOf2 rfl rfl) ?_
  refine AOps_q 20 _ rfl rfl rfl (QOp_load_pv _ _ _ _ _ rfl Tryz.isAgg2 rfl rfl) ?_
  refine AOps_q 21 _ rfl rfl rfl (QOp_eql _ _ _ _ _ _ _ rfl rfl rfl) ?_
  refine AOps_nil ?_
  refine kI h rfl (fun h _ => ?_) (fun h _ => ?_)
  ·refine kR ?_
   refine kM 2 rfl ?_
   obtain ⟨r3, hr3, h⟩ := bindO h
   refine kC [0, 1, 2] 24 (bV r3.1) [.vec 0 (intsD r3.2.1), .ref (.vec 2 2), .vec 2 (intsD r3.2.2)] rfl Tryz.call31 rfl rfl (impl_ExtensionsByDegree_c1_ac k p2 p2n p3_0 _ hr3) rfl ?_
   refine kN 1 rfl ?_
   refine ACode_ret ?_
   cases h
   exact ⟨_, _, Weak_reset 3 hm hz [8] _ _ rfl rfl, _, _, [], _, (.cons (ResV_tmp _ _ rfl) .nil), rfl, rfl, rfl, rfl, rfl⟩
  refine ACode_skip ?_
  refine kO (fun s27 => []) (fun s27 => [.vec 0 (intsD s27.1), .ref (.vec 2 1), .vec 1 (intsD s27.2)]) h (fun os27 h hks27 => ?_) (fun s27 h => ?_)
  ·refine kR ?_
   refine kM 1 rfl ?_
   refine AOps_q 26 _ rfl rfl rfl (QOp_nilCheck_pv _ _ _ rfl rfl) ?_
   refine AOps_q 27 _ rfl rfl rfl (QOp_fieldAddr_pv _ _ _ _ _ 1 _ _ rfl Tryz.underlying26 rfl _ Tryz.sizeOf2 rfl rfl) ?_
   refine AOps_q 28 _ rfl rfl rfl (QOp_load_pv _ _ _ _ _ rfl Tryz.isAgg2 rfl rfl) ?_
   refine kN 1 rfl ?_
   refine ACode_block ?_
   refine ACode_loopW (fun k0 E H => ∃ (x4 : Int) (x5 : List Int) (x6 : List Int), E = [(0, .d (.pv (colD p0) 0)), (1, .d (.sl none (intsD p1))), (2, .part 0 0 0 p2n), (3, .clo 31 [.ptr 1 0]), (9, iV (impl_size ((p2.drop 0).take p2n))), (28, iV p0.k), (29, iV x4)] ∧ H = [.vec 0 (intsD x5), .ref (.vec 2 1), .vec 1 (intsD x6)] ∧ impl_Colouring_extensions_on_ExtensionsByDegree_c1_l0 k self p0 p1 p2 p2n k0 x4 x5 x6 = some os27) k _ _ (Weak_keep 3 hm [0, 1, 2, 3, 9, 28, 29] [] _ _ rfl rfl rfl) ⟨_, _, _, rfl, rfl, h⟩ ?_
   clear h
   rintro k0 E H ⟨x4, x5, x6, rfl, rfl, h⟩
   cases k0 with
   | zero => cases (show (none : Option (Sum (List Int × List Int) (Bool × List Int × List Int))) = some _ from h)
   | succ k0 =>
    rw [impl_Colouring_extensions_on_ExtensionsByDegree_c1_l0] at h
    refine kR ?_
    refine AOps_q 30 _ rfl rfl rfl (QOp_lss _ _ _ _ _ _ _ rfl rfl rfl) ?_
    refine AOps_nil ?_
    refine ACode_seq ?_
    refine kI h rfl (fun h _ => ?_) (fun h _ => ?_)
    ·refine ACode_skip ?_
     refine kO (fun s26 => [(0, .d (.pv (colD p0) 0)), (1, .d (.sl none (intsD p1))), (2, .part 0 0 0 p2n), (3, .clo 31 [.ptr 1 0]), (9, iV (impl_size ((p2.drop 0).take p2n))), (28, iV p0.k), (29, iV x4)]) (fun s26 => [.vec 0 (intsD s26.1), .ref (.vec 2 1), .vec 1 (intsD s26.2)]) h (fun os26 h hks26 => ?_) (fun s26 h => ?_)
     ·refine ACode_block ?_
      refine kR ?_
      refine kN 2 rfl ?_
      refine kR ?_
      refine AOps_buildSlice 32 _ _ _ [] (intsD ([] : List Int)) _ rfl rfl rfl rfl rfl (by decide) Tryz.underlying27 Tryz.sizeOf2 (zero_of Tryz.typeInfo2 rfl) rfl rfl (intsD_one _) ?_
      refine kN 1 rfl ?_
      refine kB (fun s18 => [(0, .d (.pv (colD p0) 0)), (1, .d (.sl none (intsD p1))), (2, .part 0 0 0 p2n), (3, .clo 31 [.ptr 1 0]), (9, iV (impl_size ((p2.drop 0).take p2n))), (10, iV x4), (11, .vec 3 0), (28, iV p0.k), (29, iV x4)]) (fun s18 => [.vec 0 (intsD x5), .ref (.vec 2 1), .vec 1 (intsD x6), .vec 0 (intsD s18)]) h (fun s18 h => ?_) (fun s18 h => ?_)
      ·refine kR ?_
       refine kM 1 rfl ?_
       refine AOps_q 34 _ rfl rfl rfl (QOp_len_part _ _ _ _ _ _ _ _ _ _ rfl rfl rfl rfl Tryz.underlying27 rfl rfl rfl) ?_
       refine kN 1 rfl ?_
       refine ACode_block ?_
       refine ACode_loopW (fun k1 E H => ∃ (x8 : Int) (x9 : List Int), E = [(0, .d (.pv (colD p0) 0)), (1, .d (.sl none (intsD p1))), (2, .part 0 0 0 p2n), (3, .clo 31 [.ptr 1 0]), (9, iV (impl_size ((p2.drop 0).take p2n))), (10, iV x4), (11, .vec 3 0), (28, iV p0.k), (29, iV x4), (33, .part 0 0 0 p2n), (34, iV ((p2n : Nat) : Int)), (35, iV x8)] ∧ H = [.vec 0 (intsD x5), .ref (.vec 2 1), .vec 1 (intsD x6), .vec 0 (intsD x9)] ∧ impl_Colouring_extensions_on_ExtensionsByDegree_c1_l1 p0 p2 p2n x4 x5 k1 x8 x9 = some s18) k _ _ (Weak_keep 3 hm [0, 1, 2, 3, 9, 10, 11, 28, 29, 33, 34, 35] [3] _ _ rfl rfl rfl) ⟨_, _, rfl, rfl, h⟩ ?_
       clear h
       rintro k1 E H ⟨x8, x9, rfl, rfl, h⟩
       cases k1 with
       | zero => cases (show (none : Option (List Int)) = some _ from h)
       | succ k1 =>
        rw [impl_Colouring_extensions_on_ExtensionsByDegree_c1_l1] at h
        refine kR ?_
        refine AOps_q 36 _ rfl rfl rfl (QOp_lss _ _ _ _ _ _ _ rfl rfl rfl) ?_
        refine AOps_nil ?_
        refine ACode_seq ?_
        refine kI h rfl (fun h _ => ?_) (fun h _ => ?_)
        ·refine ACode_skip ?_
         refine kB (fun s17 => [(0, .d (.pv (colD p0) 0)), (1, .d (.sl none (intsD p1))), (2, .part 0 0 0 p2n), (3, .clo 31 [.ptr 1 0]), (9, iV (impl_size ((p2.drop 0).take p2n))), (10, iV x4), (11, .vec 3 0), (28, iV p0.k), (29, iV x4), (33, .part 0 0 0 p2n), (34, iV ((p2n : Nat) : Int)), (35, iV x8)]) (fun s17 => [.vec 0 (intsD x5), .ref (.vec 2 1), .vec 1 (intsD x6), .vec 0 (intsD s17)]) h (fun s17 h => ?_) (fun s17 h => ?_)
         ·refine ACode_block ?_
          refine kR ?_
          refine kM 1 rfl ?_
          obtain ⟨hc11, h⟩ := guardO h
          refine AOps_q 38 _ rfl rfl rfl (QOp_indexAddr_part _ _ _ _ _ _ _ _ _ _ _ _ rfl Tryz.underlying27 Tryz.sizeOf2 hc11.1 hc11.2.1 rfl rfl rfl rfl) ?_
          refine AOps_q 39 _ rfl rfl rfl (QOp_load_eptr _ _ _ _ _ _ _ rfl Tryz.isAgg2 rfl rfl (intsD_get _ _ 0 (by omega))) ?_
          refine kN 2 rfl ?_
          refine kB (fun s14 => [(0, .d (.pv (colD p0) 0)), (1, .d (.sl none (intsD p1))), (2, .part 0 0 0 p2n), (3, .clo 31 [.ptr 1 0]), (9, iV (impl_size ((p2.drop 0).take p2n))), (10, iV x4), (11, .vec 3 0), (12, iV x8), (28, iV p0.k), (29, iV x4), (33, .part 0 0 0 p2n), (34, iV ((p2n : Nat) : Int)), (35, iV x8), (49, bV s14)]) (fun s14 => [.vec 0 (intsD x5), .ref (.vec 2 1), .vec 1 (intsD x6), .vec 0 (intsD x9)]) h (fun s14 h => ?_) (fun s14 h => ?_)
          ·refine (ACode_region ?_)
           refine kM 2 rfl ?_
           refine AOps_q 42 _ rfl rfl rfl (QOp_eql _ _ _ _ _ _ _ rfl rfl rfl) ?_
           refine kM 1 rfl ?_
           refine AOps_case 43 _ rfl (fun hb12 => ?_) (fun hb12 => ?_)
           ·have h := iteT hb12 h
            refine kM 4 rfl ?_
            obtain ⟨r13, hr13, h⟩ := bindO h
            refine kC [] 48 (bV r13) [.vec 0 (intsD x5), .ref (.vec 2 1), .vec 1 (intsD x6), .vec 0 (intsD x9)] rfl Tryz.call94 rfl rfl (impl_Colouring_joins_ac p0 x8 (impl_size ((p2.drop 0).take p2n)) x4 _ hr13) rfl ?_
            refine kN 1 rfl ?_
            cases h
            exact Weak_keep 3 hm [0, 1, 2, 3, 9, 10, 11, 12, 28, 29, 33, 34, 35, 49] [3] _ _ rfl rfl rfl
           have h := iteF hb12 h
           refine AOps_skip 44 rfl rfl rfl ?_
           refine AOps_skip 45 rfl rfl rfl ?_
           refine AOps_skip 46 rfl rfl rfl ?_
           refine AOps_skip 47 rfl rfl rfl ?_
           refine AOps_skip 48 rfl rfl rfl ?_
           refine kN 1 rfl ?_
           cases h
           exact Weak_keep 3 hm [0, 1, 2, 3, 9, 10, 11, 12, 28, 29, 33, 34, 35, 49] [3] _ _ rfl rfl rfl
          refine kI h rfl (fun h _ => ?_) (fun h _ => ?_)
          ·refine (ACode_region ?_)
           refine kM 2 rfl ?_
           refine AOps_buildSlice 52 _ _ _ [_] (intsD ([x8])) _ rfl rfl rfl rfl rfl (by decide) Tryz.underlying27 Tryz.sizeOf2 (zero_of Tryz.typeInfo2 rfl) rfl rfl (intsD_one _) ?_
           obtain ⟨hc16, h⟩ := guardO h
           refine AOps_append 53 _ _ _ _ _ _ _ _ _ _ _ _ rfl rfl rfl rfl rfl rfl rfl Tryz.underlying27 Tryz.type2 rfl rfl rfl (by decide) rfl rfl rfl rfl (intsD_one _) (by rw [intsD_length, intsD_length]; exact hc16) ?_
           rw [intsD_app]
           refine kN 1 rfl ?_
           cases h
           exact Weak_trans (Weak_keep 3 hm [0, 1, 2, 3, 9, 10, 11, 28, 29, 33, 34, 35] [3] _ _ rfl rfl rfl) (Weak_reset 3 hm hz [0, 1, 2, 3, 9, 10, 11, 28, 29, 33, 34, 35] _ _ rfl rfl)
          refine ACode_skip ?_
          cases h
          exact Weak_keep 3 hm [0, 1, 2, 3, 9, 10, 11, 28, 29, 33, 34, 35] [3] _ _ rfl rfl rfl
         refine (ACode_region ?_)
         refine AOps_q 54 _ rfl rfl rfl (QOp_add _ _ _ _ _ _ _ rfl rfl rfl) ?_
         refine kN 1 rfl ?_
         exact ⟨k1, _, _, Nat.lt_succ_self _, Weak_keep 3 hm [0, 1, 2, 3, 9, 10, 11, 28, 29, 33, 34, 35] [3] _ _ rfl rfl rfl, _, _, rfl, rfl, h⟩
        refine ACode_exit ?_
        cases h
        exact Weak_keep 3 hm [0, 1, 2, 3, 9, 10, 11, 28, 29] [3] _ _ rfl rfl rfl
      refine kB (fun s24 => [(0, .d (.pv (colD p0) 0)), (1, .d (.sl none (intsD p1))), (2, .part 0 0 0 p2n), (3, .clo 31 [.ptr 1 0]), (9, iV (impl_size ((p2.drop 0).take p2n))), (28, iV p0.k), (29, iV x4), (75, bV s24.1)]) (fun s24 => [.vec 0 (intsD s24.2.1), .ref (.vec 2 1), .vec 1 (intsD s24.2.2)]) h (fun s24 h => ?_) (fun s24 h => ?_)
      ·refine (ACode_region ?_)
       refine kM 4 rfl ?_
       obtain ⟨hc19, h⟩ := guardO h
       refine AOps_q 59 _ rfl rfl rfl (QOp_indexAddr_sl _ _ _ _ _ _ _ _ rfl Tryz.underlying27 Tryz.sizeOf2 hc19.1 (by rw [intsD_length]; exact hc19.2) rfl rfl) ?_
       refine AOps_q 60 _ rfl rfl rfl (QOp_load_pv _ _ _ _ _ rfl Tryz.isAgg2 rfl (intsD_get _ _ 0 (by omega))) ?_
       refine AOps_q 61 _ rfl rfl rfl (QOp_sub _ _ _ _ _ _ _ rfl rfl rfl) ?_
       refine kM 1 rfl ?_
       obtain ⟨r20, hr20, h⟩ := bindO h
       refine AOps_callL [] 63 _ _ _ _ _ _ _ _ _ _ rfl rfl rfl rfl rfl rfl rfl Tryz.call95 rfl (nodupB_sound _ rfl) rfl rfl rfl (impl_Colouring_hasClique_ac k p0 x4 (w64 ((p1.getD x4.toNat 0) - 2)) s18 _ hr20) ?_
       rintro _ _ ⟨rfl, rfl⟩
       refine ⟨(fun _ h => nomatch h), (allc (flat_s _) (fun _ h => nomatch h)), AOps_as 63 (v' := bV r20) (H' := [.vec 0 (intsD x5), .ref (.vec 2 1), .vec 1 (intsD x6), .vec 0 (intsD s18)]) rfl rfl ?_⟩
       refine AOps_q 64 _ rfl rfl rfl (QOp_not _ _ _ rfl rfl) ?_
       refine kM 1 rfl ?_
       refine AOps_case 65 _ rfl (fun hb21 => ?_) (fun hb21 => ?_)
       ·have h := iteT hb21 h
        refine kM 4 rfl ?_
        refine AOps_buildSlice 70 _ _ _ [_] (intsD ([x4])) _ rfl rfl rfl rfl rfl (by decide) Tryz.underlying27 Tryz.sizeOf2 (zero_of Tryz.typeInfo2 rfl) rfl rfl (intsD_one _) ?_
        obtain ⟨hc22, h⟩ := guardO h
        refine AOps_append_part 71 _ _ _ _ _ 0 0 0 p2n (p2n + ([x4]).length) _ (intsD x5) (intsD ([x4])) _ rfl rfl rfl rfl rfl rfl rfl Tryz.underlying27 Tryz.type2 rfl rfl rfl rfl rfl (intsD_one _) (by rw [intsD_length]; exact hc22.2) (by rw [intsD_length, intsD_length]; exact hc22.1) (by rw [intsD_length]) ?_
        rw [intsD_length, intsD_spl]
        refine kM 1 rfl ?_
        obtain ⟨r23, hr23, h⟩ := bindO h
        refine kC [0, 1, 2] 73 (bV r23.1) [.vec 0 (intsD r23.2.1), .ref (.vec 2 2), .vec 2 (intsD r23.2.2), .vec 0 (intsD s18), .vec 0 (intsD ([x4]))] rfl Tryz.call63 rfl rfl (hself p0 p1 (splicedL x5 (0 + p2n) (([x4]).length) ([x4])) (p2n + ([x4]).length) x6 _ hr23) rfl ?_
        refine AOps_q 74 _ rfl rfl rfl (QOp_not _ _ _ rfl rfl) ?_
        refine kN 1 rfl ?_
        cases h
        exact Weak_trans (Weak_keep 3 hm [0, 1, 2, 3, 9, 28, 29, 75] [] _ _ rfl rfl rfl) (Weak_reset 3 hm hz [0, 1, 2, 3, 9, 28, 29, 75] _ _ rfl rfl)
       have h := iteF hb21 h
       refine AOps_skip 66 rfl rfl rfl ?_
       refine AOps_skip 67 rfl rfl rfl ?_
       refine AOps_skip 68 rfl rfl rfl ?_
       refine AOps_skip 69 rfl rfl rfl ?_
       refine AOps_skip 70 rfl rfl rfl ?_
       refine AOps_skip 71 rfl rfl rfl ?_
       refine AOps_skip 72 rfl rfl rfl ?_
       refine AOps_skip 73 rfl rfl rfl ?_
       refine AOps_skip 74 rfl rfl rfl ?_
       refine kN 1 rfl ?_
       cases h
       exact Weak_keep 3 hm [0, 1, 2, 3, 9, 28, 29, 75] [] _ _ rfl rfl rfl
      refine kI h rfl (fun h _ => ?_) (fun h _ => ?_)
      ·refine kR ?_
       refine kN 1 rfl ?_
       refine ACode_ret ?_
       obtain ⟨rr, hz28, h2⟩ := bindO h
       obtain rfl := Option.some.inj h2
       obtain rfl := Option.some.inj (show some rr = some _ from hks26)
       have h := hz28
       cases h
       have h := hks27
       cases h
       exact ⟨_, _, fun r a w h => ⟨r, h⟩, _, _, [], _, (.cons (ResV_tmp _ _ rfl) .nil), rfl, rfl, rfl, rfl, rfl⟩
      refine ACode_skip ?_
      cases h
      exact ⟨_, rfl, Weak_keep 3 hm [0, 1, 2, 3, 9, 28, 29] [] _ _ rfl rfl rfl⟩
     refine (ACode_region ?_)
     refine AOps_q 76 _ rfl rfl rfl (QOp_add _ _ _ _ _ _ _ rfl rfl rfl) ?_
     refine kN 1 rfl ?_
     exact ⟨k0, _, _, Nat.lt_succ_self _, Weak_keep 3 hm [0, 1, 2, 3, 9, 28, 29] [] _ _ rfl rfl rfl, _, _, _, rfl, rfl, h⟩
    refine ACode_exit ?_
    cases h
    exact ⟨_, rfl, Weak_keep 3 hm [] [] _ _ rfl rfl rfl⟩
  refine kR ?_
  refine kN 1 rfl ?_
  refine ACode_ret ?_
  cases h
  exact ⟨_, _, fun r a w h => ⟨r, h⟩, _, _, [], _, (.cons (ResV_tmp _ _ rfl) .nil), rfl, rfl, rfl, rfl, rfl⟩

-- (*loop.example/g01362/impl.Colouring).extend
def impl_Colouring_extend_on_ExtensionsByDegree_c1 (k : Nat) (p0 : Col) (p1 : List Int) (p2_0 : List Int) : Option (Bool × List Int) :=
 (impl_Colouring_extensions_on_ExtensionsByDegree_c1 k p0 p1 (List.replicate 17 (0 : Int)) 0 p2_0).bind fun r2 => some (r2.1, r2.2.2)
set_option maxRecDepth 100000 in
theorem impl_Colouring_extend_on_ExtensionsByDegree_c1_ac (k : Nat) (p0 : Col) (p1 : List Int) (p2_0 : List Int) (r : Bool × List Int) (h : impl_Colouring_extend_on_ExtensionsByDegree_c1 k p0 p1 p2_0 = some r) : AC Tryz.prog 30 [.d (.pv (colD p0) 0), .d (.sl none (intsD p1)), .clo 31 [.ptr 0 0]] [.ref (.vec 1 0), .vec 0 (intsD p2_0)] (fun res H' => res = [bV r.1] ∧ H' = [.ref (.vec 1 1), .vec 1 (intsD r.2)]) := by
 refine AC_of_body true Tryz.func30 rfl Tryz.ntmps30 (rvs := [.tmp 6]) rfl rfl (fun G hG => ?_)
 have hm : G.H.length = 2 := by rw [hG]; rfl
 have hz : zeroG G.H = true := by rw [hG]; rfl
 refine ACode_weak (Weak_bump 0 1 _ rfl rfl _ rfl) ?_
 unfold impl_Colouring_extend_on_ExtensionsByDegree_c1 at h
 refine kR ?_
 refine kN 1 rfl ?_
 refine kR ?_
 refine kM 2 rfl ?_
 refine AOps_makeBufG intsD iD 0 (intsD_rep · _) 9 _ _ _ _ _ _ 17 _ (.int .i64 0) rfl rfl rfl rfl rfl rfl Tryz.underlying27 Tryz.type2 rfl rfl (by decide) rfl rfl (by decide) ?_
 refine kM 1 rfl ?_
 obtain ⟨r2, hr2, h⟩ := bindO h
 refine kC [2, 0, 1] 11 (bV r2.1) [.ref (.vec 1 2), .vec 2 (intsD r2.2.2), .vec 0 (intsD r2.2.1)] rfl Tryz.call63 rfl rfl (impl_Colouring_extensions_on_ExtensionsByDegree_c1_ac k p0 p1 (List.replicate 17 (0 : Int)) 0 p2_0 _ hr2) rfl ?_
 refine kN 1 rfl ?_
 refine ACode_ret ?_
 cases h
 exact ⟨_, _, Weak_reset 2 hm hz [6] _ _ rfl rfl, _, _, [], _, (.cons (ResV_tmp _ _ rfl) .nil), rfl, rfl, rfl, rfl, rfl⟩

-- loop.example/g01362/impl.ExtensionsByDegree
def impl_ExtensionsByDegree (k : Nat) (p0 : Col) (p1 : List Int) : Option (Option (List Int) × Int) :=
 (impl_Colouring_extendingCode k p0 p1 (some (impl_always)) 12).bind fun r1 => (if !decide (r1 = 0) then some (none, r1) else (if 0 ≤ w64 (p0.p + 1) ∧ w64 (p0.p + 1) ≤ w64 (p0.p + 1) ∧ w64 (p0.p + 1) ≤ 1099511627776 then (impl_Colouring_extend_on_ExtensionsByDegree_c1 k p0 p1 (List.replicate (w64 (p0.p + 1)).toNat (0 : Int))).bind fun r4 => some (some r4.2, 0) else none))
set_option maxRecDepth 100000 in
theorem impl_ExtensionsByDegree_ac (k : Nat) (p0 : Col) (p1 : List Int) (r : Option (List Int) × Int) (h : impl_ExtensionsByDegree k p0 p1 = some r) : AC Tryz.prog 6 [.d (.agg (colD p0)), .d (.sl none (intsD p1))] [] (fun res H' => res = [ownA 0 (r.1.map intsD), iV r.2] ∧ H' = [] ++ ownH (r.1.map intsD)) := by
 refine AC_of_body false Tryz.func6 rfl Tryz.ntmps6 (rvs := [.tmp 4, .tmp 5]) rfl rfl (fun G hG => ?_)
 have hm : G.H.length = 0 := by rw [hG]; rfl
 have hz : zeroG G.H = true := by rw [hG]; rfl
 unfold impl_ExtensionsByDegree at h
 refine kR ?_
 refine AOps_boxI 2 _ _ (.agg (colD p0)) (colD p0) rfl (colD_one _) rfl rfl rfl rfl rfl ?_
 refine kN 2 rfl ?_
 refine ACode_seq ?_
 refine kR ?_
 refine kM 1 rfl ?_
 obtain ⟨r1, hr1, h⟩ := bindO h
 refine kC [] 9 (iV r1) [] rfl Tryz.call28 rfl rfl (impl_Colouring_extendingCode_ac k p0 p1 (some (impl_always)) 12 29 ([]) Tryz.call29 (fun r h => by cases h; exact impl_always_ac) _ hr1) rfl ?_
 refine kN 1 rfl ?_
 refine kR ?_
 refine kM 1 rfl ?_
 refine AOps_q 11 _ rfl rfl rfl (QOp_neq _ _ _ _ _ _ _ rfl rfl rfl) ?_
 refine AOps_nil ?_
 refine kI h rfl (fun h _ => ?_) (fun h _ => ?_)
 ·refine kR ?_
  refine kN 3 rfl ?_
  refine ACode_ret ?_
  cases h
  exact ⟨_, _, fun r a w h => ⟨r, h⟩, _, _, [], _, (.cons (ResV_tmp _ _ rfl) (.cons (ResV_tmp _ _ rfl) .nil)), rfl, rfl, rfl, rfl, rfl⟩
 refine ACode_skip ?_
 refine kR ?_
 refine AOps_q 13 _ rfl rfl rfl (QOp_fieldAddr_pv _ _ _ _ _ 0 _ _ rfl Tryz.underlying26 rfl _ Tryz.sizeOf2 rfl rfl) ?_
 refine AOps_q 14 _ rfl rfl rfl (QOp_load_pv _ _ _ _ _ rfl Tryz.isAgg2 rfl rfl) ?_
 refine AOps_q 15 _ rfl rfl rfl (QOp_add _ _ _ _ _ _ _ rfl rfl rfl) ?_
 obtain ⟨hc3, h⟩ := guardO h
 refine AOps_makeSliceG intsD iD 0 (intsD_rep · _) 16 _ _ _ _ _ _ (w64 (p0.p + 1)) (w64 (p0.p + 1)) _ (.int .i64 0) rfl rfl rfl rfl rfl rfl Tryz.underlying27 Tryz.type2 rfl rfl (by decide) rfl rfl hc3.1 hc3.2.1 hc3.2.2 ?_
 refine AOps_alloc 7 _ _ ([.sl (some true) []]) (zero_of Tryz.typeInfo27 rfl) (by rfl) rfl rfl rfl rfl ?_
 refine AOps_storeR 1 _ _ _ _ _ rfl rfl rfl rfl rfl rfl rfl rfl Tryz.sizeOf27 (fun r a w hr => vec_one hr rfl rfl rfl) ?_
 refine AOps_nil ?_
 refine kR ?_
 refine kM 1 rfl ?_
 refine AOps_q 18 _ rfl rfl rfl (QOp_makeFunc _ _ _ rfl rfl) ?_
 obtain ⟨r4, hr4, h⟩ := bindO h
 refine kC [1, 0] 19 (bV r4.1) [.vec 1 (intsD r4.2), .ref (.vec 0 1)] rfl Tryz.call30 rfl rfl (impl_Colouring_extend_on_ExtensionsByDegree_c1_ac k p0 p1 (List.replicate (w64 (p0.p + 1)).toNat (0 : Int)) _ hr4) rfl ?_
 refine AOps_nil ?_
 refine kR ?_
 refine AOps_q 20 _ rfl rfl rfl (QOp_load_ref _ _ _ _ rfl Tryz.isAgg27 rfl rfl) ?_
 refine kN 2 rfl ?_
 refine ACode_ret ?_
 cases h
 exact ⟨_, _, Weak_reset 0 hm hz [4, 5] _ _ rfl rfl, _, _, [0], _, (.cons (ResV_tmp _ _ rfl) (.cons (ResV_tmp _ _ rfl) .nil)), rfl, rfl, rfl, rfl, rfl⟩

-- loop.example/g01362/spec.l01In
def spec_l01In (p0 : Int) (p1 : Int) (p2 : Int) : Bool :=
 letO (if decide (p1 ≤ p0) then decide (p0 ≤ p2) else false) fun (s2 : Bool) => s2
set_option maxRecDepth 100000 in
theorem spec_l01In_ac (p0 : Int) (p1 : Int) (p2 : Int) : AC Tryz.prog 84 [iV p0, iV p1, iV p2] [] (fun res H' => res = [bV (spec_l01In p0 p1 p2)] ∧ H' = []) := by
 refine AC_of_body true Tryz.func84 rfl Tryz.ntmps84 (rvs := [.tmp 6]) rfl rfl (fun G hG => ?_)
 have hm : G.H.length = 0 := by rw [hG]; rfl
 have hz : zeroG G.H = true := by rw [hG]; rfl
 obtain ⟨r, h⟩ : ∃ r, spec_l01In p0 p1 p2 = r := ⟨_, rfl⟩
 rw [h]
 unfold spec_l01In at h
 refine kR ?_
 refine kN 1 rfl ?_
 refine kL (fun s2 => [(6, bV s2)]) (fun s2 => []) h (fun s2 h => ?_) (fun s2 h => ?_)
 ·refine (ACode_region ?_)
  refine kM 2 rfl ?_
  refine AOps_q 9 _ rfl rfl rfl (QOp_geq _ _ _ _ _ _ _ rfl rfl rfl) ?_
  refine kM 1 rfl ?_
  refine AOps_case 10 _ rfl (fun hb1 => ?_) (fun hb1 => ?_)
  ·have h := iteT hb1 h
   refine kM 2 rfl ?_
   refine AOps_q 13 _ rfl rfl rfl (QOp_leq _ _ _ _ _ _ _ rfl rfl rfl) ?_
   refine kN 2 rfl ?_
   cases h
   exact Weak_keep 0 hm [6] [] _ _ rfl rfl rfl
  have h := iteF hb1 h
  refine AOps_skip 11 rfl rfl rfl ?_
  refine AOps_skip 12 rfl rfl rfl ?_
  refine AOps_skip 13 rfl rfl rfl ?_
  refine kN 2 rfl ?_
  cases h
  exact Weak_keep 0 hm [6] [] _ _ rfl rfl rfl
 refine ACode_ret ?_
 cases h
 exact ⟨_, _, fun r a w h => ⟨r, h⟩, _, _, [], _, (.cons (ResV_tmp _ _ rfl) .nil), rfl, rfl, rfl, rfl, rfl⟩

-- loop.example/g01362/spec.l01Is
def spec_l01Is_l0 (k : Nat) (p0 : Col) : Nat → Int → Option (Sum (Unit) (Bool))
 | 0, _ => none
 | k0 + 1, x7 => (if decide (x7 < 136) then (((if decide (x7 < w64 ((w64 (p0.p * (w64 (p0.p - 1)))).tdiv 2)) then (if 0 ≤ x7 ∧ x7 < 136 then (if decide (p0.k ≤ ((p0.get x7.toNat).toNat : Int)) then some true else (if decide (w64 ((w64 (p0.p * (w64 (p0.p - 1)))).tdiv 2) ≤ x7) then (if 0 ≤ x7 ∧ x7 < 136 then some (!decide (((p0.get x7.toNat).toNat : Int) = 0)) else none) else some false)) else none) else (if decide (w64 ((w64 (p0.p * (w64 (p0.p - 1)))).tdiv 2) ≤ x7) then (if 0 ≤ x7 ∧ x7 < 136 then some (!decide (((p0.get x7.toNat).toNat : Int) = 0)) else none) else some false)) : Option (Bool)).bind fun s16 => (if s16 then (some (.inr false)).bind fun rr => some (.inr rr) else some (.inl ())) : Option (Sum (Unit) (Sum (Unit) (Bool)))).bind fun os18 => (match os18 with | .inl s18 => spec_l01Is_l0 k p0 k0 (w64 (x7 + 1)) | .inr rr => some rr) else some (.inl ()))
def spec_l01Is (k : Nat) (p0 : Col) : Option (Bool) :=
 (letO (if !(spec_l01In p0.p 1 17) then true else !(spec_l01In p0.k 1 4)) fun (s4 : Bool) => (if s4 then some (.inr false) else some (.inl ())) : Option (Sum (Unit) (Bool))).bind fun os6 => (match os6 with | .inl s6 => (spec_l01Is_l0 k p0 k 0 : Option (Sum (Unit) (Bool))).bind fun os19 => (match os19 with | .inl s19 => some true | .inr rr => some rr) | .inr rr => some rr)
set_option maxRecDepth 100000 in
theorem spec_l01Is_ac (k : Nat) (p0 : Col) (r : Bool) (h : spec_l01Is k p0 = some r) : AC Tryz.prog 71 [.d (.agg (colD p0))] [] (fun res H' => res = [bV r] ∧ H' = []) := by
 refine AC_of_body true Tryz.func71 rfl Tryz.ntmps71 (rvs := [.tmp 2]) rfl rfl (fun G hG => ?_)
 have hm : G.H.length = 0 := by rw [hG]; rfl
 have hz : zeroG G.H = true := by rw [hG]; rfl
 unfold spec_l01Is at h
 refine kR ?_
 refine AOps_boxI 1 _ _ (.agg (colD p0)) (colD p0) rfl (colD_one _) rfl rfl rfl rfl rfl ?_
 refine kN 1 rfl ?_
 refine kO (fun s6 => [(1, .d (.pv (colD p0) 0))]) (fun s6 => []) h (fun os6 h hks6 => ?_) (fun s6 h => ?_)
 ·refine kL (fun s4 => [(1, .d (.pv (colD p0) 0)), (14, bV s4)]) (fun s4 => []) h (fun s4 h => ?_) (fun s4 h => ?_)
  ·refine (ACode_region ?_)
   refine AOps_q 5 _ rfl rfl rfl (QOp_fieldAddr_pv _ _ _ _ _ 0 _ _ rfl Tryz.underlying26 rfl _ Tryz.sizeOf2 rfl rfl) ?_
   refine AOps_q 6 _ rfl rfl rfl (QOp_load_pv _ _ _ _ _ rfl Tryz.isAgg2 rfl rfl) ?_
   refine kC [] 7 (bV (spec_l01In p0.p 1 17)) [] rfl Tryz.call84 rfl rfl (spec_l01In_ac p0.p 1 17) rfl ?_
   refine AOps_q 8 _ rfl rfl rfl (QOp_not _ _ _ rfl rfl) ?_
   refine kM 1 rfl ?_
   refine AOps_case 9 _ rfl (fun hb2 => ?_) (fun hb2 => ?_)
   ·have h := iteT hb2 h
    refine AOps_skip 10 rfl rfl rfl ?_
    refine AOps_skip 11 rfl rfl rfl ?_
    refine AOps_skip 12 rfl rfl rfl ?_
    refine AOps_skip 13 rfl rfl rfl ?_
    refine kN 1 rfl ?_
    cases h
    exact Weak_keep 0 hm [1, 14] [] _ _ rfl rfl rfl
   have h := iteF hb2 h
   refine AOps_q 10 _ rfl rfl rfl (QOp_fieldAddr_pv _ _ _ _ _ 1 _ _ rfl Tryz.underlying26 rfl _ Tryz.sizeOf2 rfl rfl) ?_
   refine AOps_q 11 _ rfl rfl rfl (QOp_load_pv _ _ _ _ _ rfl Tryz.isAgg2 rfl rfl) ?_
   refine kC [] 12 (bV (spec_l01In p0.k 1 4)) [] rfl Tryz.call84 rfl rfl (spec_l01In_ac p0.k 1 4) rfl ?_
   refine AOps_q 13 _ rfl rfl rfl (QOp_not _ _ _ rfl rfl) ?_
   refine kN 1 rfl ?_
   cases h
   exact Weak_keep 0 hm [1, 14] [] _ _ rfl rfl rfl
  refine kI h rfl (fun h _ => ?_) (fun h _ => ?_)
  ·refine kR ?_
   refine kN 1 rfl ?_
   refine ACode_ret ?_
   cases h
   have h := hks6
   cases h
   exact ⟨_, _, fun r a w h => ⟨r, h⟩, _, _, [], _, (.cons (ResV_tmp _ _ rfl) .nil), rfl, rfl, rfl, rfl, rfl⟩
  refine ACode_skip ?_
  cases h
  exact ⟨_, rfl, Weak_keep 0 hm [1] [] _ _ rfl rfl rfl⟩
 refine kR ?_
 refine AOps_q 15 _ rfl rfl rfl (QOp_fieldAddr_pv _ _ _ _ _ 0 _ _ rfl Tryz.underlying26 rfl _ Tryz.sizeOf2 rfl rfl) ?_
 refine AOps_q 16 _ rfl rfl rfl (QOp_load_pv _ _ _ _ _ rfl Tryz.isAgg2 rfl rfl) ?_
 refine AOps_q 17 _ rfl rfl rfl (QOp_fieldAddr_pv _ _ _ _ _ 0 _ _ rfl Tryz.underlying26 rfl _ Tryz.sizeOf2 rfl rfl) ?_
 refine AOps_q 18 _ rfl rfl rfl (QOp_load_pv _ _ _ _ _ rfl Tryz.isAgg2 rfl rfl) ?_
 refine AOps_q 19 _ rfl rfl rfl (QOp_sub _ _ _ _ _ _ _ rfl rfl rfl) ?_
 refine AOps_q 20 _ rfl rfl rfl (QOp_mul _ _ _ _ _ _ _ rfl rfl rfl) ?_
 refine AOps_q 21 _ rfl rfl rfl (QOp_quo _ _ _ _ _ _ _ (by decide) rfl rfl rfl) ?_
 refine kN 1 rfl ?_
 refine kO (fun s19 => []) (fun s19 => []) h (fun os19 h hks19 => ?_) (fun s19 h => ?_)
 ·refine kR ?_
  refine kN 1 rfl ?_
  refine ACode_block ?_
  refine ACode_loopW (fun k0 E H => ∃ (x7 : Int), E = [(1, .d (.pv (colD p0) 0)), (3, iV (w64 ((w64 (p0.p * (w64 (p0.p - 1)))).tdiv 2))), (4, iV x7)] ∧ H = [] ∧ spec_l01Is_l0 k p0 k0 x7 = some os19) k _ _ (Weak_keep 0 hm [1, 3, 4] [] _ _ rfl rfl rfl) ⟨_, rfl, rfl, h⟩ ?_
  clear h
  rintro k0 E H ⟨x7, rfl, rfl, h⟩
  cases k0 with
  | zero => cases (show (none : Option (Sum (Unit) (Bool))) = some _ from h)
  | succ k0 =>
   rw [spec_l01Is_l0] at h
   refine ACode_seq ?_
   refine kR ?_
   refine kM 1 rfl ?_
   refine AOps_q 23 _ rfl rfl rfl (QOp_lss _ _ _ _ _ _ _ rfl rfl rfl) ?_
   refine AOps_nil ?_
   refine kI h rfl (fun h _ => ?_) (fun h _ => ?_)
   ·refine ACode_skip ?_
    refine kO (fun s18 => [(1, .d (.pv (colD p0) 0)), (3, iV (w64 ((w64 (p0.p * (w64 (p0.p - 1)))).tdiv 2))), (4, iV x7)]) (fun s18 => []) h (fun os18 h hks18 => ?_) (fun s18 h => ?_)
    ·refine ACode_block ?_
     refine kB (fun s16 => [(1, .d (.pv (colD p0) 0)), (3, iV (w64 ((w64 (p0.p * (w64 (p0.p - 1)))).tdiv 2))), (4, iV x7), (50, bV s16)]) (fun s16 => []) h (fun s16 h => ?_) (fun s16 h => ?_)
     ·refine (ACode_quiet mixed (by kernel_rfl) ?_)
      refine kQ 2 rfl ?_
      refine AQ_q 28 _ rfl rfl rfl (QOp_lss _ _ _ _ _ _ _ rfl rfl rfl) ?_
      refine kQ 1 rfl ?_
      refine AQ_case 29 _ rfl (fun hb9 => ?_) (fun hb9 => ?_)
      ·have h := iteT hb9 h
       refine kQ 1 rfl ?_
       refine AQ_q 31 _ rfl rfl rfl (QOp_fieldAddr_pv _ _ _ _ _ 2 _ _ rfl Tryz.underlying26 rfl _ Tryz.sizeOf24 rfl rfl) ?_
       obtain ⟨hc10, h⟩ := guardO h
       refine AQ_q 32 _ rfl rfl rfl (QOp_indexAddrA_pv _ _ _ _ _ _ _ _ _ rfl Tryz.underlying24 Tryz.sizeOf5 hc10.1 hc10.2 rfl rfl) ?_
       refine AQ_q 33 _ rfl rfl rfl (QOp_load_pv _ _ _ _ _ rfl Tryz.isAgg5 rfl (colD_get _ _ (by omega))) ?_
       refine AQ_q 34 _ rfl rfl rfl (QOp_fromByte _ _ _ _ _ rfl rfl Tryz.underlying2 wrap_i64_byte rfl) ?_
       refine AQ_q 35 _ rfl rfl rfl (QOp_fieldAddr_pv _ _ _ _ _ 1 _ _ rfl Tryz.underlying26 rfl _ Tryz.sizeOf2 rfl rfl) ?_
       refine AQ_q 36 _ rfl rfl rfl (QOp_load_pv _ _ _ _ _ rfl Tryz.isAgg2 rfl rfl) ?_
       refine AQ_q 37 _ rfl rfl rfl (QOp_geq _ _ _ _ _ _ _ rfl rfl rfl) ?_
       refine kQ 2 rfl ?_
       refine AQ_case 39 _ rfl (fun hb11 => ?_) (fun hb11 => ?_)
       ·have h := iteT hb11 h
        refine AQ_skip 40 rfl rfl rfl ?_
        refine AQ_skip 41 rfl rfl rfl ?_
        refine AQ_skip 42 rfl rfl rfl ?_
        refine AQ_skip 43 rfl rfl rfl ?_
        refine AQ_skip 44 rfl rfl rfl ?_
        refine AQ_skip 45 rfl rfl rfl ?_
        refine AQ_skip 46 rfl rfl rfl ?_
        refine AQ_skip 47 rfl rfl rfl ?_
        refine AQ_skip 48 rfl rfl rfl ?_
        refine AQ_skip 49 rfl rfl rfl ?_
        refine kQ 1 rfl ?_
        refine AQ_nil ?_
        cases h
        exact Weak_keep 0 hm [1, 3, 4, 50] [] _ _ rfl rfl rfl
       have h := iteF hb11 h
       refine kQ 2 rfl ?_
       refine AQ_q 42 _ rfl rfl rfl (QOp_geq _ _ _ _ _ _ _ rfl rfl rfl) ?_
       refine kQ 1 rfl ?_
       refine AQ_case 43 _ rfl (fun hb12 => ?_) (fun hb12 => ?_)
       ·have h := iteT hb12 h
        refine kQ 1 rfl ?_
        refine AQ_q 45 _ rfl rfl rfl (QOp_fieldAddr_pv _ _ _ _ _ 2 _ _ rfl Tryz.underlying26 rfl _ Tryz.sizeOf24 rfl rfl) ?_
        obtain ⟨hc13, h⟩ := guardO h
        refine AQ_q 46 _ rfl rfl rfl (QOp_indexAddrA_pv _ _ _ _ _ _ _ _ _ rfl Tryz.underlying24 Tryz.sizeOf5 hc13.1 hc13.2 rfl rfl) ?_
        refine AQ_q 47 _ rfl rfl rfl (QOp_load_pv _ _ _ _ _ rfl Tryz.isAgg5 rfl (colD_get _ _ (by omega))) ?_
        refine AQ_q 48 _ rfl rfl rfl (QOp_neq _ _ _ _ _ _ _ rfl rfl rfl) ?_
        refine kQ 2 rfl ?_
        refine AQ_nil ?_
        cases h
        exact Weak_keep 0 hm [1, 3, 4, 50] [] _ _ rfl rfl rfl
       have h := iteF hb12 h
       refine AQ_skip 44 rfl rfl rfl ?_
       refine AQ_skip 45 rfl rfl rfl ?_
       refine AQ_skip 46 rfl rfl rfl ?_
       refine AQ_skip 47 rfl rfl rfl ?_
       refine AQ_skip 48 rfl rfl rfl ?_
       refine kQ 2 rfl ?_
       refine AQ_nil ?_
       cases h
       exact Weak_keep 0 hm [1, 3, 4, 50] [] _ _ rfl rfl rfl
      have h := iteF hb9 h
      refine AQ_skip 30 rfl rfl rfl ?_
      refine AQ_skip 31 rfl rfl rfl ?_
      refine AQ_skip 32 rfl rfl rfl ?_
      refine AQ_skip 33 rfl rfl rfl ?_
      refine AQ_skip 34 rfl rfl rfl ?_
      refine AQ_skip 35 rfl rfl rfl ?_
      refine AQ_skip 36 rfl rfl rfl ?_
      refine AQ_skip 37 rfl rfl rfl ?_
      refine kQ 4 rfl ?_
      refine AQ_q 42 _ rfl rfl rfl (QOp_geq _ _ _ _ _ _ _ rfl rfl rfl) ?_
      refine kQ 1 rfl ?_
      refine AQ_case 43 _ rfl (fun hb14 => ?_) (fun hb14 => ?_)
      ·have h := iteT hb14 h
       refine kQ 1 rfl ?_
       refine AQ_q 45 _ rfl rfl rfl (QOp_fieldAddr_pv _ _ _ _ _ 2 _ _ rfl Tryz.underlying26 rfl _ Tryz.sizeOf24 rfl rfl) ?_
       obtain ⟨hc15, h⟩ := guardO h
       refine AQ_q 46 _ rfl rfl rfl (QOp_indexAddrA_pv _ _ _ _ _ _ _ _ _ rfl Tryz.underlying24 Tryz.sizeOf5 hc15.1 hc15.2 rfl rfl) ?_
       refine AQ_q 47 _ rfl rfl rfl (QOp_load_pv _ _ _ _ _ rfl Tryz.isAgg5 rfl (colD_get _ _ (by omega))) ?_
       refine AQ_q 48 _ rfl rfl rfl (QOp_neq _ _ _ _ _ _ _ rfl rfl rfl) ?_
       refine kQ 2 rfl ?_
       refine AQ_nil ?_
       cases h
       exact Weak_keep 0 hm [1, 3, 4, 50] [] _ _ rfl rfl rfl
      have h := iteF hb14 h
      refine AQ_skip 44 rfl rfl rfl ?_
      refine AQ_skip 45 rfl rfl rfl ?_
      refine AQ_skip 46 rfl rfl rfl ?_
      refine AQ_skip 47 rfl rfl rfl ?_
      refine AQ_skip 48 rfl rfl rfl ?_
      refine kQ 2 rfl ?_
      refine AQ_nil ?_
      cases h
      exact Weak_keep 0 hm [1, 3, 4, 50] [] _ _ rfl rfl rfl
     refine kI h rfl (fun h _ => ?_) (fun h _ => ?_)
     ·refine kR ?_
      refine kN 1 rfl ?_
      refine ACode_ret ?_
      obtain ⟨rr, hz20, h2⟩ := bindO h
      obtain rfl := Option.some.inj h2
      obtain rfl := Option.some.inj (show some rr = some _ from hks18)
      have h := hz20
      cases h
      have h := hks19
      cases h
      exact ⟨_, _, fun r a w h => ⟨r, h⟩, _, _, [], _, (.cons (ResV_tmp _ _ rfl) .nil), rfl, rfl, rfl, rfl, rfl⟩
     refine ACode_skip ?_
     cases h
     exact ⟨_, rfl, Weak_keep 0 hm [1, 3, 4] [] _ _ rfl rfl rfl⟩
    refine (ACode_region ?_)
    refine kM 1 rfl ?_
    refine AOps_q 25 _ rfl rfl rfl (QOp_add _ _ _ _ _ _ _ rfl rfl rfl) ?_
    refine kN 1 rfl ?_
    exact ⟨k0, _, _, Nat.lt_succ_self _, Weak_keep 0 hm [1, 3, 4] [] _ _ rfl rfl rfl, _, rfl, rfl, h⟩
   refine ACode_exit ?_
   cases h
   exact ⟨_, rfl, Weak_keep 0 hm [] [] _ _ rfl rfl rfl⟩
 refine kR ?_
 refine kN 1 rfl ?_
 refine ACode_ret ?_
 cases h
 exact ⟨_, _, fun r a w h => ⟨r, h⟩, _, _, [], _, (.cons (ResV_tmp _ _ rfl) .nil), rfl, rfl, rfl, rfl, rfl⟩

-- loop.example/g01362/spec.l05Sizes
def spec_l05Sizes_l0 (p0 : List Int) : Nat → Int → Option (Sum (Unit) (Int))
 | 0, _ => none
 | k0 + 1, x2 => (if decide (x2 < (p0.length : Int)) then (if 0 ≤ x2 ∧ x2 < (p0.length : Int) then (if !(spec_l01In (p0.getD x2.toNat 0) 1 17) then some (.inr 2) else spec_l05Sizes_l0 p0 k0 (w64 (x2 + 1))) else none) else some (.inl ()))
def spec_l05Sizes (k : Nat) (p0 : List Int) (p1 : Int) : Option (Int) :=
 (if !decide ((p0.length : Int) = p1) then some 2 else (spec_l05Sizes_l0 p0 k 0 : Option (Sum (Unit) (Int))).bind fun os7 => (match os7 with | .inl s7 => some 0 | .inr rr => some rr))
set_option maxRecDepth 100000 in
theorem spec_l05Sizes_ac (k : Nat) (p0 : List Int) (p1 : Int) (r : Int) (h : spec_l05Sizes k p0 p1 = some r) : AC Tryz.prog 72 [.d (.sl none (intsD p0)), iV p1] [] (fun res H' => res = [iV r] ∧ H' = []) := by
 refine AC_of_body true Tryz.func72 rfl Tryz.ntmps72 (rvs := [.tmp 4]) rfl rfl (fun G hG => ?_)
 have hm : G.H.length = 0 := by rw [hG]; rfl
 have hz : zeroG G.H = true := by rw [hG]; rfl
 unfold spec_l05Sizes at h
 refine kR ?_
 refine kN 1 rfl ?_
 refine ACode_seq ?_
 refine kR ?_
 refine kM 1 rfl ?_
 refine AOps_q 7 _ rfl rfl rfl (QOp_len_sl _ _ _ _ _ _ _ (intsD_length _) rfl rfl rfl rfl Tryz.underlying27 rfl) ?_
 refine kM 1 rfl ?_
 refine AOps_q 9 _ rfl rfl rfl (QOp_neq _ _ _ _ _ _ _ rfl rfl rfl) ?_
 refine AOps_nil ?_
 refine kI h rfl (fun h _ => ?_) (fun h _ => ?_)
 ·refine kR ?_
  refine kN 1 rfl ?_
  refine ACode_ret ?_
  cases h
  exact ⟨_, _, fun r a w h => ⟨r, h⟩, _, _, [], _, (.cons (ResV_tmp _ _ rfl) .nil), rfl, rfl, rfl, rfl, rfl⟩
 refine ACode_skip ?_
 refine kO (fun s7 => []) (fun s7 => []) h (fun os7 h hks7 => ?_) (fun s7 h => ?_)
 ·refine kR ?_
  refine kN 1 rfl ?_
  refine ACode_block ?_
  refine ACode_loopW (fun k0 E H => ∃ (x2 : Int), E = [(0, .d (.sl none (intsD p0))), (5, iV x2)] ∧ H = [] ∧ spec_l05Sizes_l0 p0 k0 x2 = some os7) k _ _ (Weak_keep 0 hm [0, 5] [] _ _ rfl rfl rfl) ⟨_, rfl, rfl, h⟩ ?_
  clear h
  rintro k0 E H ⟨x2, rfl, rfl, h⟩
  cases k0 with
  | zero => cases (show (none : Option (Sum (Unit) (Int))) = some _ from h)
  | succ k0 =>
   rw [spec_l05Sizes_l0] at h
   refine ACode_seq ?_
   refine kR ?_
   refine kM 2 rfl ?_
   refine AOps_q 12 _ rfl rfl rfl (QOp_len_sl _ _ _ _ _ _ _ (intsD_length _) rfl rfl rfl rfl Tryz.underlying27 rfl) ?_
   refine AOps_q 13 _ rfl rfl rfl (QOp_lss _ _ _ _ _ _ _ rfl rfl rfl) ?_
   refine AOps_nil ?_
   refine kI h rfl (fun h _ => ?_) (fun h _ => ?_)
   ·refine ACode_skip ?_
    refine ACode_seq ?_
    refine ACode_block ?_
    refine kR ?_
    refine kM 2 rfl ?_
    obtain ⟨hc4, h⟩ := guardO h
    refine AOps_q 18 _ rfl rfl rfl (QOp_indexAddr_sl _ _ _ _ _ _ _ _ rfl Tryz.underlying27 Tryz.sizeOf2 hc4.1 (by rw [intsD_length]; exact hc4.2) rfl rfl) ?_
    refine AOps_q 19 _ rfl rfl rfl (QOp_load_pv _ _ _ _ _ rfl Tryz.isAgg2 rfl (intsD_get _ _ 0 (by omega))) ?_
    refine kC [] 20 (bV (spec_l01In (p0.getD x2.toNat 0) 1 17)) [] rfl Tryz.call84 rfl rfl (spec_l01In_ac (p0.getD x2.toNat 0) 1 17) rfl ?_
    refine AOps_q 21 _ rfl rfl rfl (QOp_not _ _ _ rfl rfl) ?_
    refine AOps_nil ?_
    refine kI h rfl (fun h _ => ?_) (fun h _ => ?_)
    ·refine kR ?_
     refine kN 1 rfl ?_
     refine ACode_ret ?_
     cases h
     have h := hks7
     cases h
     exact ⟨_, _, fun r a w h => ⟨r, h⟩, _, _, [], _, (.cons (ResV_tmp _ _ rfl) .nil), rfl, rfl, rfl, rfl, rfl⟩
    refine ACode_skip ?_
    refine (ACode_region ?_)
    refine kM 1 rfl ?_
    refine AOps_q 15 _ rfl rfl rfl (QOp_add _ _ _ _ _ _ _ rfl rfl rfl) ?_
    refine kN 1 rfl ?_
    exact ⟨k0, _, _, Nat.lt_succ_self _, Weak_keep 0 hm [0, 5] [] _ _ rfl rfl rfl, _, rfl, rfl, h⟩
   refine ACode_exit ?_
   cases h
   exact ⟨_, rfl, Weak_keep 0 hm [] [] _ _ rfl rfl rfl⟩
 refine kR ?_
 refine kN 1 rfl ?_
 refine ACode_ret ?_
 cases h
 exact ⟨_, _, fun r a w h => ⟨r, h⟩, _, _, [], _, (.cons (ResV_tmp _ _ rfl) .nil), rfl, rfl, rfl, rfl, rfl⟩

-- loop.example/g01362/spec.l05Code
def spec_l05Code (k : Nat) (p0 : Col) (p1 : List Int) : Option (Int) :=
 (spec_l01Is k p0).bind fun r1 => (if !r1 then some 1 else (spec_l05Sizes k p1 p0.k).bind fun r3 => some r3)
set_option maxRecDepth 100000 in
theorem spec_l05Code_ac (k : Nat) (p0 : Col) (p1 : List Int) (r : Int) (h : spec_l05Code k p0 p1 = some r) : AC Tryz.prog 41 [.d (.agg (colD p0)), .d (.sl none (intsD p1))] [] (fun res H' => res = [iV r] ∧ H' = []) := by
 refine AC_of_body true Tryz.func41 rfl Tryz.ntmps41 (rvs := [.tmp 4]) rfl rfl (fun G hG => ?_)
 have hm : G.H.length = 0 := by rw [hG]; rfl
 have hz : zeroG G.H = true := by rw [hG]; rfl
 unfold spec_l05Code at h
 refine kR ?_
 refine AOps_boxI 2 _ _ (.agg (colD p0)) (colD p0) rfl (colD_one _) rfl rfl rfl rfl rfl ?_
 refine kN 1 rfl ?_
 refine ACode_seq ?_
 refine kR ?_
 refine AOps_q 5 _ rfl rfl rfl (QOp_loadN_pv _ _ _ _ _ _ rfl Tryz.isAgg26 Tryz.sizeOf26 rfl (colD_all _) (colD_length _)) ?_
 obtain ⟨r1, hr1, h⟩ := bindO h
 refine kC [] 6 (bV r1) [] rfl Tryz.call71 rfl rfl (spec_l01Is_ac k p0 _ hr1) rfl ?_
 refine AOps_q 7 _ rfl rfl rfl (QOp_not _ _ _ rfl rfl) ?_
 refine AOps_nil ?_
 refine kI h rfl (fun h _ => ?_) (fun h _ => ?_)
 ·refine kR ?_
  refine kN 1 rfl ?_
  refine ACode_ret ?_
  cases h
  exact ⟨_, _, fun r a w h => ⟨r, h⟩, _, _, [], _, (.cons (ResV_tmp _ _ rfl) .nil), rfl, rfl, rfl, rfl, rfl⟩
 refine ACode_skip ?_
 refine kR ?_
 refine kM 1 rfl ?_
 refine AOps_q 9 _ rfl rfl rfl (QOp_fieldAddr_pv _ _ _ _ _ 1 _ _ rfl Tryz.underlying26 rfl _ Tryz.sizeOf2 rfl rfl) ?_
 refine AOps_q 10 _ rfl rfl rfl (QOp_load_pv _ _ _ _ _ rfl Tryz.isAgg2 rfl rfl) ?_
 obtain ⟨r3, hr3, h⟩ := bindO h
 refine kC [] 11 (iV r3) [] rfl Tryz.call72 rfl rfl (spec_l05Sizes_ac k p1 p0.k _ hr3) rfl ?_
 refine kN 1 rfl ?_
 refine ACode_ret ?_
 cases h
 exact ⟨_, _, fun r a w h => ⟨r, h⟩, _, _, [], _, (.cons (ResV_tmp _ _ rfl) .nil), rfl, rfl, rfl, rfl, rfl⟩

-- loop.example/g01362/spec.l05Avoids
def spec_l05Avoids_l0 (k : Nat) (p0 : Col) (p1 : List Int) : Nat → Int → Option (Sum (Unit) (Bool))
 | 0, _ => none
 | k0 + 1, x1 => (if decide (x1 < p0.k) then (if 0 ≤ IntKind.u64.wrap p0.p then (if 0 ≤ x1 ∧ x1 < (p1.length : Int) then (spec_l03Clique k p0 x1 (w64 ((bShl .i64 1 (IntKind.u64.wrap p0.p)) - 1)) (p1.getD x1.toNat 0)).bind fun r5 => (if r5 then some (.inr false) else spec_l05Avoids_l0 k p0 p1 k0 (w64 (x1 + 1))) else none) else none) else some (.inl ()))
def spec_l05Avoids (k : Nat) (p0 : Col) (p1 : List Int) : Option (Bool) :=
 (spec_l05Avoids_l0 k p0 p1 k 0 : Option (Sum (Unit) (Bool))).bind fun os7 => (match os7 with | .inl s7 => some true | .inr rr => some rr)
set_option maxRecDepth 100000 in
theorem spec_l05Avoids_ac (k : Nat) (p0 : Col) (p1 : List Int) (r : Bool) (h : spec_l05Avoids k p0 p1 = some r) : AC Tryz.prog 42 [.d (.agg (colD p0)), .d (.sl none (intsD p1))] [] (fun res H' => res = [bV r] ∧ H' = []) := by
 refine AC_of_body true Tryz.func42 rfl Tryz.ntmps42 (rvs := [.tmp 4]) rfl rfl (fun G hG => ?_)
 have hm : G.H.length = 0 := by rw [hG]; rfl
 have hz : zeroG G.H = true := by rw [hG]; rfl
 unfold spec_l05Avoids at h
 refine kR ?_
 refine AOps_boxI 2 _ _ (.agg (colD p0)) (colD p0) rfl (colD_one _) rfl rfl rfl rfl rfl ?_
 refine kN 1 rfl ?_
 refine kO (fun s7 => []) (fun s7 => []) h (fun os7 h hks7 => ?_) (fun s7 h => ?_)
 ·refine kR ?_
  refine kN 1 rfl ?_
  refine ACode_block ?_
  refine ACode_loopW (fun k0 E H => ∃ (x1 : Int), E = [(1, .d (.sl none (intsD p1))), (2, .d (.pv (colD p0) 0)), (5, iV x1)] ∧ H = [] ∧ spec_l05Avoids_l0 k p0 p1 k0 x1 = some os7) k _ _ (Weak_keep 0 hm [1, 2, 5] [] _ _ rfl rfl rfl) ⟨_, rfl, rfl, h⟩ ?_
  clear h
  rintro k0 E H ⟨x1, rfl, rfl, h⟩
  cases k0 with
  | zero => cases (show (none : Option (Sum (Unit) (Bool))) = some _ from h)
  | succ k0 =>
   rw [spec_l05Avoids_l0] at h
   refine ACode_seq ?_
   refine kR ?_
   refine kM 1 rfl ?_
   refine AOps_q 7 _ rfl rfl rfl (QOp_fieldAddr_pv _ _ _ _ _ 1 _ _ rfl Tryz.underlying26 rfl _ Tryz.sizeOf2 rfl rfl) ?_
   refine AOps_q 8 _ rfl rfl rfl (QOp_load_pv _ _ _ _ _ rfl Tryz.isAgg2 rfl rfl) ?_
   refine AOps_q 9 _ rfl rfl rfl (QOp_lss _ _ _ _ _ _ _ rfl rfl rfl) ?_
   refine AOps_nil ?_
   refine kI h rfl (fun h _ => ?_) (fun h _ => ?_)
   ·refine ACode_skip ?_
    refine ACode_seq ?_
    refine ACode_block ?_
    refine ACode_seq (ACode_quiet mixed (by kernel_rfl) ?_)
    refine AQ_q 12 _ rfl rfl rfl (QOp_loadN_pv _ _ _ _ _ _ rfl Tryz.isAgg26 Tryz.sizeOf26 rfl (colD_all _) (colD_length _)) ?_
    refine kQ 1 rfl ?_
    refine AQ_q 14 _ rfl rfl rfl (QOp_fieldAddr_pv _ _ _ _ _ 0 _ _ rfl Tryz.underlying26 rfl _ Tryz.sizeOf2 rfl rfl) ?_
    refine AQ_q 15 _ rfl rfl rfl (QOp_load_pv _ _ _ _ _ rfl Tryz.isAgg2 rfl rfl) ?_
    refine AQ_q 16 _ rfl rfl rfl (QOp_conv _ _ _ _ _ _ rfl rfl Tryz.underlying83 rfl) ?_
    obtain ⟨hc3, h⟩ := guardO h
    refine AQ_q 17 _ rfl rfl rfl (QOp_shl _ _ _ _ _ _ _ _ hc3 rfl rfl rfl) ?_
    refine AQ_q 18 _ rfl rfl rfl (QOp_sub _ _ _ _ _ _ _ rfl rfl rfl) ?_
    refine kQ 2 rfl ?_
    obtain ⟨hc4, h⟩ := guardO h
    refine AQ_q 21 _ rfl rfl rfl (QOp_indexAddr_sl _ _ _ _ _ _ _ _ rfl Tryz.underlying27 Tryz.sizeOf2 hc4.1 (by rw [intsD_length]; exact hc4.2) rfl rfl) ?_
    refine AQ_q 22 _ rfl rfl rfl (QOp_load_pv _ _ _ _ _ rfl Tryz.isAgg2 rfl (intsD_get _ _ 0 (by omega))) ?_
    obtain ⟨r5, hr5, h⟩ := bindO h
    refine AQ_call 23 _ _ _ _ _ _ _ _ _ rfl rfl rfl rfl rfl rfl rfl Tryz.call73 rfl rfl rfl (spec_l03Clique_ac k p0 x1 (w64 ((bShl .i64 1 (IntKind.u64.wrap p0.p)) - 1)) (p1.getD x1.toNat 0) _ hr5) ?_
    refine AQ_nil ?_
    refine kI h rfl (fun h _ => ?_) (fun h _ => ?_)
    ·refine kR ?_
     refine kN 1 rfl ?_
     refine ACode_ret ?_
     cases h
     have h := hks7
     cases h
     exact ⟨_, _, fun r a w h => ⟨r, h⟩, _, _, [], _, (.cons (ResV_tmp _ _ rfl) .nil), rfl, rfl, rfl, rfl, rfl⟩
    refine ACode_skip ?_
    refine (ACode_region ?_)
    refine kM 1 rfl ?_
    refine AOps_q 11 _ rfl rfl rfl (QOp_add _ _ _ _ _ _ _ rfl rfl rfl) ?_
    refine kN 1 rfl ?_
    exact ⟨k0, _, _, Nat.lt_succ_self _, Weak_keep 0 hm [1, 2, 5] [] _ _ rfl rfl rfl, _, rfl, rfl, h⟩
   refine ACode_exit ?_
   cases h
   exact ⟨_, rfl, Weak_keep 0 hm [] [] _ _ rfl rfl rfl⟩
 refine kR ?_
 refine kN 1 rfl ?_
 refine ACode_ret ?_
 cases h
 exact ⟨_, _, fun r a w h => ⟨r, h⟩, _, _, [], _, (.cons (ResV_tmp _ _ rfl) .nil), rfl, rfl, rfl, rfl, rfl⟩

-- loop.example/g01362/spec.l05Given
def spec_l05Given (k : Nat) (p0 : Col) (p1 : List Int) : Option (Int) :=
 (spec_l05Code k p0 p1).bind fun r1 => (((if decide (r1 = 0) then (spec_l05Avoids k p0 p1).bind fun r3 => some (!r3) else some false) : Option (Bool)).bind fun s4 => (if s4 then some (.inr 5) else some (.inl ())) : Option (Sum (Unit) (Int))).bind fun os6 => (match os6 with | .inl s6 => some r1 | .inr rr => some rr)
set_option maxRecDepth 100000 in
theorem spec_l05Given_ac (k : Nat) (p0 : Col) (p1 : List Int) (r : Int) (h : spec_l05Given k p0 p1 = some r) : AC Tryz.prog 64 [.d (.agg (colD p0)), .d (.sl none (intsD p1))] [] (fun res H' => res = [iV r] ∧ H' = []) := by
 refine AC_of_body true Tryz.func64 rfl Tryz.ntmps64 (rvs := [.tmp 4]) rfl rfl (fun G hG => ?_)
 have hm : G.H.length = 0 := by rw [hG]; rfl
 have hz : zeroG G.H = true := by rw [hG]; rfl
 unfold spec_l05Given at h
 refine kR ?_
 refine AOps_boxI 2 _ _ (.agg (colD p0)) (colD p0) rfl (colD_one _) rfl rfl rfl rfl rfl ?_
 refine kN 1 rfl ?_
 refine kR ?_
 refine AOps_q 6 _ rfl rfl rfl (QOp_loadN_pv _ _ _ _ _ _ rfl Tryz.isAgg26 Tryz.sizeOf26 rfl (colD_all _) (colD_length _)) ?_
 refine kM 1 rfl ?_
 obtain ⟨r1, hr1, h⟩ := bindO h
 refine kC [] 8 (iV r1) [] rfl Tryz.call41 rfl rfl (spec_l05Code_ac k p0 p1 _ hr1) rfl ?_
 refine kN 1 rfl ?_
 refine kO (fun s6 => [(5, iV r1)]) (fun s6 => []) h (fun os6 h hks6 => ?_) (fun s6 h => ?_)
 ·refine kB (fun s4 => [(5, iV r1), (16, bV s4)]) (fun s4 => []) h (fun s4 h => ?_) (fun s4 h => ?_)
  ·refine (ACode_region ?_)
   refine kM 1 rfl ?_
   refine AOps_q 10 _ rfl rfl rfl (QOp_eql _ _ _ _ _ _ _ rfl rfl rfl) ?_
   refine kM 1 rfl ?_
   refine AOps_case 11 _ rfl (fun hb2 => ?_) (fun hb2 => ?_)
   ·have h := iteT hb2 h
    refine AOps_q 12 _ rfl rfl rfl (QOp_loadN_pv _ _ _ _ _ _ rfl Tryz.isAgg26 Tryz.sizeOf26 rfl (colD_all _) (colD_length _)) ?_
    refine kM 1 rfl ?_
    obtain ⟨r3, hr3, h⟩ := bindO h
    refine kC [] 14 (bV r3) [] rfl Tryz.call42 rfl rfl (spec_l05Avoids_ac k p0 p1 _ hr3) rfl ?_
    refine AOps_q 15 _ rfl rfl rfl (QOp_not _ _ _ rfl rfl) ?_
    refine kN 1 rfl ?_
    cases h
    exact Weak_keep 0 hm [5, 16] [] _ _ rfl rfl rfl
   have h := iteF hb2 h
   refine AOps_skip 12 rfl rfl rfl ?_
   refine AOps_skip 13 rfl rfl rfl ?_
   refine AOps_skip 14 rfl rfl rfl ?_
   refine AOps_skip 15 rfl rfl rfl ?_
   refine kN 1 rfl ?_
   cases h
   exact Weak_keep 0 hm [5, 16] [] _ _ rfl rfl rfl
  refine kI h rfl (fun h _ => ?_) (fun h _ => ?_)
  ·refine kR ?_
   refine kN 1 rfl ?_
   refine ACode_ret ?_
   cases h
   have h := hks6
   cases h
   exact ⟨_, _, fun r a w h => ⟨r, h⟩, _, _, [], _, (.cons (ResV_tmp _ _ rfl) .nil), rfl, rfl, rfl, rfl, rfl⟩
  refine ACode_skip ?_
  cases h
  exact ⟨_, rfl, Weak_keep 0 hm [5] [] _ _ rfl rfl rfl⟩
 refine kR ?_
 refine kN 2 rfl ?_
 refine ACode_ret ?_
 cases h
 exact ⟨_, _, fun r a w h => ⟨r, h⟩, _, _, [], _, (.cons (ResV_tmp _ _ rfl) .nil), rfl, rfl, rfl, rfl, rfl⟩

-- loop.example/g01362/spec.l05Small
def spec_l05Small (k : Nat) (p0 : Col) (p1 : List Int) : Option (Int) :=
 (spec_l05Given k p0 p1).bind fun r1 => (letO (if decide (r1 = 0) then decide (12 < p0.p) else false) fun (s3 : Bool) => (if s3 then some (.inr 3) else some (.inl ())) : Option (Sum (Unit) (Int))).bind fun os5 => (match os5 with | .inl s5 => some r1 | .inr rr => some rr)
set_option maxRecDepth 100000 in
theorem spec_l05Small_ac (k : Nat) (p0 : Col) (p1 : List Int) (r : Int) (h : spec_l05Small k p0 p1 = some r) : AC Tryz.prog 32 [.d (.agg (colD p0)), .d (.sl none (intsD p1))] [] (fun res H' => res = [iV r] ∧ H' = []) := by
 refine AC_of_body true Tryz.func32 rfl Tryz.ntmps32 (rvs := [.tmp 4]) rfl rfl (fun G hG => ?_)
 have hm : G.H.length = 0 := by rw [hG]; rfl
 have hz : zeroG G.H = true := by rw [hG]; rfl
 unfold spec_l05Small at h
 refine kR ?_
 refine AOps_boxI 2 _ _ (.agg (colD p0)) (colD p0) rfl (colD_one _) rfl rfl rfl rfl rfl ?_
 refine kN 1 rfl ?_
 refine kR ?_
 refine AOps_q 6 _ rfl rfl rfl (QOp_loadN_pv _ _ _ _ _ _ rfl Tryz.isAgg26 Tryz.sizeOf26 rfl (colD_all _) (colD_length _)) ?_
 refine kM 1 rfl ?_
 obtain ⟨r1, hr1, h⟩ := bindO h
 refine kC [] 8 (iV r1) [] rfl Tryz.call64 rfl rfl (spec_l05Given_ac k p0 p1 _ hr1) rfl ?_
 refine kN 1 rfl ?_
 refine kO (fun s5 => [(5, iV r1)]) (fun s5 => []) h (fun os5 h hks5 => ?_) (fun s5 h => ?_)
 ·refine kL (fun s3 => [(5, iV r1), (15, bV s3)]) (fun s3 => []) h (fun s3 h => ?_) (fun s3 h => ?_)
  ·refine (ACode_region ?_)
   refine kM 1 rfl ?_
   refine AOps_q 10 _ rfl rfl rfl (QOp_eql _ _ _ _ _ _ _ rfl rfl rfl) ?_
   refine kM 1 rfl ?_
   refine AOps_case 11 _ rfl (fun hb2 => ?_) (fun hb2 => ?_)
   ·have h := iteT hb2 h
    refine AOps_q 12 _ rfl rfl rfl (QOp_fieldAddr_pv _ _ _ _ _ 0 _ _ rfl Tryz.underlying26 rfl _ Tryz.sizeOf2 rfl rfl) ?_
    refine AOps_q 13 _ rfl rfl rfl (QOp_load_pv _ _ _ _ _ rfl Tryz.isAgg2 rfl rfl) ?_
    refine AOps_q 14 _ rfl rfl rfl (QOp_gtr _ _ _ _ _ _ _ rfl rfl rfl) ?_
    refine kN 1 rfl ?_
    cases h
    exact Weak_keep 0 hm [5, 15] [] _ _ rfl rfl rfl
   have h := iteF hb2 h
   refine AOps_skip 12 rfl rfl rfl ?_
   refine AOps_skip 13 rfl rfl rfl ?_
   refine AOps_skip 14 rfl rfl rfl ?_
   refine kN 1 rfl ?_
   cases h
   exact Weak_keep 0 hm [5, 15] [] _ _ rfl rfl rfl
  refine kI h rfl (fun h _ => ?_) (fun h _ => ?_)
  ·refine kR ?_
   refine kN 1 rfl ?_
   refine ACode_ret ?_
   cases h
   have h := hks5
   cases h
   exact ⟨_, _, fun r a w h => ⟨r, h⟩, _, _, [], _, (.cons (ResV_tmp _ _ rfl) .nil), rfl, rfl, rfl, rfl, rfl⟩
  refine ACode_skip ?_
  cases h
  exact ⟨_, rfl, Weak_keep 0 hm [5] [] _ _ rfl rfl rfl⟩
 refine kR ?_
 refine kN 2 rfl ?_
 refine ACode_ret ?_
 cases h
 exact ⟨_, _, fun r a w h => ⟨r, h⟩, _, _, [], _, (.cons (ResV_tmp _ _ rfl) .nil), rfl, rfl, rfl, rfl, rfl⟩

-- loop.example/g01362/spec.l05Count
def spec_l05Count_l0 (k : Nat) (self : Col → (List Int) → Int → (List Int) → (List Int) → Option (List Int)) (p0 : Col) (p1 : List Int) (p2 : Int) (p3 : List Int) : Nat → Int → (List Int) → Option (List Int)
 | 0, _, _ => none
 | k0 + 1, x6, x7 => (if decide (x6 < p0.k) then ((((if 0 ≤ x6 ∧ x6 < (p1.length : Int) then (if decide ((p1.getD x6.toNat 0) < 2) then some true else (if 0 ≤ x6 ∧ x6 < (p3.length : Int) then (spec_l01Around k p0 p2 x6).bind fun r12 => (if 0 ≤ x6 ∧ x6 < (p1.length : Int) then (spec_l03Clique k p0 x6 (bAnd .i64 (p3.getD x6.toNat 0) r12) (w64 ((p1.getD x6.toNat 0) - 2))).bind fun r14 => some r14 else none) else none)) else none) : Option (Bool)).bind fun s15 => (if s15 then (some x7).bind fun rr => some (.inr rr) else some (.inl ())) : Option (Sum (Unit) (List Int))).bind fun os17 => (match os17 with | .inl s17 => (spec_l01Own p3).bind fun r18 => (if 0 ≤ x6 ∧ x6 < (r18.length : Int) then (if 0 ≤ IntKind.u64.wrap p2 then (if 0 ≤ x6 ∧ x6 < (r18.length : Int) then (self p0 p1 (w64 (p2 + 1)) (r18.set x6.toNat (bOr .i64 (r18.getD x6.toNat 0) (bShl .i64 1 (IntKind.u64.wrap p2)))) x7).bind fun r22 => some r22 else none) else none) else none) | .inr rr => some rr) : Option (List Int)).bind fun s23 => spec_l05Count_l0 k self p0 p1 p2 p3 k0 (w64 (x6 + 1)) s23 else some x7)
def spec_l05Count_body (self : Col → (List Int) → Int → (List Int) → (List Int) → Option (List Int)) (k : Nat) (p0 : Col) (p1 : List Int) (p2 : Int) (p3 : List Int) (p4 : List Int) : Option (List Int) :=
 (if decide (p2 = p0.p) then (if 0 ≤ (0 : Int) ∧ (0 : Int) < (p3.length : Int) then (spec_l01Ones k (p3.getD (0 : Int).toNat 0)).bind fun r3 => (if 0 ≤ r3 ∧ r3 < (p4.length : Int) then (if 0 ≤ r3 ∧ r3 < (p4.length : Int) then some (p4.set r3.toNat (w64 ((p4.getD r3.toNat 0) + 1))) else none) else none) else none) else spec_l05Count_l0 k self p0 p1 p2 p3 k 0 p4)
def spec_l05Count : Nat → Col → (List Int) → Int → (List Int) → (List Int) → Option (List Int)
 | 0, _, _, _, _, _ => none
 | k + 1, p0, p1, p2, p3, p4 => spec_l05Count_body (spec_l05Count k) k p0 p1 p2 p3 p4
set_option maxRecDepth 100000 in
theorem spec_l05Count_ac (k : Nat) (p0 : Col) (p1 : List Int) (p2 : Int) (p3 : List Int) (p4 : List Int) (r : List Int) (h : spec_l05Count k p0 p1 p2 p3 p4 = some r) : AC Tryz.prog 65 [.d (.agg (colD p0)), .d (.sl none (intsD p1)), iV p2, .d (.sl none (intsD p3)), .vec 0 0] [.vec 0 (intsD p4)] (fun res H' => res = [] ∧ H' = [.vec 0 (intsD r)]) := by
 induction k generalizing p0 p1 p2 p3 p4 r with
 | zero => simp [spec_l05Count] at h
 | succ k ih =>
  rw [spec_l05Count] at h
  obtain ⟨self, hself, hk⟩ : ∃ self : Col → (List Int) → Int → (List Int) → (List Int) → Option (List Int), (∀ (p0 : Col) (p1 : List Int) (p2 : Int) (p3 : List Int) (p4 : List Int) (r : List Int), self p0 p1 p2 p3 p4 = some r → AC Tryz.prog 65 [.d (.agg (colD p0)), .d (.sl none (intsD p1)), iV p2, .d (.sl none (intsD p3)), .vec 0 0] [.vec 0 (intsD p4)] (fun res H' => res = [] ∧ H' = [.vec 0 (intsD r)])) ∧ spec_l05Count k = self := ⟨spec_l05Count k, fun p0 p1 p2 p3 p4 r h => ih p0 p1 p2 p3 p4 r h, rfl⟩
  rw [hk] at h
  clear ih hk
  refine AC_of_body true Tryz.func65 rfl Tryz.ntmps65 (rvs := []) rfl rfl (fun G hG => ?_)
  have hm : G.H.length = 1 := by rw [hG]; rfl
  have hz : zeroG G.H = true := by rw [hG]; rfl
  unfold spec_l05Count_body at h
  refine kR ?_
  refine AOps_boxI 5 _ _ (.agg (colD p0)) (colD p0) rfl (colD_one _) rfl rfl rfl rfl rfl ?_
  refine AOps_nil ?_
  refine ACode_seq ?_
  refine kR ?_
  refine kM 1 rfl ?_
  refine AOps_q 13 _ rfl rfl rfl (QOp_fieldAddr_pv _ _ _ _ _ 0 _ _ rfl Tryz.underlying26 rfl _ Tryz.sizeOf2 rfl rfl) ?_
  refine AOps_q 14 _ rfl rfl rfl (QOp_load_pv _ _ _ _ _ rfl Tryz.isAgg2 rfl rfl) ?_
  refine AOps_q 15 _ rfl rfl rfl (QOp_eql _ _ _ _ _ _ _ rfl rfl rfl) ?_
  refine AOps_nil ?_
  refine kI h rfl (fun h _ => ?_) (fun h _ => ?_)
  ·refine kR ?_
   refine kM 2 rfl ?_
   obtain ⟨hc2, h⟩ := guardO h
   refine AOps_q 18 _ rfl rfl rfl (QOp_indexAddr_sl _ _ _ _ _ _ _ _ rfl Tryz.underlying27 Tryz.sizeOf2 hc2.1 (by rw [intsD_length]; exact hc2.2) rfl rfl) ?_
   refine AOps_q 19 _ rfl rfl rfl (QOp_load_pv _ _ _ _ _ rfl Tryz.isAgg2 rfl (intsD_get _ _ 0 (by omega))) ?_
   obtain ⟨r3, hr3, h⟩ := bindO h
   refine kC [] 20 (iV r3) [.vec 0 (intsD p4)] rfl Tryz.call96 rfl rfl (spec_l01Ones_ac k (p3.getD (0 : Int).toNat 0) _ hr3) rfl ?_
   obtain ⟨hc4, h⟩ := guardO h
   refine AOps_q 21 _ rfl rfl rfl (QOp_indexAddr_vec _ _ _ _ _ _ _ _ _ rfl Tryz.underlying27 Tryz.sizeOf2 hc4.1 (by rw [intsD_length]; exact hc4.2) rfl rfl rfl) ?_
   refine AOps_q 22 _ rfl rfl rfl (QOp_load_eptr _ _ _ _ _ _ _ rfl Tryz.isAgg2 rfl rfl (intsD_get _ _ 0 (by omega))) ?_
   refine AOps_q 23 _ rfl rfl rfl (QOp_add _ _ _ _ _ _ _ rfl rfl rfl) ?_
   obtain ⟨hc5, h⟩ := guardO h
   refine AOps_q 24 _ rfl rfl rfl (QOp_indexAddr_vec _ _ _ _ _ _ _ _ _ rfl Tryz.underlying27 Tryz.sizeOf2 hc5.1 (by rw [intsD_length]; exact hc5.2) rfl rfl rfl) ?_
   refine AOps_store_eptr _ _ _ _ _ _ (intsD p4) _ rfl rfl rfl rfl rfl rfl rfl Tryz.sizeOf2 (by rw [intsD_length]; omega) ?_
   rw [intsD_set]
   refine AOps_nil ?_
   refine ACode_ret ?_
   cases h
   exact ⟨_, _, fun r a w h => ⟨r, h⟩, _, _, [], _, .nil, rfl, rfl, rfl, rfl, rfl⟩
  refine ACode_skip ?_
  refine kR ?_
  refine kN 1 rfl ?_
  refine ACode_block ?_
  refine ACode_loopW (fun k0 E H => ∃ (x6 : Int) (x7 : List Int), E = [(1, .d (.sl none (intsD p1))), (2, iV p2), (3, .d (.sl none (intsD p3))), (4, .vec 0 0), (5, .d (.pv (colD p0) 0)), (10, iV x6)] ∧ H = [.vec 0 (intsD x7)] ∧ spec_l05Count_l0 k self p0 p1 p2 p3 k0 x6 x7 = some r) k _ _ (Weak_keep 1 hm [1, 2, 3, 4, 5, 10] [] _ _ rfl rfl rfl) ⟨_, _, rfl, rfl, h⟩ ?_
  clear h
  rintro k0 E H ⟨x6, x7, rfl, rfl, h⟩
  cases k0 with
  | zero => cases (show (none : Option (List Int)) = some _ from h)
  | succ k0 =>
   rw [spec_l05Count_l0] at h
   refine ACode_seq ?_
   refine kR ?_
   refine kM 1 rfl ?_
   refine AOps_q 26 _ rfl rfl rfl (QOp_fieldAddr_pv _ _ _ _ _ 1 _ _ rfl Tryz.underlying26 rfl _ Tryz.sizeOf2 rfl rfl) ?_
   refine AOps_q 27 _ rfl rfl rfl (QOp_load_pv _ _ _ _ _ rfl Tryz.isAgg2 rfl rfl) ?_
   refine AOps_q 28 _ rfl rfl rfl (QOp_lss _ _ _ _ _ _ _ rfl rfl rfl) ?_
   refine AOps_nil ?_
   refine kI h rfl (fun h _ => ?_) (fun h _ => ?_)
   ·refine ACode_skip ?_
    refine kB (fun s23 => [(1, .d (.sl none (intsD p1))), (2, iV p2), (3, .d (.sl none (intsD p3))), (4, .vec 0 0), (5, .d (.pv (colD p0) 0)), (10, iV x6)]) (fun s23 => [.vec 0 (intsD s23)]) h (fun s23 h => ?_) (fun s23 h => ?_)
    ·refine ACode_block ?_
     refine kO (fun s17 => [(1, .d (.sl none (intsD p1))), (2, iV p2), (3, .d (.sl none (intsD p3))), (4, .vec 0 0), (5, .d (.pv (colD p0) 0)), (10, iV x6)]) (fun s17 => [.vec 0 (intsD x7)]) h (fun os17 h hks17 => ?_) (fun s17 h => ?_)
     ·refine kB (fun s15 => [(1, .d (.sl none (intsD p1))), (2, iV p2), (3, .d (.sl none (intsD p3))), (4, .vec 0 0), (5, .d (.pv (colD p0) 0)), (10, iV x6), (54, bV s15)]) (fun s15 => [.vec 0 (intsD x7)]) h (fun s15 h => ?_) (fun s15 h => ?_)
      ·refine (ACode_quiet mixed (by kernel_rfl) ?_)
       refine kQ 2 rfl ?_
       obtain ⟨hc9, h⟩ := guardO h
       refine AQ_q 33 _ rfl rfl rfl (QOp_indexAddr_sl _ _ _ _ _ _ _ _ rfl Tryz.underlying27 Tryz.sizeOf2 hc9.1 (by rw [intsD_length]; exact hc9.2) rfl rfl) ?_
       refine AQ_q 34 _ rfl rfl rfl (QOp_load_pv _ _ _ _ _ rfl Tryz.isAgg2 rfl (intsD_get _ _ 0 (by omega))) ?_
       refine AQ_q 35 _ rfl rfl rfl (QOp_lss _ _ _ _ _ _ _ rfl rfl rfl) ?_
       refine kQ 1 rfl ?_
       refine AQ_case 36 _ rfl (fun hb10 => ?_) (fun hb10 => ?_)
       ·have h := iteT hb10 h
        refine AQ_skip 37 rfl rfl rfl ?_
        refine AQ_skip 38 rfl rfl rfl ?_
        refine AQ_skip 39 rfl rfl rfl ?_
        refine AQ_skip 40 rfl rfl rfl ?_
        refine AQ_skip 41 rfl rfl rfl ?_
        refine AQ_skip 42 rfl rfl rfl ?_
        refine AQ_skip 43 rfl rfl rfl ?_
        refine AQ_skip 44 rfl rfl rfl ?_
        refine AQ_skip 45 rfl rfl rfl ?_
        refine AQ_skip 46 rfl rfl rfl ?_
        refine AQ_skip 47 rfl rfl rfl ?_
        refine AQ_skip 48 rfl rfl rfl ?_
        refine AQ_skip 49 rfl rfl rfl ?_
        refine AQ_skip 50 rfl rfl rfl ?_
        refine AQ_skip 51 rfl rfl rfl ?_
        refine AQ_skip 52 rfl rfl rfl ?_
        refine AQ_skip 53 rfl rfl rfl ?_
        refine kQ 1 rfl ?_
        refine AQ_nil ?_
        cases h
        exact Weak_keep 1 hm [1, 2, 3, 4, 5, 10, 54] [] _ _ rfl rfl rfl
       have h := iteF hb10 h
       refine AQ_q 37 _ rfl rfl rfl (QOp_loadN_pv _ _ _ _ _ _ rfl Tryz.isAgg26 Tryz.sizeOf26 rfl (colD_all _) (colD_length _)) ?_
       refine kQ 3 rfl ?_
       obtain ⟨hc11, h⟩ := guardO h
       refine AQ_q 41 _ rfl rfl rfl (QOp_indexAddr_sl _ _ _ _ _ _ _ _ rfl Tryz.underlying27 Tryz.sizeOf2 hc11.1 (by rw [intsD_length]; exact hc11.2) rfl rfl) ?_
       refine AQ_q 42 _ rfl rfl rfl (QOp_load_pv _ _ _ _ _ rfl Tryz.isAgg2 rfl (intsD_get _ _ 0 (by omega))) ?_
       refine AQ_q 43 _ rfl rfl rfl (QOp_loadN_pv _ _ _ _ _ _ rfl Tryz.isAgg26 Tryz.sizeOf26 rfl (colD_all _) (colD_length _)) ?_
       refine kQ 2 rfl ?_
       obtain ⟨r12, hr12, h⟩ := bindO h
       refine AQ_call 46 _ _ _ _ _ _ _ _ _ rfl rfl rfl rfl rfl rfl rfl Tryz.call97 rfl rfl rfl (spec_l01Around_ac k p0 p2 x6 _ hr12) ?_
       refine AQ_q 47 _ rfl rfl rfl (QOp_and _ _ _ _ _ _ _ rfl rfl rfl) ?_
       refine kQ 2 rfl ?_
       obtain ⟨hc13, h⟩ := guardO h
       refine AQ_q 50 _ rfl rfl rfl (QOp_indexAddr_sl _ _ _ _ _ _ _ _ rfl Tryz.underlying27 Tryz.sizeOf2 hc13.1 (by rw [intsD_length]; exact hc13.2) rfl rfl) ?_
       refine AQ_q 51 _ rfl rfl rfl (QOp_load_pv _ _ _ _ _ rfl Tryz.isAgg2 rfl (intsD_get _ _ 0 (by omega))) ?_
       refine AQ_q 52 _ rfl rfl rfl (QOp_sub _ _ _ _ _ _ _ rfl rfl rfl) ?_
       obtain ⟨r14, hr14, h⟩ := bindO h
       refine AQ_call 53 _ _ _ _ _ _ _ _ _ rfl rfl rfl rfl rfl rfl rfl Tryz.call73 rfl rfl rfl (spec_l03Clique_ac k p0 x6 (bAnd .i64 (p3.getD x6.toNat 0) r12) (w64 ((p1.getD x6.toNat 0) - 2)) _ hr14) ?_
       refine kQ 1 rfl ?_
       refine AQ_nil ?_
       cases h
       exact Weak_keep 1 hm [1, 2, 3, 4, 5, 10, 54] [] _ _ rfl rfl rfl
      refine kI h rfl (fun h _ => ?_) (fun h _ => ?_)
      ·refine ACode_exit ?_
       obtain ⟨rr, hz24, h2⟩ := bindO h
       obtain rfl := Option.some.inj h2
       obtain rfl := Option.some.inj (show some rr = some _ from hks17)
       have h := hz24
       cases h
       exact Weak_keep 1 hm [1, 2, 3, 4, 5, 10] [] _ _ rfl rfl rfl
      refine ACode_skip ?_
      cases h
      exact ⟨_, rfl, Weak_keep 1 hm [1, 2, 3, 4, 5, 10] [] _ _ rfl rfl rfl⟩
     refine kR ?_
     refine kM 1 rfl ?_
     obtain ⟨r18, hr18, h⟩ := bindO h
     refine kC [] 56 (.vec 1 0) [.vec 0 (intsD x7), .vec 0 (intsD r18)] rfl Tryz.call52 rfl rfl (spec_l01Own_ac p3 _ hr18) rfl ?_
     refine kN 1 rfl ?_
     refine kR ?_
     refine kM 4 rfl ?_
     obtain ⟨hc19, h⟩ := guardO h
     refine AOps_q 61 _ rfl rfl rfl (QOp_indexAddr_vec _ _ _ _ _ _ _ _ _ rfl Tryz.underlying27 Tryz.sizeOf2 hc19.1 (by rw [intsD_length]; exact hc19.2) rfl rfl rfl) ?_
     refine AOps_q 62 _ rfl rfl rfl (QOp_load_eptr _ _ _ _ _ _ _ rfl Tryz.isAgg2 rfl rfl (intsD_get _ _ 0 (by omega))) ?_
     refine kM 1 rfl ?_
     refine AOps_q 64 _ rfl rfl rfl (QOp_conv _ _ _ _ _ _ rfl rfl Tryz.underlying83 rfl) ?_
     obtain ⟨hc20, h⟩ := guardO h
     refine AOps_q 65 _ rfl rfl rfl (QOp_shl _ _ _ _ _ _ _ _ hc20 rfl rfl rfl) ?_
     refine AOps_q 66 _ rfl rfl rfl (QOp_or _ _ _ _ _ _ _ rfl rfl rfl) ?_
     obtain ⟨hc21, h⟩ := guardO h
     refine AOps_q 67 _ rfl rfl rfl (QOp_indexAddr_vec _ _ _ _ _ _ _ _ _ rfl Tryz.underlying27 Tryz.sizeOf2 hc21.1 (by rw [intsD_length]; exact hc21.2) rfl rfl rfl) ?_
     refine AOps_store_eptr _ _ _ _ _ _ (intsD r18) _ rfl rfl rfl rfl rfl rfl rfl Tryz.sizeOf2 (by rw [intsD_length]; omega) ?_
     rw [intsD_set]
     refine AOps_nil ?_
     refine (ACode_region ?_)
     refine AOps_q 68 _ rfl rfl rfl (QOp_loadN_pv _ _ _ _ _ _ rfl Tryz.isAgg26 Tryz.sizeOf26 rfl (colD_all _) (colD_length _)) ?_
     refine kM 2 rfl ?_
     refine AOps_q 71 _ rfl rfl rfl (QOp_add _ _ _ _ _ _ _ rfl rfl rfl) ?_
     refine kM 2 rfl ?_
     obtain ⟨r22, hr22, h⟩ := bindO h
     refine AOps_callL [0] 74 _ _ _ _ _ _ _ _ _ _ rfl rfl rfl rfl rfl rfl rfl Tryz.call65 rfl (nodupB_sound _ rfl) rfl rfl rfl (hself p0 p1 (w64 (p2 + 1)) (r18.set x6.toNat (bOr .i64 (r18.getD x6.toNat 0) (bShl .i64 1 (IntKind.u64.wrap p2)))) x7 _ hr22) ?_
     rintro _ _ ⟨rfl, rfl⟩
     refine ⟨(allc (intsD_flat _) (fun _ h => nomatch h)), (fun _ h => nomatch h), AOps_as 74 (v' := .tup []) (H' := [.vec 0 (intsD r22), .vec 0 (intsD (r18.set x6.toNat (bOr .i64 (r18.getD x6.toNat 0) (bShl .i64 1 (IntKind.u64.wrap p2)))))]) rfl rfl ?_⟩
     refine AOps_nil ?_
     cases h
     exact Weak_keep 1 hm [1, 2, 3, 4, 5, 10] [] _ _ rfl rfl rfl
    refine (ACode_region ?_)
    refine kM 1 rfl ?_
    refine AOps_q 30 _ rfl rfl rfl (QOp_add _ _ _ _ _ _ _ rfl rfl rfl) ?_
    refine kN 1 rfl ?_
    exact ⟨k0, _, _, Nat.lt_succ_self _, Weak_keep 1 hm [1, 2, 3, 4, 5, 10] [] _ _ rfl rfl rfl, _, _, rfl, rfl, h⟩
   refine ACode_exit ?_
   cases h
   exact ⟨_, _, fun r a w h => ⟨r, h⟩, _, _, [], _, .nil, rfl, rfl, rfl, rfl, rfl⟩

-- loop.example/g01362/spec.l05Degrees
def spec_l05Degrees_l0 (p0 : Col) (p1 : List Int) : Nat → Int → Option (Sum (Unit) (List Int))
 | 0, _ => none
 | k0 + 1, x2 => (if decide (x2 < (p1.length : Int)) then (if 0 ≤ x2 ∧ x2 < (p1.length : Int) then (if decide ((p1.getD x2.toNat 0) = 1) then some (.inr (List.replicate (w64 (p0.p + 1)).toNat (0 : Int))) else spec_l05Degrees_l0 p0 p1 k0 (w64 (x2 + 1))) else none) else some (.inl ()))
def spec_l05Degrees (k : Nat) (p0 : Col) (p1 : List Int) : Option (List Int) :=
 (if 0 ≤ w64 (p0.p + 1) ∧ w64 (p0.p + 1) ≤ w64 (p0.p + 1) ∧ w64 (p0.p + 1) ≤ 1099511627776 then (spec_l05Degrees_l0 p0 p1 k 0 : Option (Sum (Unit) (List Int))).bind fun os6 => (match os6 with | .inl s6 => (if 0 ≤ p0.k ∧ p0.k ≤ p0.k ∧ p0.k ≤ 1099511627776 then (spec_l05Count k p0 p1 0 (List.replicate p0.k.toNat (0 : Int)) (List.replicate (w64 (p0.p + 1)).toNat (0 : Int))).bind fun r8 => some r8 else none) | .inr rr => some rr) else none)
set_option maxRecDepth 100000 in
theorem spec_l05Degrees_ac (k : Nat) (p0 : Col) (p1 : List Int) (r : List Int) (h : spec_l05Degrees k p0 p1 = some r) : AC Tryz.prog 33 [.d (.agg (colD p0)), .d (.sl none (intsD p1))] [] (fun res H' => res = [.vec 0 0] ∧ H' = [.vec 0 (intsD r)]) := by
 refine AC_of_body true Tryz.func33 rfl Tryz.ntmps33 (rvs := [.tmp 4]) rfl rfl (fun G hG => ?_)
 have hm : G.H.length = 0 := by rw [hG]; rfl
 have hz : zeroG G.H = true := by rw [hG]; rfl
 unfold spec_l05Degrees at h
 refine kR ?_
 refine AOps_boxI 2 _ _ (.agg (colD p0)) (colD p0) rfl (colD_one _) rfl rfl rfl rfl rfl ?_
 refine kN 1 rfl ?_
 refine kR ?_
 refine AOps_q 7 _ rfl rfl rfl (QOp_fieldAddr_pv _ _ _ _ _ 0 _ _ rfl Tryz.underlying26 rfl _ Tryz.sizeOf2 rfl rfl) ?_
 refine AOps_q 8 _ rfl rfl rfl (QOp_load_pv _ _ _ _ _ rfl Tryz.isAgg2 rfl rfl) ?_
 refine AOps_q 9 _ rfl rfl rfl (QOp_add _ _ _ _ _ _ _ rfl rfl rfl) ?_
 obtain ⟨hc1, h⟩ := guardO h
 refine AOps_makeSliceG intsD iD 0 (intsD_rep · _) 10 _ _ _ _ _ _ (w64 (p0.p + 1)) (w64 (p0.p + 1)) _ (.int .i64 0) rfl rfl rfl rfl rfl rfl Tryz.underlying27 Tryz.type2 rfl rfl (by decide) rfl rfl hc1.1 hc1.2.1 hc1.2.2 ?_
 refine kN 1 rfl ?_
 refine kO (fun s6 => [(1, .d (.sl none (intsD p1))), (2, .d (.pv (colD p0) 0)), (5, .vec 0 0)]) (fun s6 => [.vec 0 (intsD (List.replicate (w64 (p0.p + 1)).toNat (0 : Int)))]) h (fun os6 h hks6 => ?_) (fun s6 h => ?_)
 ·refine kR ?_
  refine kN 1 rfl ?_
  refine ACode_block ?_
  refine ACode_loopW (fun k0 E H => ∃ (x2 : Int), E = [(1, .d (.sl none (intsD p1))), (2, .d (.pv (colD p0) 0)), (5, .vec 0 0), (6, iV x2)] ∧ H = [.vec 0 (intsD (List.replicate (w64 (p0.p + 1)).toNat (0 : Int)))] ∧ spec_l05Degrees_l0 p0 p1 k0 x2 = some os6) k _ _ (Weak_keep 0 hm [1, 2, 5, 6] [0] _ _ rfl rfl rfl) ⟨_, rfl, rfl, h⟩ ?_
  clear h
  rintro k0 E H ⟨x2, rfl, rfl, h⟩
  cases k0 with
  | zero => cases (show (none : Option (Sum (Unit) (List Int))) = some _ from h)
  | succ k0 =>
   rw [spec_l05Degrees_l0] at h
   refine ACode_seq ?_
   refine kR ?_
   refine kM 2 rfl ?_
   refine AOps_q 13 _ rfl rfl rfl (QOp_len_sl _ _ _ _ _ _ _ (intsD_length _) rfl rfl rfl rfl Tryz.underlying27 rfl) ?_
   refine AOps_q 14 _ rfl rfl rfl (QOp_lss _ _ _ _ _ _ _ rfl rfl rfl) ?_
   refine AOps_nil ?_
   refine kI h rfl (fun h _ => ?_) (fun h _ => ?_)
   ·refine ACode_skip ?_
    refine ACode_seq ?_
    refine ACode_block ?_
    refine kR ?_
    refine kM 2 rfl ?_
    obtain ⟨hc4, h⟩ := guardO h
    refine AOps_q 19 _ rfl rfl rfl (QOp_indexAddr_sl _ _ _ _ _ _ _ _ rfl Tryz.underlying27 Tryz.sizeOf2 hc4.1 (by rw [intsD_length]; exact hc4.2) rfl rfl) ?_
    refine AOps_q 20 _ rfl rfl rfl (QOp_load_pv _ _ _ _ _ rfl Tryz.isAgg2 rfl (intsD_get _ _ 0 (by omega))) ?_
    refine AOps_q 21 _ rfl rfl rfl (QOp_eql _ _ _ _ _ _ _ rfl rfl rfl) ?_
    refine AOps_nil ?_
    refine kI h rfl (fun h _ => ?_) (fun h _ => ?_)
    ·refine kR ?_
     refine kN 2 rfl ?_
     refine ACode_ret ?_
     cases h
     have h := hks6
     cases h
     exact ⟨_, _, Weak_reset 0 hm hz [4] _ _ rfl rfl, _, _, [0], _, (.cons (ResV_tmp _ _ rfl) .nil), rfl, rfl, rfl, rfl, rfl⟩
    refine ACode_skip ?_
    refine (ACode_region ?_)
    refine kM 1 rfl ?_
    refine AOps_q 16 _ rfl rfl rfl (QOp_add _ _ _ _ _ _ _ rfl rfl rfl) ?_
    refine kN 1 rfl ?_
    exact ⟨k0, _, _, Nat.lt_succ_self _, Weak_keep 0 hm [1, 2, 5, 6] [0] _ _ rfl rfl rfl, _, rfl, rfl, h⟩
   refine ACode_exit ?_
   cases h
   exact ⟨_, rfl, Weak_keep 0 hm [1, 2, 5] [0] _ _ rfl rfl rfl⟩
 obtain ⟨hc7, h⟩ := guardO h
 obtain ⟨r8, hr8, h⟩ := bindO h
 refine ACode_seq (ACode_reg [(5, .vec 0 0)] [.vec 0 (intsD r8)] ?_ ?_)
 ·refine ACode_anyU mixed ?_
  refine AU_cut 1 #[true, true, true, true, true, true, false] [(5, .vec 0 0), (23, .d (.agg (colD p0))), (24, .d (.sl none (intsD p1))), (27, .vec 1 0), (28, .vec 0 0)] [.vec 0 (intsD (List.replicate (w64 (p0.p + 1)).toNat (0 : Int))), .vec 0 (intsD (List.replicate p0.k.toNat (0 : Int)))] ?_ (fun hS0 => ?_)
  ·refine AU_one 6 (by kernel_rfl) rfl rfl ?_
   refine AOps_callL [0] 29 _ _ _ _ _ _ _ _ _ _ rfl rfl rfl rfl rfl rfl rfl Tryz.call65 rfl (nodupB_sound _ rfl) rfl rfl rfl (spec_l05Count_ac k p0 p1 0 (List.replicate p0.k.toNat (0 : Int)) (List.replicate (w64 (p0.p + 1)).toNat (0 : Int)) _ hr8) ?_
   rintro _ _ ⟨rfl, rfl⟩
   refine ⟨(allc (intsD_flat _) (fun _ h => nomatch h)), (fun _ h => nomatch h), AOps_as 29 (v' := .tup []) (H' := [.vec 0 (intsD r8), .vec 0 (intsD (List.replicate p0.k.toNat (0 : Int)))]) rfl rfl ?_⟩
   refine AOps_nil ?_
   refine AU_done (by kernel_rfl) ?_
   exact ⟨rfl, Weak_keep 0 hm [5] [0] _ _ rfl rfl rfl⟩
  refine AU_cut 2 #[true, true, true, true, false, true, false] [(5, .vec 0 0), (23, .d (.agg (colD p0))), (24, .d (.sl none (intsD p1))), (26, iV p0.k), (28, .vec 0 0)] [.vec 0 (intsD (List.replicate (w64 (p0.p + 1)).toNat (0 : Int)))] ?_ (fun hS1 => ?_)
  ·refine AU_one 4 (by kernel_rfl) rfl rfl ?_
   refine AOps_makeSliceG intsD iD 0 (intsD_rep · _) 27 _ _ _ _ _ _ p0.k p0.k _ (.int .i64 0) rfl rfl rfl rfl rfl rfl Tryz.underlying27 Tryz.type2 rfl rfl (by decide) rfl rfl hc7.1 hc7.2.1 hc7.2.2 ?_
   refine AOps_nil ?_
   exact AU_to (by kernel_rfl) hS0 (Weak_keep 0 hm [5, 23, 24, 27, 28] [0, 1] _ _ rfl rfl rfl)
  refine AU_u 1 24 _ rfl (by kernel_rfl) rfl rfl rfl (UOp_move _ _ rfl rfl) ?_
  refine AU_u 2 25 _ rfl (by kernel_rfl) rfl rfl rfl (UOp_fieldAddr_pv _ _ _ _ _ 1 _ _ rfl Tryz.underlying26 rfl _ Tryz.sizeOf2 rfl rfl) ?_
  refine AU_u 5 28 _ rfl (by kernel_rfl) rfl rfl rfl (UOp_move _ _ rfl rfl) ?_
  refine AU_all [0, 3] (by kernel_rfl) rfl (allc ?_ (allc ?_ (fun _ h => nomatch h)))
  ·refine US_of 0 rfl rfl ?_
   refine AOps_q 23 _ rfl rfl rfl (QOp_loadN_pv _ _ _ _ _ _ rfl Tryz.isAgg26 Tryz.sizeOf26 rfl (colD_all _) (colD_length _)) ?_
   refine AOps_nil ?_
   refine AU_one 3 (by kernel_rfl) rfl rfl ?_
   refine AOps_q 26 _ rfl rfl rfl (QOp_load_pv _ _ _ _ _ rfl Tryz.isAgg2 rfl rfl) ?_
   refine AOps_nil ?_
   exact AU_to (by kernel_rfl) hS1 (Weak_keep 0 hm [5, 23, 24, 26, 28] [0] _ _ rfl rfl rfl)
  refine US_of 3 rfl rfl ?_
  refine AOps_q 26 _ rfl rfl rfl (QOp_load_pv _ _ _ _ _ rfl Tryz.isAgg2 rfl rfl) ?_
  refine AOps_nil ?_
  refine AU_all [0, 4] (by kernel_rfl) rfl (allc ?_ (allc ?_ (fun _ h => nomatch h)))
  ·refine US_of 0 rfl rfl ?_
   refine AOps_q 23 _ rfl rfl rfl (QOp_loadN_pv _ _ _ _ _ _ rfl Tryz.isAgg26 Tryz.sizeOf26 rfl (colD_all _) (colD_length _)) ?_
   refine AOps_nil ?_
   exact AU_to (by kernel_rfl) hS1 (Weak_keep 0 hm [5, 23, 24, 26, 28] [0] _ _ rfl rfl rfl)
  refine US_of 4 rfl rfl ?_
  refine AOps_makeSliceG intsD iD 0 (intsD_rep · _) 27 _ _ _ _ _ _ p0.k p0.k _ (.int .i64 0) rfl rfl rfl rfl rfl rfl Tryz.underlying27 Tryz.type2 rfl rfl (by decide) rfl rfl hc7.1 hc7.2.1 hc7.2.2 ?_
  refine AOps_nil ?_
  refine AU_one 0 (by kernel_rfl) rfl rfl ?_
  refine AOps_q 23 _ rfl rfl rfl (QOp_loadN_pv _ _ _ _ _ _ rfl Tryz.isAgg26 Tryz.sizeOf26 rfl (colD_all _) (colD_length _)) ?_
  refine AOps_nil ?_
  exact AU_to (by kernel_rfl) hS0 (Weak_keep 0 hm [5, 23, 24, 27, 28] [0, 1] _ _ rfl rfl rfl)
 refine kR ?_
 refine kN 2 rfl ?_
 refine ACode_ret ?_
 cases h
 exact ⟨_, _, Weak_reset 0 hm hz [4] _ _ rfl rfl, _, _, [0], _, (.cons (ResV_tmp _ _ rfl) .nil), rfl, rfl, rfl, rfl, rfl⟩

-- loop.example/g01362/spec.ExtensionsByDegree
def spec_ExtensionsByDegree (k : Nat) (p0 : Col) (p1 : List Int) : Option (List Int × Int) :=
 (spec_l05Small k p0 p1).bind fun r1 => (if !decide (r1 = 0) then some ([], r1) else (spec_l05Degrees k p0 p1).bind fun r3 => some (r3, 0))
set_option maxRecDepth 100000 in
theorem spec_ExtensionsByDegree_ac (k : Nat) (p0 : Col) (p1 : List Int) (r : List Int × Int) (h : spec_ExtensionsByDegree k p0 p1 = some r) : AC Tryz.prog 7 [.d (.agg (colD p0)), .d (.sl none (intsD p1))] [] (fun res H' => res = [.d (.sl none (intsD r.1)), iV r.2] ∧ H' = []) := by
 refine AC_of_body true Tryz.func7 rfl Tryz.ntmps7 (rvs := [.tmp 4, .tmp 5]) rfl rfl (fun G hG => ?_)
 have hm : G.H.length = 0 := by rw [hG]; rfl
 have hz : zeroG G.H = true := by rw [hG]; rfl
 unfold spec_ExtensionsByDegree at h
 refine kR ?_
 refine AOps_boxI 2 _ _ (.agg (colD p0)) (colD p0) rfl (colD_one _) rfl rfl rfl rfl rfl ?_
 refine kN 2 rfl ?_
 refine ACode_seq ?_
 refine kR ?_
 refine AOps_q 7 _ rfl rfl rfl (QOp_loadN_pv _ _ _ _ _ _ rfl Tryz.isAgg26 Tryz.sizeOf26 rfl (colD_all _) (colD_length _)) ?_
 refine kM 1 rfl ?_
 obtain ⟨r1, hr1, h⟩ := bindO h
 refine kC [] 9 (iV r1) [] rfl Tryz.call32 rfl rfl (spec_l05Small_ac k p0 p1 _ hr1) rfl ?_
 refine kN 1 rfl ?_
 refine kR ?_
 refine kM 1 rfl ?_
 refine AOps_q 11 _ rfl rfl rfl (QOp_neq _ _ _ _ _ _ _ rfl rfl rfl) ?_
 refine AOps_nil ?_
 refine kI h rfl (fun h _ => ?_) (fun h _ => ?_)
 ·refine kR ?_
  refine kN 3 rfl ?_
  refine ACode_ret ?_
  cases h
  exact ⟨_, _, fun r a w h => ⟨r, h⟩, _, _, [], _, (.cons (ResV_tmp _ _ rfl) (.cons (ResV_tmp _ _ rfl) .nil)), rfl, rfl, rfl, rfl, rfl⟩
 refine ACode_skip ?_
 refine kR ?_
 refine AOps_q 13 _ rfl rfl rfl (QOp_loadN_pv _ _ _ _ _ _ rfl Tryz.isAgg26 Tryz.sizeOf26 rfl (colD_all _) (colD_length _)) ?_
 refine kM 1 rfl ?_
 obtain ⟨r3, hr3, h⟩ := bindO h
 refine kC [] 15 (.vec 0 0) [.vec 0 (intsD r3)] rfl Tryz.call33 rfl rfl (spec_l05Degrees_ac k p0 p1 _ hr3) rfl ?_
 refine kN 2 rfl ?_
 refine ACode_ret ?_
 cases h
 exact ⟨_, _, fun r a w h => ⟨r, h⟩, _, _, [], _, (.cons (ResV_tmp _ _ rfl) (.cons (ResV_tmp _ _ rfl) .nil)), rfl, rfl, rfl, rfl, rfl⟩

-- loop.example/g01362/impl.sum
def impl_sum_l0 (p0 : List Int) : Nat → Int → Int → Option (Int)
 | 0, _, _ => none
 | k0 + 1, x1, x2 => (if decide (x2 < (p0.length : Int)) then (if 0 ≤ x2 ∧ x2 < (p0.length : Int) then impl_sum_l0 p0 k0 (w64 (x1 + (p0.getD x2.toNat 0))) (w64 (x2 + 1)) else none) else some x1)
def impl_sum (k : Nat) (p0 : List Int) : Option (Int) :=
 (impl_sum_l0 p0 k 0 0 : Option (Int)).bind fun s5 => some s5
set_option maxRecDepth 100000 in
theorem impl_sum_ac (k : Nat) (p0 : List Int) (r : Int) (h : impl_sum k p0 = some r) : AC Tryz.prog 34 [.d (.sl none (intsD p0))] [] (fun res H' => res = [iV r] ∧ H' = []) := by
 refine AC_of_body true Tryz.func34 rfl Tryz.ntmps34 (rvs := [.tmp 2]) rfl rfl (fun G hG => ?_)
 have hm : G.H.length = 0 := by rw [hG]; rfl
 have hz : zeroG G.H = true := by rw [hG]; rfl
 unfold impl_sum at h
 refine kR ?_
 refine kN 1 rfl ?_
 refine kR ?_
 refine kN 1 rfl ?_
 refine kB (fun s5 => [(3, iV s5)]) (fun s5 => []) h (fun s5 h => ?_) (fun s5 h => ?_)
 ·refine kR ?_
  refine kM 1 rfl ?_
  refine AOps_q 7 _ rfl rfl rfl (QOp_len_sl _ _ _ _ _ _ _ (intsD_length _) rfl rfl rfl rfl Tryz.underlying27 rfl) ?_
  refine kN 1 rfl ?_
  refine ACode_block ?_
  refine ACode_loopW (fun k0 E H => ∃ (x1 : Int) (x2 : Int), E = [(3, iV x1), (6, .d (.sl none (intsD p0))), (7, iV (p0.length : Int)), (8, iV x2)] ∧ H = [] ∧ impl_sum_l0 p0 k0 x1 x2 = some s5) k _ _ (Weak_keep 0 hm [3, 6, 7, 8] [] _ _ rfl rfl rfl) ⟨_, _, rfl, rfl, h⟩ ?_
  clear h
  rintro k0 E H ⟨x1, x2, rfl, rfl, h⟩
  cases k0 with
  | zero => cases (show (none : Option (Int)) = some _ from h)
  | succ k0 =>
   rw [impl_sum_l0] at h
   refine kR ?_
   refine AOps_q 9 _ rfl rfl rfl (QOp_lss _ _ _ _ _ _ _ rfl rfl rfl) ?_
   refine AOps_nil ?_
   refine ACode_seq ?_
   refine kI h rfl (fun h _ => ?_) (fun h _ => ?_)
   ·refine ACode_skip ?_
    refine ACode_seq ?_
    refine ACode_block ?_
    refine kR ?_
    obtain ⟨hc4, h⟩ := guardO h
    refine AOps_q 10 _ rfl rfl rfl (QOp_indexAddr_sl _ _ _ _ _ _ _ _ rfl Tryz.underlying27 Tryz.sizeOf2 hc4.1 (by rw [intsD_length]; exact hc4.2) rfl rfl) ?_
    refine AOps_q 11 _ rfl rfl rfl (QOp_load_pv _ _ _ _ _ rfl Tryz.isAgg2 rfl (intsD_get _ _ 0 (by omega))) ?_
    refine kN 1 rfl ?_
    refine (ACode_region ?_)
    refine kM 2 rfl ?_
    refine AOps_q 14 _ rfl rfl rfl (QOp_add _ _ _ _ _ _ _ rfl rfl rfl) ?_
    refine kN 1 rfl ?_
    refine (ACode_region ?_)
    refine AOps_q 15 _ rfl rfl rfl (QOp_add _ _ _ _ _ _ _ rfl rfl rfl) ?_
    refine kN 1 rfl ?_
    exact ⟨k0, _, _, Nat.lt_succ_self _, Weak_keep 0 hm [3, 6, 7, 8] [] _ _ rfl rfl rfl, _, _, rfl, rfl, h⟩
   refine ACode_exit ?_
   cases h
   exact Weak_keep 0 hm [3] [] _ _ rfl rfl rfl
 refine kR ?_
 refine kN 2 rfl ?_
 refine ACode_ret ?_
 cases h
 exact ⟨_, _, fun r a w h => ⟨r, h⟩, _, _, [], _, (.cons (ResV_tmp _ _ rfl) .nil), rfl, rfl, rfl, rfl, rfl⟩

-- loop.example/g01362/impl.CountExtensions
def impl_CountExtensions (k : Nat) (p0 : Col) (p1 : List Int) : Option (Int × Int) :=
 (impl_ExtensionsByDegree k p0 p1).bind fun r1 => (match r1.1 with | none => (impl_sum k ([])).bind fun r4 => some (r4, r1.2) | some l2 => (impl_sum k l2).bind fun r5 => some (r5, r1.2))
set_option maxRecDepth 100000 in
theorem impl_CountExtensions_ac (k : Nat) (p0 : Col) (p1 : List Int) (r : Int × Int) (h : impl_CountExtensions k p0 p1 = some r) : AC Tryz.prog 8 [.d (.agg (colD p0)), .d (.sl none (intsD p1))] [] (fun res H' => res = [iV r.1, iV r.2] ∧ H' = []) := by
 refine AC_of_body true Tryz.func8 rfl Tryz.ntmps8 (rvs := [.tmp 4, .tmp 5]) rfl rfl (fun G hG => ?_)
 have hm : G.H.length = 0 := by rw [hG]; rfl
 have hz : zeroG G.H = true := by rw [hG]; rfl
 unfold impl_CountExtensions at h
 refine kR ?_
 refine AOps_boxI 2 _ _ (.agg (colD p0)) (colD p0) rfl (colD_one _) rfl rfl rfl rfl rfl ?_
 refine kN 2 rfl ?_
 refine kR ?_
 refine AOps_q 9 _ rfl rfl rfl (QOp_loadN_pv _ _ _ _ _ _ rfl Tryz.isAgg26 Tryz.sizeOf26 rfl (colD_all _) (colD_length _)) ?_
 refine kM 1 rfl ?_
 obtain ⟨r1, hr1, h⟩ := bindO h
 refine AOps_call [] 11 _ _ _ _ _ _ _ _ _ _ rfl rfl rfl rfl rfl rfl rfl Tryz.call6 rfl (nodupB_sound _ rfl) rfl rfl rfl (impl_ExtensionsByDegree_ac k p0 p1 _ hr1) ?_
 revert h
 cases hx3 : r1.1 with
 | none =>
  intro h
  rintro _ _ ⟨rfl, rfl⟩
  refine ⟨(fun _ h => nomatch h), (allc (trivial) (allc (trivial) (fun _ h => nomatch h))), AOps_as 11 (v' := .tup [.d (.sl (some true) []), iV r1.2]) (H' := []) rfl rfl ?_⟩
  refine kN 5 rfl ?_
  refine kR ?_
  refine kM 1 rfl ?_
  obtain ⟨r4, hr4, h⟩ := bindO h
  refine kC [] 15 (iV r4) [] rfl Tryz.call34 rfl rfl (impl_sum_ac k ([]) _ hr4) rfl ?_
  refine kN 3 rfl ?_
  refine ACode_ret ?_
  cases h
  exact ⟨_, _, fun r a w h => ⟨r, h⟩, _, _, [], _, (.cons (ResV_tmp _ _ rfl) (.cons (ResV_tmp _ _ rfl) .nil)), rfl, rfl, rfl, rfl, rfl⟩
 | some l2 =>
  intro h
  rintro _ _ ⟨rfl, rfl⟩
  refine ⟨(allc (fun _ _ => trivial) (fun _ h => nomatch h)), (allc (trivial) (allc (trivial) (fun _ h => nomatch h))), AOps_as 11 (v' := .tup [.vec 0 0, iV r1.2]) (H' := [.vec 0 (intsD l2)]) rfl rfl ?_⟩
  refine kN 5 rfl ?_
  refine kR ?_
  refine kM 1 rfl ?_
  obtain ⟨r5, hr5, h⟩ := bindO h
  refine AOps_callL [] 15 _ _ _ _ _ _ _ _ _ _ rfl rfl rfl rfl rfl rfl rfl Tryz.call34 rfl (nodupB_sound _ rfl) rfl rfl rfl (impl_sum_ac k l2 _ hr5) ?_
  rintro _ _ ⟨rfl, rfl⟩
  refine ⟨(fun _ h => nomatch h), (allc (flat_s _) (fun _ h => nomatch h)), AOps_as 15 (v' := iV r5) (H' := [.vec 0 (intsD l2)]) rfl rfl ?_⟩
  refine kN 3 rfl ?_
  refine ACode_ret ?_
  cases h
  exact ⟨_, _, fun r a w h => ⟨r, h⟩, _, _, [], _, (.cons (ResV_tmp _ _ rfl) (.cons (ResV_tmp _ _ rfl) .nil)), rfl, rfl, rfl, rfl, rfl⟩

-- loop.example/g01362/spec.CountExtensions
def spec_CountExtensions_l0 (r3 : List Int) : Nat → Int → Int → Option (Int)
 | 0, _, _ => none
 | k0 + 1, x4, x5 => (if decide (x5 < (r3.length : Int)) then (if 0 ≤ x5 ∧ x5 < (r3.length : Int) then spec_CountExtensions_l0 r3 k0 (w64 (x4 + (r3.getD x5.toNat 0))) (w64 (x5 + 1)) else none) else some x4)
def spec_CountExtensions (k : Nat) (p0 : Col) (p1 : List Int) : Option (Int × Int) :=
 (spec_l05Small k p0 p1).bind fun r1 => (if !decide (r1 = 0) then some (0, r1) else (spec_l05Degrees k p0 p1).bind fun r3 => (spec_CountExtensions_l0 r3 k 0 0 : Option (Int)).bind fun s8 => some (s8, 0))
set_option maxRecDepth 100000 in
theorem spec_CountExtensions_ac (k : Nat) (p0 : Col) (p1 : List Int) (r : Int × Int) (h : spec_CountExtensions k p0 p1 = some r) : AC Tryz.prog 9 [.d (.agg (colD p0)), .d (.sl none (intsD p1))] [] (fun res H' => res = [iV r.1, iV r.2] ∧ H' = []) := by
 refine AC_of_body true Tryz.func9 rfl Tryz.ntmps9 (rvs := [.tmp 4, .tmp 5]) rfl rfl (fun G hG => ?_)
 have hm : G.H.length = 0 := by rw [hG]; rfl
 have hz : zeroG G.H = true := by rw [hG]; rfl
 unfold spec_CountExtensions at h
 refine kR ?_
 refine AOps_boxI 2 _ _ (.agg (colD p0)) (colD p0) rfl (colD_one _) rfl rfl rfl rfl rfl ?_
 refine kN 2 rfl ?_
 refine ACode_seq ?_
 refine kR ?_
 refine AOps_q 10 _ rfl rfl rfl (QOp_loadN_pv _ _ _ _ _ _ rfl Tryz.isAgg26 Tryz.sizeOf26 rfl (colD_all _) (colD_length _)) ?_
 refine kM 1 rfl ?_
 obtain ⟨r1, hr1, h⟩ := bindO h
 refine kC [] 12 (iV r1) [] rfl Tryz.call32 rfl rfl (spec_l05Small_ac k p0 p1 _ hr1) rfl ?_
 refine kN 1 rfl ?_
 refine kR ?_
 refine kM 1 rfl ?_
 refine AOps_q 14 _ rfl rfl rfl (QOp_neq _ _ _ _ _ _ _ rfl rfl rfl) ?_
 refine AOps_nil ?_
 refine kI h rfl (fun h _ => ?_) (fun h _ => ?_)
 ·refine kR ?_
  refine kN 3 rfl ?_
  refine ACode_ret ?_
  cases h
  exact ⟨_, _, fun r a w h => ⟨r, h⟩, _, _, [], _, (.cons (ResV_tmp _ _ rfl) (.cons (ResV_tmp _ _ rfl) .nil)), rfl, rfl, rfl, rfl, rfl⟩
 refine ACode_skip ?_
 refine kR ?_
 refine AOps_q 16 _ rfl rfl rfl (QOp_loadN_pv _ _ _ _ _ _ rfl Tryz.isAgg26 Tryz.sizeOf26 rfl (colD_all _) (colD_length _)) ?_
 refine kM 1 rfl ?_
 obtain ⟨r3, hr3, h⟩ := bindO h
 refine kC [] 18 (.vec 0 0) [.vec 0 (intsD r3)] rfl Tryz.call33 rfl rfl (spec_l05Degrees_ac k p0 p1 _ hr3) rfl ?_
 refine kN 2 rfl ?_
 refine kB (fun s8 => [(8, iV s8)]) (fun s8 => []) h (fun s8 h => ?_) (fun s8 h => ?_)
 ·refine kR ?_
  refine kN 1 rfl ?_
  refine ACode_block ?_
  refine ACode_loopW (fun k0 E H => ∃ (x4 : Int) (x5 : Int), E = [(7, .vec 0 0), (8, iV x4), (9, iV x5)] ∧ H = [.vec 0 (intsD r3)] ∧ spec_CountExtensions_l0 r3 k0 x4 x5 = some s8) k _ _ (Weak_keep 0 hm [7, 8, 9] [0] _ _ rfl rfl rfl) ⟨_, _, rfl, rfl, h⟩ ?_
  clear h
  rintro k0 E H ⟨x4, x5, rfl, rfl, h⟩
  cases k0 with
  | zero => cases (show (none : Option (Int)) = some _ from h)
  | succ k0 =>
   rw [spec_CountExtensions_l0] at h
   refine ACode_seq ?_
   refine kR ?_
   refine kM 2 rfl ?_
   refine AOps_q 21 _ rfl rfl rfl (QOp_len_vec _ _ _ _ _ _ _ _ (intsD_length _) rfl rfl rfl rfl Tryz.underlying27 rfl rfl) ?_
   refine AOps_q 22 _ rfl rfl rfl (QOp_lss _ _ _ _ _ _ _ rfl rfl rfl) ?_
   refine AOps_nil ?_
   refine kI h rfl (fun h _ => ?_) (fun h _ => ?_)
   ·refine ACode_skip ?_
    refine ACode_seq ?_
    refine ACode_block ?_
    refine (ACode_region ?_)
    refine kM 3 rfl ?_
    obtain ⟨hc7, h⟩ := guardO h
    refine AOps_q 28 _ rfl rfl rfl (QOp_indexAddr_vec _ _ _ _ _ _ _ _ _ rfl Tryz.underlying27 Tryz.sizeOf2 hc7.1 (by rw [intsD_length]; exact hc7.2) rfl rfl rfl) ?_
    refine AOps_q 29 _ rfl rfl rfl (QOp_load_eptr _ _ _ _ _ _ _ rfl Tryz.isAgg2 rfl rfl (intsD_get _ _ 0 (by omega))) ?_
    refine AOps_q 30 _ rfl rfl rfl (QOp_add _ _ _ _ _ _ _ rfl rfl rfl) ?_
    refine kN 1 rfl ?_
    refine (ACode_region ?_)
    refine kM 1 rfl ?_
    refine AOps_q 24 _ rfl rfl rfl (QOp_add _ _ _ _ _ _ _ rfl rfl rfl) ?_
    refine kN 1 rfl ?_
    exact ⟨k0, _, _, Nat.lt_succ_self _, Weak_keep 0 hm [7, 8, 9] [0] _ _ rfl rfl rfl, _, _, rfl, rfl, h⟩
   refine ACode_exit ?_
   cases h
   exact Weak_keep 0 hm [8] [] _ _ rfl rfl rfl
 refine kR ?_
 refine kN 3 rfl ?_
 refine ACode_ret ?_
 cases h
 exact ⟨_, _, fun r a w h => ⟨r, h⟩, _, _, [], _, (.cons (ResV_tmp _ _ rfl) (.cons (ResV_tmp _ _ rfl) .nil)), rfl, rfl, rfl, rfl, rfl⟩

-- (*loop.example/g01362/impl.Colouring).firstExtension$1
def impl_Colouring_firstExtension_c1 (p0 : List Int) (p0n : Nat) (p1 : List Int) : Option (Bool × List Int × List Int) :=
 (if ((p0.drop 0).take p0n).isEmpty then none else (cloneA ((p0.drop 0).take p0n)).bind fun r3 => some (false, p0, r3))
set_option maxRecDepth 100000 in
theorem impl_Colouring_firstExtension_c1_ac (p0 : List Int) (p0n : Nat) (p1 : List Int) (r : Bool × List Int × List Int) (h : impl_Colouring_firstExtension_c1 p0 p0n p1 = some r) : AC Tryz.prog 66 [.part 0 0 0 p0n, .ptr 1 0] [.vec 0 (intsD p0), .ref (.vec 2 0), .vec 0 (intsD p1)] (fun res H' => res = [bV r.1] ∧ H' = [.vec 0 (intsD r.2.1), .ref (.vec 2 1), .vec 1 (intsD r.2.2)]) := by
 refine AC_of_body true Tryz.func66 rfl Tryz.ntmps66 (rvs := [.tmp 3]) rfl rfl (fun G hG => ?_)
 have hm : G.H.length = 3 := by rw [hG]; rfl
 have hz : zeroG G.H = true := by rw [hG]; rfl
 refine ACode_weak (Weak_bump 1 2 _ rfl rfl _ rfl) ?_
 unfold impl_Colouring_firstExtension_c1 at h
 refine kR ?_
 refine kN 1 rfl ?_
 refine kR ?_
 refine kM 1 rfl ?_
 refine bsplit (((p0.drop 0).take p0n).isEmpty) (fun hb1 => ?_) (fun hb1 => ?_)
 ·have h := iteT hb1 h
  cases h
 have h := iteF hb1 h
 obtain ⟨r3, hr3, h⟩ := bindO h
 refine AOps_callL [] 5 _ _ _ _ _ _ _ _ _ _ rfl rfl rfl rfl rfl rfl rfl Tryz.call38 rfl (nodupB_sound _ rfl) rfl rfl rfl (by have q := cloneA_ac ((p0.drop 0).take p0n) _ hb1 hr3; simp only [intsD_dt] at q; exact q) ?_
 rintro _ _ ⟨rfl, rfl⟩
 refine ⟨(allc (intsD_flat _) (fun _ h => nomatch h)), (allc (trivial) (fun _ h => nomatch h)), AOps_as 5 (v' := .vec 3 0) (H' := [.vec 0 (intsD p0), .ref (.vec 2 1), .vec 1 (intsD p1), .vec 0 (intsD r3)]) rfl rfl ?_⟩
 refine AOps_storeR 1 _ _ _ _ _ rfl rfl rfl rfl rfl rfl rfl rfl Tryz.sizeOf27 (fun r a w hr => vec_one hr rfl rfl rfl) ?_
 refine AOps_weak (Weak_move 1 2 3 _ _ _ _ rfl rfl rfl rfl _ rfl) ?_
 refine AOps_nil ?_
 refine kR ?_
 refine kN 1 rfl ?_
 refine ACode_ret ?_
 cases h
 exact ⟨_, _, Weak_reset 3 hm hz [3] _ _ rfl rfl, _, _, [], _, (.cons (ResV_tmp _ _ rfl) .nil), rfl, rfl, rfl, rfl, rfl⟩

end Go.Proofs.YtjcgphgipleccaaGreat
