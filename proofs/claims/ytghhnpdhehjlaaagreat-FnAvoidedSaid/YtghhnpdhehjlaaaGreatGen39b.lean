/- Plain functions of the program and that the program computes them: printed by the own tool gen.py. No conditions. -/
import Derived.Test.YtghhnpdhehjlaaaGreatGen39a
set_option linter.unusedVariables false
set_option linter.unusedSimpArgs false
namespace Go.Proofs.YtghhnpdhehjlaaaGreat
open Go Go.RowKit Ab

-- (*loop.example/g01362/impl.Colouring).sizesCode$1
def impl_Colouring_sizesCode_c1 (k : Nat) (p0 : List Int) (p1 : Col) (p2 : Option (Bool)) : Option (Bool) :=
 ((impl_areForbidden k p0 p1.k).bind fun r1 => (if r1 then (p2).bind fun r3 => some r3 else some false) : Option (Bool)).bind fun s4 => some s4
set_option maxRecDepth 100000 in
theorem impl_Colouring_sizesCode_c1_ac (k : Nat) (p0 : List Int) (p1 : Col) (p2 : Option (Bool)) (g_p2 : FuncId) (c_p2 : List D) (hg_p2 : ∀ args w, (callFunc g_p2 args).run Tryz.prog w = .ok (.enter g_p2 args) w) (hf_p2 : ∀ (r : Bool), p2 = some r → AC Tryz.prog g_p2 ([] ++ c_p2.map AV.d) [] (fun res H' => res = [bV r] ∧ H' = [])) (r : Bool) (h : impl_Colouring_sizesCode_c1 k p0 p1 p2 = some r) : AC Tryz.prog 139 [.d (.pv ([.sl none (intsD p0)]) 0), .d (.pv ([.pv (colD p1) 0]) 0), .d (.pv ([.clo g_p2 c_p2]) 0)] [] (fun res H' => res = [bV r] ∧ H' = []) := by
 refine AC_of_body true Tryz.func139 rfl Tryz.ntmps139 (rvs := [.tmp 3]) rfl rfl (fun G hG => ?_)
 have hm : G.H.length = 0 := by rw [hG]; rfl
 have hz : zeroG G.H = true := by rw [hG]; rfl
 unfold impl_Colouring_sizesCode_c1 at h
 refine kR ?_
 refine kN 1 rfl ?_
 refine kB (fun s4 => [(3, bV s4)]) (fun s4 => []) h (fun s4 h => ?_) (fun s4 h => ?_)
 ·refine (ACode_quiet mixed (by kernel_rfl) ?_)
  refine AQ_q 4 _ rfl rfl rfl (QOp_load_pv _ _ _ _ _ rfl Tryz.isAgg27 rfl rfl) ?_
  refine AQ_q 5 _ rfl rfl rfl (QOp_load_pv _ _ _ _ _ rfl Tryz.isAgg79 rfl rfl) ?_
  refine AQ_q 6 _ rfl rfl rfl (QOp_nilCheck_pv _ _ _ rfl rfl) ?_
  refine AQ_q 7 _ rfl rfl rfl (QOp_fieldAddr_pv _ _ _ _ _ 1 _ _ rfl Tryz.underlying34 rfl _ Tryz.sizeOf2 rfl rfl) ?_
  refine AQ_q 8 _ rfl rfl rfl (QOp_load_pv _ _ _ _ _ rfl Tryz.isAgg2 rfl rfl) ?_
  obtain ⟨r1, hr1, h⟩ := bindO h
  refine AQ_call 9 _ _ _ _ _ _ _ _ _ rfl rfl rfl rfl rfl rfl rfl Tryz.call140 rfl rfl rfl (impl_areForbidden_ac k p0 p1.k _ hr1) ?_
  refine kQ 1 rfl ?_
  refine AQ_case 10 _ rfl (fun hb2 => ?_) (fun hb2 => ?_)
  ·have h := iteT hb2 h
   refine AQ_q 11 _ rfl rfl rfl (QOp_load_pv _ _ _ _ _ rfl Tryz.isAgg77 rfl rfl) ?_
   obtain ⟨r3, hr3, h⟩ := bindO h
   refine AQ_call 12 _ _ _ _ _ _ _ _ _ rfl rfl rfl rfl rfl rfl rfl hg_p2 rfl rfl (viewA_mapD _) (hf_p2 _ hr3) ?_
   refine kQ 2 rfl ?_
   refine AQ_nil ?_
   cases h
   exact Weak_keep 0 hm [3] [] _ _ rfl rfl rfl
  have h := iteF hb2 h
  refine AQ_skip 11 rfl rfl rfl ?_
  refine AQ_skip 12 rfl rfl rfl ?_
  refine kQ 2 rfl ?_
  refine AQ_nil ?_
  cases h
  exact Weak_keep 0 hm [3] [] _ _ rfl rfl rfl
 refine ACode_ret ?_
 cases h
 exact ⟨_, _, fun r a w h => ⟨r, h⟩, _, _, [], _, (.cons (ResV_tmp _ _ rfl) .nil), rfl, rfl, rfl, rfl, rfl⟩

-- (*loop.example/g01362/impl.Colouring).sizesCode
def impl_Colouring_sizesCode (k : Nat) (p0 : Col) (p1 : List Int) (p2 : Option (Bool)) : Option (Int) :=
 (impl_Colouring_code k p0 (impl_Colouring_sizesCode_c1 k p1 p0 p2)).bind fun r1 => some r1
set_option maxRecDepth 100000 in
theorem impl_Colouring_sizesCode_ac (k : Nat) (p0 : Col) (p1 : List Int) (p2 : Option (Bool)) (g_p2 : FuncId) (c_p2 : List D) (hg_p2 : ∀ args w, (callFunc g_p2 args).run Tryz.prog w = .ok (.enter g_p2 args) w) (hf_p2 : ∀ (r : Bool), p2 = some r → AC Tryz.prog g_p2 ([] ++ c_p2.map AV.d) [] (fun res H' => res = [bV r] ∧ H' = [])) (r : Int) (h : impl_Colouring_sizesCode k p0 p1 p2 = some r) : AC Tryz.prog 84 [.d (.pv (colD p0) 0), .d (.sl none (intsD p1)), .d (.clo g_p2 c_p2)] [] (fun res H' => res = [iV r] ∧ H' = []) := by
 refine AC_of_body true Tryz.func84 rfl Tryz.ntmps84 (rvs := [.tmp 6]) rfl rfl (fun G hG => ?_)
 have hm : G.H.length = 0 := by rw [hG]; rfl
 have hz : zeroG G.H = true := by rw [hG]; rfl
 unfold impl_Colouring_sizesCode at h
 refine kR ?_
 refine AOps_boxI 3 _ _ (.pv (colD p0) 0) _ rfl (fun c hc => by cases hc with | head => rfl | tail _ h => cases h) rfl rfl rfl rfl rfl ?_
 refine AOps_boxI 4 _ _ (.sl none (intsD p1)) _ rfl (fun c hc => by cases hc with | head => rfl | tail _ h => cases h) rfl rfl rfl rfl rfl ?_
 refine AOps_boxI 5 _ _ (.clo g_p2 c_p2) _ rfl (fun c hc => by cases hc with | head => rfl | tail _ h => cases h) rfl rfl rfl rfl rfl ?_
 refine kN 1 rfl ?_
 refine kR ?_
 refine AOps_q 7 _ rfl rfl rfl (QOp_load_pv _ _ _ _ _ rfl Tryz.isAgg79 rfl rfl) ?_
 refine AOps_q 8 _ rfl rfl rfl (QOp_makeFuncD _ _ _ _ rfl rfl rfl) ?_
 obtain ⟨r1, hr1, h⟩ := bindO h
 refine kC [] 9 (iV r1) [] rfl Tryz.call80 rfl rfl (impl_Colouring_code_ac k p0 (impl_Colouring_sizesCode_c1 k p1 p0 p2) 139 ([.pv ([.sl none (intsD p1)]) 0, .pv ([.pv (colD p0) 0]) 0, .pv ([.clo g_p2 c_p2]) 0]) Tryz.call139 (fun r h => impl_Colouring_sizesCode_c1_ac k p1 p0 p2 g_p2 c_p2 hg_p2 hf_p2 r h) _ hr1) rfl ?_
 refine kN 1 rfl ?_
 refine ACode_ret ?_
 cases h
 exact ⟨_, _, fun r a w h => ⟨r, h⟩, _, _, [], _, (.cons (ResV_tmp _ _ rfl) .nil), rfl, rfl, rfl, rfl, rfl⟩

-- loop.example/g01362/impl.always
def impl_always : Bool :=
 true
set_option maxRecDepth 100000 in
theorem impl_always_ac : AC Tryz.prog 81 [] [] (fun res H' => res = [bV (impl_always)] ∧ H' = []) := by
 refine AC_of_body true Tryz.func81 rfl Tryz.ntmps81 (rvs := [.tmp 0]) rfl rfl (fun G hG => ?_)
 have hm : G.H.length = 0 := by rw [hG]; rfl
 have hz : zeroG G.H = true := by rw [hG]; rfl
 obtain ⟨r, h⟩ : ∃ r, impl_always = r := ⟨_, rfl⟩
 rw [h]
 unfold impl_always at h
 refine kR ?_
 refine kN 1 rfl ?_
 refine kR ?_
 refine kN 1 rfl ?_
 refine ACode_ret ?_
 cases h
 exact ⟨_, _, fun r a w h => ⟨r, h⟩, _, _, [], _, (.cons (ResV_tmp _ _ rfl) .nil), rfl, rfl, rfl, rfl, rfl⟩

-- (*loop.example/g01362/impl.Colouring).firstOf$1
def impl_Colouring_firstOf_c1 (p0 : List Int) (p1 : Int) (p2 : List Int) : Bool × List Int :=
 (if decide ((impl_size p0) < p1) then (true, p2) else (false, p0))
set_option maxRecDepth 100000 in
theorem impl_Colouring_firstOf_c1_ac (p0 : List Int) (p1 : Int) (p2 : List Int) : AC Tryz.prog 142 [.d (.sl none (intsD p0)), .d (.pv ([iD p1]) 0), .ptr 0 0] [.box [.sl none (intsD p2)]] (fun res H' => res = [bV ((impl_Colouring_firstOf_c1 p0 p1 p2).1)] ∧ H' = [.box [.sl none (intsD ((impl_Colouring_firstOf_c1 p0 p1 p2).2))]]) := by
 refine AC_of_body true Tryz.func142 rfl Tryz.ntmps142 (rvs := [.tmp 4]) rfl rfl (fun G hG => ?_)
 have hm : G.H.length = 1 := by rw [hG]; rfl
 have hz : zeroG G.H = true := by rw [hG]; rfl
 obtain ⟨r, h⟩ : ∃ r, impl_Colouring_firstOf_c1 p0 p1 p2 = r := ⟨_, rfl⟩
 rw [h]
 unfold impl_Colouring_firstOf_c1 at h
 refine kR ?_
 refine kN 1 rfl ?_
 refine ACode_seq ?_
 refine ACode_seq (ACode_quiet mixed (by kernel_rfl) ?_)
 refine kQ 1 rfl ?_
 refine AQ_call 6 _ _ _ _ _ _ _ _ _ rfl rfl rfl rfl rfl rfl rfl Tryz.call63 rfl rfl rfl (impl_size_ac p0) ?_
 refine AQ_q 7 _ rfl rfl rfl (QOp_load_pv _ _ _ _ _ rfl Tryz.isAgg2 rfl rfl) ?_
 refine AQ_q 8 _ rfl rfl rfl (QOp_lss _ _ _ _ _ _ _ rfl rfl rfl) ?_
 refine AQ_nil ?_
 refine kI h rfl (fun h _ => ?_) (fun h _ => ?_)
 ·refine kR ?_
  refine kN 1 rfl ?_
  refine ACode_ret ?_
  cases h
  exact ⟨_, _, fun r a w h => ⟨r, h⟩, _, _, [], _, (.cons (ResV_tmp _ _ rfl) .nil), rfl, rfl, rfl, rfl, rfl⟩
 refine ACode_skip ?_
 refine kR ?_
 refine kM 1 rfl ?_
 refine AOps_store1 _ _ _ _ _ _ _ _ rfl rfl rfl rfl rfl rfl rfl Tryz.sizeOf27 (Nat.le_of_ble_eq_true rfl) rfl ?_
 refine AOps_nil ?_
 refine kR ?_
 refine kN 1 rfl ?_
 refine ACode_ret ?_
 cases h
 exact ⟨_, _, fun r a w h => ⟨r, h⟩, _, _, [], _, (.cons (ResV_tmp _ _ rfl) .nil), rfl, rfl, rfl, rfl, rfl⟩

-- loop.example/g01362/impl.number
def impl_number (p0 : Int) (p1 : Int) : Int :=
 w64 ((w64 ((w64 ((if p0 < p1 then p1 else p0) * (w64 ((if p0 < p1 then p1 else p0) - 1)))).tdiv 2)) + (if p1 < p0 then p1 else p0))
set_option maxRecDepth 100000 in
theorem impl_number_ac (p0 : Int) (p1 : Int) : AC Tryz.prog 162 [iV p0, iV p1] [] (fun res H' => res = [iV (impl_number p0 p1)] ∧ H' = []) := by
 refine AC_of_body true Tryz.func162 rfl Tryz.ntmps162 (rvs := [.tmp 4]) rfl rfl (fun G hG => ?_)
 have hm : G.H.length = 0 := by rw [hG]; rfl
 have hz : zeroG G.H = true := by rw [hG]; rfl
 obtain ⟨r, h⟩ : ∃ r, impl_number p0 p1 = r := ⟨_, rfl⟩
 rw [h]
 unfold impl_number at h
 refine kR ?_
 refine kN 1 rfl ?_
 refine kR ?_
 refine kM 2 rfl ?_
 refine AOps_q 7 _ rfl rfl rfl (QOp_min _ _ _ _ _ _ rfl rfl rfl rfl rfl) ?_
 refine kM 2 rfl ?_
 refine AOps_q 10 _ rfl rfl rfl (QOp_max _ _ _ _ _ _ rfl rfl rfl rfl rfl) ?_
 refine kN 2 rfl ?_
 refine kR ?_
 refine kM 2 rfl ?_
 refine AOps_q 13 _ rfl rfl rfl (QOp_sub _ _ _ _ _ _ _ rfl rfl rfl) ?_
 refine AOps_q 14 _ rfl rfl rfl (QOp_mul _ _ _ _ _ _ _ rfl rfl rfl) ?_
 refine AOps_q 15 _ rfl rfl rfl (QOp_quo _ _ _ _ _ _ _ (by decide) rfl rfl rfl) ?_
 refine kM 1 rfl ?_
 refine AOps_q 17 _ rfl rfl rfl (QOp_add _ _ _ _ _ _ _ rfl rfl rfl) ?_
 refine kN 1 rfl ?_
 refine ACode_ret ?_
 cases h
 exact ⟨_, _, fun r a w h => ⟨r, h⟩, _, _, [], _, (.cons (ResV_tmp _ _ rfl) .nil), rfl, rfl, rfl, rfl, rfl⟩

-- (*loop.example/g01362/impl.Colouring).at
def impl_Colouring_at (p0 : Col) (p1 : Int) (p2 : Int) : Option (Int) :=
 (if 0 ≤ (impl_number p1 p2) ∧ (impl_number p1 p2) < 136 then some ((p0.get ((impl_number p1 p2).toNat)).toNat : Int) else none)
set_option maxRecDepth 100000 in
theorem impl_Colouring_at_ac (p0 : Col) (p1 : Int) (p2 : Int) (r : Int) (h : impl_Colouring_at p0 p1 p2 = some r) : AC Tryz.prog 137 [.d (.pv (colD p0) 0), iV p1, iV p2] [] (fun res H' => res = [iV r] ∧ H' = []) := by
 refine AC_of_body true Tryz.func137 rfl Tryz.ntmps137 (rvs := [.tmp 6]) rfl rfl (fun G hG => ?_)
 have hm : G.H.length = 0 := by rw [hG]; rfl
 have hz : zeroG G.H = true := by rw [hG]; rfl
 unfold impl_Colouring_at at h
 refine kR ?_
 refine kN 1 rfl ?_
 refine ACode_seq (ACode_quiet mixed (by kernel_rfl) ?_)
 refine kQ 3 rfl ?_
 refine AQ_call 10 _ _ _ _ _ _ _ _ _ rfl rfl rfl rfl rfl rfl rfl Tryz.call162 rfl rfl rfl (impl_number_ac p1 p2) ?_
 refine AQ_q 11 _ rfl rfl rfl (QOp_nilCheck_pv _ _ _ rfl rfl) ?_
 refine AQ_q 12 _ rfl rfl rfl (QOp_fieldAddr_pv _ _ _ _ _ 2 _ _ rfl Tryz.underlying34 rfl _ Tryz.sizeOf32 rfl rfl) ?_
 obtain ⟨hc2, h⟩ := guardO h
 refine AQ_q 13 _ rfl rfl rfl (QOp_indexAddrA_pv _ _ _ _ _ _ _ _ _ rfl Tryz.underlying32 Tryz.sizeOf5 hc2.1 hc2.2 rfl rfl) ?_
 refine AQ_q 14 _ rfl rfl rfl (QOp_load_pv _ _ _ _ _ rfl Tryz.isAgg5 rfl (colD_get _ _ (by omega))) ?_
 refine AQ_q 15 _ rfl rfl rfl (QOp_fromByte _ _ _ _ _ rfl rfl Tryz.underlying2 wrap_i64_byte rfl) ?_
 refine kQ 1 rfl ?_
 refine AQ_nil ?_
 refine ACode_ret ?_
 cases h
 exact ⟨_, _, fun r a w h => ⟨r, h⟩, _, _, [], _, (.cons (ResV_tmp _ _ rfl) .nil), rfl, rfl, rfl, rfl, rfl⟩

-- (*loop.example/g01362/impl.Colouring).joins
def impl_Colouring_joins (p0 : Col) (p1 : Int) (p2 : Int) (p3 : Int) : Option (Bool) :=
 ((if !decide (p1 = p2) then (impl_Colouring_at p0 p1 p2).bind fun r2 => some (decide (r2 = p3)) else some false) : Option (Bool)).bind fun s3 => some s3
set_option maxRecDepth 100000 in
theorem impl_Colouring_joins_ac (p0 : Col) (p1 : Int) (p2 : Int) (p3 : Int) (r : Bool) (h : impl_Colouring_joins p0 p1 p2 p3 = some r) : AC Tryz.prog 180 [.d (.pv (colD p0) 0), iV p1, iV p2, iV p3] [] (fun res H' => res = [bV r] ∧ H' = []) := by
 refine AC_of_body true Tryz.func180 rfl Tryz.ntmps180 (rvs := [.tmp 8]) rfl rfl (fun G hG => ?_)
 have hm : G.H.length = 0 := by rw [hG]; rfl
 have hz : zeroG G.H = true := by rw [hG]; rfl
 unfold impl_Colouring_joins at h
 refine kR ?_
 refine kN 1 rfl ?_
 refine kB (fun s3 => [(8, bV s3)]) (fun s3 => []) h (fun s3 h => ?_) (fun s3 h => ?_)
 ·refine (ACode_region ?_)
  refine kM 2 rfl ?_
  refine AOps_q 11 _ rfl rfl rfl (QOp_neq _ _ _ _ _ _ _ rfl rfl rfl) ?_
  refine kM 1 rfl ?_
  refine AOps_case 12 _ rfl (fun hb1 => ?_) (fun hb1 => ?_)
  ·have h := iteT hb1 h
   refine kM 3 rfl ?_
   obtain ⟨r2, hr2, h⟩ := bindO h
   refine kC [] 16 (iV r2) [] rfl Tryz.call137 rfl rfl (impl_Colouring_at_ac p0 p1 p2 _ hr2) rfl ?_
   refine kM 1 rfl ?_
   refine AOps_q 18 _ rfl rfl rfl (QOp_eql _ _ _ _ _ _ _ rfl rfl rfl) ?_
   refine kN 2 rfl ?_
   cases h
   exact Weak_keep 0 hm [8] [] _ _ rfl rfl rfl
  have h := iteF hb1 h
  refine AOps_skip 13 rfl rfl rfl ?_
  refine AOps_skip 14 rfl rfl rfl ?_
  refine AOps_skip 15 rfl rfl rfl ?_
  refine AOps_skip 16 rfl rfl rfl ?_
  refine AOps_skip 17 rfl rfl rfl ?_
  refine AOps_skip 18 rfl rfl rfl ?_
  refine kN 2 rfl ?_
  cases h
  exact Weak_keep 0 hm [8] [] _ _ rfl rfl rfl
 refine ACode_ret ?_
 cases h
 exact ⟨_, _, fun r a w h => ⟨r, h⟩, _, _, [], _, (.cons (ResV_tmp _ _ rfl) .nil), rfl, rfl, rfl, rfl, rfl⟩

-- (*loop.example/g01362/impl.Colouring).goesWith$1
def impl_Colouring_goesWith_c1 (p0 : Int) (p1 : Col) (p2 : Int) (p3 : Int) : Option (Bool) :=
 (impl_Colouring_joins p1 p0 p2 p3).bind fun r1 => some (!r1)
set_option maxRecDepth 100000 in
theorem impl_Colouring_goesWith_c1_ac (p0 : Int) (p1 : Col) (p2 : Int) (p3 : Int) (r : Bool) (h : impl_Colouring_goesWith_c1 p0 p1 p2 p3 = some r) : AC Tryz.prog 179 [iV p0, .d (.pv ([.pv (colD p1) 0]) 0), .d (.pv ([iD p2]) 0), .d (.pv ([iD p3]) 0)] [] (fun res H' => res = [bV r] ∧ H' = []) := by
 refine AC_of_body true Tryz.func179 rfl Tryz.ntmps179 (rvs := [.tmp 5]) rfl rfl (fun G hG => ?_)
 have hm : G.H.length = 0 := by rw [hG]; rfl
 have hz : zeroG G.H = true := by rw [hG]; rfl
 unfold impl_Colouring_goesWith_c1 at h
 refine kR ?_
 refine kN 1 rfl ?_
 refine kR ?_
 refine AOps_q 6 _ rfl rfl rfl (QOp_load_pv _ _ _ _ _ rfl Tryz.isAgg79 rfl rfl) ?_
 refine kM 1 rfl ?_
 refine AOps_q 8 _ rfl rfl rfl (QOp_load_pv _ _ _ _ _ rfl Tryz.isAgg2 rfl rfl) ?_
 refine AOps_q 9 _ rfl rfl rfl (QOp_load_pv _ _ _ _ _ rfl Tryz.isAgg2 rfl rfl) ?_
 obtain ⟨r1, hr1, h⟩ := bindO h
 refine kC [] 10 (bV r1) [] rfl Tryz.call180 rfl rfl (impl_Colouring_joins_ac p1 p0 p2 p3 _ hr1) rfl ?_
 refine AOps_q 11 _ rfl rfl rfl (QOp_not _ _ _ rfl rfl) ?_
 refine kN 1 rfl ?_
 refine ACode_ret ?_
 cases h
 exact ⟨_, _, fun r a w h => ⟨r, h⟩, _, _, [], _, (.cons (ResV_tmp _ _ rfl) .nil), rfl, rfl, rfl, rfl, rfl⟩

-- (*loop.example/g01362/impl.Colouring).goesWith
def impl_Colouring_goesWith (k : Nat) (p0 : Col) (p1 : Int) (p2 : List Int) (p3 : Int) : Option (Bool) :=
 (slices_ContainsFunc k p2 (fun a0 => impl_Colouring_goesWith_c1 a0 p0 p3 p1)).bind fun r1 => some (!r1)
set_option maxRecDepth 100000 in
theorem impl_Colouring_goesWith_ac (k : Nat) (p0 : Col) (p1 : Int) (p2 : List Int) (p3 : Int) (r : Bool) (h : impl_Colouring_goesWith k p0 p1 p2 p3 = some r) : AC Tryz.prog 147 [.d (.pv (colD p0) 0), iV p1, .d (.sl none (intsD p2)), iV p3] [] (fun res H' => res = [bV r] ∧ H' = []) := by
 refine AC_of_body true Tryz.func147 rfl Tryz.ntmps147 (rvs := [.tmp 8]) rfl rfl (fun G hG => ?_)
 have hm : G.H.length = 0 := by rw [hG]; rfl
 have hz : zeroG G.H = true := by rw [hG]; rfl
 unfold impl_Colouring_goesWith at h
 refine kR ?_
 refine AOps_boxI 4 _ _ (.pv (colD p0) 0) _ rfl (fun c hc => by cases hc with | head => rfl | tail _ h => cases h) rfl rfl rfl rfl rfl ?_
 refine AOps_boxI 5 _ _ (iD p1) _ rfl (fun c hc => by cases hc with | head => rfl | tail _ h => cases h) rfl rfl rfl rfl rfl ?_
 refine AOps_boxI 7 _ _ (iD p3) _ rfl (fun c hc => by cases hc with | head => rfl | tail _ h => cases h) rfl rfl rfl rfl rfl ?_
 refine kN 1 rfl ?_
 refine kR ?_
 refine kM 1 rfl ?_
 refine AOps_q 10 _ rfl rfl rfl (QOp_makeFuncD _ _ _ _ rfl rfl rfl) ?_
 obtain ⟨r1, hr1, h⟩ := bindO h
 refine kC [] 11 (bV r1) [] rfl Tryz.call123 rfl rfl (slices_ContainsFunc_ac k p2 (fun a0 => impl_Colouring_goesWith_c1 a0 p0 p3 p1) 179 ([.pv ([.pv (colD p0) 0]) 0, .pv ([iD p3]) 0, .pv ([iD p1]) 0]) Tryz.call179 (fun a0 r h => impl_Colouring_goesWith_c1_ac a0 p0 p3 p1 r h) _ hr1) rfl ?_
 refine AOps_q 12 _ rfl rfl rfl (QOp_not _ _ _ rfl rfl) ?_
 refine kN 1 rfl ?_
 refine ACode_ret ?_
 cases h
 exact ⟨_, _, fun r a w h => ⟨r, h⟩, _, _, [], _, (.cons (ResV_tmp _ _ rfl) .nil), rfl, rfl, rfl, rfl, rfl⟩

-- (*loop.example/g01362/impl.Colouring).cliques
def impl_Colouring_cliques_on_firstOf_c1_l0 (k : Nat) (self : Col → Int → (List Int) → Int → (List Int) → Option (Bool × List Int)) (p0 : Col) (p1 : Int) (p2 : List Int) (p3_0 : Int) : Nat → Int → (List Int) → Option (Sum (List Int) (Bool × List Int))
 | 0, _, _ => none
 | k0 + 1, x6, x7 => (if decide (x6 < p0.p) then (((impl_Colouring_goesWith k p0 p1 p2 x6).bind fun r9 => (if r9 then (if p2.isEmpty then (if ([x6]).length ≤ 1099511627776 ∧ ([x6]).length ≠ 0 then (self p0 p1 ([x6]) p3_0 x7).bind fun r14 => some (!r14.1, r14.2) else none) else (cloneA p2).bind fun r15 => (if r15.length + ([x6]).length ≤ 1099511627776 then (self p0 p1 (r15 ++ ([x6])) p3_0 x7).bind fun r17 => some (!r17.1, r17.2) else none)) else some (false, x7)) : Option (Bool × List Int)).bind fun s18 => (if s18.1 then (some (.inr (false, s18.2))).bind fun rr => some (.inr rr) else some (.inl s18.2)) : Option (Sum (List Int) (Sum (List Int) (Bool × List Int)))).bind fun os20 => (match os20 with | .inl s20 => impl_Colouring_cliques_on_firstOf_c1_l0 k self p0 p1 p2 p3_0 k0 (w64 (x6 + 1)) s20 | .inr rr => some rr) else some (.inl x7))
def impl_Colouring_cliques_on_firstOf_c1_body (self : Col → Int → (List Int) → Int → (List Int) → Option (Bool × List Int)) (k : Nat) (p0 : Col) (p1 : Int) (p2 : List Int) (p3_0 : Int) (p3_1 : List Int) : Option (Bool × List Int) :=
 (if !((impl_Colouring_firstOf_c1 p2 p3_0 p3_1).1) then some (false, (impl_Colouring_firstOf_c1 p2 p3_0 p3_1).2) else ((if decide (0 < (p2.length : Int)) then (if 0 ≤ w64 ((p2.length : Int) - 1) ∧ w64 ((p2.length : Int) - 1) < (p2.length : Int) then some (w64 ((p2.getD (w64 ((p2.length : Int) - 1)).toNat 0) + 1)) else none) else some 0) : Option (Int)).bind fun s5 => (impl_Colouring_cliques_on_firstOf_c1_l0 k self p0 p1 p2 p3_0 k s5 ((impl_Colouring_firstOf_c1 p2 p3_0 p3_1).2) : Option (Sum (List Int) (Bool × List Int))).bind fun os21 => (match os21 with | .inl s21 => some (true, s21) | .inr rr => some rr))
def impl_Colouring_cliques_on_firstOf_c1 : Nat → Col → Int → (List Int) → Int → (List Int) → Option (Bool × List Int)
 | 0, _, _, _, _, _ => none
 | k + 1, p0, p1, p2, p3_0, p3_1 => impl_Colouring_cliques_on_firstOf_c1_body (impl_Colouring_cliques_on_firstOf_c1 k) k p0 p1 p2 p3_0 p3_1
set_option maxRecDepth 100000 in
theorem impl_Colouring_cliques_on_firstOf_c1_ac (k : Nat) (p0 : Col) (p1 : Int) (p2 : List Int) (p3_0 : Int) (p3_1 : List Int) (r : Bool × List Int) (h : impl_Colouring_cliques_on_firstOf_c1 k p0 p1 p2 p3_0 p3_1 = some r) : AC Tryz.prog 141 [.d (.pv (colD p0) 0), iV p1, .d (.sl none (intsD p2)), .clo 142 [.d (.pv ([iD p3_0]) 0), .ptr 0 0]] [.box [.sl none (intsD p3_1)]] (fun res H' => res = [bV r.1] ∧ H' = [.box [.sl none (intsD r.2)]]) := by
 induction k generalizing p0 p1 p2 p3_0 p3_1 r with
 | zero => simp [impl_Colouring_cliques_on_firstOf_c1] at h
 | succ k ih =>
  rw [impl_Colouring_cliques_on_firstOf_c1] at h
  obtain ⟨self, hself, hk⟩ : ∃ self : Col → Int → (List Int) → Int → (List Int) → Option (Bool × List Int), (∀ (p0 : Col) (p1 : Int) (p2 : List Int) (p3_0 : Int) (p3_1 : List Int) (r : Bool × List Int), self p0 p1 p2 p3_0 p3_1 = some r → AC Tryz.prog 141 [.d (.pv (colD p0) 0), iV p1, .d (.sl none (intsD p2)), .clo 142 [.d (.pv ([iD p3_0]) 0), .ptr 0 0]] [.box [.sl none (intsD p3_1)]] (fun res H' => res = [bV r.1] ∧ H' = [.box [.sl none (intsD r.2)]])) ∧ impl_Colouring_cliques_on_firstOf_c1 k = self := ⟨impl_Colouring_cliques_on_firstOf_c1 k, fun p0 p1 p2 p3_0 p3_1 r h => ih p0 p1 p2 p3_0 p3_1 r h, rfl⟩
  rw [hk] at h
  clear ih hk
  refine AC_of_body true Tryz.func141 rfl Tryz.ntmps141 (rvs := [.tmp 8]) rfl rfl (fun G hG => ?_)
  have hm : G.H.length = 1 := by rw [hG]; rfl
  have hz : zeroG G.H = true := by rw [hG]; rfl
  unfold impl_Colouring_cliques_on_firstOf_c1_body at h
  refine kR ?_
  refine kN 1 rfl ?_
  refine ACode_seq ?_
  refine kR ?_
  refine kM 2 rfl ?_
  refine kC [0] 13 (bV ((impl_Colouring_firstOf_c1 p2 p3_0 p3_1).1)) [.box [.sl none (intsD ((impl_Colouring_firstOf_c1 p2 p3_0 p3_1).2))]] rfl Tryz.call142 rfl rfl (impl_Colouring_firstOf_c1_ac p2 p3_0 p3_1) rfl ?_
  refine AOps_q 14 _ rfl rfl rfl (QOp_not _ _ _ rfl rfl) ?_
  refine AOps_nil ?_
  refine kI h rfl (fun h _ => ?_) (fun h _ => ?_)
  ·refine kR ?_
   refine kN 1 rfl ?_
   refine ACode_ret ?_
   cases h
   exact ⟨_, _, fun r a w h => ⟨r, h⟩, _, _, [], _, (.cons (ResV_tmp _ _ rfl) .nil), rfl, rfl, rfl, rfl, rfl⟩
  refine ACode_skip ?_
  refine kR ?_
  refine kN 1 rfl ?_
  refine kB (fun s5 => [(0, .d (.pv (colD p0) 0)), (1, iV p1), (2, .d (.sl none (intsD p2))), (3, .clo 142 [.d (.pv ([iD p3_0]) 0), .ptr 0 0]), (9, iV s5)]) (fun s5 => [.box [.sl none (intsD ((impl_Colouring_firstOf_c1 p2 p3_0 p3_1).2))]]) h (fun s5 h => ?_) (fun s5 h => ?_)
  ·refine kR ?_
   refine kM 1 rfl ?_
   refine AOps_q 16 _ rfl rfl rfl (QOp_len_sl _ _ _ _ _ _ _ (intsD_length _) rfl rfl rfl rfl Tryz.underlying27 rfl) ?_
   refine AOps_q 17 _ rfl rfl rfl (QOp_gtr _ _ _ _ _ _ _ rfl rfl rfl) ?_
   refine AOps_nil ?_
   refine kI h rfl (fun h _ => ?_) (fun h _ => ?_)
   ·refine (ACode_region ?_)
    refine kM 2 rfl ?_
    refine AOps_q 20 _ rfl rfl rfl (QOp_len_sl _ _ _ _ _ _ _ (intsD_length _) rfl rfl rfl rfl Tryz.underlying27 rfl) ?_
    refine AOps_q 21 _ rfl rfl rfl (QOp_sub _ _ _ _ _ _ _ rfl rfl rfl) ?_
    obtain ⟨hc4, h⟩ := guardO h
    refine AOps_q 22 _ rfl rfl rfl (QOp_indexAddr_sl _ _ _ _ _ _ _ _ rfl Tryz.underlying27 Tryz.sizeOf2 hc4.1 (by rw [intsD_length]; exact hc4.2) rfl rfl) ?_
    refine AOps_q 23 _ rfl rfl rfl (QOp_load_pv _ _ _ _ _ rfl Tryz.isAgg2 rfl (intsD_get _ _ 0 (by omega))) ?_
    refine AOps_q 24 _ rfl rfl rfl (QOp_add _ _ _ _ _ _ _ rfl rfl rfl) ?_
    refine kN 1 rfl ?_
    cases h
    exact Weak_keep 1 hm [0, 1, 2, 3, 9] [] _ _ rfl rfl rfl
   refine ACode_skip ?_
   cases h
   exact Weak_keep 1 hm [0, 1, 2, 3, 9] [] _ _ rfl rfl rfl
  refine kO (fun s21 => []) (fun s21 => [.box [.sl none (intsD s21)]]) h (fun os21 h hks21 => ?_) (fun s21 h => ?_)
  ·refine kR ?_
   refine kN 2 rfl ?_
   refine ACode_block ?_
   refine ACode_loopW (fun k0 E H => ∃ (x6 : Int) (x7 : List Int), E = [(0, .d (.pv (colD p0) 0)), (1, iV p1), (2, .d (.sl none (intsD p2))), (3, .clo 142 [.d (.pv ([iD p3_0]) 0), .ptr 0 0]), (10, iV x6)] ∧ H = [.box [.sl none (intsD x7)]] ∧ impl_Colouring_cliques_on_firstOf_c1_l0 k self p0 p1 p2 p3_0 k0 x6 x7 = some os21) k _ _ (Weak_keep 1 hm [0, 1, 2, 3, 10] [] _ _ rfl rfl rfl) ⟨_, _, rfl, rfl, h⟩ ?_
   clear h
   rintro k0 E H ⟨x6, x7, rfl, rfl, h⟩
   cases k0 with
   | zero => cases (show (none : Option (Sum (List Int) (Bool × List Int))) = some _ from h)
   | succ k0 =>
    rw [impl_Colouring_cliques_on_firstOf_c1_l0] at h
    refine ACode_seq ?_
    refine kR ?_
    refine kM 2 rfl ?_
    refine AOps_q 28 _ rfl rfl rfl (QOp_nilCheck_pv _ _ _ rfl rfl) ?_
    refine AOps_q 29 _ rfl rfl rfl (QOp_fieldAddr_pv _ _ _ _ _ 0 _ _ rfl Tryz.underlying34 rfl _ Tryz.sizeOf2 rfl rfl) ?_
    refine AOps_q 30 _ rfl rfl rfl (QOp_load_pv _ _ _ _ _ rfl Tryz.isAgg2 rfl rfl) ?_
    refine AOps_q 31 _ rfl rfl rfl (QOp_lss _ _ _ _ _ _ _ rfl rfl rfl) ?_
    refine AOps_nil ?_
    refine kI h rfl (fun h _ => ?_) (fun h _ => ?_)
    ·refine ACode_skip ?_
     refine kO (fun s20 => [(0, .d (.pv (colD p0) 0)), (1, iV p1), (2, .d (.sl none (intsD p2))), (3, .clo 142 [.d (.pv ([iD p3_0]) 0), .ptr 0 0]), (10, iV x6)]) (fun s20 => [.box [.sl none (intsD s20)]]) h (fun os20 h hks20 => ?_) (fun s20 h => ?_)
     ·refine ACode_block ?_
      refine kB (fun s18 => [(0, .d (.pv (colD p0) 0)), (1, iV p1), (2, .d (.sl none (intsD p2))), (3, .clo 142 [.d (.pv ([iD p3_0]) 0), .ptr 0 0]), (10, iV x6), (50, bV s18.1)]) (fun s18 => [.box [.sl none (intsD s18.2)]]) h (fun s18 h => ?_) (fun s18 h => ?_)
      ·refine (ACode_region ?_)
       refine kM 4 rfl ?_
       obtain ⟨r9, hr9, h⟩ := bindO h
       refine kC [] 38 (bV r9) [.box [.sl none (intsD x7)]] rfl Tryz.call147 rfl rfl (impl_Colouring_goesWith_ac k p0 p1 p2 x6 _ hr9) rfl ?_
       refine kM 1 rfl ?_
       refine AOps_case 39 _ rfl (fun hb10 => ?_) (fun hb10 => ?_)
       ·have h := iteT hb10 h
        refine kM 3 rfl ?_
        refine bsplit (p2.isEmpty) (fun hb11 => ?_) (fun hb11 => ?_)
        ·have h := iteT hb11 h
         refine kC [] 43 (.d (.se none)) [.box [.sl none (intsD x7)]] rfl Tryz.call109 rfl rfl (cloneB_ac p2 hb11) rfl ?_
         refine kM 1 rfl ?_
         refine AOps_buildSlice 45 _ _ _ [_] (intsD ([x6])) _ rfl rfl rfl rfl rfl (by decide) Tryz.underlying27 Tryz.sizeOf2 (zero_of Tryz.typeInfo2 rfl) rfl rfl (intsD_one _) ?_
         obtain ⟨hc13, h⟩ := guardO h
         refine AOps_append0 46 _ _ _ _ _ _ _ _ _ _ rfl rfl rfl rfl rfl rfl rfl Tryz.underlying27 Tryz.type2 rfl rfl rfl (by decide) rfl rfl rfl (intsD_one _) (by rw [intsD_length]; exact hc13.1) (by rw [intsD_length]; exact hc13.2) ?_
         refine kM 1 rfl ?_
         refine AOps_freezeL [46] 2 0 _ (allc (rfl) (fun _ h => nomatch h)) rfl ?_
         obtain ⟨r14, hr14, h⟩ := bindO h
         refine kC [0] 48 (bV r14.1) [.box [.sl none (intsD r14.2)], .vec 0 (intsD ([x6])), .gone] rfl Tryz.call141 rfl rfl (hself p0 p1 ([x6]) p3_0 x7 _ hr14) rfl ?_
         refine AOps_q 49 _ rfl rfl rfl (QOp_not _ _ _ rfl rfl) ?_
         refine kN 1 rfl ?_
         cases h
         exact Weak_keep 1 hm [0, 1, 2, 3, 10, 50] [] _ _ rfl rfl rfl
        have h := iteF hb11 h
        obtain ⟨r15, hr15, h⟩ := bindO h
        refine kC [] 43 (.vec 1 0) [.box [.sl none (intsD x7)], .vec 0 (intsD r15)] rfl Tryz.call109 rfl rfl (cloneA_ac p2 _ hb11 hr15) rfl ?_
        refine kM 1 rfl ?_
        refine AOps_buildSlice 45 _ _ _ [_] (intsD ([x6])) _ rfl rfl rfl rfl rfl (by decide) Tryz.underlying27 Tryz.sizeOf2 (zero_of Tryz.typeInfo2 rfl) rfl rfl (intsD_one _) ?_
        obtain ⟨hc16, h⟩ := guardO h
        refine AOps_append 46 _ _ _ _ _ _ _ _ _ _ _ _ rfl rfl rfl rfl rfl rfl rfl Tryz.underlying27 Tryz.type2 rfl rfl rfl (by decide) rfl rfl rfl rfl (intsD_one _) (by rw [intsD_length, intsD_length]; exact hc16) ?_
        rw [intsD_app]
        refine kM 1 rfl ?_
        refine AOps_freezeL [46] 1 1 _ (allc (rfl) (fun _ h => nomatch h)) rfl ?_
        obtain ⟨r17, hr17, h⟩ := bindO h
        refine kC [0] 48 (bV r17.1) [.box [.sl none (intsD r17.2)], .gone, .vec 0 (intsD ([x6]))] rfl Tryz.call141 rfl rfl (hself p0 p1 (r15 ++ ([x6])) p3_0 x7 _ hr17) rfl ?_
        refine AOps_q 49 _ rfl rfl rfl (QOp_not _ _ _ rfl rfl) ?_
        refine kN 1 rfl ?_
        cases h
        exact Weak_keep 1 hm [0, 1, 2, 3, 10, 50] [] _ _ rfl rfl rfl
       have h := iteF hb10 h
       refine AOps_skip 40 rfl rfl rfl ?_
       refine AOps_skip 41 rfl rfl rfl ?_
       refine AOps_skip 42 rfl rfl rfl ?_
       refine AOps_skip 43 rfl rfl rfl ?_
       refine AOps_skip 44 rfl rfl rfl ?_
       refine AOps_skip 45 rfl rfl rfl ?_
       refine AOps_skip 46 rfl rfl rfl ?_
       refine AOps_skip 47 rfl rfl rfl ?_
       refine AOps_skip 48 rfl rfl rfl ?_
       refine AOps_skip 49 rfl rfl rfl ?_
       refine kN 1 rfl ?_
       cases h
       exact Weak_keep 1 hm [0, 1, 2, 3, 10, 50] [] _ _ rfl rfl rfl
      refine kI h rfl (fun h _ => ?_) (fun h _ => ?_)
      ·refine kR ?_
       refine kN 1 rfl ?_
       refine ACode_ret ?_
       obtain ⟨rr, hz22, h2⟩ := bindO h
       obtain rfl := Option.some.inj h2
       obtain rfl := Option.some.inj (show some rr = some _ from hks20)
       have h := hz22
       cases h
       have h := hks21
       cases h
       exact ⟨_, _, fun r a w h => ⟨r, h⟩, _, _, [], _, (.cons (ResV_tmp _ _ rfl) .nil), rfl, rfl, rfl, rfl, rfl⟩
      refine ACode_skip ?_
      cases h
      exact ⟨_, rfl, Weak_keep 1 hm [0, 1, 2, 3, 10] [] _ _ rfl rfl rfl⟩
     refine (ACode_region ?_)
     refine kM 1 rfl ?_
     refine AOps_q 33 _ rfl rfl rfl (QOp_add _ _ _ _ _ _ _ rfl rfl rfl) ?_
     refine kN 1 rfl ?_
     exact ⟨k0, _, _, Nat.lt_succ_self _, Weak_keep 1 hm [0, 1, 2, 3, 10] [] _ _ rfl rfl rfl, _, _, rfl, rfl, h⟩
    refine ACode_exit ?_
    cases h
    exact ⟨_, rfl, Weak_keep 1 hm [] [] _ _ rfl rfl rfl⟩
  refine kR ?_
  refine kN 1 rfl ?_
  refine ACode_ret ?_
  cases h
  exact ⟨_, _, fun r a w h => ⟨r, h⟩, _, _, [], _, (.cons (ResV_tmp _ _ rfl) .nil), rfl, rfl, rfl, rfl, rfl⟩

-- (*loop.example/g01362/impl.Colouring).firstOf
def impl_Colouring_firstOf (k : Nat) (p0 : Col) (p1 : Int) (p2 : Int) : Option (List Int × Bool) :=
 (impl_Colouring_cliques_on_firstOf_c1 k p0 p1 ([]) p2 ([] : List Int)).bind fun r1 => some (r1.2, !r1.1)
set_option maxRecDepth 100000 in
theorem impl_Colouring_firstOf_ac (k : Nat) (p0 : Col) (p1 : Int) (p2 : Int) (r : List Int × Bool) (h : impl_Colouring_firstOf k p0 p1 p2 = some r) : AC Tryz.prog 88 [.d (.pv (colD p0) 0), iV p1, iV p2] [] (fun res H' => res = [.d (.sl none (intsD r.1)), bV r.2] ∧ H' = []) := by
 refine AC_of_body true Tryz.func88 rfl Tryz.ntmps88 (rvs := [.tmp 6, .tmp 7]) rfl rfl (fun G hG => ?_)
 have hm : G.H.length = 0 := by rw [hG]; rfl
 have hz : zeroG G.H = true := by rw [hG]; rfl
 unfold impl_Colouring_firstOf at h
 refine kR ?_
 refine AOps_boxI 5 _ _ (iD p2) _ rfl (fun c hc => by cases hc with | head => rfl | tail _ h => cases h) rfl rfl rfl rfl rfl ?_
 refine kN 2 rfl ?_
 refine kR ?_
 refine AOps_buildSlice 10 _ _ _ [] (intsD ([] : List Int)) _ rfl rfl rfl rfl rfl (by decide) Tryz.underlying27 Tryz.sizeOf2 (zero_of Tryz.typeInfo2 rfl) rfl rfl (intsD_one _) ?_
 refine AOps_alloc 8 _ _ ([.sl (some true) []]) (zero_of Tryz.typeInfo27 rfl) (by rfl) rfl rfl rfl rfl ?_
 refine AOps_freeze 10 0 0 _ rfl rfl ?_
 refine AOps_store1 _ _ _ _ _ _ _ _ rfl rfl rfl rfl rfl rfl rfl Tryz.sizeOf27 (Nat.le_of_ble_eq_true rfl) rfl ?_
 refine AOps_nil ?_
 refine kR ?_
 refine kM 2 rfl ?_
 refine AOps_q 13 _ rfl rfl rfl (QOp_makeFunc _ _ _ rfl rfl) ?_
 obtain ⟨r1, hr1, h⟩ := bindO h
 refine kC [1] 14 (bV r1.1) [.gone, .box [.sl none (intsD r1.2)]] rfl Tryz.call141 rfl rfl (impl_Colouring_cliques_on_firstOf_c1_ac k p0 p1 ([]) p2 ([] : List Int) _ hr1) rfl ?_
 refine kN 1 rfl ?_
 refine kR ?_
 refine AOps_q 15 _ rfl rfl rfl (QOp_load_ptr _ _ _ _ _ _ rfl Tryz.isAgg27 rfl rfl rfl) ?_
 refine kM 1 rfl ?_
 refine AOps_q 17 _ rfl rfl rfl (QOp_not _ _ _ rfl rfl) ?_
 refine kN 2 rfl ?_
 refine ACode_ret ?_
 cases h
 exact ⟨_, _, fun r a w h => ⟨r, h⟩, _, _, [], _, (.cons (ResV_tmp _ _ rfl) (.cons (ResV_tmp _ _ rfl) .nil)), rfl, rfl, rfl, rfl, rfl⟩

-- (*loop.example/g01362/impl.Colouring).avoids
def impl_Colouring_avoids_l0 (k : Nat) (p0 : Col) (p1 : List Int) : Nat → Int → Option (Sum (Unit) (Bool))
 | 0, _ => none
 | k0 + 1, x1 => (if decide (x1 < (p1.length : Int)) then (if 0 ≤ x1 ∧ x1 < (p1.length : Int) then (impl_Colouring_firstOf k p0 x1 (p1.getD x1.toNat 0)).bind fun r4 => (if r4.2 then some (.inr false) else impl_Colouring_avoids_l0 k p0 p1 k0 (w64 (x1 + 1))) else none) else some (.inl ()))
def impl_Colouring_avoids (k : Nat) (p0 : Col) (p1 : List Int) : Option (Bool) :=
 (impl_Colouring_avoids_l0 k p0 p1 k 0 : Option (Sum (Unit) (Bool))).bind fun os6 => (match os6 with | .inl s6 => some true | .inr rr => some rr)
set_option maxRecDepth 100000 in
theorem impl_Colouring_avoids_ac (k : Nat) (p0 : Col) (p1 : List Int) (r : Bool) (h : impl_Colouring_avoids k p0 p1 = some r) : AC Tryz.prog 85 [.d (.pv (colD p0) 0), .d (.sl none (intsD p1))] [] (fun res H' => res = [bV r] ∧ H' = []) := by
 refine AC_of_body true Tryz.func85 rfl Tryz.ntmps85 (rvs := [.tmp 4]) rfl rfl (fun G hG => ?_)
 have hm : G.H.length = 0 := by rw [hG]; rfl
 have hz : zeroG G.H = true := by rw [hG]; rfl
 unfold impl_Colouring_avoids at h
 refine kR ?_
 refine kN 1 rfl ?_
 refine kO (fun s6 => []) (fun s6 => []) h (fun os6 h hks6 => ?_) (fun s6 h => ?_)
 ·refine kR ?_
  refine kM 1 rfl ?_
  refine AOps_q 10 _ rfl rfl rfl (QOp_len_sl _ _ _ _ _ _ _ (intsD_length _) rfl rfl rfl rfl Tryz.underlying27 rfl) ?_
  refine kN 1 rfl ?_
  refine ACode_block ?_
  refine ACode_loopW (fun k0 E H => ∃ (x1 : Int), E = [(0, .d (.pv (colD p0) 0)), (9, .d (.sl none (intsD p1))), (10, iV (p1.length : Int)), (11, iV x1)] ∧ H = [] ∧ impl_Colouring_avoids_l0 k p0 p1 k0 x1 = some os6) k _ _ (Weak_keep 0 hm [0, 9, 10, 11] [] _ _ rfl rfl rfl) ⟨_, rfl, rfl, h⟩ ?_
  clear h
  rintro k0 E H ⟨x1, rfl, rfl, h⟩
  cases k0 with
  | zero => cases (show (none : Option (Sum (Unit) (Bool))) = some _ from h)
  | succ k0 =>
   rw [impl_Colouring_avoids_l0] at h
   refine kR ?_
   refine AOps_q 12 _ rfl rfl rfl (QOp_lss _ _ _ _ _ _ _ rfl rfl rfl) ?_
   refine AOps_nil ?_
   refine ACode_seq ?_
   refine kI h rfl (fun h _ => ?_) (fun h _ => ?_)
   ·refine ACode_skip ?_
    refine ACode_seq ?_
    refine ACode_block ?_
    refine kR ?_
    refine kM 1 rfl ?_
    obtain ⟨hc3, h⟩ := guardO h
    refine AOps_q 14 _ rfl rfl rfl (QOp_indexAddr_sl _ _ _ _ _ _ _ _ rfl Tryz.underlying27 Tryz.sizeOf2 hc3.1 (by rw [intsD_length]; exact hc3.2) rfl rfl) ?_
    refine AOps_q 15 _ rfl rfl rfl (QOp_load_pv _ _ _ _ _ rfl Tryz.isAgg2 rfl (intsD_get _ _ 0 (by omega))) ?_
    refine kN 2 rfl ?_
    refine kR ?_
    refine kM 3 rfl ?_
    obtain ⟨r4, hr4, h⟩ := bindO h
    refine kC [] 20 (.tup [.d (.sl none (intsD r4.1)), bV r4.2]) [] rfl Tryz.call88 rfl rfl (impl_Colouring_firstOf_ac k p0 x1 (p1.getD x1.toNat 0) _ hr4) rfl ?_
    refine kN 5 rfl ?_
    refine kR ?_
    refine kN 1 rfl ?_
    refine kI h rfl (fun h _ => ?_) (fun h _ => ?_)
    ·refine kR ?_
     refine kN 1 rfl ?_
     refine ACode_ret ?_
     cases h
     have h := hks6
     cases h
     exact ⟨_, _, fun r a w h => ⟨r, h⟩, _, _, [], _, (.cons (ResV_tmp _ _ rfl) .nil), rfl, rfl, rfl, rfl, rfl⟩
    refine ACode_skip ?_
    refine (ACode_region ?_)
    refine AOps_q 24 _ rfl rfl rfl (QOp_add _ _ _ _ _ _ _ rfl rfl rfl) ?_
    refine kN 1 rfl ?_
    exact ⟨k0, _, _, Nat.lt_succ_self _, Weak_keep 0 hm [0, 9, 10, 11] [] _ _ rfl rfl rfl, _, rfl, rfl, h⟩
   refine ACode_exit ?_
   cases h
   exact ⟨_, rfl, Weak_keep 0 hm [] [] _ _ rfl rfl rfl⟩
 refine kR ?_
 refine kN 1 rfl ?_
 refine ACode_ret ?_
 cases h
 exact ⟨_, _, fun r a w h => ⟨r, h⟩, _, _, [], _, (.cons (ResV_tmp _ _ rfl) .nil), rfl, rfl, rfl, rfl, rfl⟩

-- loop.example/g01362/impl.AvoidsSizes
def impl_AvoidsSizes (k : Nat) (p0 : Col) (p1 : List Int) : Option (Bool × Int) :=
 (impl_Colouring_sizesCode k p0 p1 (some (impl_always))).bind fun r1 => (if !decide (r1 = 0) then some (false, r1) else (impl_Colouring_avoids k p0 p1).bind fun r3 => some (r3, 0))
set_option maxRecDepth 100000 in
theorem impl_AvoidsSizes_ac (k : Nat) (p0 : Col) (p1 : List Int) (r : Bool × Int) (h : impl_AvoidsSizes k p0 p1 = some r) : AC Tryz.prog 34 [.d (.agg (colD p0)), .d (.sl none (intsD p1))] [] (fun res H' => res = [bV r.1, iV r.2] ∧ H' = []) := by
 refine AC_of_body true Tryz.func34 rfl Tryz.ntmps34 (rvs := [.tmp 4, .tmp 5]) rfl rfl (fun G hG => ?_)
 have hm : G.H.length = 0 := by rw [hG]; rfl
 have hz : zeroG G.H = true := by rw [hG]; rfl
 unfold impl_AvoidsSizes at h
 refine kR ?_
 refine AOps_boxI 2 _ _ (.agg (colD p0)) (colD p0) rfl (colD_one _) rfl rfl rfl rfl rfl ?_
 refine kN 2 rfl ?_
 refine ACode_seq ?_
 refine kR ?_
 refine kM 1 rfl ?_
 obtain ⟨r1, hr1, h⟩ := bindO h
 refine kC [] 8 (iV r1) [] rfl Tryz.call84 rfl rfl (impl_Colouring_sizesCode_ac k p0 p1 (some (impl_always)) 81 ([]) Tryz.call81 (fun r h => by cases h; exact impl_always_ac) _ hr1) rfl ?_
 refine kN 1 rfl ?_
 refine kR ?_
 refine kM 1 rfl ?_
 refine AOps_q 10 _ rfl rfl rfl (QOp_neq _ _ _ _ _ _ _ rfl rfl rfl) ?_
 refine AOps_nil ?_
 refine kI h rfl (fun h _ => ?_) (fun h _ => ?_)
 ·refine kR ?_
  refine kN 3 rfl ?_
  refine ACode_ret ?_
  cases h
  exact ⟨_, _, fun r a w h => ⟨r, h⟩, _, _, [], _, (.cons (ResV_tmp _ _ rfl) (.cons (ResV_tmp _ _ rfl) .nil)), rfl, rfl, rfl, rfl, rfl⟩
 refine ACode_skip ?_
 refine kR ?_
 refine kM 1 rfl ?_
 obtain ⟨r3, hr3, h⟩ := bindO h
 refine kC [] 13 (bV r3) [] rfl Tryz.call85 rfl rfl (impl_Colouring_avoids_ac k p0 p1 _ hr3) rfl ?_
 refine kN 2 rfl ?_
 refine ACode_ret ?_
 cases h
 exact ⟨_, _, fun r a w h => ⟨r, h⟩, _, _, [], _, (.cons (ResV_tmp _ _ rfl) (.cons (ResV_tmp _ _ rfl) .nil)), rfl, rfl, rfl, rfl, rfl⟩

-- loop.example/g01362/spec.l01In
def spec_l01In (p0 : Int) (p1 : Int) (p2 : Int) : Bool :=
 letO (if decide (p1 ≤ p0) then decide (p0 ≤ p2) else false) fun (s2 : Bool) => s2
set_option maxRecDepth 100000 in
theorem spec_l01In_ac (p0 : Int) (p1 : Int) (p2 : Int) : AC Tryz.prog 61 [iV p0, iV p1, iV p2] [] (fun res H' => res = [bV (spec_l01In p0 p1 p2)] ∧ H' = []) := by
 refine AC_of_body true Tryz.func61 rfl Tryz.ntmps61 (rvs := [.tmp 6]) rfl rfl (fun G hG => ?_)
 have hm : G.H.length = 0 := by rw [hG]; rfl
 have hz : zeroG G.H = true := by rw [hG]; rfl
 obtain ⟨r, h⟩ : ∃ r, spec_l01In p0 p1 p2 = r := ⟨_, rfl⟩
 rw [h]
 unfold spec_l01In at h
 refine kR ?_
 refine kN 1 rfl ?_
 refine kL (fun s2 => [(6, bV s2)]) (fun s2 => []) h (fun s2 h => ?_) (fun s2 h => ?_)
 ·refine (ACode_region ?_)
  refine kM 2 rfl ?_
  refine AOps_q 9 _ rfl rfl rfl (QOp_geq _ _ _ _ _ _ _ rfl rfl rfl) ?_
  refine kM 1 rfl ?_
  refine AOps_case 10 _ rfl (fun hb1 => ?_) (fun hb1 => ?_)
  ·have h := iteT hb1 h
   refine kM 2 rfl ?_
   refine AOps_q 13 _ rfl rfl rfl (QOp_leq _ _ _ _ _ _ _ rfl rfl rfl) ?_
   refine kN 2 rfl ?_
   cases h
   exact Weak_keep 0 hm [6] [] _ _ rfl rfl rfl
  have h := iteF hb1 h
  refine AOps_skip 11 rfl rfl rfl ?_
  refine AOps_skip 12 rfl rfl rfl ?_
  refine AOps_skip 13 rfl rfl rfl ?_
  refine kN 2 rfl ?_
  cases h
  exact Weak_keep 0 hm [6] [] _ _ rfl rfl rfl
 refine ACode_ret ?_
 cases h
 exact ⟨_, _, fun r a w h => ⟨r, h⟩, _, _, [], _, (.cons (ResV_tmp _ _ rfl) .nil), rfl, rfl, rfl, rfl, rfl⟩

-- loop.example/g01362/spec.l01Is
def spec_l01Is_l0 (k : Nat) (p0 : Col) : Nat → Int → Option (Sum (Unit) (Bool))
 | 0, _ => none
 | k0 + 1, x7 => (if decide (x7 < 136) then (((if decide (x7 < w64 ((w64 (p0.p * (w64 (p0.p - 1)))).tdiv 2)) then (if 0 ≤ x7 ∧ x7 < 136 then (if decide (p0.k ≤ ((p0.get x7.toNat).toNat : Int)) then some true else (if decide (w64 ((w64 (p0.p * (w64 (p0.p - 1)))).tdiv 2) ≤ x7) then (if 0 ≤ x7 ∧ x7 < 136 then some (!decide (((p0.get x7.toNat).toNat : Int) = 0)) else none) else some false)) else none) else (if decide (w64 ((w64 (p0.p * (w64 (p0.p - 1)))).tdiv 2) ≤ x7) then (if 0 ≤ x7 ∧ x7 < 136 then some (!decide (((p0.get x7.toNat).toNat : Int) = 0)) else none) else some false)) : Option (Bool)).bind fun s16 => (if s16 then (some (.inr false)).bind fun rr => some (.inr rr) else some (.inl ())) : Option (Sum (Unit) (Sum (Unit) (Bool)))).bind fun os18 => (match os18 with | .inl s18 => spec_l01Is_l0 k p0 k0 (w64 (x7 + 1)) | .inr rr => some rr) else some (.inl ()))
def spec_l01Is (k : Nat) (p0 : Col) : Option (Bool) :=
 (letO (if !(spec_l01In p0.p 1 17) then true else !(spec_l01In p0.k 1 4)) fun (s4 : Bool) => (if s4 then some (.inr false) else some (.inl ())) : Option (Sum (Unit) (Bool))).bind fun os6 => (match os6 with | .inl s6 => (spec_l01Is_l0 k p0 k 0 : Option (Sum (Unit) (Bool))).bind fun os19 => (match os19 with | .inl s19 => some true | .inr rr => some rr) | .inr rr => some rr)
set_option maxRecDepth 100000 in
theorem spec_l01Is_ac (k : Nat) (p0 : Col) (r : Bool) (h : spec_l01Is k p0 = some r) : AC Tryz.prog 77 [.d (.agg (colD p0))] [] (fun res H' => res = [bV r] ∧ H' = []) := by
 refine AC_of_body true Tryz.func77 rfl Tryz.ntmps77 (rvs := [.tmp 2]) rfl rfl (fun G hG => ?_)
 have hm : G.H.length = 0 := by rw [hG]; rfl
 have hz : zeroG G.H = true := by rw [hG]; rfl
 unfold spec_l01Is at h
 refine kR ?_
 refine AOps_boxI 1 _ _ (.agg (colD p0)) (colD p0) rfl (colD_one _) rfl rfl rfl rfl rfl ?_
 refine kN 1 rfl ?_
 refine kO (fun s6 => [(1, .d (.pv (colD p0) 0))]) (fun s6 => []) h (fun os6 h hks6 => ?_) (fun s6 h => ?_)
 ·refine kL (fun s4 => [(1, .d (.pv (colD p0) 0)), (14, bV s4)]) (fun s4 => []) h (fun s4 h => ?_) (fun s4 h => ?_)
  ·refine (ACode_region ?_)
   refine AOps_q 5 _ rfl rfl rfl (QOp_fieldAddr_pv _ _ _ _ _ 0 _ _ rfl Tryz.underlying34 rfl _ Tryz.sizeOf2 rfl rfl) ?_
   refine AOps_q 6 _ rfl rfl rfl (QOp_load_pv _ _ _ _ _ rfl Tryz.isAgg2 rfl rfl) ?_
   refine kC [] 7 (bV (spec_l01In p0.p 1 17)) [] rfl Tryz.call61 rfl rfl (spec_l01In_ac p0.p 1 17) rfl ?_
   refine AOps_q 8 _ rfl rfl rfl (QOp_not _ _ _ rfl rfl) ?_
   refine kM 1 rfl ?_
   refine AOps_case 9 _ rfl (fun hb2 => ?_) (fun hb2 => ?_)
   ·have h := iteT hb2 h
    refine AOps_skip 10 rfl rfl rfl ?_
    refine AOps_skip 11 rfl rfl rfl ?_
    refine AOps_skip 12 rfl rfl rfl ?_
    refine AOps_skip 13 rfl rfl rfl ?_
    refine kN 1 rfl ?_
    cases h
    exact Weak_keep 0 hm [1, 14] [] _ _ rfl rfl rfl
   have h := iteF hb2 h
   refine AOps_q 10 _ rfl rfl rfl (QOp_fieldAddr_pv _ _ _ _ _ 1 _ _ rfl Tryz.underlying34 rfl _ Tryz.sizeOf2 rfl rfl) ?_
   refine AOps_q 11 _ rfl rfl rfl (QOp_load_pv _ _ _ _ _ rfl Tryz.isAgg2 rfl rfl) ?_
   refine kC [] 12 (bV (spec_l01In p0.k 1 4)) [] rfl Tryz.call61 rfl rfl (spec_l01In_ac p0.k 1 4) rfl ?_
   refine AOps_q 13 _ rfl rfl rfl (QOp_not _ _ _ rfl rfl) ?_
   refine kN 1 rfl ?_
   cases h
   exact Weak_keep 0 hm [1, 14] [] _ _ rfl rfl rfl
  refine kI h rfl (fun h _ => ?_) (fun h _ => ?_)
  ·refine kR ?_
   refine kN 1 rfl ?_
   refine ACode_ret ?_
   cases h
   have h := hks6
   cases h
   exact ⟨_, _, fun r a w h => ⟨r, h⟩, _, _, [], _, (.cons (ResV_tmp _ _ rfl) .nil), rfl, rfl, rfl, rfl, rfl⟩
  refine ACode_skip ?_
  cases h
  exact ⟨_, rfl, Weak_keep 0 hm [1] [] _ _ rfl rfl rfl⟩
 refine kR ?_
 refine AOps_q 15 _ rfl rfl rfl (QOp_fieldAddr_pv _ _ _ _ _ 0 _ _ rfl Tryz.underlying34 rfl _ Tryz.sizeOf2 rfl rfl) ?_
 refine AOps_q 16 _ rfl rfl rfl (QOp_load_pv _ _ _ _ _ rfl Tryz.isAgg2 rfl rfl) ?_
 refine AOps_q 17 _ rfl rfl rfl (QOp_fieldAddr_pv _ _ _ _ _ 0 _ _ rfl Tryz.underlying34 rfl _ Tryz.sizeOf2 rfl rfl) ?_
 refine AOps_q 18 _ rfl rfl rfl (QOp_load_pv _ _ _ _ _ rfl Tryz.isAgg2 rfl rfl) ?_
 refine AOps_q 19 _ rfl rfl rfl (QOp_sub _ _ _ _ _ _ _ rfl rfl rfl) ?_
 refine AOps_q 20 _ rfl rfl rfl (QOp_mul _ _ _ _ _ _ _ rfl rfl rfl) ?_
 refine AOps_q 21 _ rfl rfl rfl (QOp_quo _ _ _ _ _ _ _ (by decide) rfl rfl rfl) ?_
 refine kN 1 rfl ?_
 refine kO (fun s19 => []) (fun s19 => []) h (fun os19 h hks19 => ?_) (fun s19 h => ?_)
 ·refine kR ?_
  refine kN 1 rfl ?_
  refine ACode_block ?_
  refine ACode_loopW (fun k0 E H => ∃ (x7 : Int), E = [(1, .d (.pv (colD p0) 0)), (3, iV (w64 ((w64 (p0.p * (w64 (p0.p - 1)))).tdiv 2))), (4, iV x7)] ∧ H = [] ∧ spec_l01Is_l0 k p0 k0 x7 = some os19) k _ _ (Weak_keep 0 hm [1, 3, 4] [] _ _ rfl rfl rfl) ⟨_, rfl, rfl, h⟩ ?_
  clear h
  rintro k0 E H ⟨x7, rfl, rfl, h⟩
  cases k0 with
  | zero => cases (show (none : Option (Sum (Unit) (Bool))) = some _ from h)
  | succ k0 =>
   rw [spec_l01Is_l0] at h
   refine ACode_seq ?_
   refine kR ?_
   refine kM 1 rfl ?_
   refine AOps_q 23 _ rfl rfl rfl (QOp_lss _ _ _ _ _ _ _ rfl rfl rfl) ?_
   refine AOps_nil ?_
   refine kI h rfl (fun h _ => ?_) (fun h _ => ?_)
   ·refine ACode_skip ?_
    refine kO (fun s18 => [(1, .d (.pv (colD p0) 0)), (3, iV (w64 ((w64 (p0.p * (w64 (p0.p - 1)))).tdiv 2))), (4, iV x7)]) (fun s18 => []) h (fun os18 h hks18 => ?_) (fun s18 h => ?_)
    ·refine ACode_block ?_
     refine kB (fun s16 => [(1, .d (.pv (colD p0) 0)), (3, iV (w64 ((w64 (p0.p * (w64 (p0.p - 1)))).tdiv 2))), (4, iV x7), (50, bV s16)]) (fun s16 => []) h (fun s16 h => ?_) (fun s16 h => ?_)
     ·refine (ACode_quiet mixed (by kernel_rfl) ?_)
      refine kQ 2 rfl ?_
      refine AQ_q 28 _ rfl rfl rfl (QOp_lss _ _ _ _ _ _ _ rfl rfl rfl) ?_
      refine kQ 1 rfl ?_
      refine AQ_case 29 _ rfl (fun hb9 => ?_) (fun hb9 => ?_)
      ·have h := iteT hb9 h
       refine kQ 1 rfl ?_
       refine AQ_q 31 _ rfl rfl rfl (QOp_fieldAddr_pv _ _ _ _ _ 2 _ _ rfl Tryz.underlying34 rfl _ Tryz.sizeOf32 rfl rfl) ?_
       obtain ⟨hc10, h⟩ := guardO h
       refine AQ_q 32 _ rfl rfl rfl (QOp_indexAddrA_pv _ _ _ _ _ _ _ _ _ rfl Tryz.underlying32 Tryz.sizeOf5 hc10.1 hc10.2 rfl rfl) ?_
       refine AQ_q 33 _ rfl rfl rfl (QOp_load_pv _ _ _ _ _ rfl Tryz.isAgg5 rfl (colD_get _ _ (by omega))) ?_
       refine AQ_q 34 _ rfl rfl rfl (QOp_fromByte _ _ _ _ _ rfl rfl Tryz.underlying2 wrap_i64_byte rfl) ?_
       refine AQ_q 35 _ rfl rfl rfl (QOp_fieldAddr_pv _ _ _ _ _ 1 _ _ rfl Tryz.underlying34 rfl _ Tryz.sizeOf2 rfl rfl) ?_
       refine AQ_q 36 _ rfl rfl rfl (QOp_load_pv _ _ _ _ _ rfl Tryz.isAgg2 rfl rfl) ?_
       refine AQ_q 37 _ rfl rfl rfl (QOp_geq _ _ _ _ _ _ _ rfl rfl rfl) ?_
       refine kQ 2 rfl ?_
       refine AQ_case 39 _ rfl (fun hb11 => ?_) (fun hb11 => ?_)
       ·have h := iteT hb11 h
        refine AQ_skip 40 rfl rfl rfl ?_
        refine AQ_skip 41 rfl rfl rfl ?_
        refine AQ_skip 42 rfl rfl rfl ?_
        refine AQ_skip 43 rfl rfl rfl ?_
        refine AQ_skip 44 rfl rfl rfl ?_
        refine AQ_skip 45 rfl rfl rfl ?_
        refine AQ_skip 46 rfl rfl rfl ?_
        refine AQ_skip 47 rfl rfl rfl ?_
        refine AQ_skip 48 rfl rfl rfl ?_
        refine AQ_skip 49 rfl rfl rfl ?_
        refine kQ 1 rfl ?_
        refine AQ_nil ?_
        cases h
        exact Weak_keep 0 hm [1, 3, 4, 50] [] _ _ rfl rfl rfl
       have h := iteF hb11 h
       refine kQ 2 rfl ?_
       refine AQ_q 42 _ rfl rfl rfl (QOp_geq _ _ _ _ _ _ _ rfl rfl rfl) ?_
       refine kQ 1 rfl ?_
       refine AQ_case 43 _ rfl (fun hb12 => ?_) (fun hb12 => ?_)
       ·have h := iteT hb12 h
        refine kQ 1 rfl ?_
        refine AQ_q 45 _ rfl rfl rfl (QOp_fieldAddr_pv _ _ _ _ _ 2 _ _ rfl Tryz.underlying34 rfl _ Tryz.sizeOf32 rfl rfl) ?_
        obtain ⟨hc13, h⟩ := guardO h
        refine AQ_q 46 _ rfl rfl rfl (QOp_indexAddrA_pv _ _ _ _ _ _ _ _ _ rfl Tryz.underlying32 Tryz.sizeOf5 hc13.1 hc13.2 rfl rfl) ?_
        refine AQ_q 47 _ rfl rfl rfl (QOp_load_pv _ _ _ _ _ rfl Tryz.isAgg5 rfl (colD_get _ _ (by omega))) ?_
        refine AQ_q 48 _ rfl rfl rfl (QOp_neq _ _ _ _ _ _ _ rfl rfl rfl) ?_
        refine kQ 2 rfl ?_
        refine AQ_nil ?_
        cases h
        exact Weak_keep 0 hm [1, 3, 4, 50] [] _ _ rfl rfl rfl
       have h := iteF hb12 h
       refine AQ_skip 44 rfl rfl rfl ?_
       refine AQ_skip 45 rfl rfl rfl ?_
       refine AQ_skip 46 rfl rfl rfl ?_
       refine AQ_skip 47 rfl rfl rfl ?_
       refine AQ_skip 48 rfl rfl rfl ?_
       refine kQ 2 rfl ?_
       refine AQ_nil ?_
       cases h
       exact Weak_keep 0 hm [1, 3, 4, 50] [] _ _ rfl rfl rfl
      have h := iteF hb9 h
      refine AQ_skip 30 rfl rfl rfl ?_
      refine AQ_skip 31 rfl rfl rfl ?_
      refine AQ_skip 32 rfl rfl rfl ?_
      refine AQ_skip 33 rfl rfl rfl ?_
      refine AQ_skip 34 rfl rfl rfl ?_
      refine AQ_skip 35 rfl rfl rfl ?_
      refine AQ_skip 36 rfl rfl rfl ?_
      refine AQ_skip 37 rfl rfl rfl ?_
      refine kQ 4 rfl ?_
      refine AQ_q 42 _ rfl rfl rfl (QOp_geq _ _ _ _ _ _ _ rfl rfl rfl) ?_
      refine kQ 1 rfl ?_
      refine AQ_case 43 _ rfl (fun hb14 => ?_) (fun hb14 => ?_)
      ·have h := iteT hb14 h
       refine kQ 1 rfl ?_
       refine AQ_q 45 _ rfl rfl rfl (QOp_fieldAddr_pv _ _ _ _ _ 2 _ _ rfl Tryz.underlying34 rfl _ Tryz.sizeOf32 rfl rfl) ?_
       obtain ⟨hc15, h⟩ := guardO h
       refine AQ_q 46 _ rfl rfl rfl (QOp_indexAddrA_pv _ _ _ _ _ _ _ _ _ rfl Tryz.underlying32 Tryz.sizeOf5 hc15.1 hc15.2 rfl rfl) ?_
       refine AQ_q 47 _ rfl rfl rfl (QOp_load_pv _ _ _ _ _ rfl Tryz.isAgg5 rfl (colD_get _ _ (by omega))) ?_
       refine AQ_q 48 _ rfl rfl rfl (QOp_neq _ _ _ _ _ _ _ rfl rfl rfl) ?_
       refine kQ 2 rfl ?_
       refine AQ_nil ?_
       cases h
       exact Weak_keep 0 hm [1, 3, 4, 50] [] _ _ rfl rfl rfl
      have h := iteF hb14 h
      refine AQ_skip 44 rfl rfl rfl ?_
      refine AQ_skip 45 rfl rfl rfl ?_
      refine AQ_skip 46 rfl rfl rfl ?_
      refine AQ_skip 47 rfl rfl rfl ?_
      refine AQ_skip 48 rfl rfl rfl ?_
      refine kQ 2 rfl ?_
      refine AQ_nil ?_
      cases h
      exact Weak_keep 0 hm [1, 3, 4, 50] [] _ _ rfl rfl rfl
     refine kI h rfl (fun h _ => ?_) (fun h _ => ?_)
     ·refine kR ?_
      refine kN 1 rfl ?_
      refine ACode_ret ?_
      obtain ⟨rr, hz20, h2⟩ := bindO h
      obtain rfl := Option.some.inj h2
      obtain rfl := Option.some.inj (show some rr = some _ from hks18)
      have h := hz20
      cases h
      have h := hks19
      cases h
      exact ⟨_, _, fun r a w h => ⟨r, h⟩, _, _, [], _, (.cons (ResV_tmp _ _ rfl) .nil), rfl, rfl, rfl, rfl, rfl⟩
     refine ACode_skip ?_
     cases h
     exact ⟨_, rfl, Weak_keep 0 hm [1, 3, 4] [] _ _ rfl rfl rfl⟩
    refine (ACode_region ?_)
    refine kM 1 rfl ?_
    refine AOps_q 25 _ rfl rfl rfl (QOp_add _ _ _ _ _ _ _ rfl rfl rfl) ?_
    refine kN 1 rfl ?_
    exact ⟨k0, _, _, Nat.lt_succ_self _, Weak_keep 0 hm [1, 3, 4] [] _ _ rfl rfl rfl, _, rfl, rfl, h⟩
   refine ACode_exit ?_
   cases h
   exact ⟨_, rfl, Weak_keep 0 hm [] [] _ _ rfl rfl rfl⟩
 refine kR ?_
 refine kN 1 rfl ?_
 refine ACode_ret ?_
 cases h
 exact ⟨_, _, fun r a w h => ⟨r, h⟩, _, _, [], _, (.cons (ResV_tmp _ _ rfl) .nil), rfl, rfl, rfl, rfl, rfl⟩

-- loop.example/g01362/spec.l02Sizes
def spec_l02Sizes_l0 (p1 : List Int) : Nat → Int → Option (Sum (Unit) (Int))
 | 0, _ => none
 | k0 + 1, x4 => (if decide (x4 < (p1.length : Int)) then (if 0 ≤ x4 ∧ x4 < (p1.length : Int) then (if !(spec_l01In (p1.getD x4.toNat 0) 1 17) then some (.inr 2) else spec_l02Sizes_l0 p1 k0 (w64 (x4 + 1))) else none) else some (.inl ()))
def spec_l02Sizes (k : Nat) (p0 : Col) (p1 : List Int) : Option (Int) :=
 (spec_l01Is k p0).bind fun r1 => (if !r1 then some 1 else (if !decide ((p1.length : Int) = p0.k) then some 2 else (spec_l02Sizes_l0 p1 k 0 : Option (Sum (Unit) (Int))).bind fun os9 => (match os9 with | .inl s9 => some 0 | .inr rr => some rr)))
set_option maxRecDepth 100000 in
theorem spec_l02Sizes_ac (k : Nat) (p0 : Col) (p1 : List Int) (r : Int) (h : spec_l02Sizes k p0 p1 = some r) : AC Tryz.prog 86 [.d (.agg (colD p0)), .d (.sl none (intsD p1))] [] (fun res H' => res = [iV r] ∧ H' = []) := by
 refine AC_of_body true Tryz.func86 rfl Tryz.ntmps86 (rvs := [.tmp 4]) rfl rfl (fun G hG => ?_)
 have hm : G.H.length = 0 := by rw [hG]; rfl
 have hz : zeroG G.H = true := by rw [hG]; rfl
 unfold spec_l02Sizes at h
 refine kR ?_
 refine AOps_boxI 2 _ _ (.agg (colD p0)) (colD p0) rfl (colD_one _) rfl rfl rfl rfl rfl ?_
 refine kN 1 rfl ?_
 refine ACode_seq ?_
 refine kR ?_
 refine AOps_q 6 _ rfl rfl rfl (QOp_loadN_pv _ _ _ _ _ _ rfl Tryz.isAgg34 Tryz.sizeOf34 rfl (colD_all _) (colD_length _)) ?_
 obtain ⟨r1, hr1, h⟩ := bindO h
 refine kC [] 7 (bV r1) [] rfl Tryz.call77 rfl rfl (spec_l01Is_ac k p0 _ hr1) rfl ?_
 refine AOps_q 8 _ rfl rfl rfl (QOp_not _ _ _ rfl rfl) ?_
 refine AOps_nil ?_
 refine kI h rfl (fun h _ => ?_) (fun h _ => ?_)
 ·refine kR ?_
  refine kN 1 rfl ?_
  refine ACode_ret ?_
  cases h
  exact ⟨_, _, fun r a w h => ⟨r, h⟩, _, _, [], _, (.cons (ResV_tmp _ _ rfl) .nil), rfl, rfl, rfl, rfl, rfl⟩
 refine ACode_skip ?_
 refine ACode_seq ?_
 refine kR ?_
 refine kM 1 rfl ?_
 refine AOps_q 10 _ rfl rfl rfl (QOp_len_sl _ _ _ _ _ _ _ (intsD_length _) rfl rfl rfl rfl Tryz.underlying27 rfl) ?_
 refine AOps_q 11 _ rfl rfl rfl (QOp_fieldAddr_pv _ _ _ _ _ 1 _ _ rfl Tryz.underlying34 rfl _ Tryz.sizeOf2 rfl rfl) ?_
 refine AOps_q 12 _ rfl rfl rfl (QOp_load_pv _ _ _ _ _ rfl Tryz.isAgg2 rfl rfl) ?_
 refine AOps_q 13 _ rfl rfl rfl (QOp_neq _ _ _ _ _ _ _ rfl rfl rfl) ?_
 refine AOps_nil ?_
 refine kI h rfl (fun h _ => ?_) (fun h _ => ?_)
 ·refine kR ?_
  refine kN 1 rfl ?_
  refine ACode_ret ?_
  cases h
  exact ⟨_, _, fun r a w h => ⟨r, h⟩, _, _, [], _, (.cons (ResV_tmp _ _ rfl) .nil), rfl, rfl, rfl, rfl, rfl⟩
 refine ACode_skip ?_
 refine kO (fun s9 => []) (fun s9 => []) h (fun os9 h hks9 => ?_) (fun s9 h => ?_)
 ·refine kR ?_
  refine kN 1 rfl ?_
  refine ACode_block ?_
  refine ACode_loopW (fun k0 E H => ∃ (x4 : Int), E = [(1, .d (.sl none (intsD p1))), (5, iV x4)] ∧ H = [] ∧ spec_l02Sizes_l0 p1 k0 x4 = some os9) k _ _ (Weak_keep 0 hm [1, 5] [] _ _ rfl rfl rfl) ⟨_, rfl, rfl, h⟩ ?_
  clear h
  rintro k0 E H ⟨x4, rfl, rfl, h⟩
  cases k0 with
  | zero => cases (show (none : Option (Sum (Unit) (Int))) = some _ from h)
  | succ k0 =>
   rw [spec_l02Sizes_l0] at h
   refine ACode_seq ?_
   refine kR ?_
   refine kM 2 rfl ?_
   refine AOps_q 16 _ rfl rfl rfl (QOp_len_sl _ _ _ _ _ _ _ (intsD_length _) rfl rfl rfl rfl Tryz.underlying27 rfl) ?_
   refine AOps_q 17 _ rfl rfl rfl (QOp_lss _ _ _ _ _ _ _ rfl rfl rfl) ?_
   refine AOps_nil ?_
   refine kI h rfl (fun h _ => ?_) (fun h _ => ?_)
   ·refine ACode_skip ?_
    refine ACode_seq ?_
    refine ACode_block ?_
    refine kR ?_
    refine kM 2 rfl ?_
    obtain ⟨hc6, h⟩ := guardO h
    refine AOps_q 22 _ rfl rfl rfl (QOp_indexAddr_sl _ _ _ _ _ _ _ _ rfl Tryz.underlying27 Tryz.sizeOf2 hc6.1 (by rw [intsD_length]; exact hc6.2) rfl rfl) ?_
    refine AOps_q 23 _ rfl rfl rfl (QOp_load_pv _ _ _ _ _ rfl Tryz.isAgg2 rfl (intsD_get _ _ 0 (by omega))) ?_
    refine kC [] 24 (bV (spec_l01In (p1.getD x4.toNat 0) 1 17)) [] rfl Tryz.call61 rfl rfl (spec_l01In_ac (p1.getD x4.toNat 0) 1 17) rfl ?_
    refine AOps_q 25 _ rfl rfl rfl (QOp_not _ _ _ rfl rfl) ?_
    refine AOps_nil ?_
    refine kI h rfl (fun h _ => ?_) (fun h _ => ?_)
    ·refine kR ?_
     refine kN 1 rfl ?_
     refine ACode_ret ?_
     cases h
     have h := hks9
     cases h
     exact ⟨_, _, fun r a w h => ⟨r, h⟩, _, _, [], _, (.cons (ResV_tmp _ _ rfl) .nil), rfl, rfl, rfl, rfl, rfl⟩
    refine ACode_skip ?_
    refine (ACode_region ?_)
    refine kM 1 rfl ?_
    refine AOps_q 19 _ rfl rfl rfl (QOp_add _ _ _ _ _ _ _ rfl rfl rfl) ?_
    refine kN 1 rfl ?_
    exact ⟨k0, _, _, Nat.lt_succ_self _, Weak_keep 0 hm [1, 5] [] _ _ rfl rfl rfl, _, rfl, rfl, h⟩
   refine ACode_exit ?_
   cases h
   exact ⟨_, rfl, Weak_keep 0 hm [] [] _ _ rfl rfl rfl⟩
 refine kR ?_
 refine kN 1 rfl ?_
 refine ACode_ret ?_
 cases h
 exact ⟨_, _, fun r a w h => ⟨r, h⟩, _, _, [], _, (.cons (ResV_tmp _ _ rfl) .nil), rfl, rfl, rfl, rfl, rfl⟩

-- loop.example/g01362/spec.l01Around
def spec_l01Around_l0 (p0 : Col) (p1 : Int) (p2 : Int) : Nat → Int → Int → Option (Int)
 | 0, _, _ => none
 | k0 + 1, x1, x2 => (if decide (x2 < p0.p) then (((if !decide (x2 = p1) then (spec_l01At p0 p1 x2).bind fun r5 => some (decide (r5 = p2)) else some false) : Option (Bool)).bind fun s6 => (if s6 then (if 0 ≤ IntKind.u64.wrap x2 then some (bOr .i64 x1 (bShl .i64 1 (IntKind.u64.wrap x2))) else none) else some x1) : Option (Int)).bind fun s9 => spec_l01Around_l0 p0 p1 p2 k0 s9 (w64 (x2 + 1)) else some x1)
def spec_l01Around (k : Nat) (p0 : Col) (p1 : Int) (p2 : Int) : Option (Int) :=
 (spec_l01Around_l0 p0 p1 p2 k 0 0 : Option (Int)).bind fun s10 => some s10
set_option maxRecDepth 100000 in
theorem spec_l01Around_ac (k : Nat) (p0 : Col) (p1 : Int) (p2 : Int) (r : Int) (h : spec_l01Around k p0 p1 p2 = some r) : AC Tryz.prog 178 [.d (.agg (colD p0)), iV p1, iV p2] [] (fun res H' => res = [iV r] ∧ H' = []) := by
 refine AC_of_body true Tryz.func178 rfl Tryz.ntmps178 (rvs := [.tmp 6]) rfl rfl (fun G hG => ?_)
 have hm : G.H.length = 0 := by rw [hG]; rfl
 have hz : zeroG G.H = true := by rw [hG]; rfl
 unfold spec_l01Around at h
 refine kR ?_
 refine AOps_boxI 3 _ _ (.agg (colD p0)) (colD p0) rfl (colD_one _) rfl rfl rfl rfl rfl ?_
 refine kN 1 rfl ?_
 refine kR ?_
 refine kN 1 rfl ?_
 refine kB (fun s10 => [(7, iV s10)]) (fun s10 => []) h (fun s10 h => ?_) (fun s10 h => ?_)
 ·refine kR ?_
  refine kN 1 rfl ?_
  refine ACode_block ?_
  refine ACode_loopW (fun k0 E H => ∃ (x1 : Int) (x2 : Int), E = [(1, iV p1), (2, iV p2), (3, .d (.pv (colD p0) 0)), (7, iV x1), (8, iV x2)] ∧ H = [] ∧ spec_l01Around_l0 p0 p1 p2 k0 x1 x2 = some s10) k _ _ (Weak_keep 0 hm [1, 2, 3, 7, 8] [] _ _ rfl rfl rfl) ⟨_, _, rfl, rfl, h⟩ ?_
  clear h
  rintro k0 E H ⟨x1, x2, rfl, rfl, h⟩
  cases k0 with
  | zero => cases (show (none : Option (Int)) = some _ from h)
  | succ k0 =>
   rw [spec_l01Around_l0] at h
   refine ACode_seq ?_
   refine kR ?_
   refine kM 1 rfl ?_
   refine AOps_q 10 _ rfl rfl rfl (QOp_fieldAddr_pv _ _ _ _ _ 0 _ _ rfl Tryz.underlying34 rfl _ Tryz.sizeOf2 rfl rfl) ?_
   refine AOps_q 11 _ rfl rfl rfl (QOp_load_pv _ _ _ _ _ rfl Tryz.isAgg2 rfl rfl) ?_
   refine AOps_q 12 _ rfl rfl rfl (QOp_lss _ _ _ _ _ _ _ rfl rfl rfl) ?_
   refine AOps_nil ?_
   refine kI h rfl (fun h _ => ?_) (fun h _ => ?_)
   ·refine ACode_skip ?_
    refine kB (fun s9 => [(1, iV p1), (2, iV p2), (3, .d (.pv (colD p0) 0)), (7, iV s9), (8, iV x2)]) (fun s9 => []) h (fun s9 h => ?_) (fun s9 h => ?_)
    ·refine ACode_block ?_
     refine kB (fun s6 => [(1, iV p1), (2, iV p2), (3, .d (.pv (colD p0) 0)), (7, iV x1), (8, iV x2), (25, bV s6)]) (fun s6 => []) h (fun s6 h => ?_) (fun s6 h => ?_)
     ·refine (ACode_region ?_)
      refine kM 2 rfl ?_
      refine AOps_q 17 _ rfl rfl rfl (QOp_neq _ _ _ _ _ _ _ rfl rfl rfl) ?_
      refine kM 1 rfl ?_
      refine AOps_case 18 _ rfl (fun hb4 => ?_) (fun hb4 => ?_)
      ·have h := iteT hb4 h
       refine AOps_q 19 _ rfl rfl rfl (QOp_loadN_pv _ _ _ _ _ _ rfl Tryz.isAgg34 Tryz.sizeOf34 rfl (colD_all _) (colD_length _)) ?_
       refine kM 2 rfl ?_
       obtain ⟨r5, hr5, h⟩ := bindO h
       refine kC [] 22 (iV r5) [] rfl Tryz.call78 rfl rfl (spec_l01At_ac p0 p1 x2 _ hr5) rfl ?_
       refine kM 1 rfl ?_
       refine AOps_q 24 _ rfl rfl rfl (QOp_eql _ _ _ _ _ _ _ rfl rfl rfl) ?_
       refine kN 1 rfl ?_
       cases h
       exact Weak_keep 0 hm [1, 2, 3, 7, 8, 25] [] _ _ rfl rfl rfl
      have h := iteF hb4 h
      refine AOps_skip 19 rfl rfl rfl ?_
      refine AOps_skip 20 rfl rfl rfl ?_
      refine AOps_skip 21 rfl rfl rfl ?_
      refine AOps_skip 22 rfl rfl rfl ?_
      refine AOps_skip 23 rfl rfl rfl ?_
      refine AOps_skip 24 rfl rfl rfl ?_
      refine kN 1 rfl ?_
      cases h
      exact Weak_keep 0 hm [1, 2, 3, 7, 8, 25] [] _ _ rfl rfl rfl
     refine kI h rfl (fun h _ => ?_) (fun h _ => ?_)
     ·refine (ACode_region ?_)
      refine kM 2 rfl ?_
      refine AOps_q 28 _ rfl rfl rfl (QOp_conv _ _ _ _ _ _ rfl rfl Tryz.underlying73 rfl) ?_
      obtain ⟨hc8, h⟩ := guardO h
      refine AOps_q 29 _ rfl rfl rfl (QOp_shl _ _ _ _ _ _ _ _ hc8 rfl rfl rfl) ?_
      refine AOps_q 30 _ rfl rfl rfl (QOp_or _ _ _ _ _ _ _ rfl rfl rfl) ?_
      refine kN 1 rfl ?_
      cases h
      exact Weak_keep 0 hm [1, 2, 3, 7, 8] [] _ _ rfl rfl rfl
     refine ACode_skip ?_
     cases h
     exact Weak_keep 0 hm [1, 2, 3, 7, 8] [] _ _ rfl rfl rfl
    refine (ACode_region ?_)
    refine kM 1 rfl ?_
    refine AOps_q 14 _ rfl rfl rfl (QOp_add _ _ _ _ _ _ _ rfl rfl rfl) ?_
    refine kN 1 rfl ?_
    exact ⟨k0, _, _, Nat.lt_succ_self _, Weak_keep 0 hm [1, 2, 3, 7, 8] [] _ _ rfl rfl rfl, _, _, rfl, rfl, h⟩
   refine ACode_exit ?_
   cases h
   exact Weak_keep 0 hm [7] [] _ _ rfl rfl rfl
 refine kR ?_
 refine kN 2 rfl ?_
 refine ACode_ret ?_
 cases h
 exact ⟨_, _, fun r a w h => ⟨r, h⟩, _, _, [], _, (.cons (ResV_tmp _ _ rfl) .nil), rfl, rfl, rfl, rfl, rfl⟩

-- loop.example/g01362/spec.l02Rows
def spec_l02Rows_l0 (k : Nat) (p0 : Col) (p1 : Int) : Nat → Int → (List Int) → Option (List Int)
 | 0, _, _ => none
 | k0 + 1, x1, x2 => (if decide (x1 < p0.p) then (spec_l01Around k p0 x1 p1).bind fun r4 => (if x2.length + ([r4]).length ≤ 1099511627776 then spec_l02Rows_l0 k p0 p1 k0 (w64 (x1 + 1)) (x2 ++ ([r4])) else none) else some x2)
def spec_l02Rows (k : Nat) (p0 : Col) (p1 : Int) : Option (List Int) :=
 (spec_l02Rows_l0 k p0 p1 k 0 ([] : List Int) : Option (List Int)).bind fun s6 => some s6
set_option maxRecDepth 100000 in
theorem spec_l02Rows_ac (k : Nat) (p0 : Col) (p1 : Int) (r : List Int) (h : spec_l02Rows k p0 p1 = some r) : AC Tryz.prog 144 [.d (.agg (colD p0)), iV p1] [] (fun res H' => res = [.vec 0 0] ∧ H' = [.vec 0 (intsD r)]) := by
 refine AC_of_body true Tryz.func144 rfl Tryz.ntmps144 (rvs := [.tmp 4]) rfl rfl (fun G hG => ?_)
 have hm : G.H.length = 0 := by rw [hG]; rfl
 have hz : zeroG G.H = true := by rw [hG]; rfl
 unfold spec_l02Rows at h
 refine kR ?_
 refine AOps_boxI 2 _ _ (.agg (colD p0)) (colD p0) rfl (colD_one _) rfl rfl rfl rfl rfl ?_
 refine kN 1 rfl ?_
 refine kR ?_
 refine AOps_buildSlice 7 _ _ _ [] (intsD ([] : List Int)) _ rfl rfl rfl rfl rfl (by decide) Tryz.underlying27 Tryz.sizeOf2 (zero_of Tryz.typeInfo2 rfl) rfl rfl (intsD_one _) ?_
 refine kN 1 rfl ?_
 refine kB (fun s6 => [(5, .vec 0 0)]) (fun s6 => [.vec 0 (intsD s6)]) h (fun s6 h => ?_) (fun s6 h => ?_)
 ·refine kR ?_
  refine kN 1 rfl ?_
  refine ACode_block ?_
  refine ACode_loopW (fun k0 E H => ∃ (x1 : Int) (x2 : List Int), E = [(1, iV p1), (2, .d (.pv (colD p0) 0)), (5, .vec 0 0), (6, iV x1)] ∧ H = [.vec 0 (intsD x2)] ∧ spec_l02Rows_l0 k p0 p1 k0 x1 x2 = some s6) k _ _ (Weak_keep 0 hm [1, 2, 5, 6] [0] _ _ rfl rfl rfl) ⟨_, _, rfl, rfl, h⟩ ?_
  clear h
  rintro k0 E H ⟨x1, x2, rfl, rfl, h⟩
  cases k0 with
  | zero => cases (show (none : Option (List Int)) = some _ from h)
  | succ k0 =>
   rw [spec_l02Rows_l0] at h
   refine ACode_seq ?_
   refine kR ?_
   refine kM 1 rfl ?_
   refine AOps_q 9 _ rfl rfl rfl (QOp_fieldAddr_pv _ _ _ _ _ 0 _ _ rfl Tryz.underlying34 rfl _ Tryz.sizeOf2 rfl rfl) ?_
   refine AOps_q 10 _ rfl rfl rfl (QOp_load_pv _ _ _ _ _ rfl Tryz.isAgg2 rfl rfl) ?_
   refine AOps_q 11 _ rfl rfl rfl (QOp_lss _ _ _ _ _ _ _ rfl rfl rfl) ?_
   refine AOps_nil ?_
   refine kI h rfl (fun h _ => ?_) (fun h _ => ?_)
   ·refine ACode_skip ?_
    refine ACode_seq ?_
    refine ACode_block ?_
    refine (ACode_region ?_)
    refine kM 1 rfl ?_
    refine AOps_q 15 _ rfl rfl rfl (QOp_loadN_pv _ _ _ _ _ _ rfl Tryz.isAgg34 Tryz.sizeOf34 rfl (colD_all _) (colD_length _)) ?_
    refine kM 2 rfl ?_
    obtain ⟨r4, hr4, h⟩ := bindO h
    refine kC [] 18 (iV r4) [.vec 0 (intsD x2)] rfl Tryz.call178 rfl rfl (spec_l01Around_ac k p0 x1 p1 _ hr4) rfl ?_
    refine AOps_buildSlice 19 _ _ _ [_] (intsD ([r4])) _ rfl rfl rfl rfl rfl (by decide) Tryz.underlying27 Tryz.sizeOf2 (zero_of Tryz.typeInfo2 rfl) rfl rfl (intsD_one _) ?_
    obtain ⟨hc5, h⟩ := guardO h
    refine AOps_append 20 _ _ _ _ _ _ _ _ _ _ _ _ rfl rfl rfl rfl rfl rfl rfl Tryz.underlying27 Tryz.type2 rfl rfl rfl (by decide) rfl rfl rfl rfl (intsD_one _) (by rw [intsD_length, intsD_length]; exact hc5) ?_
    rw [intsD_app]
    refine kN 1 rfl ?_
    refine (ACode_region ?_)
    refine kM 1 rfl ?_
    refine AOps_q 13 _ rfl rfl rfl (QOp_add _ _ _ _ _ _ _ rfl rfl rfl) ?_
    refine kN 1 rfl ?_
    exact ⟨k0, _, _, Nat.lt_succ_self _, Weak_trans (Weak_keep 0 hm [1, 2, 5, 6] [0] _ _ rfl rfl rfl) (Weak_reset 0 hm hz [1, 2, 5, 6] _ _ rfl rfl), _, _, rfl, rfl, h⟩
   refine ACode_exit ?_
   cases h
   exact Weak_keep 0 hm [5] [0] _ _ rfl rfl rfl
 refine kR ?_
 refine kN 2 rfl ?_
 refine ACode_ret ?_
 cases h
 exact ⟨_, _, Weak_reset 0 hm hz [4] _ _ rfl rfl, _, _, [0], _, (.cons (ResV_tmp _ _ rfl) .nil), rfl, rfl, rfl, rfl, rfl⟩

-- loop.example/g01362/spec.l01Ones
def spec_l01Ones_l0 : Nat → Int → Int → Option (Int)
 | 0, _, _ => none
 | k0 + 1, x1, x2 => (if decide (0 < x1) then spec_l01Ones_l0 k0 (w64 (x1.tdiv 2)) (w64 (x2 + (x1.tmod 2))) else some x2)
def spec_l01Ones (k : Nat) (p0 : Int) : Option (Int) :=
 (spec_l01Ones_l0 k p0 0 : Option (Int)).bind fun s4 => some s4
set_option maxRecDepth 100000 in
theorem spec_l01Ones_ac (k : Nat) (p0 : Int) (r : Int) (h : spec_l01Ones k p0 = some r) : AC Tryz.prog 177 [iV p0] [] (fun res H' => res = [iV r] ∧ H' = []) := by
 refine AC_of_body true Tryz.func177 rfl Tryz.ntmps177 (rvs := [.tmp 2]) rfl rfl (fun G hG => ?_)
 have hm : G.H.length = 0 := by rw [hG]; rfl
 have hz : zeroG G.H = true := by rw [hG]; rfl
 unfold spec_l01Ones at h
 refine kR ?_
 refine kN 1 rfl ?_
 refine kR ?_
 refine kN 1 rfl ?_
 refine kB (fun s4 => [(3, iV s4)]) (fun s4 => []) h (fun s4 h => ?_) (fun s4 h => ?_)
 ·refine ACode_block ?_
  refine ACode_loopW (fun k0 E H => ∃ (x1 : Int) (x2 : Int), E = [(0, iV x1), (3, iV x2)] ∧ H = [] ∧ spec_l01Ones_l0 k0 x1 x2 = some s4) k _ _ (Weak_keep 0 hm [0, 3] [] _ _ rfl rfl rfl) ⟨_, _, rfl, rfl, h⟩ ?_
  clear h
  rintro k0 E H ⟨x1, x2, rfl, rfl, h⟩
  cases k0 with
  | zero => cases (show (none : Option (Int)) = some _ from h)
  | succ k0 =>
   rw [spec_l01Ones_l0] at h
   refine ACode_seq ?_
   refine kR ?_
   refine kM 1 rfl ?_
   refine AOps_q 5 _ rfl rfl rfl (QOp_gtr _ _ _ _ _ _ _ rfl rfl rfl) ?_
   refine AOps_nil ?_
   refine kI h rfl (fun h _ => ?_) (fun h _ => ?_)
   ·refine ACode_skip ?_
    refine ACode_seq ?_
    refine ACode_block ?_
    refine (ACode_region ?_)
    refine kM 2 rfl ?_
    refine AOps_q 10 _ rfl rfl rfl (QOp_rem _ _ _ _ _ _ _ (by decide) rfl rfl rfl) ?_
    refine AOps_q 11 _ rfl rfl rfl (QOp_add _ _ _ _ _ _ _ rfl rfl rfl) ?_
    refine kN 1 rfl ?_
    refine (ACode_region ?_)
    refine kM 1 rfl ?_
    refine AOps_q 7 _ rfl rfl rfl (QOp_quo _ _ _ _ _ _ _ (by decide) rfl rfl rfl) ?_
    refine kN 1 rfl ?_
    exact ⟨k0, _, _, Nat.lt_succ_self _, Weak_keep 0 hm [0, 3] [] _ _ rfl rfl rfl, _, _, rfl, rfl, h⟩
   refine ACode_exit ?_
   cases h
   exact Weak_keep 0 hm [3] [] _ _ rfl rfl rfl
 refine kR ?_
 refine kN 2 rfl ?_
 refine ACode_ret ?_
 cases h
 exact ⟨_, _, fun r a w h => ⟨r, h⟩, _, _, [], _, (.cons (ResV_tmp _ _ rfl) .nil), rfl, rfl, rfl, rfl, rfl⟩

-- loop.example/g01362/spec.l02Go
def spec_l02Go_l0 (self : (List Int) → (List Int) → Int → Int → (List (List Int)) → Int → Option (List (List Int))) (p0 : List Int) (p1 : List Int) (p2 : Int) (p3 : Int) (p5 : Int) : Nat → Int → (List (List Int)) → Option (List (List Int))
 | 0, _, _ => none
 | k0 + 1, x6, x7 => (letO (if decide (x6 < (p0.length : Int)) then decide ((x7.length : Int) < p5) else false) fun (s9 : Bool) => (if s9 then some (.inl ()) else (some x7).bind fun rr => some (.inr rr)) : Option (Sum (Unit) (List (List Int)))).bind fun os11 => (match os11 with | .inl s11 => ((if 0 ≤ IntKind.u64.wrap x6 then (if decide (bAnd .i64 (bShr .i64 p2 (IntKind.u64.wrap x6)) 1 = 1) then (if 0 ≤ x6 ∧ x6 < (p0.length : Int) then (spec_l01Own p1).bind fun r15 => (if r15.length + ([x6]).length ≤ 1099511627776 then (if 0 ≤ IntKind.u64.wrap x6 then (if 0 ≤ IntKind.u64.wrap x6 then (self p0 (r15 ++ ([x6])) (bShl .i64 (bShr .i64 (bAnd .i64 p2 (p0.getD x6.toNat 0)) (IntKind.u64.wrap x6)) (IntKind.u64.wrap x6)) p3 x7 p5).bind fun r19 => some r19 else none) else none) else none) else none) else some x7) else none) : Option (List (List Int))).bind fun s20 => spec_l02Go_l0 self p0 p1 p2 p3 p5 k0 (w64 (x6 + 1)) s20 | .inr rr => some rr)
def spec_l02Go_body (self : (List Int) → (List Int) → Int → Int → (List (List Int)) → Int → Option (List (List Int))) (k : Nat) (p0 : List Int) (p1 : List Int) (p2 : Int) (p3 : Int) (p4 : List (List Int)) (p5 : Int) : Option (List (List Int)) :=
 (if decide ((p1.length : Int) = p3) then (spec_l01Own p1).bind fun r2 => (if p4.length + ([r2]).length ≤ 1099511627776 then some (p4 ++ ([r2])) else none) else (spec_l01Ones k p2).bind fun r4 => (if decide (w64 ((p1.length : Int) + r4) < p3) then some p4 else (spec_l02Go_l0 self p0 p1 p2 p3 p5 k 0 p4 : Option (List (List Int))).bind fun s21 => some s21))
def spec_l02Go : Nat → (List Int) → (List Int) → Int → Int → (List (List Int)) → Int → Option (List (List Int))
 | 0, _, _, _, _, _, _ => none
 | k + 1, p0, p1, p2, p3, p4, p5 => spec_l02Go_body (spec_l02Go k) k p0 p1 p2 p3 p4 p5
set_option maxRecDepth 100000 in
theorem spec_l02Go_ac (k : Nat) (p0 : List Int) (p1 : List Int) (p2 : Int) (p3 : Int) (p4 : List (List Int)) (p5 : Int) (r : List (List Int)) (h : spec_l02Go k p0 p1 p2 p3 p4 p5 = some r) : AC Tryz.prog 143 [.d (.sl none (intsD p0)), .d (.sl none (intsD p1)), iV p2, iV p3, .vec 0 0, iV p5] [.vec 0 (rowsD p4)] (fun res H' => res = [.vec 0 1] ∧ H' = [.vec 1 (rowsD r)]) := by
 induction k generalizing p0 p1 p2 p3 p4 p5 r with
 | zero => simp [spec_l02Go] at h
 | succ k ih =>
  rw [spec_l02Go] at h
  obtain ⟨self, hself, hk⟩ : ∃ self : (List Int) → (List Int) → Int → Int → (List (List Int)) → Int → Option (List (List Int)), (∀ (p0 : List Int) (p1 : List Int) (p2 : Int) (p3 : Int) (p4 : List (List Int)) (p5 : Int) (r : List (List Int)), self p0 p1 p2 p3 p4 p5 = some r → AC Tryz.prog 143 [.d (.sl none (intsD p0)), .d (.sl none (intsD p1)), iV p2, iV p3, .vec 0 0, iV p5] [.vec 0 (rowsD p4)] (fun res H' => res = [.vec 0 1] ∧ H' = [.vec 1 (rowsD r)])) ∧ spec_l02Go k = self := ⟨spec_l02Go k, fun p0 p1 p2 p3 p4 p5 r h => ih p0 p1 p2 p3 p4 p5 r h, rfl⟩
  rw [hk] at h
  clear ih hk
  refine AC_of_body true Tryz.func143 rfl Tryz.ntmps143 (rvs := [.tmp 12]) rfl rfl (fun G hG => ?_)
  have hm : G.H.length = 1 := by rw [hG]; rfl
  have hz : zeroG G.H = true := by rw [hG]; rfl
  refine ACode_weak (Weak_ren 4 0 _ rfl rfl) ?_
  unfold spec_l02Go_body at h
  refine kR ?_
  refine kN 1 rfl ?_
  refine ACode_seq ?_
  refine kR ?_
  refine kM 1 rfl ?_
  refine AOps_q 15 _ rfl rfl rfl (QOp_len_sl _ _ _ _ _ _ _ (intsD_length _) rfl rfl rfl rfl Tryz.underlying27 rfl) ?_
  refine kM 1 rfl ?_
  refine AOps_q 17 _ rfl rfl rfl (QOp_eql _ _ _ _ _ _ _ rfl rfl rfl) ?_
  refine AOps_nil ?_
  refine kI h rfl (fun h _ => ?_) (fun h _ => ?_)
  ·refine kR ?_
   refine kM 2 rfl ?_
   obtain ⟨r2, hr2, h⟩ := bindO h
   refine kC [] 20 (.vec 1 0) [.vec 1 (rowsD p4), .vec 0 (intsD r2)] rfl Tryz.call122 rfl rfl (spec_l01Own_ac p1 _ hr2) rfl ?_
   refine AOps_freeze 20 1 0 _ rfl rfl ?_
   refine AOps_buildSlice 21 _ _ _ [_] (rowsD ([r2])) _ rfl rfl rfl rfl rfl (by decide) Tryz.underlying90 Tryz.sizeOf27 (zero_of Tryz.typeInfo27 rfl) rfl rfl (rowsD_one _) ?_
   obtain ⟨hc3, h⟩ := guardO h
   refine AOps_append 22 _ _ _ _ _ _ _ _ _ _ _ _ rfl rfl rfl rfl rfl rfl rfl Tryz.underlying90 Tryz.type27 rfl rfl rfl (by decide) rfl rfl rfl rfl (rowsD_one _) (by rw [rowsD_length, rowsD_length]; exact hc3) ?_
   rw [rowsD_app]
   refine kN 1 rfl ?_
   refine ACode_ret ?_
   cases h
   exact ⟨_, _, Weak_reset 1 hm hz [12] _ _ rfl rfl, _, _, [], _, (.cons (ResV_tmp _ _ rfl) .nil), rfl, rfl, rfl, rfl, rfl⟩
  refine ACode_skip ?_
  refine ACode_seq ?_
  refine kR ?_
  refine kM 1 rfl ?_
  refine AOps_q 24 _ rfl rfl rfl (QOp_len_sl _ _ _ _ _ _ _ (intsD_length _) rfl rfl rfl rfl Tryz.underlying27 rfl) ?_
  refine kM 1 rfl ?_
  obtain ⟨r4, hr4, h⟩ := bindO h
  refine kC [] 26 (iV r4) [.vec 1 (rowsD p4)] rfl Tryz.call177 rfl rfl (spec_l01Ones_ac k p2 _ hr4) rfl ?_
  refine AOps_q 27 _ rfl rfl rfl (QOp_add _ _ _ _ _ _ _ rfl rfl rfl) ?_
  refine kM 1 rfl ?_
  refine AOps_q 29 _ rfl rfl rfl (QOp_lss _ _ _ _ _ _ _ rfl rfl rfl) ?_
  refine AOps_nil ?_
  refine kI h rfl (fun h _ => ?_) (fun h _ => ?_)
  ·refine kR ?_
   refine kN 2 rfl ?_
   refine ACode_ret ?_
   cases h
   exact ⟨_, _, fun r a w h => ⟨r, h⟩, _, _, [], _, (.cons (ResV_tmp _ _ rfl) .nil), rfl, rfl, rfl, rfl, rfl⟩
  refine ACode_skip ?_
  refine kB (fun s21 => [(4, .vec 0 1)]) (fun s21 => [.vec 1 (rowsD s21)]) h (fun s21 h => ?_) (fun s21 h => ?_)
  ·refine kR ?_
   refine kN 1 rfl ?_
   refine ACode_block ?_
   refine ACode_loopW (fun k0 E H => ∃ (x6 : Int) (x7 : List (List Int)), E = [(0, .d (.sl none (intsD p0))), (1, .d (.sl none (intsD p1))), (2, iV p2), (3, iV p3), (4, .vec 0 1), (5, iV p5), (13, iV x6)] ∧ H = [.vec 1 (rowsD x7)] ∧ spec_l02Go_l0 self p0 p1 p2 p3 p5 k0 x6 x7 = some s21) k _ _ (Weak_keep 1 hm [0, 1, 2, 3, 4, 5, 13] [] _ _ rfl rfl rfl) ⟨_, _, rfl, rfl, h⟩ ?_
   clear h
   rintro k0 E H ⟨x6, x7, rfl, rfl, h⟩
   cases k0 with
   | zero => cases (show (none : Option (List (List Int))) = some _ from h)
   | succ k0 =>
    rw [spec_l02Go_l0] at h
    refine kO (fun s11 => [(0, .d (.sl none (intsD p0))), (1, .d (.sl none (intsD p1))), (2, iV p2), (3, iV p3), (4, .vec 0 1), (5, iV p5), (13, iV x6)]) (fun s11 => [.vec 1 (rowsD x7)]) h (fun os11 h hks11 => ?_) (fun s11 h => ?_)
    ·refine kL (fun s9 => [(0, .d (.sl none (intsD p0))), (1, .d (.sl none (intsD p1))), (2, iV p2), (3, iV p3), (4, .vec 0 1), (5, iV p5), (13, iV x6), (40, bV s9)]) (fun s9 => [.vec 1 (rowsD x7)]) h (fun s9 h => ?_) (fun s9 h => ?_)
     ·refine (ACode_region ?_)
      refine kM 2 rfl ?_
      refine AOps_q 33 _ rfl rfl rfl (QOp_len_sl _ _ _ _ _ _ _ (intsD_length _) rfl rfl rfl rfl Tryz.underlying27 rfl) ?_
      refine AOps_q 34 _ rfl rfl rfl (QOp_lss _ _ _ _ _ _ _ rfl rfl rfl) ?_
      refine kM 1 rfl ?_
      refine AOps_case 35 _ rfl (fun hb8 => ?_) (fun hb8 => ?_)
      ·have h := iteT hb8 h
       refine kM 1 rfl ?_
       refine AOps_q 37 _ rfl rfl rfl (QOp_len_vec _ _ _ _ _ _ _ _ (rowsD_length _) rfl rfl rfl rfl Tryz.underlying90 rfl rfl) ?_
       refine kM 1 rfl ?_
       refine AOps_q 39 _ rfl rfl rfl (QOp_lss _ _ _ _ _ _ _ rfl rfl rfl) ?_
       refine kN 1 rfl ?_
       cases h
       exact Weak_keep 1 hm [0, 1, 2, 3, 4, 5, 13, 40] [] _ _ rfl rfl rfl
      have h := iteF hb8 h
      refine AOps_skip 36 rfl rfl rfl ?_
      refine AOps_skip 37 rfl rfl rfl ?_
      refine AOps_skip 38 rfl rfl rfl ?_
      refine AOps_skip 39 rfl rfl rfl ?_
      refine kN 1 rfl ?_
      cases h
      exact Weak_keep 1 hm [0, 1, 2, 3, 4, 5, 13, 40] [] _ _ rfl rfl rfl
     refine kI h rfl (fun h _ => ?_) (fun h _ => ?_)
     ·refine ACode_skip ?_
      cases h
      exact ⟨_, rfl, Weak_keep 1 hm [0, 1, 2, 3, 4, 5, 13] [] _ _ rfl rfl rfl⟩
     refine ACode_exit ?_
     obtain ⟨rr, hz22, h2⟩ := bindO h
     obtain rfl := Option.some.inj h2
     obtain rfl := Option.some.inj (show some rr = some _ from hks11)
     have h := hz22
     cases h
     exact Weak_keep 1 hm [4] [] _ _ rfl rfl rfl
    refine kB (fun s20 => [(0, .d (.sl none (intsD p0))), (1, .d (.sl none (intsD p1))), (2, iV p2), (3, iV p3), (4, .vec 0 1), (5, iV p5), (13, iV x6)]) (fun s20 => [.vec 1 (rowsD s20)]) h (fun s20 h => ?_) (fun s20 h => ?_)
    ·refine ACode_block ?_
     refine kR ?_
     refine kM 2 rfl ?_
     refine AOps_q 45 _ rfl rfl rfl (QOp_conv _ _ _ _ _ _ rfl rfl Tryz.underlying73 rfl) ?_
     obtain ⟨hc12, h⟩ := guardO h
     refine AOps_q 46 _ rfl rfl rfl (QOp_shr _ _ _ _ _ _ _ _ hc12 rfl rfl rfl) ?_
     refine AOps_q 47 _ rfl rfl rfl (QOp_and _ _ _ _ _ _ _ rfl rfl rfl) ?_
     refine AOps_q 48 _ rfl rfl rfl (QOp_eql _ _ _ _ _ _ _ rfl rfl rfl) ?_
     refine AOps_nil ?_
     refine kI h rfl (fun h _ => ?_) (fun h _ => ?_)
     ·obtain ⟨hc14, h⟩ := guardO h
      obtain ⟨r15, hr15, h⟩ := bindO h
      obtain ⟨hc16, h⟩ := guardO h
      obtain ⟨hc17, h⟩ := guardO h
      obtain ⟨hc18, h⟩ := guardO h
      obtain ⟨r19, hr19, h⟩ := bindO h
      refine ACode_reg [(0, .d (.sl none (intsD p0))), (1, .d (.sl none (intsD p1))), (2, iV p2), (3, iV p3), (4, .vec 0 1), (5, iV p5), (13, iV x6)] [.vec 1 (rowsD r19)] ?_ ?_
      ·refine ACode_anyU mixed ?_
       refine AU_cut 2 #[true, true, true, true, true, true, true, true, true, true, true, true, true, true, true, true, true, true, true, true, true, false, false] [(0, .d (.sl none (intsD p0))), (1, .d (.sl none (intsD p1))), (2, iV p2), (3, iV p3), (4, .vec 0 1), (5, iV p5), (13, iV x6), (49, .d (.sl none (intsD p0))), (54, .vec 1 0), (66, iV (bShl .i64 (bShr .i64 (bAnd .i64 p2 (p0.getD x6.toNat 0)) (IntKind.u64.wrap x6)) (IntKind.u64.wrap x6))), (67, iV p3), (68, .vec 0 1), (69, iV p5)] [.vec 1 (rowsD x7), .vec 0 (intsD (r15 ++ ([x6])))] ?_ (fun hS0 => ?_)
       ·refine AU_one 21 (by kernel_rfl) rfl rfl ?_
        refine AOps_freezeL [54] 1 0 _ (allc (rfl) (fun _ h => nomatch h)) rfl ?_
        refine kC [0] 70 (.vec 0 2) [.vec 2 (rowsD r19), .gone] rfl Tryz.call143 rfl rfl (hself p0 (r15 ++ ([x6])) (bShl .i64 (bShr .i64 (bAnd .i64 p2 (p0.getD x6.toNat 0)) (IntKind.u64.wrap x6)) (IntKind.u64.wrap x6)) p3 x7 p5 _ hr19) rfl ?_
        refine AOps_nil ?_
        refine AU_u 22 4 _ rfl (by kernel_rfl) rfl rfl rfl (UOp_assign _ _ rfl rfl) ?_
        refine AU_done (by kernel_rfl) ?_
        exact ⟨rfl, Weak_trans (Weak_keep 1 hm [0, 1, 2, 3, 4, 5, 13] [] _ _ rfl rfl rfl) (Weak_reset 1 hm hz [0, 1, 2, 3, 4, 5, 13] _ _ rfl rfl)⟩
       refine AU_cut 3 #[true, true, true, true, true, false, true, true, true, true, true, true, true, true, true, true, true, true, true, true, true, false, false] [(0, .d (.sl none (intsD p0))), (1, .d (.sl none (intsD p1))), (2, iV p2), (3, iV p3), (4, .vec 0 1), (5, iV p5), (13, iV x6), (49, .d (.sl none (intsD p0))), (51, .vec 1 0), (53, .vec 2 0), (66, iV (bShl .i64 (bShr .i64 (bAnd .i64 p2 (p0.getD x6.toNat 0)) (IntKind.u64.wrap x6)) (IntKind.u64.wrap x6))), (67, iV p3), (68, .vec 0 1), (69, iV p5)] [.vec 1 (rowsD x7), .vec 0 (intsD r15), .vec 0 (intsD ([x6]))] ?_ (fun hS1 => ?_)
       ·refine AU_one 5 (by kernel_rfl) rfl rfl ?_
        refine AOps_append 54 _ _ _ _ _ _ _ _ _ _ _ _ rfl rfl rfl rfl rfl rfl rfl Tryz.underlying27 Tryz.type2 rfl rfl rfl (by decide) rfl rfl rfl rfl (intsD_one _) (by rw [intsD_length, intsD_length]; exact hc16) ?_
        rw [intsD_app]
        refine AOps_nil ?_
        exact AU_to (by kernel_rfl) hS0 (Weak_trans (Weak_keep 1 hm [0, 1, 2, 3, 4, 5, 13, 49, 54, 66, 67, 68, 69] [1] _ _ rfl rfl rfl) (Weak_reset 1 hm hz [0, 1, 2, 3, 4, 5, 13, 49, 54, 66, 67, 68, 69] _ _ rfl rfl))
       refine AU_cut 4 #[true, true, true, true, false, false, true, true, true, true, true, true, true, true, true, true, true, true, true, true, true, false, false] [(0, .d (.sl none (intsD p0))), (1, .d (.sl none (intsD p1))), (2, iV p2), (3, iV p3), (4, .vec 0 1), (5, iV p5), (13, iV x6), (49, .d (.sl none (intsD p0))), (51, .vec 1 0), (52, iV x6), (66, iV (bShl .i64 (bShr .i64 (bAnd .i64 p2 (p0.getD x6.toNat 0)) (IntKind.u64.wrap x6)) (IntKind.u64.wrap x6))), (67, iV p3), (68, .vec 0 1), (69, iV p5)] [.vec 1 (rowsD x7), .vec 0 (intsD r15)] ?_ (fun hS2 => ?_)
       ·refine AU_one 4 (by kernel_rfl) rfl rfl ?_
        refine AOps_buildSlice 53 _ _ _ [_] (intsD ([x6])) _ rfl rfl rfl rfl rfl (by decide) Tryz.underlying27 Tryz.sizeOf2 (zero_of Tryz.typeInfo2 rfl) rfl rfl (intsD_one _) ?_
        refine AOps_nil ?_
        exact AU_to (by kernel_rfl) hS1 (Weak_keep 1 hm [0, 1, 2, 3, 4, 5, 13, 49, 51, 53, 66, 67, 68, 69] [1, 2] _ _ rfl rfl rfl)
       refine AU_cut 4 #[true, true, false, true, true, false, true, true, true, true, true, true, true, true, true, true, true, true, true, true, true, false, false] [(0, .d (.sl none (intsD p0))), (1, .d (.sl none (intsD p1))), (2, iV p2), (3, iV p3), (4, .vec 0 1), (5, iV p5), (13, iV x6), (49, .d (.sl none (intsD p0))), (50, .d (.sl none (intsD p1))), (53, .vec 1 0), (66, iV (bShl .i64 (bShr .i64 (bAnd .i64 p2 (p0.getD x6.toNat 0)) (IntKind.u64.wrap x6)) (IntKind.u64.wrap x6))), (67, iV p3), (68, .vec 0 1), (69, iV p5)] [.vec 1 (rowsD x7), .vec 0 (intsD ([x6]))] ?_ (fun hS3 => ?_)
       ·refine AU_one 2 (by kernel_rfl) rfl rfl ?_
        refine kC [] 51 (.vec 2 0) [.vec 1 (rowsD x7), .vec 0 (intsD ([x6])), .vec 0 (intsD r15)] rfl Tryz.call122 rfl rfl (spec_l01Own_ac p1 _ hr15) rfl ?_
        refine AOps_nil ?_
        exact AU_to (by kernel_rfl) hS1 (Weak_keep 1 hm [0, 1, 2, 3, 4, 5, 13, 49, 51, 53, 66, 67, 68, 69] [2, 1] _ _ rfl rfl rfl)
       refine AU_cut 7 #[true, true, true, true, true, false, true, true, true, true, false, false, true, true, false, true, true, false, true, true, true, false, false] [(0, .d (.sl none (intsD p0))), (1, .d (.sl none (intsD p1))), (2, iV p2), (3, iV p3), (4, .vec 0 1), (5, iV p5), (13, iV x6), (49, .d (.sl none (intsD p0))), (51, .vec 1 0), (53, .vec 2 0), (55, iV p2), (58, .d (.pv (intsD p0) x6.toNat)), (62, .d (.s (.int .u64 (IntKind.u64.wrap x6)))), (65, .d (.s (.int .u64 (IntKind.u64.wrap x6)))), (67, iV p3), (68, .vec 0 1), (69, iV p5)] [.vec 1 (rowsD x7), .vec 0 (intsD r15), .vec 0 (intsD ([x6]))] ?_ (fun hS4 => ?_)
       ·refine AU_all [5, 10] (by kernel_rfl) rfl (allc ?_ (allc ?_ (fun _ h => nomatch h)))
        ·refine US_of 5 rfl rfl ?_
         refine AOps_append 54 _ _ _ _ _ _ _ _ _ _ _ _ rfl rfl rfl rfl rfl rfl rfl Tryz.underlying27 Tryz.type2 rfl rfl rfl (by decide) rfl rfl rfl rfl (intsD_one _) (by rw [intsD_length, intsD_length]; exact hc16) ?_
         rw [intsD_app]
         refine AOps_nil ?_
         refine AU_one 10 (by kernel_rfl) rfl rfl ?_
         refine AOps_q 59 _ rfl rfl rfl (QOp_load_pv _ _ _ _ _ rfl Tryz.isAgg2 rfl (intsD_get _ _ 0 (by omega))) ?_
         refine AOps_nil ?_
         refine AU_u 11 60 _ rfl (by kernel_rfl) rfl rfl rfl (UOp_and _ _ _ _ _ _ _ rfl rfl rfl) ?_
         refine AU_u 14 63 _ rfl (by kernel_rfl) rfl rfl rfl (UOp_shr _ _ _ _ _ _ _ _ hc17 rfl rfl rfl) ?_
         refine AU_u 17 66 _ rfl (by kernel_rfl) rfl rfl rfl (UOp_shl _ _ _ _ _ _ _ _ hc18 rfl rfl rfl) ?_
         exact AU_to (by kernel_rfl) hS0 (Weak_trans (Weak_keep 1 hm [0, 1, 2, 3, 4, 5, 13, 49, 54, 66, 67, 68, 69] [1] _ _ rfl rfl rfl) (Weak_reset 1 hm hz [0, 1, 2, 3, 4, 5, 13, 49, 54, 66, 67, 68, 69] _ _ rfl rfl))
        refine US_of 10 rfl rfl ?_
        refine AOps_q 59 _ rfl rfl rfl (QOp_load_pv _ _ _ _ _ rfl Tryz.isAgg2 rfl (intsD_get _ _ 0 (by omega))) ?_
        refine AOps_nil ?_
        refine AU_u 11 60 _ rfl (by kernel_rfl) rfl rfl rfl (UOp_and _ _ _ _ _ _ _ rfl rfl rfl) ?_
        refine AU_u 14 63 _ rfl (by kernel_rfl) rfl rfl rfl (UOp_shr _ _ _ _ _ _ _ _ hc17 rfl rfl rfl) ?_
        refine AU_u 17 66 _ rfl (by kernel_rfl) rfl rfl rfl (UOp_shl _ _ _ _ _ _ _ _ hc18 rfl rfl rfl) ?_
        exact AU_to (by kernel_rfl) hS1 (Weak_keep 1 hm [0, 1, 2, 3, 4, 5, 13, 49, 51, 53, 66, 67, 68, 69] [1, 2] _ _ rfl rfl rfl)
       refine AU_u 0 49 _ rfl (by kernel_rfl) rfl rfl rfl (UOp_move _ _ rfl rfl) ?_
       refine AU_u 1 50 _ rfl (by kernel_rfl) rfl rfl rfl (UOp_move _ _ rfl rfl) ?_
       refine AU_u 3 52 _ rfl (by kernel_rfl) rfl rfl rfl (UOp_move _ _ rfl rfl) ?_
       refine AU_u 6 55 _ rfl (by kernel_rfl) rfl rfl rfl (UOp_move _ _ rfl rfl) ?_
       refine AU_u 7 56 _ rfl (by kernel_rfl) rfl rfl rfl (UOp_move _ _ rfl rfl) ?_
       refine AU_u 8 57 _ rfl (by kernel_rfl) rfl rfl rfl (UOp_move _ _ rfl rfl) ?_
       refine AU_u 9 58 _ rfl (by kernel_rfl) rfl rfl rfl (UOp_indexAddr_sl _ _ _ _ _ _ _ _ rfl Tryz.underlying27 Tryz.sizeOf2 hc14.1 (by rw [intsD_length]; exact hc14.2) rfl rfl) ?_
       refine AU_u 12 61 _ rfl (by kernel_rfl) rfl rfl rfl (UOp_move _ _ rfl rfl) ?_
       refine AU_u 13 62 _ rfl (by kernel_rfl) rfl rfl rfl (UOp_conv _ _ _ _ _ _ rfl rfl Tryz.underlying73 rfl) ?_
       refine AU_u 15 64 _ rfl (by kernel_rfl) rfl rfl rfl (UOp_move _ _ rfl rfl) ?_
       refine AU_u 16 65 _ rfl (by kernel_rfl) rfl rfl rfl (UOp_conv _ _ _ _ _ _ rfl rfl Tryz.underlying73 rfl) ?_
       refine AU_u 18 67 _ rfl (by kernel_rfl) rfl rfl rfl (UOp_move _ _ rfl rfl) ?_
       refine AU_u 19 68 _ rfl (by kernel_rfl) rfl rfl rfl (UOp_move _ _ rfl rfl) ?_
       refine AU_u 20 69 _ rfl (by kernel_rfl) rfl rfl rfl (UOp_move _ _ rfl rfl) ?_
       refine AU_all [2, 4, 10] (by kernel_rfl) rfl (allc ?_ (allc ?_ (allc ?_ (fun _ h => nomatch h))))
       ·refine US_of 2 rfl rfl ?_
        refine kC [] 51 (.vec 1 0) [.vec 1 (rowsD x7), .vec 0 (intsD r15)] rfl Tryz.call122 rfl rfl (spec_l01Own_ac p1 _ hr15) rfl ?_
        refine AOps_nil ?_
        refine AU_all [4, 10] (by kernel_rfl) rfl (allc ?_ (allc ?_ (fun _ h => nomatch h)))
        ·refine US_of 4 rfl rfl ?_
         refine AOps_buildSlice 53 _ _ _ [_] (intsD ([x6])) _ rfl rfl rfl rfl rfl (by decide) Tryz.underlying27 Tryz.sizeOf2 (zero_of Tryz.typeInfo2 rfl) rfl rfl (intsD_one _) ?_
         refine AOps_nil ?_
         exact AU_to (by kernel_rfl) hS4 (Weak_keep 1 hm [0, 1, 2, 3, 4, 5, 13, 49, 51, 53, 55, 58, 62, 65, 67, 68, 69] [1, 2] _ _ rfl rfl rfl)
        refine US_of 10 rfl rfl ?_
        refine AOps_q 59 _ rfl rfl rfl (QOp_load_pv _ _ _ _ _ rfl Tryz.isAgg2 rfl (intsD_get _ _ 0 (by omega))) ?_
        refine AOps_nil ?_
        refine AU_u 11 60 _ rfl (by kernel_rfl) rfl rfl rfl (UOp_and _ _ _ _ _ _ _ rfl rfl rfl) ?_
        refine AU_u 14 63 _ rfl (by kernel_rfl) rfl rfl rfl (UOp_shr _ _ _ _ _ _ _ _ hc17 rfl rfl rfl) ?_
        refine AU_u 17 66 _ rfl (by kernel_rfl) rfl rfl rfl (UOp_shl _ _ _ _ _ _ _ _ hc18 rfl rfl rfl) ?_
        exact AU_to (by kernel_rfl) hS2 (Weak_keep 1 hm [0, 1, 2, 3, 4, 5, 13, 49, 51, 52, 66, 67, 68, 69] [1] _ _ rfl rfl rfl)
       ·refine US_of 4 rfl rfl ?_
        refine AOps_buildSlice 53 _ _ _ [_] (intsD ([x6])) _ rfl rfl rfl rfl rfl (by decide) Tryz.underlying27 Tryz.sizeOf2 (zero_of Tryz.typeInfo2 rfl) rfl rfl (intsD_one _) ?_
        refine AOps_nil ?_
        refine AU_all [2, 10] (by kernel_rfl) rfl (allc ?_ (allc ?_ (fun _ h => nomatch h)))
        ·refine US_of 2 rfl rfl ?_
         refine kC [] 51 (.vec 2 0) [.vec 1 (rowsD x7), .vec 0 (intsD ([x6])), .vec 0 (intsD r15)] rfl Tryz.call122 rfl rfl (spec_l01Own_ac p1 _ hr15) rfl ?_
         refine AOps_nil ?_
         exact AU_to (by kernel_rfl) hS4 (Weak_keep 1 hm [0, 1, 2, 3, 4, 5, 13, 49, 51, 53, 55, 58, 62, 65, 67, 68, 69] [2, 1] _ _ rfl rfl rfl)
        refine US_of 10 rfl rfl ?_
        refine AOps_q 59 _ rfl rfl rfl (QOp_load_pv _ _ _ _ _ rfl Tryz.isAgg2 rfl (intsD_get _ _ 0 (by omega))) ?_
        refine AOps_nil ?_
        refine AU_u 11 60 _ rfl (by kernel_rfl) rfl rfl rfl (UOp_and _ _ _ _ _ _ _ rfl rfl rfl) ?_
        refine AU_u 14 63 _ rfl (by kernel_rfl) rfl rfl rfl (UOp_shr _ _ _ _ _ _ _ _ hc17 rfl rfl rfl) ?_
        refine AU_u 17 66 _ rfl (by kernel_rfl) rfl rfl rfl (UOp_shl _ _ _ _ _ _ _ _ hc18 rfl rfl rfl) ?_
        exact AU_to (by kernel_rfl) hS3 (Weak_keep 1 hm [0, 1, 2, 3, 4, 5, 13, 49, 50, 53, 66, 67, 68, 69] [1] _ _ rfl rfl rfl)
       refine US_of 10 rfl rfl ?_
       refine AOps_q 59 _ rfl rfl rfl (QOp_load_pv _ _ _ _ _ rfl Tryz.isAgg2 rfl (intsD_get _ _ 0 (by omega))) ?_
       refine AOps_nil ?_
       refine AU_u 11 60 _ rfl (by kernel_rfl) rfl rfl rfl (UOp_and _ _ _ _ _ _ _ rfl rfl rfl) ?_
       refine AU_u 14 63 _ rfl (by kernel_rfl) rfl rfl rfl (UOp_shr _ _ _ _ _ _ _ _ hc17 rfl rfl rfl) ?_
       refine AU_u 17 66 _ rfl (by kernel_rfl) rfl rfl rfl (UOp_shl _ _ _ _ _ _ _ _ hc18 rfl rfl rfl) ?_
       refine AU_all [2, 4] (by kernel_rfl) rfl (allc ?_ (allc ?_ (fun _ h => nomatch h)))
       ·refine US_of 2 rfl rfl ?_
        refine kC [] 51 (.vec 1 0) [.vec 1 (rowsD x7), .vec 0 (intsD r15)] rfl Tryz.call122 rfl rfl (spec_l01Own_ac p1 _ hr15) rfl ?_
        refine AOps_nil ?_
        exact AU_to (by kernel_rfl) hS2 (Weak_keep 1 hm [0, 1, 2, 3, 4, 5, 13, 49, 51, 52, 66, 67, 68, 69] [1] _ _ rfl rfl rfl)
       refine US_of 4 rfl rfl ?_
       refine AOps_buildSlice 53 _ _ _ [_] (intsD ([x6])) _ rfl rfl rfl rfl rfl (by decide) Tryz.underlying27 Tryz.sizeOf2 (zero_of Tryz.typeInfo2 rfl) rfl rfl (intsD_one _) ?_
       refine AOps_nil ?_
       exact AU_to (by kernel_rfl) hS3 (Weak_keep 1 hm [0, 1, 2, 3, 4, 5, 13, 49, 50, 53, 66, 67, 68, 69] [1] _ _ rfl rfl rfl)
      cases h
      exact Weak_keep 1 hm [0, 1, 2, 3, 4, 5, 13] [] _ _ rfl rfl rfl
     refine ACode_skip ?_
     cases h
     exact Weak_keep 1 hm [0, 1, 2, 3, 4, 5, 13] [] _ _ rfl rfl rfl
    refine (ACode_region ?_)
    refine kM 1 rfl ?_
    refine AOps_q 42 _ rfl rfl rfl (QOp_add _ _ _ _ _ _ _ rfl rfl rfl) ?_
    refine kN 1 rfl ?_
    exact ⟨k0, _, _, Nat.lt_succ_self _, Weak_keep 1 hm [0, 1, 2, 3, 4, 5, 13] [] _ _ rfl rfl rfl, _, _, rfl, rfl, h⟩
  refine kR ?_
  refine kN 2 rfl ?_
  refine ACode_ret ?_
  cases h
  exact ⟨_, _, fun r a w h => ⟨r, h⟩, _, _, [], _, (.cons (ResV_tmp _ _ rfl) .nil), rfl, rfl, rfl, rfl, rfl⟩

-- loop.example/g01362/spec.l02List
def spec_l02List (k : Nat) (p0 : Col) (p1 : Int) (p2 : Int) (p3 : Int) : Option (List (List Int)) :=
 (spec_l02Rows k p0 p1).bind fun r1 => (if 0 ≤ IntKind.u64.wrap p0.p then (spec_l02Go k r1 ([] : List Int) (w64 ((bShl .i64 1 (IntKind.u64.wrap p0.p)) - 1)) p2 ([] : List (List Int)) p3).bind fun r3 => some r3 else none)
set_option maxRecDepth 100000 in
theorem spec_l02List_ac (k : Nat) (p0 : Col) (p1 : Int) (p2 : Int) (p3 : Int) (r : List (List Int)) (h : spec_l02List k p0 p1 p2 p3 = some r) : AC Tryz.prog 89 [.d (.agg (colD p0)), iV p1, iV p2, iV p3] [] (fun res H' => res = [.vec 0 0] ∧ H' = [.vec 0 (rowsD r)]) := by
 refine AC_of_body true Tryz.func89 rfl Tryz.ntmps89 (rvs := [.tmp 8]) rfl rfl (fun G hG => ?_)
 have hm : G.H.length = 0 := by rw [hG]; rfl
 have hz : zeroG G.H = true := by rw [hG]; rfl
 unfold spec_l02List at h
 refine kR ?_
 refine AOps_boxI 4 _ _ (.agg (colD p0)) (colD p0) rfl (colD_one _) rfl rfl rfl rfl rfl ?_
 refine kN 1 rfl ?_
 obtain ⟨r1, hr1, h⟩ := bindO h
 obtain ⟨hc2, h⟩ := guardO h
 obtain ⟨r3, hr3, h⟩ := bindO h
 refine ACode_seq (ACode_reg [(8, .vec 0 0)] [.vec 0 (rowsD r3)] ?_ ?_)
 ·refine ACode_anyU mixed ?_
  refine AU_cut 2 #[true, true, true, true, true, true, true, true, true, true, true, true, false, false] [(8, .d (.sl (some true) [])), (11, .vec 0 0), (12, .vec 1 0), (17, iV (w64 ((bShl .i64 1 (IntKind.u64.wrap p0.p)) - 1))), (18, iV p2), (19, .vec 2 0), (20, iV p3)] [.vec 0 (intsD r1), .vec 0 (intsD ([] : List Int)), .vec 0 (rowsD ([] : List (List Int)))] ?_ (fun hS0 => ?_)
  ·refine AU_one 12 (by kernel_rfl) rfl rfl ?_
   refine AOps_freezeL [11] 0 0 _ (allc (rfl) (fun _ h => nomatch h)) rfl ?_
   refine AOps_freezeL [12] 1 0 _ (allc (rfl) (fun _ h => nomatch h)) rfl ?_
   refine kC [2] 21 (.vec 2 1) [.gone, .gone, .vec 1 (rowsD r3)] rfl Tryz.call143 rfl rfl (spec_l02Go_ac k r1 ([] : List Int) (w64 ((bShl .i64 1 (IntKind.u64.wrap p0.p)) - 1)) p2 ([] : List (List Int)) p3 _ hr3) rfl ?_
   refine AOps_nil ?_
   refine AU_u 13 8 _ rfl (by kernel_rfl) rfl rfl rfl (UOp_assign _ _ rfl rfl) ?_
   refine AU_done (by kernel_rfl) ?_
   exact ⟨rfl, Weak_trans (Weak_keep 0 hm [8] [2] _ _ rfl rfl rfl) (Weak_reset 0 hm hz [8] _ _ rfl rfl)⟩
  refine AU_cut 3 #[true, true, true, true, true, true, true, true, true, true, false, true, false, false] [(8, .d (.sl (some true) [])), (11, .vec 0 0), (12, .vec 1 0), (17, iV (w64 ((bShl .i64 1 (IntKind.u64.wrap p0.p)) - 1))), (18, iV p2), (20, iV p3)] [.vec 0 (intsD r1), .vec 0 (intsD ([] : List Int))] ?_ (fun hS1 => ?_)
  ·refine AU_one 10 (by kernel_rfl) rfl rfl ?_
   refine AOps_buildSlice 19 _ _ _ [] (rowsD ([] : List (List Int))) _ rfl rfl rfl rfl rfl (by decide) Tryz.underlying90 Tryz.sizeOf27 (zero_of Tryz.typeInfo27 rfl) rfl rfl (rowsD_one _) ?_
   refine AOps_nil ?_
   exact AU_to (by kernel_rfl) hS0 (Weak_keep 0 hm [8, 11, 12, 17, 18, 19, 20] [0, 1, 2] _ _ rfl rfl rfl)
  refine AU_cut 3 #[true, true, true, false, true, true, true, true, true, true, true, true, false, false] [(8, .d (.sl (some true) [])), (11, .vec 0 0), (17, iV (w64 ((bShl .i64 1 (IntKind.u64.wrap p0.p)) - 1))), (18, iV p2), (19, .vec 1 0), (20, iV p3)] [.vec 0 (intsD r1), .vec 0 (rowsD ([] : List (List Int)))] ?_ (fun hS2 => ?_)
  ·refine AU_one 3 (by kernel_rfl) rfl rfl ?_
   refine AOps_buildSlice 12 _ _ _ [] (intsD ([] : List Int)) _ rfl rfl rfl rfl rfl (by decide) Tryz.underlying27 Tryz.sizeOf2 (zero_of Tryz.typeInfo2 rfl) rfl rfl (intsD_one _) ?_
   refine AOps_nil ?_
   exact AU_to (by kernel_rfl) hS0 (Weak_keep 0 hm [8, 11, 12, 17, 18, 19, 20] [0, 2, 1] _ _ rfl rfl rfl)
  refine AU_cut 3 #[true, true, false, true, true, true, true, true, true, true, true, true, false, false] [(8, .d (.sl (some true) [])), (9, .d (.agg (colD p0))), (10, iV p1), (12, .vec 0 0), (17, iV (w64 ((bShl .i64 1 (IntKind.u64.wrap p0.p)) - 1))), (18, iV p2), (19, .vec 1 0), (20, iV p3)] [.vec 0 (intsD ([] : List Int)), .vec 0 (rowsD ([] : List (List Int)))] ?_ (fun hS3 => ?_)
  ·refine AU_one 2 (by kernel_rfl) rfl rfl ?_
   refine kC [] 11 (.vec 2 0) [.vec 0 (intsD ([] : List Int)), .vec 0 (rowsD ([] : List (List Int))), .vec 0 (intsD r1)] rfl Tryz.call144 rfl rfl (spec_l02Rows_ac k p0 p1 _ hr1) rfl ?_
   refine AOps_nil ?_
   exact AU_to (by kernel_rfl) hS0 (Weak_keep 0 hm [8, 11, 12, 17, 18, 19, 20] [2, 0, 1] _ _ rfl rfl rfl)
  refine AU_cut 4 #[true, true, true, false, true, true, true, true, true, true, false, true, false, false] [(8, .d (.sl (some true) [])), (11, .vec 0 0), (17, iV (w64 ((bShl .i64 1 (IntKind.u64.wrap p0.p)) - 1))), (18, iV p2), (20, iV p3)] [.vec 0 (intsD r1)] ?_ (fun hS4 => ?_)
  ·refine AU_all [3, 10] (by kernel_rfl) rfl (allc ?_ (allc ?_ (fun _ h => nomatch h)))
   ·refine US_of 3 rfl rfl ?_
    refine AOps_buildSlice 12 _ _ _ [] (intsD ([] : List Int)) _ rfl rfl rfl rfl rfl (by decide) Tryz.underlying27 Tryz.sizeOf2 (zero_of Tryz.typeInfo2 rfl) rfl rfl (intsD_one _) ?_
    refine AOps_nil ?_
    exact AU_to (by kernel_rfl) hS1 (Weak_keep 0 hm [8, 11, 12, 17, 18, 20] [0, 1] _ _ rfl rfl rfl)
   refine US_of 10 rfl rfl ?_
   refine AOps_buildSlice 19 _ _ _ [] (rowsD ([] : List (List Int))) _ rfl rfl rfl rfl rfl (by decide) Tryz.underlying90 Tryz.sizeOf27 (zero_of Tryz.typeInfo27 rfl) rfl rfl (rowsD_one _) ?_
   refine AOps_nil ?_
   exact AU_to (by kernel_rfl) hS2 (Weak_keep 0 hm [8, 11, 17, 18, 19, 20] [0, 1] _ _ rfl rfl rfl)
  refine AU_cut 4 #[true, true, false, true, true, true, true, true, true, true, false, true, false, false] [(8, .d (.sl (some true) [])), (9, .d (.agg (colD p0))), (10, iV p1), (12, .vec 0 0), (17, iV (w64 ((bShl .i64 1 (IntKind.u64.wrap p0.p)) - 1))), (18, iV p2), (20, iV p3)] [.vec 0 (intsD ([] : List Int))] ?_ (fun hS5 => ?_)
  ·refine AU_all [2, 10] (by kernel_rfl) rfl (allc ?_ (allc ?_ (fun _ h => nomatch h)))
   ·refine US_of 2 rfl rfl ?_
    refine kC [] 11 (.vec 1 0) [.vec 0 (intsD ([] : List Int)), .vec 0 (intsD r1)] rfl Tryz.call144 rfl rfl (spec_l02Rows_ac k p0 p1 _ hr1) rfl ?_
    refine AOps_nil ?_
    exact AU_to (by kernel_rfl) hS1 (Weak_keep 0 hm [8, 11, 12, 17, 18, 20] [1, 0] _ _ rfl rfl rfl)
   refine US_of 10 rfl rfl ?_
   refine AOps_buildSlice 19 _ _ _ [] (rowsD ([] : List (List Int))) _ rfl rfl rfl rfl rfl (by decide) Tryz.underlying90 Tryz.sizeOf27 (zero_of Tryz.typeInfo27 rfl) rfl rfl (rowsD_one _) ?_
   refine AOps_nil ?_
   exact AU_to (by kernel_rfl) hS3 (Weak_keep 0 hm [8, 9, 10, 12, 17, 18, 19, 20] [0, 1] _ _ rfl rfl rfl)
  refine AU_cut 4 #[true, true, false, false, true, true, true, true, true, true, true, true, false, false] [(8, .d (.sl (some true) [])), (9, .d (.agg (colD p0))), (10, iV p1), (17, iV (w64 ((bShl .i64 1 (IntKind.u64.wrap p0.p)) - 1))), (18, iV p2), (19, .vec 0 0), (20, iV p3)] [.vec 0 (rowsD ([] : List (List Int)))] ?_ (fun hS6 => ?_)
  ·refine AU_all [2, 3] (by kernel_rfl) rfl (allc ?_ (allc ?_ (fun _ h => nomatch h)))
   ·refine US_of 2 rfl rfl ?_
    refine kC [] 11 (.vec 1 0) [.vec 0 (rowsD ([] : List (List Int))), .vec 0 (intsD r1)] rfl Tryz.call144 rfl rfl (spec_l02Rows_ac k p0 p1 _ hr1) rfl ?_
    refine AOps_nil ?_
    exact AU_to (by kernel_rfl) hS2 (Weak_keep 0 hm [8, 11, 17, 18, 19, 20] [1, 0] _ _ rfl rfl rfl)
   refine US_of 3 rfl rfl ?_
   refine AOps_buildSlice 12 _ _ _ [] (intsD ([] : List Int)) _ rfl rfl rfl rfl rfl (by decide) Tryz.underlying27 Tryz.sizeOf2 (zero_of Tryz.typeInfo2 rfl) rfl rfl (intsD_one _) ?_
   refine AOps_nil ?_
   exact AU_to (by kernel_rfl) hS3 (Weak_keep 0 hm [8, 9, 10, 12, 17, 18, 19, 20] [1, 0] _ _ rfl rfl rfl)
  refine AU_cut 4 #[false, true, false, true, true, true, true, true, true, true, true, true, false, false] [(4, .d (.pv (colD p0) 0)), (8, .d (.sl (some true) [])), (10, iV p1), (12, .vec 0 0), (17, iV (w64 ((bShl .i64 1 (IntKind.u64.wrap p0.p)) - 1))), (18, iV p2), (19, .vec 1 0), (20, iV p3)] [.vec 0 (intsD ([] : List Int)), .vec 0 (rowsD ([] : List (List Int)))] ?_ (fun hS7 => ?_)
  ·refine AU_one 0 (by kernel_rfl) rfl rfl ?_
   refine AOps_q 9 _ rfl rfl rfl (QOp_loadN_pv _ _ _ _ _ _ rfl Tryz.isAgg34 Tryz.sizeOf34 rfl (colD_all _) (colD_length _)) ?_
   refine AOps_nil ?_
   exact AU_to (by kernel_rfl) hS3 (Weak_keep 0 hm [8, 9, 10, 12, 17, 18, 19, 20] [0, 1] _ _ rfl rfl rfl)
  refine AU_cut 5 #[true, true, false, false, true, true, true, true, true, true, false, true, false, false] [(8, .d (.sl (some true) [])), (9, .d (.agg (colD p0))), (10, iV p1), (17, iV (w64 ((bShl .i64 1 (IntKind.u64.wrap p0.p)) - 1))), (18, iV p2), (20, iV p3)] [] ?_ (fun hS8 => ?_)
  ·refine AU_all [2, 3, 10] (by kernel_rfl) rfl (allc ?_ (allc ?_ (allc ?_ (fun _ h => nomatch h))))
   ·refine US_of 2 rfl rfl ?_
    refine kC [] 11 (.vec 0 0) [.vec 0 (intsD r1)] rfl Tryz.call144 rfl rfl (spec_l02Rows_ac k p0 p1 _ hr1) rfl ?_
    refine AOps_nil ?_
    exact AU_to (by kernel_rfl) hS4 (Weak_keep 0 hm [8, 11, 17, 18, 20] [0] _ _ rfl rfl rfl)
   ·refine US_of 3 rfl rfl ?_
    refine AOps_buildSlice 12 _ _ _ [] (intsD ([] : List Int)) _ rfl rfl rfl rfl rfl (by decide) Tryz.underlying27 Tryz.sizeOf2 (zero_of Tryz.typeInfo2 rfl) rfl rfl (intsD_one _) ?_
    refine AOps_nil ?_
    exact AU_to (by kernel_rfl) hS5 (Weak_keep 0 hm [8, 9, 10, 12, 17, 18, 20] [0] _ _ rfl rfl rfl)
   refine US_of 10 rfl rfl ?_
   refine AOps_buildSlice 19 _ _ _ [] (rowsD ([] : List (List Int))) _ rfl rfl rfl rfl rfl (by decide) Tryz.underlying90 Tryz.sizeOf27 (zero_of Tryz.typeInfo27 rfl) rfl rfl (rowsD_one _) ?_
   refine AOps_nil ?_
   exact AU_to (by kernel_rfl) hS6 (Weak_keep 0 hm [8, 9, 10, 17, 18, 19, 20] [0] _ _ rfl rfl rfl)
  refine AU_cut 5 #[false, true, false, true, true, true, true, true, true, true, false, true, false, false] [(4, .d (.pv (colD p0) 0)), (8, .d (.sl (some true) [])), (10, iV p1), (12, .vec 0 0), (17, iV (w64 ((bShl .i64 1 (IntKind.u64.wrap p0.p)) - 1))), (18, iV p2), (20, iV p3)] [.vec 0 (intsD ([] : List Int))] ?_ (fun hS9 => ?_)
  ·refine AU_all [0, 10] (by kernel_rfl) rfl (allc ?_ (allc ?_ (fun _ h => nomatch h)))
   ·refine US_of 0 rfl rfl ?_
    refine AOps_q 9 _ rfl rfl rfl (QOp_loadN_pv _ _ _ _ _ _ rfl Tryz.isAgg34 Tryz.sizeOf34 rfl (colD_all _) (colD_length _)) ?_
    refine AOps_nil ?_
    exact AU_to (by kernel_rfl) hS5 (Weak_keep 0 hm [8, 9, 10, 12, 17, 18, 20] [0] _ _ rfl rfl rfl)
   refine US_of 10 rfl rfl ?_
   refine AOps_buildSlice 19 _ _ _ [] (rowsD ([] : List (List Int))) _ rfl rfl rfl rfl rfl (by decide) Tryz.underlying90 Tryz.sizeOf27 (zero_of Tryz.typeInfo27 rfl) rfl rfl (rowsD_one _) ?_
   refine AOps_nil ?_
   exact AU_to (by kernel_rfl) hS7 (Weak_keep 0 hm [4, 8, 10, 12, 17, 18, 19, 20] [0, 1] _ _ rfl rfl rfl)
  refine AU_cut 5 #[false, true, false, false, true, true, true, true, true, true, true, true, false, false] [(4, .d (.pv (colD p0) 0)), (8, .d (.sl (some true) [])), (10, iV p1), (17, iV (w64 ((bShl .i64 1 (IntKind.u64.wrap p0.p)) - 1))), (18, iV p2), (19, .vec 0 0), (20, iV p3)] [.vec 0 (rowsD ([] : List (List Int)))] ?_ (fun hS10 => ?_)
  ·refine AU_all [0, 3] (by kernel_rfl) rfl (allc ?_ (allc ?_ (fun _ h => nomatch h)))
   ·refine US_of 0 rfl rfl ?_
    refine AOps_q 9 _ rfl rfl rfl (QOp_loadN_pv _ _ _ _ _ _ rfl Tryz.isAgg34 Tryz.sizeOf34 rfl (colD_all _) (colD_length _)) ?_
    refine AOps_nil ?_
    exact AU_to (by kernel_rfl) hS6 (Weak_keep 0 hm [8, 9, 10, 17, 18, 19, 20] [0] _ _ rfl rfl rfl)
   refine US_of 3 rfl rfl ?_
   refine AOps_buildSlice 12 _ _ _ [] (intsD ([] : List Int)) _ rfl rfl rfl rfl rfl (by decide) Tryz.underlying27 Tryz.sizeOf2 (zero_of Tryz.typeInfo2 rfl) rfl rfl (intsD_one _) ?_
   refine AOps_nil ?_
   exact AU_to (by kernel_rfl) hS7 (Weak_keep 0 hm [4, 8, 10, 12, 17, 18, 19, 20] [1, 0] _ _ rfl rfl rfl)
  refine AU_cut 6 #[true, true, true, true, true, false, false, false, false, true, true, true, false, false] [(8, .d (.sl (some true) [])), (11, .vec 0 0), (12, .vec 1 0), (13, .d (.pv (colD p0) 0)), (18, iV p2), (19, .vec 2 0), (20, iV p3)] [.vec 0 (intsD r1), .vec 0 (intsD ([] : List Int)), .vec 0 (rowsD ([] : List (List Int)))] ?_ (fun hS11 => ?_)
  ·refine AU_one 5 (by kernel_rfl) rfl rfl ?_
   refine AOps_q 14 _ rfl rfl rfl (QOp_load_pv _ _ _ _ _ rfl Tryz.isAgg2 rfl rfl) ?_
   refine AOps_nil ?_
   refine AU_u 6 15 _ rfl (by kernel_rfl) rfl rfl rfl (UOp_conv _ _ _ _ _ _ rfl rfl Tryz.underlying73 rfl) ?_
   refine AU_u 7 16 _ rfl (by kernel_rfl) rfl rfl rfl (UOp_shl _ _ _ _ _ _ _ _ hc2 rfl rfl rfl) ?_
   refine AU_u 8 17 _ rfl (by kernel_rfl) rfl rfl rfl (UOp_sub _ _ _ _ _ _ _ rfl rfl rfl) ?_
   exact AU_to (by kernel_rfl) hS0 (Weak_keep 0 hm [8, 11, 12, 17, 18, 19, 20] [0, 1, 2] _ _ rfl rfl rfl)
  refine AU_cut 7 #[true, true, true, true, true, false, false, false, false, true, false, true, false, false] [(8, .d (.sl (some true) [])), (11, .vec 0 0), (12, .vec 1 0), (13, .d (.pv (colD p0) 0)), (18, iV p2), (20, iV p3)] [.vec 0 (intsD r1), .vec 0 (intsD ([] : List Int))] ?_ (fun hS12 => ?_)
  ·refine AU_all [5, 10] (by kernel_rfl) rfl (allc ?_ (allc ?_ (fun _ h => nomatch h)))
   ·refine US_of 5 rfl rfl ?_
    refine AOps_q 14 _ rfl rfl rfl (QOp_load_pv _ _ _ _ _ rfl Tryz.isAgg2 rfl rfl) ?_
    refine AOps_nil ?_
    refine AU_u 6 15 _ rfl (by kernel_rfl) rfl rfl rfl (UOp_conv _ _ _ _ _ _ rfl rfl Tryz.underlying73 rfl) ?_
    refine AU_u 7 16 _ rfl (by kernel_rfl) rfl rfl rfl (UOp_shl _ _ _ _ _ _ _ _ hc2 rfl rfl rfl) ?_
    refine AU_u 8 17 _ rfl (by kernel_rfl) rfl rfl rfl (UOp_sub _ _ _ _ _ _ _ rfl rfl rfl) ?_
    exact AU_to (by kernel_rfl) hS1 (Weak_keep 0 hm [8, 11, 12, 17, 18, 20] [0, 1] _ _ rfl rfl rfl)
   refine US_of 10 rfl rfl ?_
   refine AOps_buildSlice 19 _ _ _ [] (rowsD ([] : List (List Int))) _ rfl rfl rfl rfl rfl (by decide) Tryz.underlying90 Tryz.sizeOf27 (zero_of Tryz.typeInfo27 rfl) rfl rfl (rowsD_one _) ?_
   refine AOps_nil ?_
   exact AU_to (by kernel_rfl) hS11 (Weak_keep 0 hm [8, 11, 12, 13, 18, 19, 20] [0, 1, 2] _ _ rfl rfl rfl)
  refine AU_cut 7 #[true, true, true, false, true, false, false, false, false, true, true, true, false, false] [(8, .d (.sl (some true) [])), (11, .vec 0 0), (13, .d (.pv (colD p0) 0)), (18, iV p2), (19, .vec 1 0), (20, iV p3)] [.vec 0 (intsD r1), .vec 0 (rowsD ([] : List (List Int)))] ?_ (fun hS13 => ?_)
  ·refine AU_all [3, 5] (by kernel_rfl) rfl (allc ?_ (allc ?_ (fun _ h => nomatch h)))
   ·refine US_of 3 rfl rfl ?_
    refine AOps_buildSlice 12 _ _ _ [] (intsD ([] : List Int)) _ rfl rfl rfl rfl rfl (by decide) Tryz.underlying27 Tryz.sizeOf2 (zero_of Tryz.typeInfo2 rfl) rfl rfl (intsD_one _) ?_
    refine AOps_nil ?_
    exact AU_to (by kernel_rfl) hS11 (Weak_keep 0 hm [8, 11, 12, 13, 18, 19, 20] [0, 2, 1] _ _ rfl rfl rfl)
   refine US_of 5 rfl rfl ?_
   refine AOps_q 14 _ rfl rfl rfl (QOp_load_pv _ _ _ _ _ rfl Tryz.isAgg2 rfl rfl) ?_
   refine AOps_nil ?_
   refine AU_u 6 15 _ rfl (by kernel_rfl) rfl rfl rfl (UOp_conv _ _ _ _ _ _ rfl rfl Tryz.underlying73 rfl) ?_
   refine AU_u 7 16 _ rfl (by kernel_rfl) rfl rfl rfl (UOp_shl _ _ _ _ _ _ _ _ hc2 rfl rfl rfl) ?_
   refine AU_u 8 17 _ rfl (by kernel_rfl) rfl rfl rfl (UOp_sub _ _ _ _ _ _ _ rfl rfl rfl) ?_
   exact AU_to (by kernel_rfl) hS2 (Weak_keep 0 hm [8, 11, 17, 18, 19, 20] [0, 1] _ _ rfl rfl rfl)
  refine AU_cut 7 #[true, true, false, true, true, false, false, false, false, true, true, true, false, false] [(8, .d (.sl (some true) [])), (9, .d (.agg (colD p0))), (10, iV p1), (12, .vec 0 0), (13, .d (.pv (colD p0) 0)), (18, iV p2), (19, .vec 1 0), (20, iV p3)] [.vec 0 (intsD ([] : List Int)), .vec 0 (rowsD ([] : List (List Int)))] ?_ (fun hS14 => ?_)
  ·refine AU_all [2, 5] (by kernel_rfl) rfl (allc ?_ (allc ?_ (fun _ h => nomatch h)))
   ·refine US_of 2 rfl rfl ?_
    refine kC [] 11 (.vec 2 0) [.vec 0 (intsD ([] : List Int)), .vec 0 (rowsD ([] : List (List Int))), .vec 0 (intsD r1)] rfl Tryz.call144 rfl rfl (spec_l02Rows_ac k p0 p1 _ hr1) rfl ?_
    refine AOps_nil ?_
    exact AU_to (by kernel_rfl) hS11 (Weak_keep 0 hm [8, 11, 12, 13, 18, 19, 20] [2, 0, 1] _ _ rfl rfl rfl)
   refine US_of 5 rfl rfl ?_
   refine AOps_q 14 _ rfl rfl rfl (QOp_load_pv _ _ _ _ _ rfl Tryz.isAgg2 rfl rfl) ?_
   refine AOps_nil ?_
   refine AU_u 6 15 _ rfl (by kernel_rfl) rfl rfl rfl (UOp_conv _ _ _ _ _ _ rfl rfl Tryz.underlying73 rfl) ?_
   refine AU_u 7 16 _ rfl (by kernel_rfl) rfl rfl rfl (UOp_shl _ _ _ _ _ _ _ _ hc2 rfl rfl rfl) ?_
   refine AU_u 8 17 _ rfl (by kernel_rfl) rfl rfl rfl (UOp_sub _ _ _ _ _ _ _ rfl rfl rfl) ?_
   exact AU_to (by kernel_rfl) hS3 (Weak_keep 0 hm [8, 9, 10, 12, 17, 18, 19, 20] [0, 1] _ _ rfl rfl rfl)
  refine AU_cut 8 #[true, true, false, true, true, false, false, false, false, true, false, true, false, false] [(8, .d (.sl (some true) [])), (9, .d (.agg (colD p0))), (10, iV p1), (12, .vec 0 0), (13, .d (.pv (colD p0) 0)), (18, iV p2), (20, iV p3)] [.vec 0 (intsD ([] : List Int))] ?_ (fun hS15 => ?_)
  ·refine AU_all [2, 5, 10] (by kernel_rfl) rfl (allc ?_ (allc ?_ (allc ?_ (fun _ h => nomatch h))))
   ·refine US_of 2 rfl rfl ?_
    refine kC [] 11 (.vec 1 0) [.vec 0 (intsD ([] : List Int)), .vec 0 (intsD r1)] rfl Tryz.call144 rfl rfl (spec_l02Rows_ac k p0 p1 _ hr1) rfl ?_
    refine AOps_nil ?_
    exact AU_to (by kernel_rfl) hS12 (Weak_keep 0 hm [8, 11, 12, 13, 18, 20] [1, 0] _ _ rfl rfl rfl)
   ·refine US_of 5 rfl rfl ?_
    refine AOps_q 14 _ rfl rfl rfl (QOp_load_pv _ _ _ _ _ rfl Tryz.isAgg2 rfl rfl) ?_
    refine AOps_nil ?_
    refine AU_u 6 15 _ rfl (by kernel_rfl) rfl rfl rfl (UOp_conv _ _ _ _ _ _ rfl rfl Tryz.underlying73 rfl) ?_
    refine AU_u 7 16 _ rfl (by kernel_rfl) rfl rfl rfl (UOp_shl _ _ _ _ _ _ _ _ hc2 rfl rfl rfl) ?_
    refine AU_u 8 17 _ rfl (by kernel_rfl) rfl rfl rfl (UOp_sub _ _ _ _ _ _ _ rfl rfl rfl) ?_
    exact AU_to (by kernel_rfl) hS5 (Weak_keep 0 hm [8, 9, 10, 12, 17, 18, 20] [0] _ _ rfl rfl rfl)
   refine US_of 10 rfl rfl ?_
   refine AOps_buildSlice 19 _ _ _ [] (rowsD ([] : List (List Int))) _ rfl rfl rfl rfl rfl (by decide) Tryz.underlying90 Tryz.sizeOf27 (zero_of Tryz.typeInfo27 rfl) rfl rfl (rowsD_one _) ?_
   refine AOps_nil ?_
   exact AU_to (by kernel_rfl) hS14 (Weak_keep 0 hm [8, 9, 10, 12, 13, 18, 19, 20] [0, 1] _ _ rfl rfl rfl)
  refine AU_cut 8 #[true, true, false, false, true, false, false, false, false, true, true, true, false, false] [(8, .d (.sl (some true) [])), (9, .d (.agg (colD p0))), (10, iV p1), (13, .d (.pv (colD p0) 0)), (18, iV p2), (19, .vec 0 0), (20, iV p3)] [.vec 0 (rowsD ([] : List (List Int)))] ?_ (fun hS16 => ?_)
  ·refine AU_all [2, 3, 5] (by kernel_rfl) rfl (allc ?_ (allc ?_ (allc ?_ (fun _ h => nomatch h))))
   ·refine US_of 2 rfl rfl ?_
    refine kC [] 11 (.vec 1 0) [.vec 0 (rowsD ([] : List (List Int))), .vec 0 (intsD r1)] rfl Tryz.call144 rfl rfl (spec_l02Rows_ac k p0 p1 _ hr1) rfl ?_
    refine AOps_nil ?_
    exact AU_to (by kernel_rfl) hS13 (Weak_keep 0 hm [8, 11, 13, 18, 19, 20] [1, 0] _ _ rfl rfl rfl)
   ·refine US_of 3 rfl rfl ?_
    refine AOps_buildSlice 12 _ _ _ [] (intsD ([] : List Int)) _ rfl rfl rfl rfl rfl (by decide) Tryz.underlying27 Tryz.sizeOf2 (zero_of Tryz.typeInfo2 rfl) rfl rfl (intsD_one _) ?_
    refine AOps_nil ?_
    exact AU_to (by kernel_rfl) hS14 (Weak_keep 0 hm [8, 9, 10, 12, 13, 18, 19, 20] [1, 0] _ _ rfl rfl rfl)
   refine US_of 5 rfl rfl ?_
   refine AOps_q 14 _ rfl rfl rfl (QOp_load_pv _ _ _ _ _ rfl Tryz.isAgg2 rfl rfl) ?_
   refine AOps_nil ?_
   refine AU_u 6 15 _ rfl (by kernel_rfl) rfl rfl rfl (UOp_conv _ _ _ _ _ _ rfl rfl Tryz.underlying73 rfl) ?_
   refine AU_u 7 16 _ rfl (by kernel_rfl) rfl rfl rfl (UOp_shl _ _ _ _ _ _ _ _ hc2 rfl rfl rfl) ?_
   refine AU_u 8 17 _ rfl (by kernel_rfl) rfl rfl rfl (UOp_sub _ _ _ _ _ _ _ rfl rfl rfl) ?_
   exact AU_to (by kernel_rfl) hS6 (Weak_keep 0 hm [8, 9, 10, 17, 18, 19, 20] [0] _ _ rfl rfl rfl)
  refine AU_cut 8 #[false, true, false, true, true, false, false, false, false, true, true, true, false, false] [(4, .d (.pv (colD p0) 0)), (8, .d (.sl (some true) [])), (10, iV p1), (12, .vec 0 0), (13, .d (.pv (colD p0) 0)), (18, iV p2), (19, .vec 1 0), (20, iV p3)] [.vec 0 (intsD ([] : List Int)), .vec 0 (rowsD ([] : List (List Int)))] ?_ (fun hS17 => ?_)
  ·refine AU_all [0, 5] (by kernel_rfl) rfl (allc ?_ (allc ?_ (fun _ h => nomatch h)))
   ·refine US_of 0 rfl rfl ?_
    refine AOps_q 9 _ rfl rfl rfl (QOp_loadN_pv _ _ _ _ _ _ rfl Tryz.isAgg34 Tryz.sizeOf34 rfl (colD_all _) (colD_length _)) ?_
    refine AOps_nil ?_
    exact AU_to (by kernel_rfl) hS14 (Weak_keep 0 hm [8, 9, 10, 12, 13, 18, 19, 20] [0, 1] _ _ rfl rfl rfl)
   refine US_of 5 rfl rfl ?_
   refine AOps_q 14 _ rfl rfl rfl (QOp_load_pv _ _ _ _ _ rfl Tryz.isAgg2 rfl rfl) ?_
   refine AOps_nil ?_
   refine AU_u 6 15 _ rfl (by kernel_rfl) rfl rfl rfl (UOp_conv _ _ _ _ _ _ rfl rfl Tryz.underlying73 rfl) ?_
   refine AU_u 7 16 _ rfl (by kernel_rfl) rfl rfl rfl (UOp_shl _ _ _ _ _ _ _ _ hc2 rfl rfl rfl) ?_
   refine AU_u 8 17 _ rfl (by kernel_rfl) rfl rfl rfl (UOp_sub _ _ _ _ _ _ _ rfl rfl rfl) ?_
   exact AU_to (by kernel_rfl) hS7 (Weak_keep 0 hm [4, 8, 10, 12, 17, 18, 19, 20] [0, 1] _ _ rfl rfl rfl)
  refine AU_u 1 10 _ rfl (by kernel_rfl) rfl rfl rfl (UOp_move _ _ rfl rfl) ?_
  refine AU_u 4 13 _ rfl (by kernel_rfl) rfl rfl rfl (UOp_fieldAddr_pv _ _ _ _ _ 0 _ _ rfl Tryz.underlying34 rfl _ Tryz.sizeOf2 rfl rfl) ?_
  refine AU_u 9 18 _ rfl (by kernel_rfl) rfl rfl rfl (UOp_move _ _ rfl rfl) ?_
  refine AU_u 11 20 _ rfl (by kernel_rfl) rfl rfl rfl (UOp_move _ _ rfl rfl) ?_
  refine AU_all [0, 3, 5, 10] (by kernel_rfl) rfl (allc ?_ (allc ?_ (allc ?_ (allc ?_ (fun _ h => nomatch h)))))
  ·refine US_of 0 rfl rfl ?_
   refine AOps_q 9 _ rfl rfl rfl (QOp_loadN_pv _ _ _ _ _ _ rfl Tryz.isAgg34 Tryz.sizeOf34 rfl (colD_all _) (colD_length _)) ?_
   refine AOps_nil ?_
   refine AU_all [2, 3, 5, 10] (by kernel_rfl) rfl (allc ?_ (allc ?_ (allc ?_ (allc ?_ (fun _ h => nomatch h)))))
   ·refine US_of 2 rfl rfl ?_
    refine kC [] 11 (.vec 0 0) [.vec 0 (intsD r1)] rfl Tryz.call144 rfl rfl (spec_l02Rows_ac k p0 p1 _ hr1) rfl ?_
    refine AOps_nil ?_
    refine AU_all [3, 5, 10] (by kernel_rfl) rfl (allc ?_ (allc ?_ (allc ?_ (fun _ h => nomatch h))))
    ·refine US_of 3 rfl rfl ?_
     refine AOps_buildSlice 12 _ _ _ [] (intsD ([] : List Int)) _ rfl rfl rfl rfl rfl (by decide) Tryz.underlying27 Tryz.sizeOf2 (zero_of Tryz.typeInfo2 rfl) rfl rfl (intsD_one _) ?_
     refine AOps_nil ?_
     exact AU_to (by kernel_rfl) hS12 (Weak_keep 0 hm [8, 11, 12, 13, 18, 20] [0, 1] _ _ rfl rfl rfl)
    ·refine US_of 5 rfl rfl ?_
     refine AOps_q 14 _ rfl rfl rfl (QOp_load_pv _ _ _ _ _ rfl Tryz.isAgg2 rfl rfl) ?_
     refine AOps_nil ?_
     refine AU_u 6 15 _ rfl (by kernel_rfl) rfl rfl rfl (UOp_conv _ _ _ _ _ _ rfl rfl Tryz.underlying73 rfl) ?_
     refine AU_u 7 16 _ rfl (by kernel_rfl) rfl rfl rfl (UOp_shl _ _ _ _ _ _ _ _ hc2 rfl rfl rfl) ?_
     refine AU_u 8 17 _ rfl (by kernel_rfl) rfl rfl rfl (UOp_sub _ _ _ _ _ _ _ rfl rfl rfl) ?_
     exact AU_to (by kernel_rfl) hS4 (Weak_keep 0 hm [8, 11, 17, 18, 20] [0] _ _ rfl rfl rfl)
    refine US_of 10 rfl rfl ?_
    refine AOps_buildSlice 19 _ _ _ [] (rowsD ([] : List (List Int))) _ rfl rfl rfl rfl rfl (by decide) Tryz.underlying90 Tryz.sizeOf27 (zero_of Tryz.typeInfo27 rfl) rfl rfl (rowsD_one _) ?_
    refine AOps_nil ?_
    exact AU_to (by kernel_rfl) hS13 (Weak_keep 0 hm [8, 11, 13, 18, 19, 20] [0, 1] _ _ rfl rfl rfl)
   ·refine US_of 3 rfl rfl ?_
    refine AOps_buildSlice 12 _ _ _ [] (intsD ([] : List Int)) _ rfl rfl rfl rfl rfl (by decide) Tryz.underlying27 Tryz.sizeOf2 (zero_of Tryz.typeInfo2 rfl) rfl rfl (intsD_one _) ?_
    refine AOps_nil ?_
    exact AU_to (by kernel_rfl) hS15 (Weak_keep 0 hm [8, 9, 10, 12, 13, 18, 20] [0] _ _ rfl rfl rfl)
   ·refine US_of 5 rfl rfl ?_
    refine AOps_q 14 _ rfl rfl rfl (QOp_load_pv _ _ _ _ _ rfl Tryz.isAgg2 rfl rfl) ?_
    refine AOps_nil ?_
    refine AU_u 6 15 _ rfl (by kernel_rfl) rfl rfl rfl (UOp_conv _ _ _ _ _ _ rfl rfl Tryz.underlying73 rfl) ?_
    refine AU_u 7 16 _ rfl (by kernel_rfl) rfl rfl rfl (UOp_shl _ _ _ _ _ _ _ _ hc2 rfl rfl rfl) ?_
    refine AU_u 8 17 _ rfl (by kernel_rfl) rfl rfl rfl (UOp_sub _ _ _ _ _ _ _ rfl rfl rfl) ?_
    exact AU_to (by kernel_rfl) hS8 (Weak_keep 0 hm [8, 9, 10, 17, 18, 20] [] _ _ rfl rfl rfl)
   refine US_of 10 rfl rfl ?_
   refine AOps_buildSlice 19 _ _ _ [] (rowsD ([] : List (List Int))) _ rfl rfl rfl rfl rfl (by decide) Tryz.underlying90 Tryz.sizeOf27 (zero_of Tryz.typeInfo27 rfl) rfl rfl (rowsD_one _) ?_
   refine AOps_nil ?_
   exact AU_to (by kernel_rfl) hS16 (Weak_keep 0 hm [8, 9, 10, 13, 18, 19, 20] [0] _ _ rfl rfl rfl)
  ·refine US_of 3 rfl rfl ?_
   refine AOps_buildSlice 12 _ _ _ [] (intsD ([] : List Int)) _ rfl rfl rfl rfl rfl (by decide) Tryz.underlying27 Tryz.sizeOf2 (zero_of Tryz.typeInfo2 rfl) rfl rfl (intsD_one _) ?_
   refine AOps_nil ?_
   refine AU_all [0, 5, 10] (by kernel_rfl) rfl (allc ?_ (allc ?_ (allc ?_ (fun _ h => nomatch h))))
   ·refine US_of 0 rfl rfl ?_
    refine AOps_q 9 _ rfl rfl rfl (QOp_loadN_pv _ _ _ _ _ _ rfl Tryz.isAgg34 Tryz.sizeOf34 rfl (colD_all _) (colD_length _)) ?_
    refine AOps_nil ?_
    exact AU_to (by kernel_rfl) hS15 (Weak_keep 0 hm [8, 9, 10, 12, 13, 18, 20] [0] _ _ rfl rfl rfl)
   ·refine US_of 5 rfl rfl ?_
    refine AOps_q 14 _ rfl rfl rfl (QOp_load_pv _ _ _ _ _ rfl Tryz.isAgg2 rfl rfl) ?_
    refine AOps_nil ?_
    refine AU_u 6 15 _ rfl (by kernel_rfl) rfl rfl rfl (UOp_conv _ _ _ _ _ _ rfl rfl Tryz.underlying73 rfl) ?_
    refine AU_u 7 16 _ rfl (by kernel_rfl) rfl rfl rfl (UOp_shl _ _ _ _ _ _ _ _ hc2 rfl rfl rfl) ?_
    refine AU_u 8 17 _ rfl (by kernel_rfl) rfl rfl rfl (UOp_sub _ _ _ _ _ _ _ rfl rfl rfl) ?_
    exact AU_to (by kernel_rfl) hS9 (Weak_keep 0 hm [4, 8, 10, 12, 17, 18, 20] [0] _ _ rfl rfl rfl)
   refine US_of 10 rfl rfl ?_
   refine AOps_buildSlice 19 _ _ _ [] (rowsD ([] : List (List Int))) _ rfl rfl rfl rfl rfl (by decide) Tryz.underlying90 Tryz.sizeOf27 (zero_of Tryz.typeInfo27 rfl) rfl rfl (rowsD_one _) ?_
   refine AOps_nil ?_
   exact AU_to (by kernel_rfl) hS17 (Weak_keep 0 hm [4, 8, 10, 12, 13, 18, 19, 20] [0, 1] _ _ rfl rfl rfl)
  ·refine US_of 5 rfl rfl ?_
   refine AOps_q 14 _ rfl rfl rfl (QOp_load_pv _ _ _ _ _ rfl Tryz.isAgg2 rfl rfl) ?_
   refine AOps_nil ?_
   refine AU_u 6 15 _ rfl (by kernel_rfl) rfl rfl rfl (UOp_conv _ _ _ _ _ _ rfl rfl Tryz.underlying73 rfl) ?_
   refine AU_u 7 16 _ rfl (by kernel_rfl) rfl rfl rfl (UOp_shl _ _ _ _ _ _ _ _ hc2 rfl rfl rfl) ?_
   refine AU_u 8 17 _ rfl (by kernel_rfl) rfl rfl rfl (UOp_sub _ _ _ _ _ _ _ rfl rfl rfl) ?_
   refine AU_all [0, 3, 10] (by kernel_rfl) rfl (allc ?_ (allc ?_ (allc ?_ (fun _ h => nomatch h))))
   ·refine US_of 0 rfl rfl ?_
    refine AOps_q 9 _ rfl rfl rfl (QOp_loadN_pv _ _ _ _ _ _ rfl Tryz.isAgg34 Tryz.sizeOf34 rfl (colD_all _) (colD_length _)) ?_
    refine AOps_nil ?_
    exact AU_to (by kernel_rfl) hS8 (Weak_keep 0 hm [8, 9, 10, 17, 18, 20] [] _ _ rfl rfl rfl)
   ·refine US_of 3 rfl rfl ?_
    refine AOps_buildSlice 12 _ _ _ [] (intsD ([] : List Int)) _ rfl rfl rfl rfl rfl (by decide) Tryz.underlying27 Tryz.sizeOf2 (zero_of Tryz.typeInfo2 rfl) rfl rfl (intsD_one _) ?_
    refine AOps_nil ?_
    exact AU_to (by kernel_rfl) hS9 (Weak_keep 0 hm [4, 8, 10, 12, 17, 18, 20] [0] _ _ rfl rfl rfl)
   refine US_of 10 rfl rfl ?_
   refine AOps_buildSlice 19 _ _ _ [] (rowsD ([] : List (List Int))) _ rfl rfl rfl rfl rfl (by decide) Tryz.underlying90 Tryz.sizeOf27 (zero_of Tryz.typeInfo27 rfl) rfl rfl (rowsD_one _) ?_
   refine AOps_nil ?_
   exact AU_to (by kernel_rfl) hS10 (Weak_keep 0 hm [4, 8, 10, 17, 18, 19, 20] [0] _ _ rfl rfl rfl)
  refine US_of 10 rfl rfl ?_
  refine AOps_buildSlice 19 _ _ _ [] (rowsD ([] : List (List Int))) _ rfl rfl rfl rfl rfl (by decide) Tryz.underlying90 Tryz.sizeOf27 (zero_of Tryz.typeInfo27 rfl) rfl rfl (rowsD_one _) ?_
  refine AOps_nil ?_
  refine AU_all [0, 3, 5] (by kernel_rfl) rfl (allc ?_ (allc ?_ (allc ?_ (fun _ h => nomatch h))))
  ·refine US_of 0 rfl rfl ?_
   refine AOps_q 9 _ rfl rfl rfl (QOp_loadN_pv _ _ _ _ _ _ rfl Tryz.isAgg34 Tryz.sizeOf34 rfl (colD_all _) (colD_length _)) ?_
   refine AOps_nil ?_
   exact AU_to (by kernel_rfl) hS16 (Weak_keep 0 hm [8, 9, 10, 13, 18, 19, 20] [0] _ _ rfl rfl rfl)
  ·refine US_of 3 rfl rfl ?_
   refine AOps_buildSlice 12 _ _ _ [] (intsD ([] : List Int)) _ rfl rfl rfl rfl rfl (by decide) Tryz.underlying27 Tryz.sizeOf2 (zero_of Tryz.typeInfo2 rfl) rfl rfl (intsD_one _) ?_
   refine AOps_nil ?_
   exact AU_to (by kernel_rfl) hS17 (Weak_keep 0 hm [4, 8, 10, 12, 13, 18, 19, 20] [1, 0] _ _ rfl rfl rfl)
  refine US_of 5 rfl rfl ?_
  refine AOps_q 14 _ rfl rfl rfl (QOp_load_pv _ _ _ _ _ rfl Tryz.isAgg2 rfl rfl) ?_
  refine AOps_nil ?_
  refine AU_u 6 15 _ rfl (by kernel_rfl) rfl rfl rfl (UOp_conv _ _ _ _ _ _ rfl rfl Tryz.underlying73 rfl) ?_
  refine AU_u 7 16 _ rfl (by kernel_rfl) rfl rfl rfl (UOp_shl _ _ _ _ _ _ _ _ hc2 rfl rfl rfl) ?_
  refine AU_u 8 17 _ rfl (by kernel_rfl) rfl rfl rfl (UOp_sub _ _ _ _ _ _ _ rfl rfl rfl) ?_
  exact AU_to (by kernel_rfl) hS10 (Weak_keep 0 hm [4, 8, 10, 17, 18, 19, 20] [0] _ _ rfl rfl rfl)
 refine ACode_ret ?_
 cases h
 exact ⟨_, _, Weak_reset 0 hm hz [8] _ _ rfl rfl, _, _, [0], _, (.cons (ResV_tmp _ _ rfl) .nil), rfl, rfl, rfl, rfl, rfl⟩

-- loop.example/g01362/spec.l02Avoids
def spec_l02Avoids_l0 (k : Nat) (p0 : Col) (p1 : List Int) : Nat → Int → Option (Sum (Unit) (Bool))
 | 0, _ => none
 | k0 + 1, x1 => (if decide (x1 < p0.k) then (if 0 ≤ x1 ∧ x1 < (p1.length : Int) then (spec_l02List k p0 x1 (p1.getD x1.toNat 0) 1).bind fun r4 => (if decide (0 < (r4.length : Int)) then some (.inr false) else spec_l02Avoids_l0 k p0 p1 k0 (w64 (x1 + 1))) else none) else some (.inl ()))
def spec_l02Avoids (k : Nat) (p0 : Col) (p1 : List Int) : Option (Bool) :=
 (spec_l02Avoids_l0 k p0 p1 k 0 : Option (Sum (Unit) (Bool))).bind fun os6 => (match os6 with | .inl s6 => some true | .inr rr => some rr)
set_option maxRecDepth 100000 in
theorem spec_l02Avoids_ac (k : Nat) (p0 : Col) (p1 : List Int) (r : Bool) (h : spec_l02Avoids k p0 p1 = some r) : AC Tryz.prog 87 [.d (.agg (colD p0)), .d (.sl none (intsD p1))] [] (fun res H' => res = [bV r] ∧ H' = []) := by
 refine AC_of_body true Tryz.func87 rfl Tryz.ntmps87 (rvs := [.tmp 4]) rfl rfl (fun G hG => ?_)
 have hm : G.H.length = 0 := by rw [hG]; rfl
 have hz : zeroG G.H = true := by rw [hG]; rfl
 unfold spec_l02Avoids at h
 refine kR ?_
 refine AOps_boxI 2 _ _ (.agg (colD p0)) (colD p0) rfl (colD_one _) rfl rfl rfl rfl rfl ?_
 refine kN 1 rfl ?_
 refine kO (fun s6 => []) (fun s6 => []) h (fun os6 h hks6 => ?_) (fun s6 h => ?_)
 ·refine kR ?_
  refine kN 1 rfl ?_
  refine ACode_block ?_
  refine ACode_loopW (fun k0 E H => ∃ (x1 : Int), E = [(1, .d (.sl none (intsD p1))), (2, .d (.pv (colD p0) 0)), (5, iV x1)] ∧ H = [] ∧ spec_l02Avoids_l0 k p0 p1 k0 x1 = some os6) k _ _ (Weak_keep 0 hm [1, 2, 5] [] _ _ rfl rfl rfl) ⟨_, rfl, rfl, h⟩ ?_
  clear h
  rintro k0 E H ⟨x1, rfl, rfl, h⟩
  cases k0 with
  | zero => cases (show (none : Option (Sum (Unit) (Bool))) = some _ from h)
  | succ k0 =>
   rw [spec_l02Avoids_l0] at h
   refine ACode_seq ?_
   refine kR ?_
   refine kM 1 rfl ?_
   refine AOps_q 7 _ rfl rfl rfl (QOp_fieldAddr_pv _ _ _ _ _ 1 _ _ rfl Tryz.underlying34 rfl _ Tryz.sizeOf2 rfl rfl) ?_
   refine AOps_q 8 _ rfl rfl rfl (QOp_load_pv _ _ _ _ _ rfl Tryz.isAgg2 rfl rfl) ?_
   refine AOps_q 9 _ rfl rfl rfl (QOp_lss _ _ _ _ _ _ _ rfl rfl rfl) ?_
   refine AOps_nil ?_
   refine kI h rfl (fun h _ => ?_) (fun h _ => ?_)
   ·refine ACode_skip ?_
    refine ACode_seq ?_
    refine ACode_block ?_
    obtain ⟨hc3, h⟩ := guardO h
    obtain ⟨r4, hr4, h⟩ := bindO h
    refine ACode_seqJ (fun E' H' => Weak 21 G E' H' [(1, .d (.sl none (intsD p1))), (2, .d (.pv (colD p0) 0)), (5, iV x1), (20, bV (decide (0 < (r4.length : Int))))] []) ?_ ?_
    ·refine ACode_any mixed ?_
     refine AAny_q 0 12 _ rfl (by kernel_rfl) rfl rfl rfl (QOp_loadN_pv _ _ _ _ _ _ rfl Tryz.isAgg34 Tryz.sizeOf34 rfl (colD_all _) (colD_length _)) ?_
     refine AAny_q 1 13 _ rfl (by kernel_rfl) rfl rfl rfl (QOp_move _ _ rfl rfl) ?_
     refine AAny_q 2 14 _ rfl (by kernel_rfl) rfl rfl rfl (QOp_move _ _ rfl rfl) ?_
     refine AAny_q 3 15 _ rfl (by kernel_rfl) rfl rfl rfl (QOp_move _ _ rfl rfl) ?_
     refine AAny_q 4 16 _ rfl (by kernel_rfl) rfl rfl rfl (QOp_indexAddr_sl _ _ _ _ _ _ _ _ rfl Tryz.underlying27 Tryz.sizeOf2 hc3.1 (by rw [intsD_length]; exact hc3.2) rfl rfl) ?_
     refine AAny_q 5 17 _ rfl (by kernel_rfl) rfl rfl rfl (QOp_load_pv _ _ _ _ _ rfl Tryz.isAgg2 rfl (intsD_get _ _ 0 (by omega))) ?_
     refine AAny_all [6] (by kernel_rfl) rfl (allc ?_ (fun _ h => nomatch h))
     refine AStep_callN 6 18 _ _ _ _ _ _ _ _ _ rfl rfl rfl rfl rfl rfl rfl rfl Tryz.call89 rfl rfl rfl (spec_l02List_ac k p0 x1 (p1.getD x1.toNat 0) 1 _ hr4) ?_
     rintro _ _ ⟨rfl, rfl⟩
     refine ⟨(allc (fun _ _ => trivial) (fun _ h => nomatch h)), (allc (trivial) (fun _ h => nomatch h)), AAny_as 18 (v' := .vec 0 0) (H' := [.vec 0 (rowsD r4)]) rfl rfl ?_⟩
     refine AAny_q 7 19 _ rfl (by kernel_rfl) rfl rfl rfl (QOp_len_vec _ _ _ _ _ _ _ _ (rowsD_length _) rfl rfl rfl rfl Tryz.underlying90 rfl rfl) ?_
     refine AAny_q 8 20 _ rfl (by kernel_rfl) rfl rfl rfl (QOp_gtr _ _ _ _ _ _ _ rfl rfl rfl) ?_
     refine AAny_done (by kernel_rfl) ?_
     exact Weak_keep 0 hm [1, 2, 5, 20] [] _ _ rfl rfl rfl
    intro E' H' hw
    refine ACode_weak hw ?_
    refine kI h rfl (fun h _ => ?_) (fun h _ => ?_)
    ·refine kR ?_
     refine kN 1 rfl ?_
     refine ACode_ret ?_
     cases h
     have h := hks6
     cases h
     exact ⟨_, _, fun r a w h => ⟨r, h⟩, _, _, [], _, (.cons (ResV_tmp _ _ rfl) .nil), rfl, rfl, rfl, rfl, rfl⟩
    refine ACode_skip ?_
    refine (ACode_region ?_)
    refine kM 1 rfl ?_
    refine AOps_q 11 _ rfl rfl rfl (QOp_add _ _ _ _ _ _ _ rfl rfl rfl) ?_
    refine kN 1 rfl ?_
    exact ⟨k0, _, _, Nat.lt_succ_self _, Weak_keep 0 hm [1, 2, 5] [] _ _ rfl rfl rfl, _, rfl, rfl, h⟩
   refine ACode_exit ?_
   cases h
   exact ⟨_, rfl, Weak_keep 0 hm [] [] _ _ rfl rfl rfl⟩
 refine kR ?_
 refine kN 1 rfl ?_
 refine ACode_ret ?_
 cases h
 exact ⟨_, _, fun r a w h => ⟨r, h⟩, _, _, [], _, (.cons (ResV_tmp _ _ rfl) .nil), rfl, rfl, rfl, rfl, rfl⟩

-- loop.example/g01362/spec.AvoidsSizes
def spec_AvoidsSizes (k : Nat) (p0 : Col) (p1 : List Int) : Option (Bool × Int) :=
 (spec_l02Sizes k p0 p1).bind fun r1 => (if !decide (r1 = 0) then some (false, r1) else (spec_l02Avoids k p0 p1).bind fun r3 => some (r3, 0))
set_option maxRecDepth 100000 in
theorem spec_AvoidsSizes_ac (k : Nat) (p0 : Col) (p1 : List Int) (r : Bool × Int) (h : spec_AvoidsSizes k p0 p1 = some r) : AC Tryz.prog 35 [.d (.agg (colD p0)), .d (.sl none (intsD p1))] [] (fun res H' => res = [bV r.1, iV r.2] ∧ H' = []) := by
 refine AC_of_body true Tryz.func35 rfl Tryz.ntmps35 (rvs := [.tmp 4, .tmp 5]) rfl rfl (fun G hG => ?_)
 have hm : G.H.length = 0 := by rw [hG]; rfl
 have hz : zeroG G.H = true := by rw [hG]; rfl
 unfold spec_AvoidsSizes at h
 refine kR ?_
 refine AOps_boxI 2 _ _ (.agg (colD p0)) (colD p0) rfl (colD_one _) rfl rfl rfl rfl rfl ?_
 refine kN 2 rfl ?_
 refine ACode_seq ?_
 refine kR ?_
 refine AOps_q 7 _ rfl rfl rfl (QOp_loadN_pv _ _ _ _ _ _ rfl Tryz.isAgg34 Tryz.sizeOf34 rfl (colD_all _) (colD_length _)) ?_
 refine kM 1 rfl ?_
 obtain ⟨r1, hr1, h⟩ := bindO h
 refine kC [] 9 (iV r1) [] rfl Tryz.call86 rfl rfl (spec_l02Sizes_ac k p0 p1 _ hr1) rfl ?_
 refine kN 1 rfl ?_
 refine kR ?_
 refine kM 1 rfl ?_
 refine AOps_q 11 _ rfl rfl rfl (QOp_neq _ _ _ _ _ _ _ rfl rfl rfl) ?_
 refine AOps_nil ?_
 refine kI h rfl (fun h _ => ?_) (fun h _ => ?_)
 ·refine kR ?_
  refine kN 3 rfl ?_
  refine ACode_ret ?_
  cases h
  exact ⟨_, _, fun r a w h => ⟨r, h⟩, _, _, [], _, (.cons (ResV_tmp _ _ rfl) (.cons (ResV_tmp _ _ rfl) .nil)), rfl, rfl, rfl, rfl, rfl⟩
 refine ACode_skip ?_
 refine kR ?_
 refine AOps_q 13 _ rfl rfl rfl (QOp_loadN_pv _ _ _ _ _ _ rfl Tryz.isAgg34 Tryz.sizeOf34 rfl (colD_all _) (colD_length _)) ?_
 refine kM 1 rfl ?_
 obtain ⟨r3, hr3, h⟩ := bindO h
 refine kC [] 15 (bV r3) [] rfl Tryz.call87 rfl rfl (spec_l02Avoids_ac k p0 p1 _ hr3) rfl ?_
 refine kN 2 rfl ?_
 refine ACode_ret ?_
 cases h
 exact ⟨_, _, fun r a w h => ⟨r, h⟩, _, _, [], _, (.cons (ResV_tmp _ _ rfl) (.cons (ResV_tmp _ _ rfl) .nil)), rfl, rfl, rfl, rfl, rfl⟩

-- loop.example/g01362/impl.FirstOfSizes
def impl_FirstOfSizes_l0 (k : Nat) (p0 : Col) (p1 : List Int) : Nat → Int → Option (Sum (Unit) (Int × List Int × Int))
 | 0, _ => none
 | k0 + 1, x3 => (if decide (x3 < (p1.length : Int)) then (if 0 ≤ x3 ∧ x3 < (p1.length : Int) then (impl_Colouring_firstOf k p0 x3 (p1.getD x3.toNat 0)).bind fun r6 => (if r6.2 then some (.inr (x3, r6.1, 0)) else impl_FirstOfSizes_l0 k p0 p1 k0 (w64 (x3 + 1))) else none) else some (.inl ()))
def impl_FirstOfSizes (k : Nat) (p0 : Col) (p1 : List Int) : Option (Int × List Int × Int) :=
 (impl_Colouring_sizesCode k p0 p1 (some (impl_always))).bind fun r1 => (if !decide (r1 = 0) then some (0, [], r1) else (impl_FirstOfSizes_l0 k p0 p1 k 0 : Option (Sum (Unit) (Int × List Int × Int))).bind fun os8 => (match os8 with | .inl s8 => some (0, [], 4) | .inr rr => some rr))
set_option maxRecDepth 100000 in
theorem impl_FirstOfSizes_ac (k : Nat) (p0 : Col) (p1 : List Int) (r : Int × List Int × Int) (h : impl_FirstOfSizes k p0 p1 = some r) : AC Tryz.prog 36 [.d (.agg (colD p0)), .d (.sl none (intsD p1))] [] (fun res H' => res = [iV r.1, .d (.sl none (intsD r.2.1)), iV r.2.2] ∧ H' = []) := by
 refine AC_of_body true Tryz.func36 rfl Tryz.ntmps36 (rvs := [.tmp 4, .tmp 5, .tmp 6]) rfl rfl (fun G hG => ?_)
 have hm : G.H.length = 0 := by rw [hG]; rfl
 have hz : zeroG G.H = true := by rw [hG]; rfl
 unfold impl_FirstOfSizes at h
 refine kR ?_
 refine AOps_boxI 2 _ _ (.agg (colD p0)) (colD p0) rfl (colD_one _) rfl rfl rfl rfl rfl ?_
 refine kN 3 rfl ?_
 refine ACode_seq ?_
 refine kR ?_
 refine kM 1 rfl ?_
 obtain ⟨r1, hr1, h⟩ := bindO h
 refine kC [] 13 (iV r1) [] rfl Tryz.call84 rfl rfl (impl_Colouring_sizesCode_ac k p0 p1 (some (impl_always)) 81 ([]) Tryz.call81 (fun r h => by cases h; exact impl_always_ac) _ hr1) rfl ?_
 refine kN 1 rfl ?_
 refine kR ?_
 refine kM 1 rfl ?_
 refine AOps_q 15 _ rfl rfl rfl (QOp_neq _ _ _ _ _ _ _ rfl rfl rfl) ?_
 refine AOps_nil ?_
 refine kI h rfl (fun h _ => ?_) (fun h _ => ?_)
 ·refine kR ?_
  refine kN 4 rfl ?_
  refine ACode_ret ?_
  cases h
  exact ⟨_, _, fun r a w h => ⟨r, h⟩, _, _, [], _, (.cons (ResV_tmp _ _ rfl) (.cons (ResV_tmp _ _ rfl) (.cons (ResV_tmp _ _ rfl) .nil))), rfl, rfl, rfl, rfl, rfl⟩
 refine ACode_skip ?_
 refine kO (fun s8 => []) (fun s8 => []) h (fun os8 h hks8 => ?_) (fun s8 h => ?_)
 ·refine kR ?_
  refine kM 1 rfl ?_
  refine AOps_q 18 _ rfl rfl rfl (QOp_len_sl _ _ _ _ _ _ _ (intsD_length _) rfl rfl rfl rfl Tryz.underlying27 rfl) ?_
  refine kN 1 rfl ?_
  refine ACode_block ?_
  refine ACode_loopW (fun k0 E H => ∃ (x3 : Int), E = [(2, .d (.pv (colD p0) 0)), (17, .d (.sl none (intsD p1))), (18, iV (p1.length : Int)), (19, iV x3)] ∧ H = [] ∧ impl_FirstOfSizes_l0 k p0 p1 k0 x3 = some os8) k _ _ (Weak_keep 0 hm [2, 17, 18, 19] [] _ _ rfl rfl rfl) ⟨_, rfl, rfl, h⟩ ?_
  clear h
  rintro k0 E H ⟨x3, rfl, rfl, h⟩
  cases k0 with
  | zero => cases (show (none : Option (Sum (Unit) (Int × List Int × Int))) = some _ from h)
  | succ k0 =>
   rw [impl_FirstOfSizes_l0] at h
   refine kR ?_
   refine AOps_q 20 _ rfl rfl rfl (QOp_lss _ _ _ _ _ _ _ rfl rfl rfl) ?_
   refine AOps_nil ?_
   refine ACode_seq ?_
   refine kI h rfl (fun h _ => ?_) (fun h _ => ?_)
   ·refine ACode_skip ?_
    refine ACode_seq ?_
    refine ACode_block ?_
    refine kR ?_
    refine kM 1 rfl ?_
    obtain ⟨hc5, h⟩ := guardO h
    refine AOps_q 22 _ rfl rfl rfl (QOp_indexAddr_sl _ _ _ _ _ _ _ _ rfl Tryz.underlying27 Tryz.sizeOf2 hc5.1 (by rw [intsD_length]; exact hc5.2) rfl rfl) ?_
    refine AOps_q 23 _ rfl rfl rfl (QOp_load_pv _ _ _ _ _ rfl Tryz.isAgg2 rfl (intsD_get _ _ 0 (by omega))) ?_
    refine kN 2 rfl ?_
    refine kR ?_
    refine kM 2 rfl ?_
    obtain ⟨r6, hr6, h⟩ := bindO h
    refine kC [] 27 (.tup [.d (.sl none (intsD r6.1)), bV r6.2]) [] rfl Tryz.call88 rfl rfl (impl_Colouring_firstOf_ac k p0 x3 (p1.getD x3.toNat 0) _ hr6) rfl ?_
    refine kN 5 rfl ?_
    refine kR ?_
    refine kN 1 rfl ?_
    refine kI h rfl (fun h _ => ?_) (fun h _ => ?_)
    ·refine kR ?_
     refine kN 5 rfl ?_
     refine ACode_ret ?_
     cases h
     have h := hks8
     cases h
     exact ⟨_, _, fun r a w h => ⟨r, h⟩, _, _, [], _, (.cons (ResV_tmp _ _ rfl) (.cons (ResV_tmp _ _ rfl) (.cons (ResV_tmp _ _ rfl) .nil))), rfl, rfl, rfl, rfl, rfl⟩
    refine ACode_skip ?_
    refine (ACode_region ?_)
    refine AOps_q 33 _ rfl rfl rfl (QOp_add _ _ _ _ _ _ _ rfl rfl rfl) ?_
    refine kN 1 rfl ?_
    exact ⟨k0, _, _, Nat.lt_succ_self _, Weak_keep 0 hm [2, 17, 18, 19] [] _ _ rfl rfl rfl, _, rfl, rfl, h⟩
   refine ACode_exit ?_
   cases h
   exact ⟨_, rfl, Weak_keep 0 hm [] [] _ _ rfl rfl rfl⟩
 refine kR ?_
 refine kN 3 rfl ?_
 refine ACode_ret ?_
 cases h
 exact ⟨_, _, fun r a w h => ⟨r, h⟩, _, _, [], _, (.cons (ResV_tmp _ _ rfl) (.cons (ResV_tmp _ _ rfl) (.cons (ResV_tmp _ _ rfl) .nil))), rfl, rfl, rfl, rfl, rfl⟩

-- loop.example/g01362/spec.FirstOfSizes
def spec_FirstOfSizes_l0 (k : Nat) (p0 : Col) (p1 : List Int) : Nat → Int → Option (Sum (Unit) (Int × List Int × Int))
 | 0, _ => none
 | k0 + 1, x3 => (if decide (x3 < p0.k) then (if 0 ≤ x3 ∧ x3 < (p1.length : Int) then (spec_l02List k p0 x3 (p1.getD x3.toNat 0) 1).bind fun r6 => (if decide (0 < (r6.length : Int)) then (if 0 ≤ (0 : Int) ∧ (0 : Int) < (r6.length : Int) then some (.inr (x3, (r6.getD (0 : Int).toNat []), 0)) else none) else spec_FirstOfSizes_l0 k p0 p1 k0 (w64 (x3 + 1))) else none) else some (.inl ()))
def spec_FirstOfSizes (k : Nat) (p0 : Col) (p1 : List Int) : Option (Int × List Int × Int) :=
 (spec_l02Sizes k p0 p1).bind fun r1 => (if !decide (r1 = 0) then some (0, [], r1) else (spec_FirstOfSizes_l0 k p0 p1 k 0 : Option (Sum (Unit) (Int × List Int × Int))).bind fun os9 => (match os9 with | .inl s9 => some (0, [], 4) | .inr rr => some rr))
set_option maxRecDepth 100000 in
theorem spec_FirstOfSizes_ac (k : Nat) (p0 : Col) (p1 : List Int) (r : Int × List Int × Int) (h : spec_FirstOfSizes k p0 p1 = some r) : AC Tryz.prog 37 [.d (.agg (colD p0)), .d (.sl none (intsD p1))] [] (fun res H' => res = [iV r.1, .d (.sl none (intsD r.2.1)), iV r.2.2] ∧ H' = []) := by
 refine AC_of_body true Tryz.func37 rfl Tryz.ntmps37 (rvs := [.tmp 4, .tmp 5, .tmp 6]) rfl rfl (fun G hG => ?_)
 have hm : G.H.length = 0 := by rw [hG]; rfl
 have hz : zeroG G.H = true := by rw [hG]; rfl
 unfold spec_FirstOfSizes at h
 refine kR ?_
 refine AOps_boxI 2 _ _ (.agg (colD p0)) (colD p0) rfl (colD_one _) rfl rfl rfl rfl rfl ?_
 refine kN 3 rfl ?_
 refine ACode_seq ?_
 refine kR ?_
 refine AOps_q 10 _ rfl rfl rfl (QOp_loadN_pv _ _ _ _ _ _ rfl Tryz.isAgg34 Tryz.sizeOf34 rfl (colD_all _) (colD_length _)) ?_
 refine kM 1 rfl ?_
 obtain ⟨r1, hr1, h⟩ := bindO h
 refine kC [] 12 (iV r1) [] rfl Tryz.call86 rfl rfl (spec_l02Sizes_ac k p0 p1 _ hr1) rfl ?_
 refine kN 1 rfl ?_
 refine kR ?_
 refine kM 1 rfl ?_
 refine AOps_q 14 _ rfl rfl rfl (QOp_neq _ _ _ _ _ _ _ rfl rfl rfl) ?_
 refine AOps_nil ?_
 refine kI h rfl (fun h _ => ?_) (fun h _ => ?_)
 ·refine kR ?_
  refine kN 4 rfl ?_
  refine ACode_ret ?_
  cases h
  exact ⟨_, _, fun r a w h => ⟨r, h⟩, _, _, [], _, (.cons (ResV_tmp _ _ rfl) (.cons (ResV_tmp _ _ rfl) (.cons (ResV_tmp _ _ rfl) .nil))), rfl, rfl, rfl, rfl, rfl⟩
 refine ACode_skip ?_
 refine kO (fun s9 => []) (fun s9 => []) h (fun os9 h hks9 => ?_) (fun s9 h => ?_)
 ·refine kR ?_
  refine kN 1 rfl ?_
  refine ACode_block ?_
  refine ACode_loopW (fun k0 E H => ∃ (x3 : Int), E = [(1, .d (.sl none (intsD p1))), (2, .d (.pv (colD p0) 0)), (8, iV x3)] ∧ H = [] ∧ spec_FirstOfSizes_l0 k p0 p1 k0 x3 = some os9) k _ _ (Weak_keep 0 hm [1, 2, 8] [] _ _ rfl rfl rfl) ⟨_, rfl, rfl, h⟩ ?_
  clear h
  rintro k0 E H ⟨x3, rfl, rfl, h⟩
  cases k0 with
  | zero => cases (show (none : Option (Sum (Unit) (Int × List Int × Int))) = some _ from h)
  | succ k0 =>
   rw [spec_FirstOfSizes_l0] at h
   refine ACode_seq ?_
   refine kR ?_
   refine kM 1 rfl ?_
   refine AOps_q 17 _ rfl rfl rfl (QOp_fieldAddr_pv _ _ _ _ _ 1 _ _ rfl Tryz.underlying34 rfl _ Tryz.sizeOf2 rfl rfl) ?_
   refine AOps_q 18 _ rfl rfl rfl (QOp_load_pv _ _ _ _ _ rfl Tryz.isAgg2 rfl rfl) ?_
   refine AOps_q 19 _ rfl rfl rfl (QOp_lss _ _ _ _ _ _ _ rfl rfl rfl) ?_
   refine AOps_nil ?_
   refine kI h rfl (fun h _ => ?_) (fun h _ => ?_)
   ·refine ACode_skip ?_
    refine ACode_seq ?_
    refine ACode_block ?_
    obtain ⟨hc5, h⟩ := guardO h
    obtain ⟨r6, hr6, h⟩ := bindO h
    refine ACode_seqJ (fun E' H' => Weak 36 G E' H' [(1, .d (.sl none (intsD p1))), (2, .d (.pv (colD p0) 0)), (8, iV x3), (9, .vec 0 0)] [.vec 0 (rowsD r6)]) ?_ ?_
    ·refine ACode_any mixed ?_
     refine AAny_q 0 22 _ rfl (by kernel_rfl) rfl rfl rfl (QOp_loadN_pv _ _ _ _ _ _ rfl Tryz.isAgg34 Tryz.sizeOf34 rfl (colD_all _) (colD_length _)) ?_
     refine AAny_q 1 23 _ rfl (by kernel_rfl) rfl rfl rfl (QOp_move _ _ rfl rfl) ?_
     refine AAny_q 2 24 _ rfl (by kernel_rfl) rfl rfl rfl (QOp_move _ _ rfl rfl) ?_
     refine AAny_q 3 25 _ rfl (by kernel_rfl) rfl rfl rfl (QOp_move _ _ rfl rfl) ?_
     refine AAny_q 4 26 _ rfl (by kernel_rfl) rfl rfl rfl (QOp_indexAddr_sl _ _ _ _ _ _ _ _ rfl Tryz.underlying27 Tryz.sizeOf2 hc5.1 (by rw [intsD_length]; exact hc5.2) rfl rfl) ?_
     refine AAny_q 5 27 _ rfl (by kernel_rfl) rfl rfl rfl (QOp_load_pv _ _ _ _ _ rfl Tryz.isAgg2 rfl (intsD_get _ _ 0 (by omega))) ?_
     refine AAny_all [6] (by kernel_rfl) rfl (allc ?_ (fun _ h => nomatch h))
     refine AStep_callN 6 28 _ _ _ _ _ _ _ _ _ rfl rfl rfl rfl rfl rfl rfl rfl Tryz.call89 rfl rfl rfl (spec_l02List_ac k p0 x3 (p1.getD x3.toNat 0) 1 _ hr6) ?_
     rintro _ _ ⟨rfl, rfl⟩
     refine ⟨(allc (fun _ _ => trivial) (fun _ h => nomatch h)), (allc (trivial) (fun _ h => nomatch h)), AAny_as 28 (v' := .vec 0 0) (H' := [.vec 0 (rowsD r6)]) rfl rfl ?_⟩
     refine AAny_q 7 9 _ rfl (by kernel_rfl) rfl rfl rfl (QOp_assign _ _ rfl rfl) ?_
     refine AAny_done (by kernel_rfl) ?_
     exact Weak_keep 0 hm [1, 2, 8, 9] [0] _ _ rfl rfl rfl
    intro E' H' hw
    refine ACode_weak hw ?_
    refine kR ?_
    refine kM 1 rfl ?_
    refine AOps_q 30 _ rfl rfl rfl (QOp_len_vec _ _ _ _ _ _ _ _ (rowsD_length _) rfl rfl rfl rfl Tryz.underlying90 rfl rfl) ?_
    refine AOps_q 31 _ rfl rfl rfl (QOp_gtr _ _ _ _ _ _ _ rfl rfl rfl) ?_
    refine AOps_nil ?_
    refine kI h rfl (fun h _ => ?_) (fun h _ => ?_)
    ·refine ACode_seq (ACode_quiet mixed (by kernel_rfl) ?_)
     refine kQ 2 rfl ?_
     obtain ⟨hc8, h⟩ := guardO h
     refine AQ_q 34 _ rfl rfl rfl (QOp_indexAddr_vec _ _ _ _ _ _ _ _ _ rfl Tryz.underlying90 Tryz.sizeOf27 hc8.1 (by rw [rowsD_length]; exact hc8.2) rfl rfl rfl) ?_
     refine AQ_q 35 _ rfl rfl rfl (QOp_load_eptr _ _ _ _ _ _ _ rfl Tryz.isAgg27 rfl rfl (rowsD_get _ _ [] (by omega))) ?_
     refine kQ 3 rfl ?_
     refine AQ_nil ?_
     refine ACode_ret ?_
     cases h
     have h := hks9
     cases h
     exact ⟨_, _, fun r a w h => ⟨r, h⟩, _, _, [], _, (.cons (ResV_tmp _ _ rfl) (.cons (ResV_tmp _ _ rfl) (.cons (ResV_tmp _ _ rfl) .nil))), rfl, rfl, rfl, rfl, rfl⟩
    refine ACode_skip ?_
    refine (ACode_region ?_)
    refine kM 1 rfl ?_
    refine AOps_q 21 _ rfl rfl rfl (QOp_add _ _ _ _ _ _ _ rfl rfl rfl) ?_
    refine kN 1 rfl ?_
    exact ⟨k0, _, _, Nat.lt_succ_self _, Weak_keep 0 hm [1, 2, 8] [] _ _ rfl rfl rfl, _, rfl, rfl, h⟩
   refine ACode_exit ?_
   cases h
   exact ⟨_, rfl, Weak_keep 0 hm [] [] _ _ rfl rfl rfl⟩
 refine kR ?_
 refine kN 3 rfl ?_
 refine ACode_ret ?_
 cases h
 exact ⟨_, _, fun r a w h => ⟨r, h⟩, _, _, [], _, (.cons (ResV_tmp _ _ rfl) (.cons (ResV_tmp _ _ rfl) (.cons (ResV_tmp _ _ rfl) .nil))), rfl, rfl, rfl, rfl, rfl⟩

-- loop.example/g01362/laws.likeInts
def laws_likeInts_l0 (p0 : List Int) (p1 : List Int) : Nat → Int → Option (Sum (Unit) (Bool))
 | 0, _ => none
 | k0 + 1, x2 => (if decide (x2 < (p0.length : Int)) then (if 0 ≤ x2 ∧ x2 < (p0.length : Int) then (if 0 ≤ x2 ∧ x2 < (p1.length : Int) then (if !decide ((p0.getD x2.toNat 0) = (p1.getD x2.toNat 0)) then some (.inr false) else laws_likeInts_l0 p0 p1 k0 (w64 (x2 + 1))) else none) else none) else some (.inl ()))
def laws_likeInts (k : Nat) (p0 : List Int) (p1 : List Int) : Option (Bool) :=
 (if !decide ((p0.length : Int) = (p1.length : Int)) then some false else (laws_likeInts_l0 p0 p1 k 0 : Option (Sum (Unit) (Bool))).bind fun os7 => (match os7 with | .inl s7 => some true | .inr rr => some rr))
set_option maxRecDepth 100000 in
theorem laws_likeInts_ac (k : Nat) (p0 : List Int) (p1 : List Int) (r : Bool) (h : laws_likeInts k p0 p1 = some r) : AC Tryz.prog 32 [.d (.sl none (intsD p0)), .d (.sl none (intsD p1))] [] (fun res H' => res = [bV r] ∧ H' = []) := by
 refine AC_of_body true Tryz.func32 rfl Tryz.ntmps32 (rvs := [.tmp 4]) rfl rfl (fun G hG => ?_)
 have hm : G.H.length = 0 := by rw [hG]; rfl
 have hz : zeroG G.H = true := by rw [hG]; rfl
 unfold laws_likeInts at h
 refine kR ?_
 refine kN 1 rfl ?_
 refine ACode_seq ?_
 refine kR ?_
 refine kM 1 rfl ?_
 refine AOps_q 7 _ rfl rfl rfl (QOp_len_sl _ _ _ _ _ _ _ (intsD_length _) rfl rfl rfl rfl Tryz.underlying27 rfl) ?_
 refine kM 1 rfl ?_
 refine AOps_q 9 _ rfl rfl rfl (QOp_len_sl _ _ _ _ _ _ _ (intsD_length _) rfl rfl rfl rfl Tryz.underlying27 rfl) ?_
 refine AOps_q 10 _ rfl rfl rfl (QOp_neq _ _ _ _ _ _ _ rfl rfl rfl) ?_
 refine AOps_nil ?_
 refine kI h rfl (fun h _ => ?_) (fun h _ => ?_)
 ·refine kR ?_
  refine kN 1 rfl ?_
  refine ACode_ret ?_
  cases h
  exact ⟨_, _, fun r a w h => ⟨r, h⟩, _, _, [], _, (.cons (ResV_tmp _ _ rfl) .nil), rfl, rfl, rfl, rfl, rfl⟩
 refine ACode_skip ?_
 refine kO (fun s7 => []) (fun s7 => []) h (fun os7 h hks7 => ?_) (fun s7 h => ?_)
 ·refine kR ?_
  refine kN 1 rfl ?_
  refine ACode_block ?_
  refine ACode_loopW (fun k0 E H => ∃ (x2 : Int), E = [(0, .d (.sl none (intsD p0))), (1, .d (.sl none (intsD p1))), (5, iV x2)] ∧ H = [] ∧ laws_likeInts_l0 p0 p1 k0 x2 = some os7) k _ _ (Weak_keep 0 hm [0, 1, 5] [] _ _ rfl rfl rfl) ⟨_, rfl, rfl, h⟩ ?_
  clear h
  rintro k0 E H ⟨x2, rfl, rfl, h⟩
  cases k0 with
  | zero => cases (show (none : Option (Sum (Unit) (Bool))) = some _ from h)
  | succ k0 =>
   rw [laws_likeInts_l0] at h
   refine ACode_seq ?_
   refine kR ?_
   refine kM 2 rfl ?_
   refine AOps_q 13 _ rfl rfl rfl (QOp_len_sl _ _ _ _ _ _ _ (intsD_length _) rfl rfl rfl rfl Tryz.underlying27 rfl) ?_
   refine AOps_q 14 _ rfl rfl rfl (QOp_lss _ _ _ _ _ _ _ rfl rfl rfl) ?_
   refine AOps_nil ?_
   refine kI h rfl (fun h _ => ?_) (fun h _ => ?_)
   ·refine ACode_skip ?_
    refine ACode_seq ?_
    refine ACode_block ?_
    refine ACode_seq (ACode_quiet mixed (by kernel_rfl) ?_)
    refine kQ 2 rfl ?_
    obtain ⟨hc4, h⟩ := guardO h
    refine AQ_q 19 _ rfl rfl rfl (QOp_indexAddr_sl _ _ _ _ _ _ _ _ rfl Tryz.underlying27 Tryz.sizeOf2 hc4.1 (by rw [intsD_length]; exact hc4.2) rfl rfl) ?_
    refine AQ_q 20 _ rfl rfl rfl (QOp_load_pv _ _ _ _ _ rfl Tryz.isAgg2 rfl (intsD_get _ _ 0 (by omega))) ?_
    refine kQ 2 rfl ?_
    obtain ⟨hc5, h⟩ := guardO h
    refine AQ_q 23 _ rfl rfl rfl (QOp_indexAddr_sl _ _ _ _ _ _ _ _ rfl Tryz.underlying27 Tryz.sizeOf2 hc5.1 (by rw [intsD_length]; exact hc5.2) rfl rfl) ?_
    refine AQ_q 24 _ rfl rfl rfl (QOp_load_pv _ _ _ _ _ rfl Tryz.isAgg2 rfl (intsD_get _ _ 0 (by omega))) ?_
    refine AQ_q 25 _ rfl rfl rfl (QOp_neq _ _ _ _ _ _ _ rfl rfl rfl) ?_
    refine AQ_nil ?_
    refine kI h rfl (fun h _ => ?_) (fun h _ => ?_)
    ·refine kR ?_
     refine kN 1 rfl ?_
     refine ACode_ret ?_
     cases h
     have h := hks7
     cases h
     exact ⟨_, _, fun r a w h => ⟨r, h⟩, _, _, [], _, (.cons (ResV_tmp _ _ rfl) .nil), rfl, rfl, rfl, rfl, rfl⟩
    refine ACode_skip ?_
    refine (ACode_region ?_)
    refine kM 1 rfl ?_
    refine AOps_q 16 _ rfl rfl rfl (QOp_add _ _ _ _ _ _ _ rfl rfl rfl) ?_
    refine kN 1 rfl ?_
    exact ⟨k0, _, _, Nat.lt_succ_self _, Weak_keep 0 hm [0, 1, 5] [] _ _ rfl rfl rfl, _, rfl, rfl, h⟩
   refine ACode_exit ?_
   cases h
   exact ⟨_, rfl, Weak_keep 0 hm [] [] _ _ rfl rfl rfl⟩
 refine kR ?_
 refine kN 1 rfl ?_
 refine ACode_ret ?_
 cases h
 exact ⟨_, _, fun r a w h => ⟨r, h⟩, _, _, [], _, (.cons (ResV_tmp _ _ rfl) .nil), rfl, rfl, rfl, rfl, rfl⟩

-- loop.example/g01362/spec.l02Greatest
def spec_l02Greatest_l0 (k : Nat) (p0 : Col) (p1 : Int) : Nat → (List Int) → Option (List Int)
 | 0, _ => none
 | k0 + 1, x1 => (spec_l02List k p0 p1 (w64 ((x1.length : Int) + 1)) 1).bind fun r2 => (if decide ((r2.length : Int) = 0) then some x1 else (if 0 ≤ (0 : Int) ∧ (0 : Int) < (r2.length : Int) then spec_l02Greatest_l0 k p0 p1 k0 (r2.getD (0 : Int).toNat []) else none))
def spec_l02Greatest (k : Nat) (p0 : Col) (p1 : Int) : Option (List Int) :=
 (spec_l02Greatest_l0 k p0 p1 k ([0]) : Option (List Int)).bind fun s5 => some s5
set_option maxRecDepth 100000 in
theorem spec_l02Greatest_ac (k : Nat) (p0 : Col) (p1 : Int) (r : List Int) (h : spec_l02Greatest k p0 p1 = some r) : AC Tryz.prog 145 [.d (.agg (colD p0)), iV p1] [] (fun res H' => res = [.d (.sl none (intsD r))] ∧ H' = []) := by
 refine AC_of_body true Tryz.func145 rfl Tryz.ntmps145 (rvs := [.tmp 4]) rfl rfl (fun G hG => ?_)
 have hm : G.H.length = 0 := by rw [hG]; rfl
 have hz : zeroG G.H = true := by rw [hG]; rfl
 unfold spec_l02Greatest at h
 refine kR ?_
 refine AOps_boxI 2 _ _ (.agg (colD p0)) (colD p0) rfl (colD_one _) rfl rfl rfl rfl rfl ?_
 refine kN 1 rfl ?_
 refine kR ?_
 refine AOps_buildSlice 7 _ _ _ [_] (intsD ([0])) _ rfl rfl rfl rfl rfl (by decide) Tryz.underlying27 Tryz.sizeOf2 (zero_of Tryz.typeInfo2 rfl) rfl rfl (intsD_one _) ?_
 refine kN 1 rfl ?_
 refine kB (fun s5 => [(5, .d (.sl none (intsD s5)))]) (fun s5 => []) h (fun s5 h => ?_) (fun s5 h => ?_)
 ·refine ACode_block ?_
  refine ACode_loopW (fun k0 E H => ∃ (x1 : List Int), E = [(1, iV p1), (2, .d (.pv (colD p0) 0)), (5, .d (.sl none (intsD x1)))] ∧ H = [] ∧ spec_l02Greatest_l0 k p0 p1 k0 x1 = some s5) k _ _ (Weak_trans (Weak_frz [5, 7] [] 0 0 _ (allc (rfl) (allc (rfl) (fun _ h => nomatch h))) (fun _ h => nomatch h) rfl) (Weak_keep 0 hm [1, 2, 5] [] _ _ rfl rfl rfl)) ⟨_, rfl, rfl, h⟩ ?_
  clear h
  rintro k0 E H ⟨x1, rfl, rfl, h⟩
  cases k0 with
  | zero => cases (show (none : Option (List Int)) = some _ from h)
  | succ k0 =>
   rw [spec_l02Greatest_l0] at h
   refine ACode_block ?_
   refine kR ?_
   refine AOps_q 8 _ rfl rfl rfl (QOp_loadN_pv _ _ _ _ _ _ rfl Tryz.isAgg34 Tryz.sizeOf34 rfl (colD_all _) (colD_length _)) ?_
   refine kM 2 rfl ?_
   refine AOps_q 11 _ rfl rfl rfl (QOp_len_sl _ _ _ _ _ _ _ (intsD_length _) rfl rfl rfl rfl Tryz.underlying27 rfl) ?_
   refine AOps_q 12 _ rfl rfl rfl (QOp_add _ _ _ _ _ _ _ rfl rfl rfl) ?_
   obtain ⟨r2, hr2, h⟩ := bindO h
   refine kC [] 13 (.vec 0 0) [.vec 0 (rowsD r2)] rfl Tryz.call89 rfl rfl (spec_l02List_ac k p0 p1 (w64 ((x1.length : Int) + 1)) 1 _ hr2) rfl ?_
   refine kN 1 rfl ?_
   refine ACode_seq ?_
   refine kR ?_
   refine kM 1 rfl ?_
   refine AOps_q 15 _ rfl rfl rfl (QOp_len_vec _ _ _ _ _ _ _ _ (rowsD_length _) rfl rfl rfl rfl Tryz.underlying90 rfl rfl) ?_
   refine AOps_q 16 _ rfl rfl rfl (QOp_eql _ _ _ _ _ _ _ rfl rfl rfl) ?_
   refine AOps_nil ?_
   refine kI h rfl (fun h _ => ?_) (fun h _ => ?_)
   ·refine ACode_exit ?_
    cases h
    exact Weak_keep 0 hm [5] [] _ _ rfl rfl rfl
   refine ACode_skip ?_
   refine (ACode_region ?_)
   refine kM 1 rfl ?_
   obtain ⟨hc4, h⟩ := guardO h
   refine AOps_q 18 _ rfl rfl rfl (QOp_indexAddr_vec _ _ _ _ _ _ _ _ _ rfl Tryz.underlying90 Tryz.sizeOf27 hc4.1 (by rw [rowsD_length]; exact hc4.2) rfl rfl rfl) ?_
   refine AOps_q 19 _ rfl rfl rfl (QOp_load_eptr _ _ _ _ _ _ _ rfl Tryz.isAgg27 rfl rfl (rowsD_get _ _ [] (by omega))) ?_
   refine kN 1 rfl ?_
   exact ⟨k0, _, _, Nat.lt_succ_self _, Weak_keep 0 hm [1, 2, 5] [] _ _ rfl rfl rfl, _, rfl, rfl, h⟩
 refine kR ?_
 refine kN 2 rfl ?_
 refine ACode_ret ?_
 cases h
 exact ⟨_, _, fun r a w h => ⟨r, h⟩, _, _, [], _, (.cons (ResV_tmp _ _ rfl) .nil), rfl, rfl, rfl, rfl, rfl⟩

-- loop.example/g01362/spec.CliqueNumbers
def spec_CliqueNumbers_l0 (k : Nat) (p0 : Col) : Nat → Int → (List Int) → Option (List Int)
 | 0, _, _ => none
 | k0 + 1, x3, x4 => (if decide (x3 < p0.k) then (spec_l02Greatest k p0 x3).bind fun r6 => (if x4.length + ([(r6.length : Int)]).length ≤ 1099511627776 then spec_CliqueNumbers_l0 k p0 k0 (w64 (x3 + 1)) (x4 ++ ([(r6.length : Int)])) else none) else some x4)
def spec_CliqueNumbers (k : Nat) (p0 : Col) : Option (List Int × Int) :=
 (spec_l01Is k p0).bind fun r1 => (if !r1 then some ([], 1) else (spec_CliqueNumbers_l0 k p0 k 0 ([] : List Int) : Option (List Int)).bind fun s8 => some (s8, 0))
set_option maxRecDepth 100000 in
theorem spec_CliqueNumbers_ac (k : Nat) (p0 : Col) (r : List Int × Int) (h : spec_CliqueNumbers k p0 = some r) : AC Tryz.prog 90 [.d (.agg (colD p0))] [] (fun res H' => res = [.d (.sl none (intsD r.1)), iV r.2] ∧ H' = []) := by
 refine AC_of_body true Tryz.func90 rfl Tryz.ntmps90 (rvs := [.tmp 2, .tmp 3]) rfl rfl (fun G hG => ?_)
 have hm : G.H.length = 0 := by rw [hG]; rfl
 have hz : zeroG G.H = true := by rw [hG]; rfl
 unfold spec_CliqueNumbers at h
 refine kR ?_
 refine AOps_boxI 1 _ _ (.agg (colD p0)) (colD p0) rfl (colD_one _) rfl rfl rfl rfl rfl ?_
 refine kN 2 rfl ?_
 refine ACode_seq ?_
 refine kR ?_
 refine AOps_q 6 _ rfl rfl rfl (QOp_loadN_pv _ _ _ _ _ _ rfl Tryz.isAgg34 Tryz.sizeOf34 rfl (colD_all _) (colD_length _)) ?_
 obtain ⟨r1, hr1, h⟩ := bindO h
 refine kC [] 7 (bV r1) [] rfl Tryz.call77 rfl rfl (spec_l01Is_ac k p0 _ hr1) rfl ?_
 refine AOps_q 8 _ rfl rfl rfl (QOp_not _ _ _ rfl rfl) ?_
 refine AOps_nil ?_
 refine kI h rfl (fun h _ => ?_) (fun h _ => ?_)
 ·refine kR ?_
  refine kN 2 rfl ?_
  refine ACode_ret ?_
  cases h
  exact ⟨_, _, fun r a w h => ⟨r, h⟩, _, _, [], _, (.cons (ResV_tmp _ _ rfl) (.cons (ResV_tmp _ _ rfl) .nil)), rfl, rfl, rfl, rfl, rfl⟩
 refine ACode_skip ?_
 refine kR ?_
 refine AOps_buildSlice 9 _ _ _ [] (intsD ([] : List Int)) _ rfl rfl rfl rfl rfl (by decide) Tryz.underlying27 Tryz.sizeOf2 (zero_of Tryz.typeInfo2 rfl) rfl rfl (intsD_one _) ?_
 refine kN 1 rfl ?_
 refine kB (fun s8 => [(4, .vec 0 0)]) (fun s8 => [.vec 0 (intsD s8)]) h (fun s8 h => ?_) (fun s8 h => ?_)
 ·refine kR ?_
  refine kN 1 rfl ?_
  refine ACode_block ?_
  refine ACode_loopW (fun k0 E H => ∃ (x3 : Int) (x4 : List Int), E = [(1, .d (.pv (colD p0) 0)), (4, .vec 0 0), (5, iV x3)] ∧ H = [.vec 0 (intsD x4)] ∧ spec_CliqueNumbers_l0 k p0 k0 x3 x4 = some s8) k _ _ (Weak_keep 0 hm [1, 4, 5] [0] _ _ rfl rfl rfl) ⟨_, _, rfl, rfl, h⟩ ?_
  clear h
  rintro k0 E H ⟨x3, x4, rfl, rfl, h⟩
  cases k0 with
  | zero => cases (show (none : Option (List Int)) = some _ from h)
  | succ k0 =>
   rw [spec_CliqueNumbers_l0] at h
   refine ACode_seq ?_
   refine kR ?_
   refine kM 1 rfl ?_
   refine AOps_q 11 _ rfl rfl rfl (QOp_fieldAddr_pv _ _ _ _ _ 1 _ _ rfl Tryz.underlying34 rfl _ Tryz.sizeOf2 rfl rfl) ?_
   refine AOps_q 12 _ rfl rfl rfl (QOp_load_pv _ _ _ _ _ rfl Tryz.isAgg2 rfl rfl) ?_
   refine AOps_q 13 _ rfl rfl rfl (QOp_lss _ _ _ _ _ _ _ rfl rfl rfl) ?_
   refine AOps_nil ?_
   refine kI h rfl (fun h _ => ?_) (fun h _ => ?_)
   ·refine ACode_skip ?_
    refine ACode_seq ?_
    refine ACode_block ?_
    refine (ACode_region ?_)
    refine kM 1 rfl ?_
    refine AOps_q 17 _ rfl rfl rfl (QOp_loadN_pv _ _ _ _ _ _ rfl Tryz.isAgg34 Tryz.sizeOf34 rfl (colD_all _) (colD_length _)) ?_
    refine kM 1 rfl ?_
    obtain ⟨r6, hr6, h⟩ := bindO h
    refine kC [] 19 (.d (.sl none (intsD r6))) [.vec 0 (intsD x4)] rfl Tryz.call145 rfl rfl (spec_l02Greatest_ac k p0 x3 _ hr6) rfl ?_
    refine AOps_q 20 _ rfl rfl rfl (QOp_len_sl _ _ _ _ _ _ _ (intsD_length _) rfl rfl rfl rfl Tryz.underlying27 rfl) ?_
    refine AOps_buildSlice 21 _ _ _ [_] (intsD ([(r6.length : Int)])) _ rfl rfl rfl rfl rfl (by decide) Tryz.underlying27 Tryz.sizeOf2 (zero_of Tryz.typeInfo2 rfl) rfl rfl (intsD_one _) ?_
    obtain ⟨hc7, h⟩ := guardO h
    refine AOps_append 22 _ _ _ _ _ _ _ _ _ _ _ _ rfl rfl rfl rfl rfl rfl rfl Tryz.underlying27 Tryz.type2 rfl rfl rfl (by decide) rfl rfl rfl rfl (intsD_one _) (by rw [intsD_length, intsD_length]; exact hc7) ?_
    rw [intsD_app]
    refine kN 1 rfl ?_
    refine (ACode_region ?_)
    refine kM 1 rfl ?_
    refine AOps_q 15 _ rfl rfl rfl (QOp_add _ _ _ _ _ _ _ rfl rfl rfl) ?_
    refine kN 1 rfl ?_
    exact ⟨k0, _, _, Nat.lt_succ_self _, Weak_trans (Weak_keep 0 hm [1, 4, 5] [0] _ _ rfl rfl rfl) (Weak_reset 0 hm hz [1, 4, 5] _ _ rfl rfl), _, _, rfl, rfl, h⟩
   refine ACode_exit ?_
   cases h
   exact Weak_keep 0 hm [4] [0] _ _ rfl rfl rfl
 refine kR ?_
 refine kN 3 rfl ?_
 refine ACode_ret ?_
 cases h
 exact ⟨_, _, fun r a w h => ⟨r, h⟩, _, _, [], _, (.cons (ResV_tmp _ _ rfl) (.cons (ResV_tmp _ _ rfl) .nil)), rfl, rfl, rfl, rfl, rfl⟩

-- loop.example/g01362/spec.DrawLowerBound
def spec_DrawLowerBound_l0 (r3 : List Int × Int) : Nat → Int → (List Int) → Option (List Int)
 | 0, _, _ => none
 | k0 + 1, x8, x9 => (if decide (x8 < (r3.1.length : Int)) then (if 0 ≤ x8 ∧ x8 < (r3.1.length : Int) then (if x9.length + ([(if 17 < w64 ((r3.1.getD x8.toNat 0) + 1) then 17 else w64 ((r3.1.getD x8.toNat 0) + 1))]).length ≤ 1099511627776 then spec_DrawLowerBound_l0 r3 k0 (w64 (x8 + 1)) (x9 ++ ([(if 17 < w64 ((r3.1.getD x8.toNat 0) + 1) then 17 else w64 ((r3.1.getD x8.toNat 0) + 1))])) else none) else none) else some x9)
def spec_DrawLowerBound (k : Nat) (p0 : List UInt8) : Option (Col × List Int) :=
 (spec_l02DrawSizes k p0).bind fun r1 => (spec_l01From k p0).bind fun r2 => ((spec_CliqueNumbers k r1.1).bind fun r3 => ((if decide (r3.2 = 0) then (spec_l01Next r2 2).bind fun r5 => some (decide (r5.1 = 0)) else some false) : Option (Bool)).bind fun s6 => (if s6 then spec_DrawLowerBound_l0 r3 k 0 ([] : List Int) else some r1.2) : Option (List Int)).bind fun s13 => some (r1.1, s13)
set_option maxRecDepth 100000 in
theorem spec_DrawLowerBound_ac (k : Nat) (p0 : List UInt8) (r : Col × List Int) (h : spec_DrawLowerBound k p0 = some r) : AC Tryz.prog 38 [.d (.sl none (bysD p0))] [] (fun res H' => res = [.d (.agg (colD r.1)), .vec 0 0] ∧ H' = [.vec 0 (intsD r.2)]) := by
 refine AC_of_body true Tryz.func38 rfl Tryz.ntmps38 (rvs := [.cell 2 34, .tmp 3]) rfl rfl (fun G hG => ?_)
 have hm : G.H.length = 0 := by rw [hG]; rfl
 have hz : zeroG G.H = true := by rw [hG]; rfl
 unfold spec_DrawLowerBound at h
 refine kR ?_
 refine AOps_alloc 2 _ _ (colD Col.zero) (zero_of Tryz.typeInfo34 rfl) (by rfl) rfl rfl rfl rfl ?_
 refine kN 1 rfl ?_
 refine kR ?_
 refine kM 1 rfl ?_
 obtain ⟨r1, hr1, h⟩ := bindO h
 refine kC [] 12 (.tup [.d (.agg (colD r1.1)), .vec 1 0]) [.box (colD Col.zero), .vec 0 (intsD r1.2)] rfl Tryz.call83 rfl rfl (spec_l02DrawSizes_ac k p0 _ hr1) rfl ?_
 refine kM 3 rfl ?_
 refine AOps_alloc 4 _ _ (colD Col.zero) (zero_of Tryz.typeInfo34 rfl) (by rfl) rfl rfl rfl rfl ?_
 refine AOps_store _ _ _ _ _ _ (colD _) _ _ rfl rfl rfl rfl rfl rfl rfl (colD_one _) (by rw [colD_length]; exact Tryz.sizeOf34) (by rw [colD_length, colD_length]; decide) (colD_whole _ _) ?_
 refine kN 1 rfl ?_
 refine kR ?_
 refine kM 1 rfl ?_
 obtain ⟨r2, hr2, h⟩ := bindO h
 refine kC [] 16 (.ptr 3 0) [.box (colD Col.zero), .vec 0 (intsD r1.2), .box (colD r1.1), .box (srcD r2)] rfl Tryz.call57 rfl rfl (spec_l01From_ac k p0 _ hr2) rfl ?_
 refine kN 1 rfl ?_
 refine kB (fun s13 => [(2, .ptr 0 0), (4, .ptr 1 0), (5, .vec 2 0)]) (fun s13 => [.box (colD Col.zero), .box (colD r1.1), .vec 0 (intsD s13)]) h (fun s13 h => ?_) (fun s13 h => ?_)
 ·refine kR ?_
  refine AOps_q 18 _ rfl rfl rfl (QOp_loadN_ptr _ _ _ _ _ _ _ rfl Tryz.isAgg34 Tryz.sizeOf34 rfl rfl (colD_all _) (colD_length _)) ?_
  obtain ⟨r3, hr3, h⟩ := bindO h
  refine kC [] 19 (.tup [.d (.sl none (intsD r3.1)), iV r3.2]) [.box (colD Col.zero), .vec 0 (intsD r1.2), .box (colD r1.1), .box (srcD r2)] rfl Tryz.call90 rfl rfl (spec_CliqueNumbers_ac k r1.1 _ hr3) rfl ?_
  refine kN 5 rfl ?_
  refine kB (fun s6 => [(2, .ptr 0 0), (4, .ptr 1 0), (5, .vec 2 0), (7, .d (.sl none (intsD r3.1))), (28, bV s6)]) (fun s6 => [.box (colD Col.zero), .box (colD r1.1), .vec 0 (intsD r1.2)]) h (fun s6 h => ?_) (fun s6 h => ?_)
  ·refine (ACode_region ?_)
   refine kM 1 rfl ?_
   refine AOps_q 23 _ rfl rfl rfl (QOp_eql _ _ _ _ _ _ _ rfl rfl rfl) ?_
   refine kM 1 rfl ?_
   refine AOps_case 24 _ rfl (fun hb4 => ?_) (fun hb4 => ?_)
   ·have h := iteT hb4 h
    refine kM 1 rfl ?_
    obtain ⟨r5, hr5, h⟩ := bindO h
    refine kC [3] 26 (iV r5.1) [.box (colD Col.zero), .vec 0 (intsD r1.2), .box (colD r1.1), .box (srcD r5.2)] rfl Tryz.call58 rfl rfl (spec_l01Next_ac r2 2 _ hr5) rfl ?_
    refine AOps_q 27 _ rfl rfl rfl (QOp_eql _ _ _ _ _ _ _ rfl rfl rfl) ?_
    refine kN 1 rfl ?_
    cases h
    exact Weak_keep 0 hm [2, 4, 5, 7, 28] [0, 2, 1] _ _ rfl rfl rfl
   have h := iteF hb4 h
   refine AOps_skip 25 rfl rfl rfl ?_
   refine AOps_skip 26 rfl rfl rfl ?_
   refine AOps_skip 27 rfl rfl rfl ?_
   refine kN 1 rfl ?_
   cases h
   exact Weak_keep 0 hm [2, 4, 5, 7, 28] [0, 2, 1] _ _ rfl rfl rfl
  refine kI h rfl (fun h _ => ?_) (fun h _ => ?_)
  ·refine kR ?_
   refine AOps_buildSlice 29 _ _ _ [] (intsD ([] : List Int)) _ rfl rfl rfl rfl rfl (by decide) Tryz.underlying27 Tryz.sizeOf2 (zero_of Tryz.typeInfo2 rfl) rfl rfl (intsD_one _) ?_
   refine kN 1 rfl ?_
   refine kR ?_
   refine kN 1 rfl ?_
   refine ACode_block ?_
   refine ACode_loopW (fun k0 E H => ∃ (x8 : Int) (x9 : List Int), E = [(2, .ptr 0 0), (4, .ptr 1 0), (5, .vec 2 0), (7, .d (.sl none (intsD r3.1))), (9, iV x8)] ∧ H = [.box (colD Col.zero), .box (colD r1.1), .vec 0 (intsD x9)] ∧ spec_DrawLowerBound_l0 r3 k0 x8 x9 = some s13) k _ _ (Weak_keep 0 hm [2, 4, 5, 7, 9] [0, 1, 3] _ _ rfl rfl rfl) ⟨_, _, rfl, rfl, h⟩ ?_
   clear h
   rintro k0 E H ⟨x8, x9, rfl, rfl, h⟩
   cases k0 with
   | zero => cases (show (none : Option (List Int)) = some _ from h)
   | succ k0 =>
    rw [spec_DrawLowerBound_l0] at h
    refine ACode_seq ?_
    refine kR ?_
    refine kM 2 rfl ?_
    refine AOps_q 32 _ rfl rfl rfl (QOp_len_sl _ _ _ _ _ _ _ (intsD_length _) rfl rfl rfl rfl Tryz.underlying27 rfl) ?_
    refine AOps_q 33 _ rfl rfl rfl (QOp_lss _ _ _ _ _ _ _ rfl rfl rfl) ?_
    refine AOps_nil ?_
    refine kI h rfl (fun h _ => ?_) (fun h _ => ?_)
    ·refine ACode_skip ?_
     refine ACode_seq ?_
     refine ACode_block ?_
     refine (ACode_region ?_)
     refine kM 3 rfl ?_
     obtain ⟨hc11, h⟩ := guardO h
     refine AOps_q 39 _ rfl rfl rfl (QOp_indexAddr_sl _ _ _ _ _ _ _ _ rfl Tryz.underlying27 Tryz.sizeOf2 hc11.1 (by rw [intsD_length]; exact hc11.2) rfl rfl) ?_
     refine AOps_q 40 _ rfl rfl rfl (QOp_load_pv _ _ _ _ _ rfl Tryz.isAgg2 rfl (intsD_get _ _ 0 (by omega))) ?_
     refine AOps_q 41 _ rfl rfl rfl (QOp_add _ _ _ _ _ _ _ rfl rfl rfl) ?_
     refine AOps_q 42 _ rfl rfl rfl (QOp_min _ _ _ _ _ _ rfl rfl rfl rfl rfl) ?_
     refine AOps_buildSlice 43 _ _ _ [_] (intsD ([(if 17 < w64 ((r3.1.getD x8.toNat 0) + 1) then 17 else w64 ((r3.1.getD x8.toNat 0) + 1))])) _ rfl rfl rfl rfl rfl (by decide) Tryz.underlying27 Tryz.sizeOf2 (zero_of Tryz.typeInfo2 rfl) rfl rfl (intsD_one _) ?_
     obtain ⟨hc12, h⟩ := guardO h
     refine AOps_append 44 _ _ _ _ _ _ _ _ _ _ _ _ rfl rfl rfl rfl rfl rfl rfl Tryz.underlying27 Tryz.type2 rfl rfl rfl (by decide) rfl rfl rfl rfl (intsD_one _) (by rw [intsD_length, intsD_length]; exact hc12) ?_
     rw [intsD_app]
     refine kN 1 rfl ?_
     refine (ACode_region ?_)
     refine kM 1 rfl ?_
     refine AOps_q 35 _ rfl rfl rfl (QOp_add _ _ _ _ _ _ _ rfl rfl rfl) ?_
     refine kN 1 rfl ?_
     exact ⟨k0, _, _, Nat.lt_succ_self _, Weak_trans (Weak_keep 0 hm [2, 4, 5, 7, 9] [0, 1, 2] _ _ rfl rfl rfl) (Weak_reset 0 hm hz [2, 4, 5, 7, 9] _ _ rfl rfl), _, _, rfl, rfl, h⟩
    refine ACode_exit ?_
    cases h
    exact Weak_keep 0 hm [2, 4, 5] [0, 1, 2] _ _ rfl rfl rfl
  refine ACode_skip ?_
  cases h
  exact Weak_keep 0 hm [2, 4, 5] [0, 1, 2] _ _ rfl rfl rfl
 refine kR ?_
 refine AOps_q 45 _ rfl rfl rfl (QOp_loadN_ptr _ _ _ _ _ _ _ rfl Tryz.isAgg34 Tryz.sizeOf34 rfl rfl (colD_all _) (colD_length _)) ?_
 refine kM 1 rfl ?_
 refine AOps_store _ _ _ _ _ _ (colD _) _ _ rfl rfl rfl rfl rfl rfl rfl (colD_one _) (by rw [colD_length]; exact Tryz.sizeOf34) (by rw [colD_length, colD_length]; decide) (colD_whole _ _) ?_
 refine kN 1 rfl ?_
 refine ACode_ret ?_
 cases h
 exact ⟨_, _, Weak_reset 0 hm hz [2, 3] _ _ rfl rfl, _, _, [2], _, (.cons (ResV_agg _ _ _ _ _ _ Tryz.isAgg34 Tryz.sizeOf34 rfl rfl (colD_take _) (colD_length _)) (.cons (ResV_tmp _ _ rfl) .nil)), rfl, rfl, rfl, rfl, rfl⟩

-- (*loop.example/g01362/impl.Colouring).extendingCode
def impl_Colouring_extendingCode (k : Nat) (p0 : Col) (p1 : List Int) (p2 : Option (Bool)) (p3 : Int) : Option (Int) :=
 (impl_Colouring_sizesCode k p0 p1 p2).bind fun r1 => (if !decide (r1 = 0) then some r1 else (impl_Colouring_avoids k p0 p1).bind fun r3 => (if !r3 then some 5 else (if decide (p3 < p0.p) then some 3 else some 0)))
set_option maxRecDepth 100000 in
theorem impl_Colouring_extendingCode_ac (k : Nat) (p0 : Col) (p1 : List Int) (p2 : Option (Bool)) (p3 : Int) (g_p2 : FuncId) (c_p2 : List D) (hg_p2 : ∀ args w, (callFunc g_p2 args).run Tryz.prog w = .ok (.enter g_p2 args) w) (hf_p2 : ∀ (r : Bool), p2 = some r → AC Tryz.prog g_p2 ([] ++ c_p2.map AV.d) [] (fun res H' => res = [bV r] ∧ H' = [])) (r : Int) (h : impl_Colouring_extendingCode k p0 p1 p2 p3 = some r) : AC Tryz.prog 91 [.d (.pv (colD p0) 0), .d (.sl none (intsD p1)), .d (.clo g_p2 c_p2), iV p3] [] (fun res H' => res = [iV r] ∧ H' = []) := by
 refine AC_of_body true Tryz.func91 rfl Tryz.ntmps91 (rvs := [.tmp 8]) rfl rfl (fun G hG => ?_)
 have hm : G.H.length = 0 := by rw [hG]; rfl
 have hz : zeroG G.H = true := by rw [hG]; rfl
 unfold impl_Colouring_extendingCode at h
 refine kR ?_
 refine kN 1 rfl ?_
 refine kR ?_
 refine kM 3 rfl ?_
 obtain ⟨r1, hr1, h⟩ := bindO h
 refine kC [] 13 (iV r1) [] rfl Tryz.call84 rfl rfl (impl_Colouring_sizesCode_ac k p0 p1 p2 g_p2 c_p2 hg_p2 hf_p2 _ hr1) rfl ?_
 refine kN 1 rfl ?_
 refine ACode_seq ?_
 refine ACode_block ?_
 refine kR ?_
 refine kM 1 rfl ?_
 refine AOps_q 16 _ rfl rfl rfl (QOp_neq _ _ _ _ _ _ _ rfl rfl rfl) ?_
 refine kN 1 rfl ?_
 refine kI h rfl (fun h _ => ?_) (fun h _ => ?_)
 ·refine kR ?_
  refine kN 2 rfl ?_
  refine ACode_ret ?_
  cases h
  exact ⟨_, _, fun r a w h => ⟨r, h⟩, _, _, [], _, (.cons (ResV_tmp _ _ rfl) .nil), rfl, rfl, rfl, rfl, rfl⟩
 refine kR ?_
 refine kM 2 rfl ?_
 obtain ⟨r3, hr3, h⟩ := bindO h
 refine kC [] 21 (bV r3) [] rfl Tryz.call85 rfl rfl (impl_Colouring_avoids_ac k p0 p1 _ hr3) rfl ?_
 refine AOps_q 22 _ rfl rfl rfl (QOp_not _ _ _ rfl rfl) ?_
 refine kN 1 rfl ?_
 refine kI h rfl (fun h _ => ?_) (fun h _ => ?_)
 ·refine kR ?_
  refine kN 1 rfl ?_
  refine ACode_ret ?_
  cases h
  exact ⟨_, _, fun r a w h => ⟨r, h⟩, _, _, [], _, (.cons (ResV_tmp _ _ rfl) .nil), rfl, rfl, rfl, rfl, rfl⟩
 refine kR ?_
 refine kM 1 rfl ?_
 refine AOps_q 25 _ rfl rfl rfl (QOp_nilCheck_pv _ _ _ rfl rfl) ?_
 refine AOps_q 26 _ rfl rfl rfl (QOp_fieldAddr_pv _ _ _ _ _ 0 _ _ rfl Tryz.underlying34 rfl _ Tryz.sizeOf2 rfl rfl) ?_
 refine AOps_q 27 _ rfl rfl rfl (QOp_load_pv _ _ _ _ _ rfl Tryz.isAgg2 rfl rfl) ?_
 refine kM 1 rfl ?_
 refine AOps_q 29 _ rfl rfl rfl (QOp_gtr _ _ _ _ _ _ _ rfl rfl rfl) ?_
 refine kN 1 rfl ?_
 refine kI h rfl (fun h _ => ?_) (fun h _ => ?_)
 ·refine kR ?_
  refine kN 1 rfl ?_
  refine ACode_ret ?_
  cases h
  exact ⟨_, _, fun r a w h => ⟨r, h⟩, _, _, [], _, (.cons (ResV_tmp _ _ rfl) .nil), rfl, rfl, rfl, rfl, rfl⟩
 refine ACode_skip ?_
 refine kR ?_
 refine kN 1 rfl ?_
 refine ACode_ret ?_
 cases h
 exact ⟨_, _, fun r a w h => ⟨r, h⟩, _, _, [], _, (.cons (ResV_tmp _ _ rfl) .nil), rfl, rfl, rfl, rfl, rfl⟩

-- loop.example/g01362/impl.LowerBound
def impl_LowerBound (k : Nat) (p0 : Col) (p1 : List Int) : Option (Int × Int) :=
 (impl_Colouring_extendingCode k p0 p1 (some (impl_always)) 17).bind fun r1 => (if !decide (r1 = 0) then some (0, r1) else some (w64 (p0.p + 1), 0))
set_option maxRecDepth 100000 in
theorem impl_LowerBound_ac (k : Nat) (p0 : Col) (p1 : List Int) (r : Int × Int) (h : impl_LowerBound k p0 p1 = some r) : AC Tryz.prog 39 [.d (.agg (colD p0)), .d (.sl none (intsD p1))] [] (fun res H' => res = [iV r.1, iV r.2] ∧ H' = []) := by
 refine AC_of_body true Tryz.func39 rfl Tryz.ntmps39 (rvs := [.tmp 4, .tmp 5]) rfl rfl (fun G hG => ?_)
 have hm : G.H.length = 0 := by rw [hG]; rfl
 have hz : zeroG G.H = true := by rw [hG]; rfl
 unfold impl_LowerBound at h
 refine kR ?_
 refine AOps_boxI 2 _ _ (.agg (colD p0)) (colD p0) rfl (colD_one _) rfl rfl rfl rfl rfl ?_
 refine kN 2 rfl ?_
 refine ACode_seq ?_
 refine kR ?_
 refine kM 1 rfl ?_
 obtain ⟨r1, hr1, h⟩ := bindO h
 refine kC [] 8 (iV r1) [] rfl Tryz.call91 rfl rfl (impl_Colouring_extendingCode_ac k p0 p1 (some (impl_always)) 17 81 ([]) Tryz.call81 (fun r h => by cases h; exact impl_always_ac) _ hr1) rfl ?_
 refine kN 1 rfl ?_
 refine kR ?_
 refine kM 1 rfl ?_
 refine AOps_q 10 _ rfl rfl rfl (QOp_neq _ _ _ _ _ _ _ rfl rfl rfl) ?_
 refine AOps_nil ?_
 refine kI h rfl (fun h _ => ?_) (fun h _ => ?_)
 ·refine kR ?_
  refine kN 3 rfl ?_
  refine ACode_ret ?_
  cases h
  exact ⟨_, _, fun r a w h => ⟨r, h⟩, _, _, [], _, (.cons (ResV_tmp _ _ rfl) (.cons (ResV_tmp _ _ rfl) .nil)), rfl, rfl, rfl, rfl, rfl⟩
 refine ACode_skip ?_
 refine kR ?_
 refine AOps_q 12 _ rfl rfl rfl (QOp_fieldAddr_pv _ _ _ _ _ 0 _ _ rfl Tryz.underlying34 rfl _ Tryz.sizeOf2 rfl rfl) ?_
 refine AOps_q 13 _ rfl rfl rfl (QOp_load_pv _ _ _ _ _ rfl Tryz.isAgg2 rfl rfl) ?_
 refine AOps_q 14 _ rfl rfl rfl (QOp_add _ _ _ _ _ _ _ rfl rfl rfl) ?_
 refine kN 2 rfl ?_
 refine ACode_ret ?_
 cases h
 exact ⟨_, _, fun r a w h => ⟨r, h⟩, _, _, [], _, (.cons (ResV_tmp _ _ rfl) (.cons (ResV_tmp _ _ rfl) .nil)), rfl, rfl, rfl, rfl, rfl⟩

-- loop.example/g01362/spec.LowerBound
def spec_LowerBound (k : Nat) (p0 : Col) (p1 : List Int) : Option (Int × Int) :=
 (spec_l02Sizes k p0 p1).bind fun r1 => (if !decide (r1 = 0) then some (0, r1) else (spec_l02Avoids k p0 p1).bind fun r3 => (if !r3 then some (0, 5) else some (w64 (p0.p + 1), 0)))
set_option maxRecDepth 100000 in
theorem spec_LowerBound_ac (k : Nat) (p0 : Col) (p1 : List Int) (r : Int × Int) (h : spec_LowerBound k p0 p1 = some r) : AC Tryz.prog 40 [.d (.agg (colD p0)), .d (.sl none (intsD p1))] [] (fun res H' => res = [iV r.1, iV r.2] ∧ H' = []) := by
 refine AC_of_body true Tryz.func40 rfl Tryz.ntmps40 (rvs := [.tmp 4, .tmp 5]) rfl rfl (fun G hG => ?_)
 have hm : G.H.length = 0 := by rw [hG]; rfl
 have hz : zeroG G.H = true := by rw [hG]; rfl
 unfold spec_LowerBound at h
 refine kR ?_
 refine AOps_boxI 2 _ _ (.agg (colD p0)) (colD p0) rfl (colD_one _) rfl rfl rfl rfl rfl ?_
 refine kN 2 rfl ?_
 refine ACode_seq ?_
 refine kR ?_
 refine AOps_q 7 _ rfl rfl rfl (QOp_loadN_pv _ _ _ _ _ _ rfl Tryz.isAgg34 Tryz.sizeOf34 rfl (colD_all _) (colD_length _)) ?_
 refine kM 1 rfl ?_
 obtain ⟨r1, hr1, h⟩ := bindO h
 refine kC [] 9 (iV r1) [] rfl Tryz.call86 rfl rfl (spec_l02Sizes_ac k p0 p1 _ hr1) rfl ?_
 refine kN 1 rfl ?_
 refine kR ?_
 refine kM 1 rfl ?_
 refine AOps_q 11 _ rfl rfl rfl (QOp_neq _ _ _ _ _ _ _ rfl rfl rfl) ?_
 refine AOps_nil ?_
 refine kI h rfl (fun h _ => ?_) (fun h _ => ?_)
 ·refine kR ?_
  refine kN 3 rfl ?_
  refine ACode_ret ?_
  cases h
  exact ⟨_, _, fun r a w h => ⟨r, h⟩, _, _, [], _, (.cons (ResV_tmp _ _ rfl) (.cons (ResV_tmp _ _ rfl) .nil)), rfl, rfl, rfl, rfl, rfl⟩
 refine ACode_skip ?_
 refine ACode_seq ?_
 refine kR ?_
 refine AOps_q 13 _ rfl rfl rfl (QOp_loadN_pv _ _ _ _ _ _ rfl Tryz.isAgg34 Tryz.sizeOf34 rfl (colD_all _) (colD_length _)) ?_
 refine kM 1 rfl ?_
 obtain ⟨r3, hr3, h⟩ := bindO h
 refine kC [] 15 (bV r3) [] rfl Tryz.call87 rfl rfl (spec_l02Avoids_ac k p0 p1 _ hr3) rfl ?_
 refine AOps_q 16 _ rfl rfl rfl (QOp_not _ _ _ rfl rfl) ?_
 refine AOps_nil ?_
 refine kI h rfl (fun h _ => ?_) (fun h _ => ?_)
 ·refine kR ?_
  refine kN 2 rfl ?_
  refine ACode_ret ?_
  cases h
  exact ⟨_, _, fun r a w h => ⟨r, h⟩, _, _, [], _, (.cons (ResV_tmp _ _ rfl) (.cons (ResV_tmp _ _ rfl) .nil)), rfl, rfl, rfl, rfl, rfl⟩
 refine ACode_skip ?_
 refine kR ?_
 refine AOps_q 17 _ rfl rfl rfl (QOp_fieldAddr_pv _ _ _ _ _ 0 _ _ rfl Tryz.underlying34 rfl _ Tryz.sizeOf2 rfl rfl) ?_
 refine AOps_q 18 _ rfl rfl rfl (QOp_load_pv _ _ _ _ _ rfl Tryz.isAgg2 rfl rfl) ?_
 refine AOps_q 19 _ rfl rfl rfl (QOp_add _ _ _ _ _ _ _ rfl rfl rfl) ?_
 refine kN 2 rfl ?_
 refine ACode_ret ?_
 cases h
 exact ⟨_, _, fun r a w h => ⟨r, h⟩, _, _, [], _, (.cons (ResV_tmp _ _ rfl) (.cons (ResV_tmp _ _ rfl) .nil)), rfl, rfl, rfl, rfl, rfl⟩

-- loop.example/g01362/impl.NeighbourBound
def impl_NeighbourBound (k : Nat) (p0 : List Int) : Option (Int × Int) :=
 (((if !(impl_in (impl_size p0) 1 4) then some true else (impl_areIn k p0 (impl_size p0) 1 8).bind fun r5 => some (!r5)) : Option (Bool)).bind fun s6 => (if s6 then some (.inr (0, 2)) else some (.inl ())) : Option (Sum (Unit) (Int × Int))).bind fun os8 => (match os8 with | .inl s8 => (sortedI p0).bind fun r10 => (impl_neighbourBound k r10 ([] : List (MK × Int))).bind fun r12 => (if decide (1000000000 < r12.1) then some (0, 3) else some (r12.1, 0)) | .inr rr => some rr)
set_option maxRecDepth 100000 in
theorem impl_NeighbourBound_ac (k : Nat) (p0 : List Int) (r : Int × Int) (h : impl_NeighbourBound k p0 = some r) : AC Tryz.prog 11 [.d (.sl none (intsD p0))] [] (fun res H' => res = [iV r.1, iV r.2] ∧ H' = []) := by
 refine AC_of_body true Tryz.func11 rfl Tryz.ntmps11 (rvs := [.tmp 2, .tmp 3]) rfl rfl (fun G hG => ?_)
 have hm : G.H.length = 0 := by rw [hG]; rfl
 have hz : zeroG G.H = true := by rw [hG]; rfl
 unfold impl_NeighbourBound at h
 refine kR ?_
 refine kN 2 rfl ?_
 refine kO (fun s8 => [(0, .d (.sl none (intsD p0)))]) (fun s8 => []) h (fun os8 h hks8 => ?_) (fun s8 h => ?_)
 ·refine kB (fun s6 => [(0, .d (.sl none (intsD p0))), (15, bV s6)]) (fun s6 => []) h (fun s6 h => ?_) (fun s6 h => ?_)
  ·refine (ACode_region ?_)
   refine kM 1 rfl ?_
   refine kC [] 6 (iV (impl_size p0)) [] rfl Tryz.call63 rfl rfl (impl_size_ac p0) rfl ?_
   refine kC [] 7 (bV (impl_in (impl_size p0) 1 4)) [] rfl Tryz.call60 rfl rfl (impl_in_ac (impl_size p0) 1 4) rfl ?_
   refine AOps_q 8 _ rfl rfl rfl (QOp_not _ _ _ rfl rfl) ?_
   refine kM 1 rfl ?_
   refine AOps_case 9 _ rfl (fun hb3 => ?_) (fun hb3 => ?_)
   ·have h := iteT hb3 h
    refine AOps_skip 10 rfl rfl rfl ?_
    refine AOps_skip 11 rfl rfl rfl ?_
    refine AOps_skip 12 rfl rfl rfl ?_
    refine AOps_skip 13 rfl rfl rfl ?_
    refine AOps_skip 14 rfl rfl rfl ?_
    refine kN 1 rfl ?_
    cases h
    exact Weak_keep 0 hm [0, 15] [] _ _ rfl rfl rfl
   have h := iteF hb3 h
   refine kM 2 rfl ?_
   refine kC [] 12 (iV (impl_size p0)) [] rfl Tryz.call63 rfl rfl (impl_size_ac p0) rfl ?_
   obtain ⟨r5, hr5, h⟩ := bindO h
   refine kC [] 13 (bV r5) [] rfl Tryz.call64 rfl rfl (impl_areIn_ac k p0 (impl_size p0) 1 8 _ hr5) rfl ?_
   refine AOps_q 14 _ rfl rfl rfl (QOp_not _ _ _ rfl rfl) ?_
   refine kN 1 rfl ?_
   cases h
   exact Weak_keep 0 hm [0, 15] [] _ _ rfl rfl rfl
  refine kI h rfl (fun h _ => ?_) (fun h _ => ?_)
  ·refine kR ?_
   refine kN 2 rfl ?_
   refine ACode_ret ?_
   cases h
   have h := hks8
   cases h
   exact ⟨_, _, fun r a w h => ⟨r, h⟩, _, _, [], _, (.cons (ResV_tmp _ _ rfl) (.cons (ResV_tmp _ _ rfl) .nil)), rfl, rfl, rfl, rfl, rfl⟩
  refine ACode_skip ?_
  cases h
  exact ⟨_, rfl, Weak_keep 0 hm [0] [] _ _ rfl rfl rfl⟩
 refine kR ?_
 refine kM 1 rfl ?_
 refine kC [] 17 (.d (.clo 129 [.pv ([.sl none (intsD p0)]) 0])) [] rfl Tryz.call67 rfl rfl (values_ac p0) rfl ?_
 obtain ⟨r10, hr10, h⟩ := bindO h
 refine kC [] 18 (.d (.sl none (intsD r10))) [] rfl Tryz.call66 rfl rfl (sorted_ac p0 _ hr10) rfl ?_
 refine AOps_makeMap 19 _ rfl rfl rfl rfl 120 2 (fun m11 hm11 => ?_)
 obtain ⟨r12, hr12, h⟩ := bindO h
 refine kC [0] 20 (iV r12.1) [.mp m11 (mapI Tryz.prog 120 2 r12.2)] rfl Tryz.call65 rfl rfl (impl_neighbourBound_ac k r10 ([] : List (MK × Int)) _ hr12) rfl ?_
 refine kN 1 rfl ?_
 refine ACode_seq ?_
 refine kR ?_
 refine kM 1 rfl ?_
 refine AOps_q 22 _ rfl rfl rfl (QOp_gtr _ _ _ _ _ _ _ rfl rfl rfl) ?_
 refine AOps_nil ?_
 refine kI h rfl (fun h _ => ?_) (fun h _ => ?_)
 ·refine kR ?_
  refine kN 2 rfl ?_
  refine ACode_ret ?_
  cases h
  exact ⟨_, _, fun r a w h => ⟨r, h⟩, _, _, [], _, (.cons (ResV_tmp _ _ rfl) (.cons (ResV_tmp _ _ rfl) .nil)), rfl, rfl, rfl, rfl, rfl⟩
 refine ACode_skip ?_
 refine kR ?_
 refine kN 3 rfl ?_
 refine ACode_ret ?_
 cases h
 exact ⟨_, _, fun r a w h => ⟨r, h⟩, _, _, [], _, (.cons (ResV_tmp _ _ rfl) (.cons (ResV_tmp _ _ rfl) .nil)), rfl, rfl, rfl, rfl, rfl⟩

-- (*loop.example/g01362/impl.Colouring).greatest$1
def impl_Colouring_greatest_c1 (p0 : List Int) (p1 : List Int) : Bool × List Int :=
 letO (if decide ((p1.length : Int) < (p0.length : Int)) then p0 else p1) fun (s2 : List Int) => (true, s2)
set_option maxRecDepth 100000 in
theorem impl_Colouring_greatest_c1_ac (p0 : List Int) (p1 : List Int) : AC Tryz.prog 176 [.d (.sl none (intsD p0)), .ptr 0 0] [.box [.sl none (intsD p1)]] (fun res H' => res = [bV ((impl_Colouring_greatest_c1 p0 p1).1)] ∧ H' = [.box [.sl none (intsD ((impl_Colouring_greatest_c1 p0 p1).2))]]) := by
 refine AC_of_body true Tryz.func176 rfl Tryz.ntmps176 (rvs := [.tmp 3]) rfl rfl (fun G hG => ?_)
 have hm : G.H.length = 1 := by rw [hG]; rfl
 have hz : zeroG G.H = true := by rw [hG]; rfl
 obtain ⟨r, h⟩ : ∃ r, impl_Colouring_greatest_c1 p0 p1 = r := ⟨_, rfl⟩
 rw [h]
 unfold impl_Colouring_greatest_c1 at h
 refine kR ?_
 refine kN 1 rfl ?_
 refine kL (fun s2 => []) (fun s2 => [.box [.sl none (intsD s2)]]) h (fun s2 h => ?_) (fun s2 h => ?_)
 ·refine kR ?_
  refine kM 1 rfl ?_
  refine AOps_q 5 _ rfl rfl rfl (QOp_len_sl _ _ _ _ _ _ _ (intsD_length _) rfl rfl rfl rfl Tryz.underlying27 rfl) ?_
  refine AOps_q 6 _ rfl rfl rfl (QOp_load_ptr _ _ _ _ _ _ rfl Tryz.isAgg27 rfl rfl rfl) ?_
  refine AOps_q 7 _ rfl rfl rfl (QOp_len_sl _ _ _ _ _ _ _ (intsD_length _) rfl rfl rfl rfl Tryz.underlying27 rfl) ?_
  refine AOps_q 8 _ rfl rfl rfl (QOp_gtr _ _ _ _ _ _ _ rfl rfl rfl) ?_
  refine AOps_nil ?_
  refine kI h rfl (fun h _ => ?_) (fun h _ => ?_)
  ·refine (ACode_region ?_)
   refine kM 1 rfl ?_
   refine AOps_store1 _ _ _ _ _ _ _ _ rfl rfl rfl rfl rfl rfl rfl Tryz.sizeOf27 (Nat.le_of_ble_eq_true rfl) rfl ?_
   refine AOps_nil ?_
   cases h
   exact Weak_keep 1 hm [] [] _ _ rfl rfl rfl
  refine ACode_skip ?_
  cases h
  exact Weak_keep 1 hm [] [] _ _ rfl rfl rfl
 refine kR ?_
 refine kN 1 rfl ?_
 refine ACode_ret ?_
 cases h
 exact ⟨_, _, fun r a w h => ⟨r, h⟩, _, _, [], _, (.cons (ResV_tmp _ _ rfl) .nil), rfl, rfl, rfl, rfl, rfl⟩

end Go.Proofs.YtghhnpdhehjlaaaGreat
