/- Plain functions of the program and that the program computes them: printed by the own tool gen.py. No conditions. -/
import Derived.Test.YtjcgphgipleccaaGen29a
set_option linter.unusedVariables false
set_option linter.unusedSimpArgs false
namespace Go.Proofs.Ytjcgphgipleccaa
open Go Go.RowKit Ab

-- (*loop.example/g01362/impl.Colouring).leading
def impl_Colouring_leading_on_renumbering_c1 (k : Nat) (p0 : Col) (p1 : Col) (p2_0 : List Int) : Option (Bool × List Int) :=
 (impl_Colouring_points k p0).bind fun r1 => (impl_newTracer k p0 p1 r1).bind fun r2 => (match r2 with | none => letO () fun (s5 : Unit) => some (true, p2_0) | some l3 => ((impl_tracer_all_on_renumbering_c1 k l3 (List.replicate 17 (0 : Int)) 0 p2_0).bind fun r7 => some (r7.1, r7.2.2) : Option (Bool × List Int)).bind fun s8 => some (s8.1, s8.2))
set_option maxRecDepth 100000 in
theorem impl_Colouring_leading_on_renumbering_c1_ac (k : Nat) (p0 : Col) (p1 : Col) (p2_0 : List Int) (r : Bool × List Int) (h : impl_Colouring_leading_on_renumbering_c1 k p0 p1 p2_0 = some r) : AC Try.prog 66 [.d (.pv (colD p0) 0), .d (.pv (colD p1) 0), .clo 67 [.ptr 0 0]] [.ref (.vec 1 0), .vec 0 (intsD p2_0)] (fun res H' => res = [bV r.1] ∧ H' = [.ref (.vec 1 1), .vec 1 (intsD r.2)]) := by
 refine AC_of_body true Try.func66 rfl Try.ntmps66 (rvs := [.tmp 6]) rfl rfl (fun G hG => ?_)
 have hm : G.H.length = 2 := by rw [hG]; rfl
 have hz : zeroG G.H = true := by rw [hG]; rfl
 refine ACode_weak (Weak_bump 0 1 _ rfl rfl _ rfl) ?_
 unfold impl_Colouring_leading_on_renumbering_c1 at h
 refine kR ?_
 refine kN 1 rfl ?_
 refine kR ?_
 refine kM 3 rfl ?_
 obtain ⟨r1, hr1, h⟩ := bindO h
 refine kC [] 11 (.vec 2 0) [.ref (.vec 1 1), .vec 1 (intsD p2_0), .vec 0 (intsD r1)] rfl Try.call87 rfl rfl (impl_Colouring_points_ac k p0 _ hr1) rfl ?_
 refine AOps_freezeL [11] 2 0 _ (allc (rfl) (fun _ h => nomatch h)) rfl ?_
 obtain ⟨r2, hr2, h⟩ := bindO h
 refine AOps_call [] 12 _ _ _ _ _ _ _ _ _ _ rfl rfl rfl rfl rfl rfl rfl Try.call86 rfl (nodupB_sound _ rfl) rfl rfl rfl (impl_newTracer_ac k p0 p1 r1 _ hr2) ?_
 revert h
 cases hx4 : r2 with
 | none =>
  intro h
  rintro _ _ ⟨rfl, rfl⟩
  refine ⟨(fun _ h => nomatch h), (allc (trivial) (fun _ h => nomatch h)), AOps_as 12 (v' := .d (.s (.pointer none))) (H' := [.ref (.vec 1 1), .vec 1 (intsD p2_0), .gone]) rfl rfl ?_⟩
  refine kN 1 rfl ?_
  refine kL (fun s5 => [(6, bV true)]) (fun s5 => [.ref (.vec 1 1), .vec 1 (intsD p2_0)]) h (fun s5 h => ?_) (fun s5 h => ?_)
  ·refine (ACode_region ?_)
   refine kM 1 rfl ?_
   refine AOps_q 14 _ rfl rfl rfl (QOp_pnil _ _ _ _ _ rfl rfl rfl Try.underlying99) ?_
   refine kM 1 rfl ?_
   refine AOps_skip 16 rfl rfl rfl ?_
   refine AOps_skip 17 rfl rfl rfl ?_
   refine AOps_skip 18 rfl rfl rfl ?_
   refine AOps_skip 19 rfl rfl rfl ?_
   refine kN 2 rfl ?_
   cases h
   exact Weak_keep 2 hm [6] [] _ _ rfl rfl rfl
  refine ACode_ret ?_
  cases h
  exact ⟨_, _, fun r a w h => ⟨r, h⟩, _, _, [], _, (.cons (ResV_tmp _ _ rfl) .nil), rfl, rfl, rfl, rfl, rfl⟩
 | some l3 =>
  intro h
  rintro _ _ ⟨rfl, rfl⟩
  refine ⟨(fun _ h => nomatch h), (allc (trivial) (fun _ h => nomatch h)), AOps_as 12 (v' := .d (.pv (traD l3) 0)) (H' := [.ref (.vec 1 1), .vec 1 (intsD p2_0), .gone]) rfl rfl ?_⟩
  refine kN 1 rfl ?_
  refine kB (fun s8 => [(6, bV s8.1)]) (fun s8 => [.ref (.vec 1 1), .vec 1 (intsD s8.2)]) h (fun s8 h => ?_) (fun s8 h => ?_)
  ·refine (ACode_region ?_)
   refine kM 1 rfl ?_
   refine AOps_q 14 _ rfl rfl rfl (QOp_pvnil _ _ _ _ _ _ _ rfl rfl rfl Try.underlying99) ?_
   refine kM 2 rfl ?_
   refine AOps_makeBufG intsD iD 0 (intsD_rep · _) 17 _ _ _ _ _ _ 17 _ (.int .i64 0) rfl rfl rfl rfl rfl rfl Try.underlying25 Try.type2 rfl rfl (by decide) rfl rfl (by decide) ?_
   refine kM 1 rfl ?_
   obtain ⟨r7, hr7, h⟩ := bindO h
   refine kC [3, 0, 1] 19 (bV r7.1) [.ref (.vec 1 2), .vec 2 (intsD r7.2.2), .gone, .vec 0 (intsD r7.2.1)] rfl Try.call88 rfl rfl (impl_tracer_all_on_renumbering_c1_ac k l3 (List.replicate 17 (0 : Int)) 0 p2_0 _ hr7) rfl ?_
   refine kN 2 rfl ?_
   cases h
   exact Weak_trans (Weak_keep 2 hm [6] [] _ _ rfl rfl rfl) (Weak_reset 2 hm hz [6] _ _ rfl rfl)
  refine ACode_ret ?_
  cases h
  exact ⟨_, _, fun r a w h => ⟨r, h⟩, _, _, [], _, (.cons (ResV_tmp _ _ rfl) .nil), rfl, rfl, rfl, rfl, rfl⟩

-- (*loop.example/g01362/impl.Colouring).renumbering
def impl_Colouring_renumbering (k : Nat) (p0 : Col) (p1 : Col) : Option (List Int × Bool) :=
 (impl_Colouring_leading_on_renumbering_c1 k p0 p1 ([] : List Int)).bind fun r1 => some (r1.2, !r1.1)
set_option maxRecDepth 100000 in
theorem impl_Colouring_renumbering_ac (k : Nat) (p0 : Col) (p1 : Col) (r : List Int × Bool) (h : impl_Colouring_renumbering k p0 p1 = some r) : AC Try.prog 46 [.d (.pv (colD p0) 0), .d (.pv (colD p1) 0)] [] (fun res H' => res = [.vec 0 0, bV r.2] ∧ H' = [.vec 0 (intsD r.1)]) := by
 refine AC_of_body true Try.func46 rfl Try.ntmps46 (rvs := [.tmp 4, .tmp 5]) rfl rfl (fun G hG => ?_)
 have hm : G.H.length = 0 := by rw [hG]; rfl
 have hz : zeroG G.H = true := by rw [hG]; rfl
 unfold impl_Colouring_renumbering at h
 refine kR ?_
 refine kN 2 rfl ?_
 refine kR ?_
 refine AOps_buildSlice 8 _ _ _ [] (intsD ([] : List Int)) _ rfl rfl rfl rfl rfl (by decide) Try.underlying25 Try.sizeOf2 (zero_of Try.typeInfo2 rfl) rfl rfl (intsD_one _) ?_
 refine AOps_alloc 6 _ _ ([.sl (some true) []]) (zero_of Try.typeInfo25 rfl) (by rfl) rfl rfl rfl rfl ?_
 refine AOps_storeR 1 _ _ _ _ _ rfl rfl rfl rfl rfl rfl rfl rfl Try.sizeOf25 (fun r a w hr => vec_one hr rfl rfl rfl) ?_
 refine AOps_nil ?_
 refine kR ?_
 refine kM 2 rfl ?_
 refine AOps_q 11 _ rfl rfl rfl (QOp_makeFunc _ _ _ rfl rfl) ?_
 obtain ⟨r1, hr1, h⟩ := bindO h
 refine kC [1, 0] 12 (bV r1.1) [.vec 1 (intsD r1.2), .ref (.vec 0 1)] rfl Try.call66 rfl rfl (impl_Colouring_leading_on_renumbering_c1_ac k p0 p1 ([] : List Int) _ hr1) rfl ?_
 refine kN 1 rfl ?_
 refine kR ?_
 refine AOps_q 13 _ rfl rfl rfl (QOp_load_ref _ _ _ _ rfl Try.isAgg25 rfl rfl) ?_
 refine kM 1 rfl ?_
 refine AOps_q 15 _ rfl rfl rfl (QOp_not _ _ _ rfl rfl) ?_
 refine kN 2 rfl ?_
 refine ACode_ret ?_
 cases h
 exact ⟨_, _, Weak_reset 0 hm hz [4, 5] _ _ rfl rfl, _, _, [0], _, (.cons (ResV_tmp _ _ rfl) (.cons (ResV_tmp _ _ rfl) .nil)), rfl, rfl, rfl, rfl, rfl⟩

-- loop.example/g01362/impl.AreIsomorphic
def impl_AreIsomorphic (k : Nat) (p0 : Col) (p1 : Col) : Option (Bool × Int) :=
 (((impl_Colouring_isColouring k p0).bind fun r1 => (if !r1 then some true else (impl_Colouring_isColouring k p1).bind fun r3 => some (!r3)) : Option (Bool)).bind fun s4 => (if s4 then some (.inr (false, 1)) else some (.inl ())) : Option (Sum (Unit) (Bool × Int))).bind fun os6 => (match os6 with | .inl s6 => (impl_Colouring_renumbering k p0 p1).bind fun r7 => some (r7.2, 0) | .inr rr => some rr)
set_option maxRecDepth 100000 in
theorem impl_AreIsomorphic_ac (k : Nat) (p0 : Col) (p1 : Col) (r : Bool × Int) (h : impl_AreIsomorphic k p0 p1 = some r) : AC Try.prog 21 [.d (.agg (colD p0)), .d (.agg (colD p1))] [] (fun res H' => res = [bV r.1, iV r.2] ∧ H' = []) := by
 refine AC_of_body true Try.func21 rfl Try.ntmps21 (rvs := [.tmp 4, .tmp 5]) rfl rfl (fun G hG => ?_)
 have hm : G.H.length = 0 := by rw [hG]; rfl
 have hz : zeroG G.H = true := by rw [hG]; rfl
 unfold impl_AreIsomorphic at h
 refine kR ?_
 refine AOps_boxI 2 _ _ (.agg (colD p0)) (colD p0) rfl (colD_one _) rfl rfl rfl rfl rfl ?_
 refine AOps_boxI 3 _ _ (.agg (colD p1)) (colD p1) rfl (colD_one _) rfl rfl rfl rfl rfl ?_
 refine kN 2 rfl ?_
 refine kO (fun s6 => [(2, .d (.pv (colD p0) 0)), (3, .d (.pv (colD p1) 0))]) (fun s6 => []) h (fun os6 h hks6 => ?_) (fun s6 h => ?_)
 ·refine kB (fun s4 => [(2, .d (.pv (colD p0) 0)), (3, .d (.pv (colD p1) 0)), (13, bV s4)]) (fun s4 => []) h (fun s4 h => ?_) (fun s4 h => ?_)
  ·refine (ACode_region ?_)
   obtain ⟨r1, hr1, h⟩ := bindO h
   refine kC [] 8 (bV r1) [] rfl Try.call45 rfl rfl (impl_Colouring_isColouring_ac k p0 _ hr1) rfl ?_
   refine AOps_q 9 _ rfl rfl rfl (QOp_not _ _ _ rfl rfl) ?_
   refine kM 1 rfl ?_
   refine AOps_case 10 _ rfl (fun hb2 => ?_) (fun hb2 => ?_)
   ·have h := iteT hb2 h
    refine AOps_skip 11 rfl rfl rfl ?_
    refine AOps_skip 12 rfl rfl rfl ?_
    refine kN 1 rfl ?_
    cases h
    exact Weak_keep 0 hm [2, 3, 13] [] _ _ rfl rfl rfl
   have h := iteF hb2 h
   obtain ⟨r3, hr3, h⟩ := bindO h
   refine kC [] 11 (bV r3) [] rfl Try.call45 rfl rfl (impl_Colouring_isColouring_ac k p1 _ hr3) rfl ?_
   refine AOps_q 12 _ rfl rfl rfl (QOp_not _ _ _ rfl rfl) ?_
   refine kN 1 rfl ?_
   cases h
   exact Weak_keep 0 hm [2, 3, 13] [] _ _ rfl rfl rfl
  refine kI h rfl (fun h _ => ?_) (fun h _ => ?_)
  ·refine kR ?_
   refine kN 2 rfl ?_
   refine ACode_ret ?_
   cases h
   have h := hks6
   cases h
   exact ⟨_, _, fun r a w h => ⟨r, h⟩, _, _, [], _, (.cons (ResV_tmp _ _ rfl) (.cons (ResV_tmp _ _ rfl) .nil)), rfl, rfl, rfl, rfl, rfl⟩
  refine ACode_skip ?_
  cases h
  exact ⟨_, rfl, Weak_keep 0 hm [2, 3] [] _ _ rfl rfl rfl⟩
 refine kR ?_
 obtain ⟨r7, hr7, h⟩ := bindO h
 refine kC [] 15 (.tup [.vec 0 0, bV r7.2]) [.vec 0 (intsD r7.1)] rfl Try.call46 rfl rfl (impl_Colouring_renumbering_ac k p0 p1 _ hr7) rfl ?_
 refine kN 5 rfl ?_
 refine kR ?_
 refine kN 3 rfl ?_
 refine ACode_ret ?_
 cases h
 exact ⟨_, _, fun r a w h => ⟨r, h⟩, _, _, [], _, (.cons (ResV_tmp _ _ rfl) (.cons (ResV_tmp _ _ rfl) .nil)), rfl, rfl, rfl, rfl, rfl⟩

-- loop.example/g01362/impl.areForbidden
def impl_areForbidden (k : Nat) (p0 : List Int) (p1 : Int) : Option (Bool) :=
 (impl_areIn k p0 p1 1 17).bind fun r1 => some r1
set_option maxRecDepth 100000 in
theorem impl_areForbidden_ac (k : Nat) (p0 : List Int) (p1 : Int) (r : Bool) (h : impl_areForbidden k p0 p1 = some r) : AC Try.prog 69 [.d (.sl none (intsD p0)), iV p1] [] (fun res H' => res = [bV r] ∧ H' = []) := by
 refine AC_of_body true Try.func69 rfl Try.ntmps69 (rvs := [.tmp 4]) rfl rfl (fun G hG => ?_)
 have hm : G.H.length = 0 := by rw [hG]; rfl
 have hz : zeroG G.H = true := by rw [hG]; rfl
 unfold impl_areForbidden at h
 refine kR ?_
 refine kN 1 rfl ?_
 refine kR ?_
 refine kM 2 rfl ?_
 obtain ⟨r1, hr1, h⟩ := bindO h
 refine kC [] 7 (bV r1) [] rfl Try.call35 rfl rfl (impl_areIn_ac k p0 p1 1 17 _ hr1) rfl ?_
 refine kN 1 rfl ?_
 refine ACode_ret ?_
 cases h
 exact ⟨_, _, fun r a w h => ⟨r, h⟩, _, _, [], _, (.cons (ResV_tmp _ _ rfl) .nil), rfl, rfl, rfl, rfl, rfl⟩

-- (*loop.example/g01362/impl.Colouring).sizesCode$1
def impl_Colouring_sizesCode_c1 (k : Nat) (p0 : List Int) (p1 : Col) (p2 : Option (Bool)) : Option (Bool) :=
 ((impl_areForbidden k p0 p1.k).bind fun r1 => (if r1 then (p2).bind fun r3 => some r3 else some false) : Option (Bool)).bind fun s4 => some s4
set_option maxRecDepth 100000 in
theorem impl_Colouring_sizesCode_c1_ac (k : Nat) (p0 : List Int) (p1 : Col) (p2 : Option (Bool)) (g_p2 : FuncId) (c_p2 : List D) (hg_p2 : ∀ args w, (callFunc g_p2 args).run Try.prog w = .ok (.enter g_p2 args) w) (hf_p2 : ∀ (r : Bool), p2 = some r → AC Try.prog g_p2 ([] ++ c_p2.map AV.d) [] (fun res H' => res = [bV r] ∧ H' = [])) (r : Bool) (h : impl_Colouring_sizesCode_c1 k p0 p1 p2 = some r) : AC Try.prog 68 [.d (.pv ([.sl none (intsD p0)]) 0), .d (.pv ([.pv (colD p1) 0]) 0), .d (.pv ([.clo g_p2 c_p2]) 0)] [] (fun res H' => res = [bV r] ∧ H' = []) := by
 refine AC_of_body true Try.func68 rfl Try.ntmps68 (rvs := [.tmp 3]) rfl rfl (fun G hG => ?_)
 have hm : G.H.length = 0 := by rw [hG]; rfl
 have hz : zeroG G.H = true := by rw [hG]; rfl
 unfold impl_Colouring_sizesCode_c1 at h
 refine kR ?_
 refine kN 1 rfl ?_
 refine kB (fun s4 => [(3, bV s4)]) (fun s4 => []) h (fun s4 h => ?_) (fun s4 h => ?_)
 ·refine (ACode_quiet mixed (by kernel_rfl) ?_)
  refine AQ_q 4 _ rfl rfl rfl (QOp_load_pv _ _ _ _ _ rfl Try.isAgg25 rfl rfl) ?_
  refine AQ_q 5 _ rfl rfl rfl (QOp_load_pv _ _ _ _ _ rfl Try.isAgg73 rfl rfl) ?_
  refine AQ_q 6 _ rfl rfl rfl (QOp_nilCheck_pv _ _ _ rfl rfl) ?_
  refine AQ_q 7 _ rfl rfl rfl (QOp_fieldAddr_pv _ _ _ _ _ 1 _ _ rfl Try.underlying29 rfl _ Try.sizeOf2 rfl rfl) ?_
  refine AQ_q 8 _ rfl rfl rfl (QOp_load_pv _ _ _ _ _ rfl Try.isAgg2 rfl rfl) ?_
  obtain ⟨r1, hr1, h⟩ := bindO h
  refine AQ_call 9 _ _ _ _ _ _ _ _ _ rfl rfl rfl rfl rfl rfl rfl Try.call69 rfl rfl rfl (impl_areForbidden_ac k p0 p1.k _ hr1) ?_
  refine kQ 1 rfl ?_
  refine AQ_case 10 _ rfl (fun hb2 => ?_) (fun hb2 => ?_)
  ·have h := iteT hb2 h
   refine AQ_q 11 _ rfl rfl rfl (QOp_load_pv _ _ _ _ _ rfl Try.isAgg57 rfl rfl) ?_
   obtain ⟨r3, hr3, h⟩ := bindO h
   refine AQ_call 12 _ _ _ _ _ _ _ _ _ rfl rfl rfl rfl rfl rfl rfl hg_p2 rfl rfl (viewA_mapD _) (hf_p2 _ hr3) ?_
   refine kQ 2 rfl ?_
   refine AQ_nil ?_
   cases h
   exact Weak_keep 0 hm [3] [] _ _ rfl rfl rfl
  have h := iteF hb2 h
  refine AQ_skip 11 rfl rfl rfl ?_
  refine AQ_skip 12 rfl rfl rfl ?_
  refine kQ 2 rfl ?_
  refine AQ_nil ?_
  cases h
  exact Weak_keep 0 hm [3] [] _ _ rfl rfl rfl
 refine ACode_ret ?_
 cases h
 exact ⟨_, _, fun r a w h => ⟨r, h⟩, _, _, [], _, (.cons (ResV_tmp _ _ rfl) .nil), rfl, rfl, rfl, rfl, rfl⟩

-- (*loop.example/g01362/impl.Colouring).sizesCode
def impl_Colouring_sizesCode (k : Nat) (p0 : Col) (p1 : List Int) (p2 : Option (Bool)) : Option (Int) :=
 (impl_Colouring_code k p0 (impl_Colouring_sizesCode_c1 k p1 p0 p2)).bind fun r1 => some r1
set_option maxRecDepth 100000 in
theorem impl_Colouring_sizesCode_ac (k : Nat) (p0 : Col) (p1 : List Int) (p2 : Option (Bool)) (g_p2 : FuncId) (c_p2 : List D) (hg_p2 : ∀ args w, (callFunc g_p2 args).run Try.prog w = .ok (.enter g_p2 args) w) (hf_p2 : ∀ (r : Bool), p2 = some r → AC Try.prog g_p2 ([] ++ c_p2.map AV.d) [] (fun res H' => res = [bV r] ∧ H' = [])) (r : Int) (h : impl_Colouring_sizesCode k p0 p1 p2 = some r) : AC Try.prog 47 [.d (.pv (colD p0) 0), .d (.sl none (intsD p1)), .d (.clo g_p2 c_p2)] [] (fun res H' => res = [iV r] ∧ H' = []) := by
 refine AC_of_body true Try.func47 rfl Try.ntmps47 (rvs := [.tmp 6]) rfl rfl (fun G hG => ?_)
 have hm : G.H.length = 0 := by rw [hG]; rfl
 have hz : zeroG G.H = true := by rw [hG]; rfl
 unfold impl_Colouring_sizesCode at h
 refine kR ?_
 refine AOps_boxI 3 _ _ (.pv (colD p0) 0) _ rfl (fun c hc => by cases hc with | head => rfl | tail _ h => cases h) rfl rfl rfl rfl rfl ?_
 refine AOps_boxI 4 _ _ (.sl none (intsD p1)) _ rfl (fun c hc => by cases hc with | head => rfl | tail _ h => cases h) rfl rfl rfl rfl rfl ?_
 refine AOps_boxI 5 _ _ (.clo g_p2 c_p2) _ rfl (fun c hc => by cases hc with | head => rfl | tail _ h => cases h) rfl rfl rfl rfl rfl ?_
 refine kN 1 rfl ?_
 refine kR ?_
 refine AOps_q 7 _ rfl rfl rfl (QOp_load_pv _ _ _ _ _ rfl Try.isAgg73 rfl rfl) ?_
 refine AOps_q 8 _ rfl rfl rfl (QOp_makeFuncD _ _ _ _ rfl rfl rfl) ?_
 obtain ⟨r1, hr1, h⟩ := bindO h
 refine kC [] 9 (iV r1) [] rfl Try.call39 rfl rfl (impl_Colouring_code_ac k p0 (impl_Colouring_sizesCode_c1 k p1 p0 p2) 68 ([.pv ([.sl none (intsD p1)]) 0, .pv ([.pv (colD p0) 0]) 0, .pv ([.clo g_p2 c_p2]) 0]) Try.call68 (fun r h => impl_Colouring_sizesCode_c1_ac k p1 p0 p2 g_p2 c_p2 hg_p2 hf_p2 r h) _ hr1) rfl ?_
 refine kN 1 rfl ?_
 refine ACode_ret ?_
 cases h
 exact ⟨_, _, fun r a w h => ⟨r, h⟩, _, _, [], _, (.cons (ResV_tmp _ _ rfl) .nil), rfl, rfl, rfl, rfl, rfl⟩

-- (*loop.example/g01362/impl.Colouring).firstOf$1
def impl_Colouring_firstOf_c1 (p0 : List Int) (p1 : Int) (p2 : List Int) : Bool × List Int :=
 (if decide ((impl_size p0) < p1) then (true, p2) else (false, p0))
set_option maxRecDepth 100000 in
theorem impl_Colouring_firstOf_c1_ac (p0 : List Int) (p1 : Int) (p2 : List Int) : AC Try.prog 89 [.d (.sl none (intsD p0)), .d (.pv ([iD p1]) 0), .ptr 0 0] [.box [.sl none (intsD p2)]] (fun res H' => res = [bV ((impl_Colouring_firstOf_c1 p0 p1 p2).1)] ∧ H' = [.box [.sl none (intsD ((impl_Colouring_firstOf_c1 p0 p1 p2).2))]]) := by
 refine AC_of_body true Try.func89 rfl Try.ntmps89 (rvs := [.tmp 4]) rfl rfl (fun G hG => ?_)
 have hm : G.H.length = 1 := by rw [hG]; rfl
 have hz : zeroG G.H = true := by rw [hG]; rfl
 obtain ⟨r, h⟩ : ∃ r, impl_Colouring_firstOf_c1 p0 p1 p2 = r := ⟨_, rfl⟩
 rw [h]
 unfold impl_Colouring_firstOf_c1 at h
 refine kR ?_
 refine kN 1 rfl ?_
 refine ACode_seq ?_
 refine ACode_seq (ACode_quiet mixed (by kernel_rfl) ?_)
 refine kQ 1 rfl ?_
 refine AQ_call 6 _ _ _ _ _ _ _ _ _ rfl rfl rfl rfl rfl rfl rfl Try.call55 rfl rfl rfl (impl_size_ac p0) ?_
 refine AQ_q 7 _ rfl rfl rfl (QOp_load_pv _ _ _ _ _ rfl Try.isAgg2 rfl rfl) ?_
 refine AQ_q 8 _ rfl rfl rfl (QOp_lss _ _ _ _ _ _ _ rfl rfl rfl) ?_
 refine AQ_nil ?_
 refine kI h rfl (fun h _ => ?_) (fun h _ => ?_)
 ·refine kR ?_
  refine kN 1 rfl ?_
  refine ACode_ret ?_
  cases h
  exact ⟨_, _, fun r a w h => ⟨r, h⟩, _, _, [], _, (.cons (ResV_tmp _ _ rfl) .nil), rfl, rfl, rfl, rfl, rfl⟩
 refine ACode_skip ?_
 refine kR ?_
 refine kM 1 rfl ?_
 refine AOps_store1 _ _ _ _ _ _ _ _ rfl rfl rfl rfl rfl rfl rfl Try.sizeOf25 (Nat.le_of_ble_eq_true rfl) rfl ?_
 refine AOps_nil ?_
 refine kR ?_
 refine kN 1 rfl ?_
 refine ACode_ret ?_
 cases h
 exact ⟨_, _, fun r a w h => ⟨r, h⟩, _, _, [], _, (.cons (ResV_tmp _ _ rfl) .nil), rfl, rfl, rfl, rfl, rfl⟩

-- (*loop.example/g01362/impl.Colouring).cliques
def impl_Colouring_cliques_on_firstOf_c1_l0 (k : Nat) (self : Col → Int → (List Int) → Int → (List Int) → Option (Bool × List Int)) (p0 : Col) (p1 : Int) (p2 : List Int) (p3_0 : Int) : Nat → Int → (List Int) → Option (Sum (List Int) (Bool × List Int))
 | 0, _, _ => none
 | k0 + 1, x6, x7 => (if decide (x6 < p0.p) then (((impl_Colouring_goesWith k p0 p1 p2 x6).bind fun r9 => (if r9 then (if p2.isEmpty then (if ([x6]).length ≤ 1099511627776 ∧ ([x6]).length ≠ 0 then (self p0 p1 ([x6]) p3_0 x7).bind fun r14 => some (!r14.1, r14.2) else none) else (cloneA p2).bind fun r15 => (if r15.length + ([x6]).length ≤ 1099511627776 then (self p0 p1 (r15 ++ ([x6])) p3_0 x7).bind fun r17 => some (!r17.1, r17.2) else none)) else some (false, x7)) : Option (Bool × List Int)).bind fun s18 => (if s18.1 then (some (.inr (false, s18.2))).bind fun rr => some (.inr rr) else some (.inl s18.2)) : Option (Sum (List Int) (Sum (List Int) (Bool × List Int)))).bind fun os20 => (match os20 with | .inl s20 => impl_Colouring_cliques_on_firstOf_c1_l0 k self p0 p1 p2 p3_0 k0 (w64 (x6 + 1)) s20 | .inr rr => some rr) else some (.inl x7))
def impl_Colouring_cliques_on_firstOf_c1_body (self : Col → Int → (List Int) → Int → (List Int) → Option (Bool × List Int)) (k : Nat) (p0 : Col) (p1 : Int) (p2 : List Int) (p3_0 : Int) (p3_1 : List Int) : Option (Bool × List Int) :=
 (if !((impl_Colouring_firstOf_c1 p2 p3_0 p3_1).1) then some (false, (impl_Colouring_firstOf_c1 p2 p3_0 p3_1).2) else ((if decide (0 < (p2.length : Int)) then (if 0 ≤ w64 ((p2.length : Int) - 1) ∧ w64 ((p2.length : Int) - 1) < (p2.length : Int) then some (w64 ((p2.getD (w64 ((p2.length : Int) - 1)).toNat 0) + 1)) else none) else some 0) : Option (Int)).bind fun s5 => (impl_Colouring_cliques_on_firstOf_c1_l0 k self p0 p1 p2 p3_0 k s5 ((impl_Colouring_firstOf_c1 p2 p3_0 p3_1).2) : Option (Sum (List Int) (Bool × List Int))).bind fun os21 => (match os21 with | .inl s21 => some (true, s21) | .inr rr => some rr))
def impl_Colouring_cliques_on_firstOf_c1 : Nat → Col → Int → (List Int) → Int → (List Int) → Option (Bool × List Int)
 | 0, _, _, _, _, _ => none
 | k + 1, p0, p1, p2, p3_0, p3_1 => impl_Colouring_cliques_on_firstOf_c1_body (impl_Colouring_cliques_on_firstOf_c1 k) k p0 p1 p2 p3_0 p3_1
set_option maxRecDepth 100000 in
theorem impl_Colouring_cliques_on_firstOf_c1_ac (k : Nat) (p0 : Col) (p1 : Int) (p2 : List Int) (p3_0 : Int) (p3_1 : List Int) (r : Bool × List Int) (h : impl_Colouring_cliques_on_firstOf_c1 k p0 p1 p2 p3_0 p3_1 = some r) : AC Try.prog 83 [.d (.pv (colD p0) 0), iV p1, .d (.sl none (intsD p2)), .clo 89 [.d (.pv ([iD p3_0]) 0), .ptr 0 0]] [.box [.sl none (intsD p3_1)]] (fun res H' => res = [bV r.1] ∧ H' = [.box [.sl none (intsD r.2)]]) := by
 induction k generalizing p0 p1 p2 p3_0 p3_1 r with
 | zero => simp [impl_Colouring_cliques_on_firstOf_c1] at h
 | succ k ih =>
  rw [impl_Colouring_cliques_on_firstOf_c1] at h
  obtain ⟨self, hself, hk⟩ : ∃ self : Col → Int → (List Int) → Int → (List Int) → Option (Bool × List Int), (∀ (p0 : Col) (p1 : Int) (p2 : List Int) (p3_0 : Int) (p3_1 : List Int) (r : Bool × List Int), self p0 p1 p2 p3_0 p3_1 = some r → AC Try.prog 83 [.d (.pv (colD p0) 0), iV p1, .d (.sl none (intsD p2)), .clo 89 [.d (.pv ([iD p3_0]) 0), .ptr 0 0]] [.box [.sl none (intsD p3_1)]] (fun res H' => res = [bV r.1] ∧ H' = [.box [.sl none (intsD r.2)]])) ∧ impl_Colouring_cliques_on_firstOf_c1 k = self := ⟨impl_Colouring_cliques_on_firstOf_c1 k, fun p0 p1 p2 p3_0 p3_1 r h => ih p0 p1 p2 p3_0 p3_1 r h, rfl⟩
  rw [hk] at h
  clear ih hk
  refine AC_of_body true Try.func83 rfl Try.ntmps83 (rvs := [.tmp 8]) rfl rfl (fun G hG => ?_)
  have hm : G.H.length = 1 := by rw [hG]; rfl
  have hz : zeroG G.H = true := by rw [hG]; rfl
  unfold impl_Colouring_cliques_on_firstOf_c1_body at h
  refine kR ?_
  refine kN 1 rfl ?_
  refine ACode_seq ?_
  refine kR ?_
  refine kM 2 rfl ?_
  refine kC [0] 13 (bV ((impl_Colouring_firstOf_c1 p2 p3_0 p3_1).1)) [.box [.sl none (intsD ((impl_Colouring_firstOf_c1 p2 p3_0 p3_1).2))]] rfl Try.call89 rfl rfl (impl_Colouring_firstOf_c1_ac p2 p3_0 p3_1) rfl ?_
  refine AOps_q 14 _ rfl rfl rfl (QOp_not _ _ _ rfl rfl) ?_
  refine AOps_nil ?_
  refine kI h rfl (fun h _ => ?_) (fun h _ => ?_)
  ·refine kR ?_
   refine kN 1 rfl ?_
   refine ACode_ret ?_
   cases h
   exact ⟨_, _, fun r a w h => ⟨r, h⟩, _, _, [], _, (.cons (ResV_tmp _ _ rfl) .nil), rfl, rfl, rfl, rfl, rfl⟩
  refine ACode_skip ?_
  refine kR ?_
  refine kN 1 rfl ?_
  refine kB (fun s5 => [(0, .d (.pv (colD p0) 0)), (1, iV p1), (2, .d (.sl none (intsD p2))), (3, .clo 89 [.d (.pv ([iD p3_0]) 0), .ptr 0 0]), (9, iV s5)]) (fun s5 => [.box [.sl none (intsD ((impl_Colouring_firstOf_c1 p2 p3_0 p3_1).2))]]) h (fun s5 h => ?_) (fun s5 h => ?_)
  ·refine kR ?_
   refine kM 1 rfl ?_
   refine AOps_q 16 _ rfl rfl rfl (QOp_len_sl _ _ _ _ _ _ _ (intsD_length _) rfl rfl rfl rfl Try.underlying25 rfl) ?_
   refine AOps_q 17 _ rfl rfl rfl (QOp_gtr _ _ _ _ _ _ _ rfl rfl rfl) ?_
   refine AOps_nil ?_
   refine kI h rfl (fun h _ => ?_) (fun h _ => ?_)
   ·refine (ACode_region ?_)
    refine kM 2 rfl ?_
    refine AOps_q 20 _ rfl rfl rfl (QOp_len_sl _ _ _ _ _ _ _ (intsD_length _) rfl rfl rfl rfl Try.underlying25 rfl) ?_
    refine AOps_q 21 _ rfl rfl rfl (QOp_sub _ _ _ _ _ _ _ rfl rfl rfl) ?_
    obtain ⟨hc4, h⟩ := guardO h
    refine AOps_q 22 _ rfl rfl rfl (QOp_indexAddr_sl _ _ _ _ _ _ _ _ rfl Try.underlying25 Try.sizeOf2 hc4.1 (by rw [intsD_length]; exact hc4.2) rfl rfl) ?_
    refine AOps_q 23 _ rfl rfl rfl (QOp_load_pv _ _ _ _ _ rfl Try.isAgg2 rfl (intsD_get _ _ 0 (by omega))) ?_
    refine AOps_q 24 _ rfl rfl rfl (QOp_add _ _ _ _ _ _ _ rfl rfl rfl) ?_
    refine kN 1 rfl ?_
    cases h
    exact Weak_keep 1 hm [0, 1, 2, 3, 9] [] _ _ rfl rfl rfl
   refine ACode_skip ?_
   cases h
   exact Weak_keep 1 hm [0, 1, 2, 3, 9] [] _ _ rfl rfl rfl
  refine kO (fun s21 => []) (fun s21 => [.box [.sl none (intsD s21)]]) h (fun os21 h hks21 => ?_) (fun s21 h => ?_)
  ·refine kR ?_
   refine kN 2 rfl ?_
   refine ACode_block ?_
   refine ACode_loopW (fun k0 E H => ∃ (x6 : Int) (x7 : List Int), E = [(0, .d (.pv (colD p0) 0)), (1, iV p1), (2, .d (.sl none (intsD p2))), (3, .clo 89 [.d (.pv ([iD p3_0]) 0), .ptr 0 0]), (10, iV x6)] ∧ H = [.box [.sl none (intsD x7)]] ∧ impl_Colouring_cliques_on_firstOf_c1_l0 k self p0 p1 p2 p3_0 k0 x6 x7 = some os21) k _ _ (Weak_keep 1 hm [0, 1, 2, 3, 10] [] _ _ rfl rfl rfl) ⟨_, _, rfl, rfl, h⟩ ?_
   clear h
   rintro k0 E H ⟨x6, x7, rfl, rfl, h⟩
   cases k0 with
   | zero => cases (show (none : Option (Sum (List Int) (Bool × List Int))) = some _ from h)
   | succ k0 =>
    rw [impl_Colouring_cliques_on_firstOf_c1_l0] at h
    refine ACode_seq ?_
    refine kR ?_
    refine kM 2 rfl ?_
    refine AOps_q 28 _ rfl rfl rfl (QOp_nilCheck_pv _ _ _ rfl rfl) ?_
    refine AOps_q 29 _ rfl rfl rfl (QOp_fieldAddr_pv _ _ _ _ _ 0 _ _ rfl Try.underlying29 rfl _ Try.sizeOf2 rfl rfl) ?_
    refine AOps_q 30 _ rfl rfl rfl (QOp_load_pv _ _ _ _ _ rfl Try.isAgg2 rfl rfl) ?_
    refine AOps_q 31 _ rfl rfl rfl (QOp_lss _ _ _ _ _ _ _ rfl rfl rfl) ?_
    refine AOps_nil ?_
    refine kI h rfl (fun h _ => ?_) (fun h _ => ?_)
    ·refine ACode_skip ?_
     refine kO (fun s20 => [(0, .d (.pv (colD p0) 0)), (1, iV p1), (2, .d (.sl none (intsD p2))), (3, .clo 89 [.d (.pv ([iD p3_0]) 0), .ptr 0 0]), (10, iV x6)]) (fun s20 => [.box [.sl none (intsD s20)]]) h (fun os20 h hks20 => ?_) (fun s20 h => ?_)
     ·refine ACode_block ?_
      refine kB (fun s18 => [(0, .d (.pv (colD p0) 0)), (1, iV p1), (2, .d (.sl none (intsD p2))), (3, .clo 89 [.d (.pv ([iD p3_0]) 0), .ptr 0 0]), (10, iV x6), (50, bV s18.1)]) (fun s18 => [.box [.sl none (intsD s18.2)]]) h (fun s18 h => ?_) (fun s18 h => ?_)
      ·refine (ACode_region ?_)
       refine kM 4 rfl ?_
       obtain ⟨r9, hr9, h⟩ := bindO h
       refine kC [] 38 (bV r9) [.box [.sl none (intsD x7)]] rfl Try.call97 rfl rfl (impl_Colouring_goesWith_ac k p0 p1 p2 x6 _ hr9) rfl ?_
       refine kM 1 rfl ?_
       refine AOps_case 39 _ rfl (fun hb10 => ?_) (fun hb10 => ?_)
       ·have h := iteT hb10 h
        refine kM 3 rfl ?_
        refine bsplit (p2.isEmpty) (fun hb11 => ?_) (fun hb11 => ?_)
        ·have h := iteT hb11 h
         refine kC [] 43 (.d (.se none)) [.box [.sl none (intsD x7)]] rfl Try.call32 rfl rfl (cloneB_ac p2 hb11) rfl ?_
         refine kM 1 rfl ?_
         refine AOps_buildSlice 45 _ _ _ [_] (intsD ([x6])) _ rfl rfl rfl rfl rfl (by decide) Try.underlying25 Try.sizeOf2 (zero_of Try.typeInfo2 rfl) rfl rfl (intsD_one _) ?_
         obtain ⟨hc13, h⟩ := guardO h
         refine AOps_append0 46 _ _ _ _ _ _ _ _ _ _ rfl rfl rfl rfl rfl rfl rfl Try.underlying25 Try.type2 rfl rfl rfl (by decide) rfl rfl rfl (intsD_one _) (by rw [intsD_length]; exact hc13.1) (by rw [intsD_length]; exact hc13.2) ?_
         refine kM 1 rfl ?_
         refine AOps_freezeL [46] 2 0 _ (allc (rfl) (fun _ h => nomatch h)) rfl ?_
         obtain ⟨r14, hr14, h⟩ := bindO h
         refine kC [0] 48 (bV r14.1) [.box [.sl none (intsD r14.2)], .vec 0 (intsD ([x6])), .gone] rfl Try.call83 rfl rfl (hself p0 p1 ([x6]) p3_0 x7 _ hr14) rfl ?_
         refine AOps_q 49 _ rfl rfl rfl (QOp_not _ _ _ rfl rfl) ?_
         refine kN 1 rfl ?_
         cases h
         exact Weak_keep 1 hm [0, 1, 2, 3, 10, 50] [] _ _ rfl rfl rfl
        have h := iteF hb11 h
        obtain ⟨r15, hr15, h⟩ := bindO h
        refine kC [] 43 (.vec 1 0) [.box [.sl none (intsD x7)], .vec 0 (intsD r15)] rfl Try.call32 rfl rfl (cloneA_ac p2 _ hb11 hr15) rfl ?_
        refine kM 1 rfl ?_
        refine AOps_buildSlice 45 _ _ _ [_] (intsD ([x6])) _ rfl rfl rfl rfl rfl (by decide) Try.underlying25 Try.sizeOf2 (zero_of Try.typeInfo2 rfl) rfl rfl (intsD_one _) ?_
        obtain ⟨hc16, h⟩ := guardO h
        refine AOps_append 46 _ _ _ _ _ _ _ _ _ _ _ _ rfl rfl rfl rfl rfl rfl rfl Try.underlying25 Try.type2 rfl rfl rfl (by decide) rfl rfl rfl rfl (intsD_one _) (by rw [intsD_length, intsD_length]; exact hc16) ?_
        rw [intsD_app]
        refine kM 1 rfl ?_
        refine AOps_freezeL [46] 1 1 _ (allc (rfl) (fun _ h => nomatch h)) rfl ?_
        obtain ⟨r17, hr17, h⟩ := bindO h
        refine kC [0] 48 (bV r17.1) [.box [.sl none (intsD r17.2)], .gone, .vec 0 (intsD ([x6]))] rfl Try.call83 rfl rfl (hself p0 p1 (r15 ++ ([x6])) p3_0 x7 _ hr17) rfl ?_
        refine AOps_q 49 _ rfl rfl rfl (QOp_not _ _ _ rfl rfl) ?_
        refine kN 1 rfl ?_
        cases h
        exact Weak_keep 1 hm [0, 1, 2, 3, 10, 50] [] _ _ rfl rfl rfl
       have h := iteF hb10 h
       refine AOps_skip 40 rfl rfl rfl ?_
       refine AOps_skip 41 rfl rfl rfl ?_
       refine AOps_skip 42 rfl rfl rfl ?_
       refine AOps_skip 43 rfl rfl rfl ?_
       refine AOps_skip 44 rfl rfl rfl ?_
       refine AOps_skip 45 rfl rfl rfl ?_
       refine AOps_skip 46 rfl rfl rfl ?_
       refine AOps_skip 47 rfl rfl rfl ?_
       refine AOps_skip 48 rfl rfl rfl ?_
       refine AOps_skip 49 rfl rfl rfl ?_
       refine kN 1 rfl ?_
       cases h
       exact Weak_keep 1 hm [0, 1, 2, 3, 10, 50] [] _ _ rfl rfl rfl
      refine kI h rfl (fun h _ => ?_) (fun h _ => ?_)
      ·refine kR ?_
       refine kN 1 rfl ?_
       refine ACode_ret ?_
       obtain ⟨rr, hz22, h2⟩ := bindO h
       obtain rfl := Option.some.inj h2
       obtain rfl := Option.some.inj (show some rr = some _ from hks20)
       have h := hz22
       cases h
       have h := hks21
       cases h
       exact ⟨_, _, fun r a w h => ⟨r, h⟩, _, _, [], _, (.cons (ResV_tmp _ _ rfl) .nil), rfl, rfl, rfl, rfl, rfl⟩
      refine ACode_skip ?_
      cases h
      exact ⟨_, rfl, Weak_keep 1 hm [0, 1, 2, 3, 10] [] _ _ rfl rfl rfl⟩
     refine (ACode_region ?_)
     refine kM 1 rfl ?_
     refine AOps_q 33 _ rfl rfl rfl (QOp_add _ _ _ _ _ _ _ rfl rfl rfl) ?_
     refine kN 1 rfl ?_
     exact ⟨k0, _, _, Nat.lt_succ_self _, Weak_keep 1 hm [0, 1, 2, 3, 10] [] _ _ rfl rfl rfl, _, _, rfl, rfl, h⟩
    refine ACode_exit ?_
    cases h
    exact ⟨_, rfl, Weak_keep 1 hm [] [] _ _ rfl rfl rfl⟩
  refine kR ?_
  refine kN 1 rfl ?_
  refine ACode_ret ?_
  cases h
  exact ⟨_, _, fun r a w h => ⟨r, h⟩, _, _, [], _, (.cons (ResV_tmp _ _ rfl) .nil), rfl, rfl, rfl, rfl, rfl⟩

-- (*loop.example/g01362/impl.Colouring).firstOf
def impl_Colouring_firstOf (k : Nat) (p0 : Col) (p1 : Int) (p2 : Int) : Option (List Int × Bool) :=
 (impl_Colouring_cliques_on_firstOf_c1 k p0 p1 ([]) p2 ([] : List Int)).bind fun r1 => some (r1.2, !r1.1)
set_option maxRecDepth 100000 in
theorem impl_Colouring_firstOf_ac (k : Nat) (p0 : Col) (p1 : Int) (p2 : Int) (r : List Int × Bool) (h : impl_Colouring_firstOf k p0 p1 p2 = some r) : AC Try.prog 70 [.d (.pv (colD p0) 0), iV p1, iV p2] [] (fun res H' => res = [.d (.sl none (intsD r.1)), bV r.2] ∧ H' = []) := by
 refine AC_of_body true Try.func70 rfl Try.ntmps70 (rvs := [.tmp 6, .tmp 7]) rfl rfl (fun G hG => ?_)
 have hm : G.H.length = 0 := by rw [hG]; rfl
 have hz : zeroG G.H = true := by rw [hG]; rfl
 unfold impl_Colouring_firstOf at h
 refine kR ?_
 refine AOps_boxI 5 _ _ (iD p2) _ rfl (fun c hc => by cases hc with | head => rfl | tail _ h => cases h) rfl rfl rfl rfl rfl ?_
 refine kN 2 rfl ?_
 refine kR ?_
 refine AOps_buildSlice 10 _ _ _ [] (intsD ([] : List Int)) _ rfl rfl rfl rfl rfl (by decide) Try.underlying25 Try.sizeOf2 (zero_of Try.typeInfo2 rfl) rfl rfl (intsD_one _) ?_
 refine AOps_alloc 8 _ _ ([.sl (some true) []]) (zero_of Try.typeInfo25 rfl) (by rfl) rfl rfl rfl rfl ?_
 refine AOps_freeze 10 0 0 _ rfl rfl ?_
 refine AOps_store1 _ _ _ _ _ _ _ _ rfl rfl rfl rfl rfl rfl rfl Try.sizeOf25 (Nat.le_of_ble_eq_true rfl) rfl ?_
 refine AOps_nil ?_
 refine kR ?_
 refine kM 2 rfl ?_
 refine AOps_q 13 _ rfl rfl rfl (QOp_makeFunc _ _ _ rfl rfl) ?_
 obtain ⟨r1, hr1, h⟩ := bindO h
 refine kC [1] 14 (bV r1.1) [.gone, .box [.sl none (intsD r1.2)]] rfl Try.call83 rfl rfl (impl_Colouring_cliques_on_firstOf_c1_ac k p0 p1 ([]) p2 ([] : List Int) _ hr1) rfl ?_
 refine kN 1 rfl ?_
 refine kR ?_
 refine AOps_q 15 _ rfl rfl rfl (QOp_load_ptr _ _ _ _ _ _ rfl Try.isAgg25 rfl rfl rfl) ?_
 refine kM 1 rfl ?_
 refine AOps_q 17 _ rfl rfl rfl (QOp_not _ _ _ rfl rfl) ?_
 refine kN 2 rfl ?_
 refine ACode_ret ?_
 cases h
 exact ⟨_, _, fun r a w h => ⟨r, h⟩, _, _, [], _, (.cons (ResV_tmp _ _ rfl) (.cons (ResV_tmp _ _ rfl) .nil)), rfl, rfl, rfl, rfl, rfl⟩

-- (*loop.example/g01362/impl.Colouring).avoids
def impl_Colouring_avoids_l0 (k : Nat) (p0 : Col) (p1 : List Int) : Nat → Int → Option (Sum (Unit) (Bool))
 | 0, _ => none
 | k0 + 1, x1 => (if decide (x1 < (p1.length : Int)) then (if 0 ≤ x1 ∧ x1 < (p1.length : Int) then (impl_Colouring_firstOf k p0 x1 (p1.getD x1.toNat 0)).bind fun r4 => (if r4.2 then some (.inr false) else impl_Colouring_avoids_l0 k p0 p1 k0 (w64 (x1 + 1))) else none) else some (.inl ()))
def impl_Colouring_avoids (k : Nat) (p0 : Col) (p1 : List Int) : Option (Bool) :=
 (impl_Colouring_avoids_l0 k p0 p1 k 0 : Option (Sum (Unit) (Bool))).bind fun os6 => (match os6 with | .inl s6 => some true | .inr rr => some rr)
set_option maxRecDepth 100000 in
theorem impl_Colouring_avoids_ac (k : Nat) (p0 : Col) (p1 : List Int) (r : Bool) (h : impl_Colouring_avoids k p0 p1 = some r) : AC Try.prog 48 [.d (.pv (colD p0) 0), .d (.sl none (intsD p1))] [] (fun res H' => res = [bV r] ∧ H' = []) := by
 refine AC_of_body true Try.func48 rfl Try.ntmps48 (rvs := [.tmp 4]) rfl rfl (fun G hG => ?_)
 have hm : G.H.length = 0 := by rw [hG]; rfl
 have hz : zeroG G.H = true := by rw [hG]; rfl
 unfold impl_Colouring_avoids at h
 refine kR ?_
 refine kN 1 rfl ?_
 refine kO (fun s6 => []) (fun s6 => []) h (fun os6 h hks6 => ?_) (fun s6 h => ?_)
 ·refine kR ?_
  refine kM 1 rfl ?_
  refine AOps_q 10 _ rfl rfl rfl (QOp_len_sl _ _ _ _ _ _ _ (intsD_length _) rfl rfl rfl rfl Try.underlying25 rfl) ?_
  refine kN 1 rfl ?_
  refine ACode_block ?_
  refine ACode_loopW (fun k0 E H => ∃ (x1 : Int), E = [(0, .d (.pv (colD p0) 0)), (9, .d (.sl none (intsD p1))), (10, iV (p1.length : Int)), (11, iV x1)] ∧ H = [] ∧ impl_Colouring_avoids_l0 k p0 p1 k0 x1 = some os6) k _ _ (Weak_keep 0 hm [0, 9, 10, 11] [] _ _ rfl rfl rfl) ⟨_, rfl, rfl, h⟩ ?_
  clear h
  rintro k0 E H ⟨x1, rfl, rfl, h⟩
  cases k0 with
  | zero => cases (show (none : Option (Sum (Unit) (Bool))) = some _ from h)
  | succ k0 =>
   rw [impl_Colouring_avoids_l0] at h
   refine kR ?_
   refine AOps_q 12 _ rfl rfl rfl (QOp_lss _ _ _ _ _ _ _ rfl rfl rfl) ?_
   refine AOps_nil ?_
   refine ACode_seq ?_
   refine kI h rfl (fun h _ => ?_) (fun h _ => ?_)
   ·refine ACode_skip ?_
    refine ACode_seq ?_
    refine ACode_block ?_
    refine kR ?_
    refine kM 1 rfl ?_
    obtain ⟨hc3, h⟩ := guardO h
    refine AOps_q 14 _ rfl rfl rfl (QOp_indexAddr_sl _ _ _ _ _ _ _ _ rfl Try.underlying25 Try.sizeOf2 hc3.1 (by rw [intsD_length]; exact hc3.2) rfl rfl) ?_
    refine AOps_q 15 _ rfl rfl rfl (QOp_load_pv _ _ _ _ _ rfl Try.isAgg2 rfl (intsD_get _ _ 0 (by omega))) ?_
    refine kN 2 rfl ?_
    refine kR ?_
    refine kM 3 rfl ?_
    obtain ⟨r4, hr4, h⟩ := bindO h
    refine kC [] 20 (.tup [.d (.sl none (intsD r4.1)), bV r4.2]) [] rfl Try.call70 rfl rfl (impl_Colouring_firstOf_ac k p0 x1 (p1.getD x1.toNat 0) _ hr4) rfl ?_
    refine kN 5 rfl ?_
    refine kR ?_
    refine kN 1 rfl ?_
    refine kI h rfl (fun h _ => ?_) (fun h _ => ?_)
    ·refine kR ?_
     refine kN 1 rfl ?_
     refine ACode_ret ?_
     cases h
     have h := hks6
     cases h
     exact ⟨_, _, fun r a w h => ⟨r, h⟩, _, _, [], _, (.cons (ResV_tmp _ _ rfl) .nil), rfl, rfl, rfl, rfl, rfl⟩
    refine ACode_skip ?_
    refine (ACode_region ?_)
    refine AOps_q 24 _ rfl rfl rfl (QOp_add _ _ _ _ _ _ _ rfl rfl rfl) ?_
    refine kN 1 rfl ?_
    exact ⟨k0, _, _, Nat.lt_succ_self _, Weak_keep 0 hm [0, 9, 10, 11] [] _ _ rfl rfl rfl, _, rfl, rfl, h⟩
   refine ACode_exit ?_
   cases h
   exact ⟨_, rfl, Weak_keep 0 hm [] [] _ _ rfl rfl rfl⟩
 refine kR ?_
 refine kN 1 rfl ?_
 refine ACode_ret ?_
 cases h
 exact ⟨_, _, fun r a w h => ⟨r, h⟩, _, _, [], _, (.cons (ResV_tmp _ _ rfl) .nil), rfl, rfl, rfl, rfl, rfl⟩

-- loop.example/g01362/impl.AvoidsSizes
def impl_AvoidsSizes (k : Nat) (p0 : Col) (p1 : List Int) : Option (Bool × Int) :=
 (impl_Colouring_sizesCode k p0 p1 (some (impl_always))).bind fun r1 => (if !decide (r1 = 0) then some (false, r1) else (impl_Colouring_avoids k p0 p1).bind fun r3 => some (r3, 0))
set_option maxRecDepth 100000 in
theorem impl_AvoidsSizes_ac (k : Nat) (p0 : Col) (p1 : List Int) (r : Bool × Int) (h : impl_AvoidsSizes k p0 p1 = some r) : AC Try.prog 22 [.d (.agg (colD p0)), .d (.sl none (intsD p1))] [] (fun res H' => res = [bV r.1, iV r.2] ∧ H' = []) := by
 refine AC_of_body true Try.func22 rfl Try.ntmps22 (rvs := [.tmp 4, .tmp 5]) rfl rfl (fun G hG => ?_)
 have hm : G.H.length = 0 := by rw [hG]; rfl
 have hz : zeroG G.H = true := by rw [hG]; rfl
 unfold impl_AvoidsSizes at h
 refine kR ?_
 refine AOps_boxI 2 _ _ (.agg (colD p0)) (colD p0) rfl (colD_one _) rfl rfl rfl rfl rfl ?_
 refine kN 2 rfl ?_
 refine ACode_seq ?_
 refine kR ?_
 refine kM 1 rfl ?_
 obtain ⟨r1, hr1, h⟩ := bindO h
 refine kC [] 8 (iV r1) [] rfl Try.call47 rfl rfl (impl_Colouring_sizesCode_ac k p0 p1 (some (impl_always)) 29 ([]) Try.call29 (fun r h => by cases h; exact impl_always_ac) _ hr1) rfl ?_
 refine kN 1 rfl ?_
 refine kR ?_
 refine kM 1 rfl ?_
 refine AOps_q 10 _ rfl rfl rfl (QOp_neq _ _ _ _ _ _ _ rfl rfl rfl) ?_
 refine AOps_nil ?_
 refine kI h rfl (fun h _ => ?_) (fun h _ => ?_)
 ·refine kR ?_
  refine kN 3 rfl ?_
  refine ACode_ret ?_
  cases h
  exact ⟨_, _, fun r a w h => ⟨r, h⟩, _, _, [], _, (.cons (ResV_tmp _ _ rfl) (.cons (ResV_tmp _ _ rfl) .nil)), rfl, rfl, rfl, rfl, rfl⟩
 refine ACode_skip ?_
 refine kR ?_
 refine kM 1 rfl ?_
 obtain ⟨r3, hr3, h⟩ := bindO h
 refine kC [] 13 (bV r3) [] rfl Try.call48 rfl rfl (impl_Colouring_avoids_ac k p0 p1 _ hr3) rfl ?_
 refine kN 2 rfl ?_
 refine ACode_ret ?_
 cases h
 exact ⟨_, _, fun r a w h => ⟨r, h⟩, _, _, [], _, (.cons (ResV_tmp _ _ rfl) (.cons (ResV_tmp _ _ rfl) .nil)), rfl, rfl, rfl, rfl, rfl⟩

-- loop.example/g01362/laws.likeInts
def laws_likeInts_l0 (p0 : List Int) (p1 : List Int) : Nat → Int → Option (Sum (Unit) (Bool))
 | 0, _ => none
 | k0 + 1, x2 => (if decide (x2 < (p0.length : Int)) then (if 0 ≤ x2 ∧ x2 < (p0.length : Int) then (if 0 ≤ x2 ∧ x2 < (p1.length : Int) then (if !decide ((p0.getD x2.toNat 0) = (p1.getD x2.toNat 0)) then some (.inr false) else laws_likeInts_l0 p0 p1 k0 (w64 (x2 + 1))) else none) else none) else some (.inl ()))
def laws_likeInts (k : Nat) (p0 : List Int) (p1 : List Int) : Option (Bool) :=
 (if !decide ((p0.length : Int) = (p1.length : Int)) then some false else (laws_likeInts_l0 p0 p1 k 0 : Option (Sum (Unit) (Bool))).bind fun os7 => (match os7 with | .inl s7 => some true | .inr rr => some rr))
set_option maxRecDepth 100000 in
theorem laws_likeInts_ac (k : Nat) (p0 : List Int) (p1 : List Int) (r : Bool) (h : laws_likeInts k p0 p1 = some r) : AC Try.prog 23 [.d (.sl none (intsD p0)), .d (.sl none (intsD p1))] [] (fun res H' => res = [bV r] ∧ H' = []) := by
 refine AC_of_body true Try.func23 rfl Try.ntmps23 (rvs := [.tmp 4]) rfl rfl (fun G hG => ?_)
 have hm : G.H.length = 0 := by rw [hG]; rfl
 have hz : zeroG G.H = true := by rw [hG]; rfl
 unfold laws_likeInts at h
 refine kR ?_
 refine kN 1 rfl ?_
 refine ACode_seq ?_
 refine kR ?_
 refine kM 1 rfl ?_
 refine AOps_q 7 _ rfl rfl rfl (QOp_len_sl _ _ _ _ _ _ _ (intsD_length _) rfl rfl rfl rfl Try.underlying25 rfl) ?_
 refine kM 1 rfl ?_
 refine AOps_q 9 _ rfl rfl rfl (QOp_len_sl _ _ _ _ _ _ _ (intsD_length _) rfl rfl rfl rfl Try.underlying25 rfl) ?_
 refine AOps_q 10 _ rfl rfl rfl (QOp_neq _ _ _ _ _ _ _ rfl rfl rfl) ?_
 refine AOps_nil ?_
 refine kI h rfl (fun h _ => ?_) (fun h _ => ?_)
 ·refine kR ?_
  refine kN 1 rfl ?_
  refine ACode_ret ?_
  cases h
  exact ⟨_, _, fun r a w h => ⟨r, h⟩, _, _, [], _, (.cons (ResV_tmp _ _ rfl) .nil), rfl, rfl, rfl, rfl, rfl⟩
 refine ACode_skip ?_
 refine kO (fun s7 => []) (fun s7 => []) h (fun os7 h hks7 => ?_) (fun s7 h => ?_)
 ·refine kR ?_
  refine kN 1 rfl ?_
  refine ACode_block ?_
  refine ACode_loopW (fun k0 E H => ∃ (x2 : Int), E = [(0, .d (.sl none (intsD p0))), (1, .d (.sl none (intsD p1))), (5, iV x2)] ∧ H = [] ∧ laws_likeInts_l0 p0 p1 k0 x2 = some os7) k _ _ (Weak_keep 0 hm [0, 1, 5] [] _ _ rfl rfl rfl) ⟨_, rfl, rfl, h⟩ ?_
  clear h
  rintro k0 E H ⟨x2, rfl, rfl, h⟩
  cases k0 with
  | zero => cases (show (none : Option (Sum (Unit) (Bool))) = some _ from h)
  | succ k0 =>
   rw [laws_likeInts_l0] at h
   refine ACode_seq ?_
   refine kR ?_
   refine kM 2 rfl ?_
   refine AOps_q 13 _ rfl rfl rfl (QOp_len_sl _ _ _ _ _ _ _ (intsD_length _) rfl rfl rfl rfl Try.underlying25 rfl) ?_
   refine AOps_q 14 _ rfl rfl rfl (QOp_lss _ _ _ _ _ _ _ rfl rfl rfl) ?_
   refine AOps_nil ?_
   refine kI h rfl (fun h _ => ?_) (fun h _ => ?_)
   ·refine ACode_skip ?_
    refine ACode_seq ?_
    refine ACode_block ?_
    refine ACode_seq (ACode_quiet mixed (by kernel_rfl) ?_)
    refine kQ 2 rfl ?_
    obtain ⟨hc4, h⟩ := guardO h
    refine AQ_q 19 _ rfl rfl rfl (QOp_indexAddr_sl _ _ _ _ _ _ _ _ rfl Try.underlying25 Try.sizeOf2 hc4.1 (by rw [intsD_length]; exact hc4.2) rfl rfl) ?_
    refine AQ_q 20 _ rfl rfl rfl (QOp_load_pv _ _ _ _ _ rfl Try.isAgg2 rfl (intsD_get _ _ 0 (by omega))) ?_
    refine kQ 2 rfl ?_
    obtain ⟨hc5, h⟩ := guardO h
    refine AQ_q 23 _ rfl rfl rfl (QOp_indexAddr_sl _ _ _ _ _ _ _ _ rfl Try.underlying25 Try.sizeOf2 hc5.1 (by rw [intsD_length]; exact hc5.2) rfl rfl) ?_
    refine AQ_q 24 _ rfl rfl rfl (QOp_load_pv _ _ _ _ _ rfl Try.isAgg2 rfl (intsD_get _ _ 0 (by omega))) ?_
    refine AQ_q 25 _ rfl rfl rfl (QOp_neq _ _ _ _ _ _ _ rfl rfl rfl) ?_
    refine AQ_nil ?_
    refine kI h rfl (fun h _ => ?_) (fun h _ => ?_)
    ·refine kR ?_
     refine kN 1 rfl ?_
     refine ACode_ret ?_
     cases h
     have h := hks7
     cases h
     exact ⟨_, _, fun r a w h => ⟨r, h⟩, _, _, [], _, (.cons (ResV_tmp _ _ rfl) .nil), rfl, rfl, rfl, rfl, rfl⟩
    refine ACode_skip ?_
    refine (ACode_region ?_)
    refine kM 1 rfl ?_
    refine AOps_q 16 _ rfl rfl rfl (QOp_add _ _ _ _ _ _ _ rfl rfl rfl) ?_
    refine kN 1 rfl ?_
    exact ⟨k0, _, _, Nat.lt_succ_self _, Weak_keep 0 hm [0, 1, 5] [] _ _ rfl rfl rfl, _, rfl, rfl, h⟩
   refine ACode_exit ?_
   cases h
   exact ⟨_, rfl, Weak_keep 0 hm [] [] _ _ rfl rfl rfl⟩
 refine kR ?_
 refine kN 1 rfl ?_
 refine ACode_ret ?_
 cases h
 exact ⟨_, _, fun r a w h => ⟨r, h⟩, _, _, [], _, (.cons (ResV_tmp _ _ rfl) .nil), rfl, rfl, rfl, rfl, rfl⟩

-- (*loop.example/g01362/impl.Colouring).extendingCode
def impl_Colouring_extendingCode (k : Nat) (p0 : Col) (p1 : List Int) (p2 : Option (Bool)) (p3 : Int) : Option (Int) :=
 (impl_Colouring_sizesCode k p0 p1 p2).bind fun r1 => (if !decide (r1 = 0) then some r1 else (impl_Colouring_avoids k p0 p1).bind fun r3 => (if !r3 then some 5 else (if decide (p3 < p0.p) then some 3 else some 0)))
set_option maxRecDepth 100000 in
theorem impl_Colouring_extendingCode_ac (k : Nat) (p0 : Col) (p1 : List Int) (p2 : Option (Bool)) (p3 : Int) (g_p2 : FuncId) (c_p2 : List D) (hg_p2 : ∀ args w, (callFunc g_p2 args).run Try.prog w = .ok (.enter g_p2 args) w) (hf_p2 : ∀ (r : Bool), p2 = some r → AC Try.prog g_p2 ([] ++ c_p2.map AV.d) [] (fun res H' => res = [bV r] ∧ H' = [])) (r : Int) (h : impl_Colouring_extendingCode k p0 p1 p2 p3 = some r) : AC Try.prog 28 [.d (.pv (colD p0) 0), .d (.sl none (intsD p1)), .d (.clo g_p2 c_p2), iV p3] [] (fun res H' => res = [iV r] ∧ H' = []) := by
 refine AC_of_body true Try.func28 rfl Try.ntmps28 (rvs := [.tmp 8]) rfl rfl (fun G hG => ?_)
 have hm : G.H.length = 0 := by rw [hG]; rfl
 have hz : zeroG G.H = true := by rw [hG]; rfl
 unfold impl_Colouring_extendingCode at h
 refine kR ?_
 refine kN 1 rfl ?_
 refine kR ?_
 refine kM 3 rfl ?_
 obtain ⟨r1, hr1, h⟩ := bindO h
 refine kC [] 13 (iV r1) [] rfl Try.call47 rfl rfl (impl_Colouring_sizesCode_ac k p0 p1 p2 g_p2 c_p2 hg_p2 hf_p2 _ hr1) rfl ?_
 refine kN 1 rfl ?_
 refine ACode_seq ?_
 refine ACode_block ?_
 refine kR ?_
 refine kM 1 rfl ?_
 refine AOps_q 16 _ rfl rfl rfl (QOp_neq _ _ _ _ _ _ _ rfl rfl rfl) ?_
 refine kN 1 rfl ?_
 refine kI h rfl (fun h _ => ?_) (fun h _ => ?_)
 ·refine kR ?_
  refine kN 2 rfl ?_
  refine ACode_ret ?_
  cases h
  exact ⟨_, _, fun r a w h => ⟨r, h⟩, _, _, [], _, (.cons (ResV_tmp _ _ rfl) .nil), rfl, rfl, rfl, rfl, rfl⟩
 refine kR ?_
 refine kM 2 rfl ?_
 obtain ⟨r3, hr3, h⟩ := bindO h
 refine kC [] 21 (bV r3) [] rfl Try.call48 rfl rfl (impl_Colouring_avoids_ac k p0 p1 _ hr3) rfl ?_
 refine AOps_q 22 _ rfl rfl rfl (QOp_not _ _ _ rfl rfl) ?_
 refine kN 1 rfl ?_
 refine kI h rfl (fun h _ => ?_) (fun h _ => ?_)
 ·refine kR ?_
  refine kN 1 rfl ?_
  refine ACode_ret ?_
  cases h
  exact ⟨_, _, fun r a w h => ⟨r, h⟩, _, _, [], _, (.cons (ResV_tmp _ _ rfl) .nil), rfl, rfl, rfl, rfl, rfl⟩
 refine kR ?_
 refine kM 1 rfl ?_
 refine AOps_q 25 _ rfl rfl rfl (QOp_nilCheck_pv _ _ _ rfl rfl) ?_
 refine AOps_q 26 _ rfl rfl rfl (QOp_fieldAddr_pv _ _ _ _ _ 0 _ _ rfl Try.underlying29 rfl _ Try.sizeOf2 rfl rfl) ?_
 refine AOps_q 27 _ rfl rfl rfl (QOp_load_pv _ _ _ _ _ rfl Try.isAgg2 rfl rfl) ?_
 refine kM 1 rfl ?_
 refine AOps_q 29 _ rfl rfl rfl (QOp_gtr _ _ _ _ _ _ _ rfl rfl rfl) ?_
 refine kN 1 rfl ?_
 refine kI h rfl (fun h _ => ?_) (fun h _ => ?_)
 ·refine kR ?_
  refine kN 1 rfl ?_
  refine ACode_ret ?_
  cases h
  exact ⟨_, _, fun r a w h => ⟨r, h⟩, _, _, [], _, (.cons (ResV_tmp _ _ rfl) .nil), rfl, rfl, rfl, rfl, rfl⟩
 refine ACode_skip ?_
 refine kR ?_
 refine kN 1 rfl ?_
 refine ACode_ret ?_
 cases h
 exact ⟨_, _, fun r a w h => ⟨r, h⟩, _, _, [], _, (.cons (ResV_tmp _ _ rfl) .nil), rfl, rfl, rfl, rfl, rfl⟩

-- loop.example/g01362/impl.ExtensionsByDegree$1
def impl_ExtensionsByDegree_c1_l0 (p0 : List Int) (p0n : Nat) : Nat → Int → Int → Option (Int)
 | 0, _, _ => none
 | k0 + 1, x1, x2 => (if decide (x2 < ((p0n : Nat) : Int)) then ((if 0 ≤ x2 ∧ x2 < ((p0n : Nat) : Int) ∧ 0 + p0n ≤ p0.length then (if decide ((p0.getD (0 + x2.toNat) 0) = 0) then some (w64 (x1 + 1)) else some x1) else none) : Option (Int)).bind fun s6 => impl_ExtensionsByDegree_c1_l0 p0 p0n k0 s6 (w64 (x2 + 1)) else some x1)
def impl_ExtensionsByDegree_c1 (k : Nat) (p0 : List Int) (p0n : Nat) (p1 : List Int) : Option (Bool × List Int × List Int) :=
 (impl_ExtensionsByDegree_c1_l0 p0 p0n k 0 0 : Option (Int)).bind fun s7 => (if 0 ≤ s7 ∧ s7 < (p1.length : Int) then (if 0 ≤ s7 ∧ s7 < (p1.length : Int) then some (true, p0, p1.set s7.toNat (w64 ((p1.getD s7.toNat 0) + 1))) else none) else none)
set_option maxRecDepth 100000 in
theorem impl_ExtensionsByDegree_c1_ac (k : Nat) (p0 : List Int) (p0n : Nat) (p1 : List Int) (r : Bool × List Int × List Int) (h : impl_ExtensionsByDegree_c1 k p0 p0n p1 = some r) : AC Try.prog 71 [.part 0 0 0 p0n, .ptr 1 0] [.vec 0 (intsD p0), .ref (.vec 2 0), .vec 0 (intsD p1)] (fun res H' => res = [bV r.1] ∧ H' = [.vec 0 (intsD r.2.1), .ref (.vec 2 1), .vec 1 (intsD r.2.2)]) := by
 refine AC_of_body true Try.func71 rfl Try.ntmps71 (rvs := [.tmp 3]) rfl rfl (fun G hG => ?_)
 have hm : G.H.length = 3 := by rw [hG]; rfl
 have hz : zeroG G.H = true := by rw [hG]; rfl
 refine ACode_weak (Weak_bump 1 2 _ rfl rfl _ rfl) ?_
 unfold impl_ExtensionsByDegree_c1 at h
 refine kR ?_
 refine kN 1 rfl ?_
 refine kR ?_
 refine kN 1 rfl ?_
 refine kB (fun s7 => [(1, .ptr 1 0), (4, iV s7)]) (fun s7 => [.vec 0 (intsD p0), .ref (.vec 2 1), .vec 1 (intsD p1)]) h (fun s7 h => ?_) (fun s7 h => ?_)
 ·refine kR ?_
  refine kM 1 rfl ?_
  refine AOps_q 8 _ rfl rfl rfl (QOp_len_part _ _ _ _ _ _ _ _ _ _ rfl rfl rfl rfl Try.underlying25 rfl rfl rfl) ?_
  refine kN 1 rfl ?_
  refine ACode_block ?_
  refine ACode_loopW (fun k0 E H => ∃ (x1 : Int) (x2 : Int), E = [(1, .ptr 1 0), (4, iV x1), (7, .part 0 0 0 p0n), (8, iV ((p0n : Nat) : Int)), (9, iV x2)] ∧ H = [.vec 0 (intsD p0), .ref (.vec 2 1), .vec 1 (intsD p1)] ∧ impl_ExtensionsByDegree_c1_l0 p0 p0n k0 x1 x2 = some s7) k _ _ (Weak_keep 3 hm [1, 4, 7, 8, 9] [] _ _ rfl rfl rfl) ⟨_, _, rfl, rfl, h⟩ ?_
  clear h
  rintro k0 E H ⟨x1, x2, rfl, rfl, h⟩
  cases k0 with
  | zero => cases (show (none : Option (Int)) = some _ from h)
  | succ k0 =>
   rw [impl_ExtensionsByDegree_c1_l0] at h
   refine kR ?_
   refine AOps_q 10 _ rfl rfl rfl (QOp_lss _ _ _ _ _ _ _ rfl rfl rfl) ?_
   refine AOps_nil ?_
   refine ACode_seq ?_
   refine kI h rfl (fun h _ => ?_) (fun h _ => ?_)
   ·refine ACode_skip ?_
    refine kB (fun s6 => [(1, .ptr 1 0), (4, iV s6), (7, .part 0 0 0 p0n), (8, iV ((p0n : Nat) : Int)), (9, iV x2)]) (fun s6 => [.vec 0 (intsD p0), .ref (.vec 2 1), .vec 1 (intsD p1)]) h (fun s6 h => ?_) (fun s6 h => ?_)
    ·refine ACode_block ?_
     refine kR ?_
     obtain ⟨hc4, h⟩ := guardO h
     refine AOps_q 11 _ rfl rfl rfl (QOp_indexAddr_part _ _ _ _ _ _ _ _ _ _ _ _ rfl Try.underlying25 Try.sizeOf2 hc4.1 hc4.2.1 rfl rfl rfl rfl) ?_
     refine AOps_q 12 _ rfl rfl rfl (QOp_load_eptr _ _ _ _ _ _ _ rfl Try.isAgg2 rfl rfl (intsD_get _ _ 0 (by omega))) ?_
     refine kN 1 rfl ?_
     refine kR ?_
     refine kM 1 rfl ?_
     refine AOps_q 14 _ rfl rfl rfl (QOp_eql _ _ _ _ _ _ _ rfl rfl rfl) ?_
     refine AOps_nil ?_
     refine kI h rfl (fun h _ => ?_) (fun h _ => ?_)
     ·refine (ACode_region ?_)
      refine kM 1 rfl ?_
      refine AOps_q 16 _ rfl rfl rfl (QOp_add _ _ _ _ _ _ _ rfl rfl rfl) ?_
      refine kN 1 rfl ?_
      cases h
      exact Weak_keep 3 hm [1, 4, 7, 8, 9] [] _ _ rfl rfl rfl
     refine ACode_skip ?_
     cases h
     exact Weak_keep 3 hm [1, 4, 7, 8, 9] [] _ _ rfl rfl rfl
    refine (ACode_region ?_)
    refine AOps_q 17 _ rfl rfl rfl (QOp_add _ _ _ _ _ _ _ rfl rfl rfl) ?_
    refine kN 1 rfl ?_
    exact ⟨k0, _, _, Nat.lt_succ_self _, Weak_keep 3 hm [1, 4, 7, 8, 9] [] _ _ rfl rfl rfl, _, _, rfl, rfl, h⟩
   refine ACode_exit ?_
   cases h
   exact Weak_keep 3 hm [1, 4] [] _ _ rfl rfl rfl
 refine kR ?_
 refine AOps_q 18 _ rfl rfl rfl (QOp_load_ref _ _ _ _ rfl Try.isAgg25 rfl rfl) ?_
 refine kM 1 rfl ?_
 obtain ⟨hc8, h⟩ := guardO h
 refine AOps_q 20 _ rfl rfl rfl (QOp_indexAddr_vec _ _ _ _ _ _ _ _ _ rfl Try.underlying25 Try.sizeOf2 hc8.1 (by rw [intsD_length]; exact hc8.2) rfl rfl rfl) ?_
 refine AOps_q 21 _ rfl rfl rfl (QOp_load_eptr _ _ _ _ _ _ _ rfl Try.isAgg2 rfl rfl (intsD_get _ _ 0 (by omega))) ?_
 refine AOps_q 22 _ rfl rfl rfl (QOp_add _ _ _ _ _ _ _ rfl rfl rfl) ?_
 obtain ⟨hc9, h⟩ := guardO h
 refine AOps_q 23 _ rfl rfl rfl (QOp_indexAddr_vec _ _ _ _ _ _ _ _ _ rfl Try.underlying25 Try.sizeOf2 hc9.1 (by rw [intsD_length]; exact hc9.2) rfl rfl rfl) ?_
 refine AOps_store_eptr _ _ _ _ _ _ (intsD p1) _ rfl rfl rfl rfl rfl rfl rfl Try.sizeOf2 (by rw [intsD_length]; omega) ?_
 rw [intsD_set]
 refine AOps_nil ?_
 refine kR ?_
 refine kN 1 rfl ?_
 refine ACode_ret ?_
 cases h
 exact ⟨_, _, fun r a w h => ⟨r, h⟩, _, _, [], _, (.cons (ResV_tmp _ _ rfl) .nil), rfl, rfl, rfl, rfl, rfl⟩

-- (*loop.example/g01362/impl.Colouring).hasClique
def impl_Colouring_hasClique_l1 (p0 : Col) (p1 : Int) (p3 : List Int) (x4 : Int) : Nat → Int → (List Int) → Option (List Int)
 | 0, _, _ => none
 | k1 + 1, x8, x9 => (if decide (x8 < (((p3.take p3.length).drop (w64 (x4 + 1)).toNat).length : Int)) then ((if 0 ≤ x8 ∧ x8 < (((p3.take p3.length).drop (w64 (x4 + 1)).toNat).length : Int) then (impl_Colouring_joins p0 (p3.getD x4.toNat 0) (((p3.take p3.length).drop (w64 (x4 + 1)).toNat).getD x8.toNat 0) p1).bind fun r12 => (if r12 then (if x9.length + ([(((p3.take p3.length).drop (w64 (x4 + 1)).toNat).getD x8.toNat 0)]).length ≤ 1099511627776 then some (x9 ++ ([(((p3.take p3.length).drop (w64 (x4 + 1)).toNat).getD x8.toNat 0)])) else none) else some x9) else none) : Option (List Int)).bind fun s15 => impl_Colouring_hasClique_l1 p0 p1 p3 x4 k1 (w64 (x8 + 1)) s15 else some x9)
def impl_Colouring_hasClique_l0 (k : Nat) (self : Col → Int → Int → (List Int) → Option (Bool)) (p0 : Col) (p1 : Int) (p2 : Int) (p3 : List Int) : Nat → Int → Option (Sum (Unit) (Bool))
 | 0, _ => none
 | k0 + 1, x4 => (if decide (x4 < (p3.length : Int)) then ((if 0 ≤ x4 ∧ x4 < (p3.length : Int) then ((if 0 ≤ w64 (x4 + 1) ∧ w64 (x4 + 1) ≤ (p3.length : Int) ∧ (p3.length : Int) ≤ (p3.length : Int) then impl_Colouring_hasClique_l1 p0 p1 p3 x4 k 0 ([] : List Int) else none) : Option (List Int)).bind fun s16 => (self p0 p1 (w64 (p2 - 1)) s16).bind fun r17 => (if r17 then (some (.inr true)).bind fun rr => some (.inr rr) else some (.inl ())) else none) : Option (Sum (Unit) (Sum (Unit) (Bool)))).bind fun os19 => (match os19 with | .inl s19 => impl_Colouring_hasClique_l0 k self p0 p1 p2 p3 k0 (w64 (x4 + 1)) | .inr rr => some rr) else some (.inl ()))
def impl_Colouring_hasClique_body (self : Col → Int → Int → (List Int) → Option (Bool)) (k : Nat) (p0 : Col) (p1 : Int) (p2 : Int) (p3 : List Int) : Option (Bool) :=
 (if decide (p2 ≤ 0) then some true else (if decide ((impl_size p3) < p2) then some false else (impl_Colouring_hasClique_l0 k self p0 p1 p2 p3 k 0 : Option (Sum (Unit) (Bool))).bind fun os20 => (match os20 with | .inl s20 => some false | .inr rr => some rr)))
def impl_Colouring_hasClique : Nat → Col → Int → Int → (List Int) → Option (Bool)
 | 0, _, _, _, _ => none
 | k + 1, p0, p1, p2, p3 => impl_Colouring_hasClique_body (impl_Colouring_hasClique k) k p0 p1 p2 p3
set_option maxRecDepth 100000 in
theorem impl_Colouring_hasClique_ac (k : Nat) (p0 : Col) (p1 : Int) (p2 : Int) (p3 : List Int) (r : Bool) (h : impl_Colouring_hasClique k p0 p1 p2 p3 = some r) : AC Try.prog 78 [.d (.pv (colD p0) 0), iV p1, iV p2, .d (.sl none (intsD p3))] [] (fun res H' => res = [bV r] ∧ H' = []) := by
 induction k generalizing p0 p1 p2 p3 r with
 | zero => simp [impl_Colouring_hasClique] at h
 | succ k ih =>
  rw [impl_Colouring_hasClique] at h
  obtain ⟨self, hself, hk⟩ : ∃ self : Col → Int → Int → (List Int) → Option (Bool), (∀ (p0 : Col) (p1 : Int) (p2 : Int) (p3 : List Int) (r : Bool), self p0 p1 p2 p3 = some r → AC Try.prog 78 [.d (.pv (colD p0) 0), iV p1, iV p2, .d (.sl none (intsD p3))] [] (fun res H' => res = [bV r] ∧ H' = [])) ∧ impl_Colouring_hasClique k = self := ⟨impl_Colouring_hasClique k, fun p0 p1 p2 p3 r h => ih p0 p1 p2 p3 r h, rfl⟩
  rw [hk] at h
  clear ih hk
  refine AC_of_body true Try.func78 rfl Try.ntmps78 (rvs := [.tmp 8]) rfl rfl (fun G hG => ?_)
  have hm : G.H.length = 0 := by rw [hG]; rfl
  have hz : zeroG G.H = true := by rw [hG]; rfl
  unfold impl_Colouring_hasClique_body at h
  refine kR ?_
  refine kN 1 rfl ?_
  refine ACode_seq ?_
  refine kR ?_
  refine kM 1 rfl ?_
  refine AOps_q 15 _ rfl rfl rfl (QOp_leq _ _ _ _ _ _ _ rfl rfl rfl) ?_
  refine AOps_nil ?_
  refine kI h rfl (fun h _ => ?_) (fun h _ => ?_)
  ·refine kR ?_
   refine kN 1 rfl ?_
   refine ACode_ret ?_
   cases h
   exact ⟨_, _, fun r a w h => ⟨r, h⟩, _, _, [], _, (.cons (ResV_tmp _ _ rfl) .nil), rfl, rfl, rfl, rfl, rfl⟩
  refine ACode_skip ?_
  refine ACode_seq ?_
  refine kR ?_
  refine kM 1 rfl ?_
  refine kC [] 17 (iV (impl_size p3)) [] rfl Try.call55 rfl rfl (impl_size_ac p3) rfl ?_
  refine kM 1 rfl ?_
  refine AOps_q 19 _ rfl rfl rfl (QOp_lss _ _ _ _ _ _ _ rfl rfl rfl) ?_
  refine AOps_nil ?_
  refine kI h rfl (fun h _ => ?_) (fun h _ => ?_)
  ·refine kR ?_
   refine kN 1 rfl ?_
   refine ACode_ret ?_
   cases h
   exact ⟨_, _, fun r a w h => ⟨r, h⟩, _, _, [], _, (.cons (ResV_tmp _ _ rfl) .nil), rfl, rfl, rfl, rfl, rfl⟩
  refine ACode_skip ?_
  refine kO (fun s20 => []) (fun s20 => []) h (fun os20 h hks20 => ?_) (fun s20 h => ?_)
  ·refine kR ?_
   refine kM 1 rfl ?_
   refine AOps_q 21 _ rfl rfl rfl (QOp_len_sl _ _ _ _ _ _ _ (intsD_length _) rfl rfl rfl rfl Try.underlying25 rfl) ?_
   refine kN 1 rfl ?_
   refine ACode_block ?_
   refine ACode_loopW (fun k0 E H => ∃ (x4 : Int), E = [(0, .d (.pv (colD p0) 0)), (1, iV p1), (2, iV p2), (3, .d (.sl none (intsD p3))), (20, .d (.sl none (intsD p3))), (21, iV (p3.length : Int)), (22, iV x4)] ∧ H = [] ∧ impl_Colouring_hasClique_l0 k self p0 p1 p2 p3 k0 x4 = some os20) k _ _ (Weak_keep 0 hm [0, 1, 2, 3, 20, 21, 22] [] _ _ rfl rfl rfl) ⟨_, rfl, rfl, h⟩ ?_
   clear h
   rintro k0 E H ⟨x4, rfl, rfl, h⟩
   cases k0 with
   | zero => cases (show (none : Option (Sum (Unit) (Bool))) = some _ from h)
   | succ k0 =>
    rw [impl_Colouring_hasClique_l0] at h
    refine kR ?_
    refine AOps_q 23 _ rfl rfl rfl (QOp_lss _ _ _ _ _ _ _ rfl rfl rfl) ?_
    refine AOps_nil ?_
    refine ACode_seq ?_
    refine kI h rfl (fun h _ => ?_) (fun h _ => ?_)
    ·refine ACode_skip ?_
     refine kO (fun s19 => [(0, .d (.pv (colD p0) 0)), (1, iV p1), (2, iV p2), (3, .d (.sl none (intsD p3))), (20, .d (.sl none (intsD p3))), (21, iV (p3.length : Int)), (22, iV x4)]) (fun s19 => []) h (fun os19 h hks19 => ?_) (fun s19 h => ?_)
     ·refine ACode_block ?_
      refine kR ?_
      refine kM 1 rfl ?_
      obtain ⟨hc6, h⟩ := guardO h
      refine AOps_q 25 _ rfl rfl rfl (QOp_indexAddr_sl _ _ _ _ _ _ _ _ rfl Try.underlying25 Try.sizeOf2 hc6.1 (by rw [intsD_length]; exact hc6.2) rfl rfl) ?_
      refine AOps_q 26 _ rfl rfl rfl (QOp_load_pv _ _ _ _ _ rfl Try.isAgg2 rfl (intsD_get _ _ 0 (by omega))) ?_
      refine kN 2 rfl ?_
      refine kR ?_
      refine AOps_buildSlice 27 _ _ _ [] (intsD ([] : List Int)) _ rfl rfl rfl rfl rfl (by decide) Try.underlying25 Try.sizeOf2 (zero_of Try.typeInfo2 rfl) rfl rfl (intsD_one _) ?_
      refine kN 1 rfl ?_
      refine kB (fun s16 => [(0, .d (.pv (colD p0) 0)), (1, iV p1), (2, iV p2), (3, .d (.sl none (intsD p3))), (11, .vec 0 0), (20, .d (.sl none (intsD p3))), (21, iV (p3.length : Int)), (22, iV x4)]) (fun s16 => [.vec 0 (intsD s16)]) h (fun s16 h => ?_) (fun s16 h => ?_)
      ·refine kR ?_
       refine kM 2 rfl ?_
       refine AOps_q 30 _ rfl rfl rfl (QOp_add _ _ _ _ _ _ _ rfl rfl rfl) ?_
       obtain ⟨hc7, h⟩ := guardO h
       refine AOps_q 31 _ rfl rfl rfl (QOp_slice_sl _ _ _ _ _ _ _ _ ((w64 (x4 + 1)).toNat) (p3.length) rfl Try.underlying25 Try.sizeOf2 rfl ⟨_, by rw [Int.toNat_of_nonneg (by omega)]; rfl⟩ (by rw [intsD_length]) (by omega) (by rw [intsD_length]; omega) (intsD_part _ _ _)) ?_
       refine AOps_q 32 _ rfl rfl rfl (QOp_len_sl _ _ _ _ _ _ _ (intsD_length _) rfl rfl rfl rfl Try.underlying25 rfl) ?_
       refine kN 1 rfl ?_
       refine ACode_block ?_
       refine ACode_loopW (fun k1 E H => ∃ (x8 : Int) (x9 : List Int), E = [(0, .d (.pv (colD p0) 0)), (1, iV p1), (2, iV p2), (3, .d (.sl none (intsD p3))), (10, iV (p3.getD x4.toNat 0)), (11, .vec 0 0), (20, .d (.sl none (intsD p3))), (21, iV (p3.length : Int)), (22, iV x4), (31, .d (.sl none (intsD ((p3.take p3.length).drop (w64 (x4 + 1)).toNat)))), (32, iV (((p3.take p3.length).drop (w64 (x4 + 1)).toNat).length : Int)), (33, iV x8)] ∧ H = [.vec 0 (intsD x9)] ∧ impl_Colouring_hasClique_l1 p0 p1 p3 x4 k1 x8 x9 = some s16) k _ _ (Weak_keep 0 hm [0, 1, 2, 3, 10, 11, 20, 21, 22, 31, 32, 33] [0] _ _ rfl rfl rfl) ⟨_, _, rfl, rfl, h⟩ ?_
       clear h
       rintro k1 E H ⟨x8, x9, rfl, rfl, h⟩
       cases k1 with
       | zero => cases (show (none : Option (List Int)) = some _ from h)
       | succ k1 =>
        rw [impl_Colouring_hasClique_l1] at h
        refine kR ?_
        refine AOps_q 34 _ rfl rfl rfl (QOp_lss _ _ _ _ _ _ _ rfl rfl rfl) ?_
        refine AOps_nil ?_
        refine ACode_seq ?_
        refine kI h rfl (fun h _ => ?_) (fun h _ => ?_)
        ·refine ACode_skip ?_
         refine kB (fun s15 => [(0, .d (.pv (colD p0) 0)), (1, iV p1), (2, iV p2), (3, .d (.sl none (intsD p3))), (10, iV (p3.getD x4.toNat 0)), (11, .vec 0 0), (20, .d (.sl none (intsD p3))), (21, iV (p3.length : Int)), (22, iV x4), (31, .d (.sl none (intsD ((p3.take p3.length).drop (w64 (x4 + 1)).toNat)))), (32, iV (((p3.take p3.length).drop (w64 (x4 + 1)).toNat).length : Int)), (33, iV x8)]) (fun s15 => [.vec 0 (intsD s15)]) h (fun s15 h => ?_) (fun s15 h => ?_)
         ·refine ACode_block ?_
          refine kR ?_
          obtain ⟨hc11, h⟩ := guardO h
          refine AOps_q 35 _ rfl rfl rfl (QOp_indexAddr_sl _ _ _ _ _ _ _ _ rfl Try.underlying25 Try.sizeOf2 hc11.1 (by rw [intsD_length]; exact hc11.2) rfl rfl) ?_
          refine AOps_q 36 _ rfl rfl rfl (QOp_load_pv _ _ _ _ _ rfl Try.isAgg2 rfl (intsD_get _ _ 0 (by omega))) ?_
          refine kN 1 rfl ?_
          refine kR ?_
          refine kM 4 rfl ?_
          obtain ⟨r12, hr12, h⟩ := bindO h
          refine kC [] 41 (bV r12) [.vec 0 (intsD x9)] rfl Try.call77 rfl rfl (impl_Colouring_joins_ac p0 (p3.getD x4.toNat 0) (((p3.take p3.length).drop (w64 (x4 + 1)).toNat).getD x8.toNat 0) p1 _ hr12) rfl ?_
          refine AOps_nil ?_
          refine kI h rfl (fun h _ => ?_) (fun h _ => ?_)
          ·refine (ACode_region ?_)
           refine kM 2 rfl ?_
           refine AOps_buildSlice 44 _ _ _ [_] (intsD ([(((p3.take p3.length).drop (w64 (x4 + 1)).toNat).getD x8.toNat 0)])) _ rfl rfl rfl rfl rfl (by decide) Try.underlying25 Try.sizeOf2 (zero_of Try.typeInfo2 rfl) rfl rfl (intsD_one _) ?_
           obtain ⟨hc14, h⟩ := guardO h
           refine AOps_append 45 _ _ _ _ _ _ _ _ _ _ _ _ rfl rfl rfl rfl rfl rfl rfl Try.underlying25 Try.type2 rfl rfl rfl (by decide) rfl rfl rfl rfl (intsD_one _) (by rw [intsD_length, intsD_length]; exact hc14) ?_
           rw [intsD_app]
           refine kN 1 rfl ?_
           cases h
           exact Weak_trans (Weak_keep 0 hm [0, 1, 2, 3, 10, 11, 20, 21, 22, 31, 32, 33] [0] _ _ rfl rfl rfl) (Weak_reset 0 hm hz [0, 1, 2, 3, 10, 11, 20, 21, 22, 31, 32, 33] _ _ rfl rfl)
          refine ACode_skip ?_
          cases h
          exact Weak_keep 0 hm [0, 1, 2, 3, 10, 11, 20, 21, 22, 31, 32, 33] [0] _ _ rfl rfl rfl
         refine (ACode_region ?_)
         refine AOps_q 46 _ rfl rfl rfl (QOp_add _ _ _ _ _ _ _ rfl rfl rfl) ?_
         refine kN 1 rfl ?_
         exact ⟨k1, _, _, Nat.lt_succ_self _, Weak_keep 0 hm [0, 1, 2, 3, 10, 11, 20, 21, 22, 31, 32, 33] [0] _ _ rfl rfl rfl, _, _, rfl, rfl, h⟩
        refine ACode_exit ?_
        cases h
        exact Weak_keep 0 hm [0, 1, 2, 3, 11, 20, 21, 22] [0] _ _ rfl rfl rfl
      refine kR ?_
      refine kM 3 rfl ?_
      refine AOps_q 50 _ rfl rfl rfl (QOp_sub _ _ _ _ _ _ _ rfl rfl rfl) ?_
      refine kM 1 rfl ?_
      obtain ⟨r17, hr17, h⟩ := bindO h
      refine AOps_callL [] 52 _ _ _ _ _ _ _ _ _ _ rfl rfl rfl rfl rfl rfl rfl Try.call78 rfl (nodupB_sound _ rfl) rfl rfl rfl (hself p0 p1 (w64 (p2 - 1)) s16 _ hr17) ?_
      rintro _ _ ⟨rfl, rfl⟩
      refine ⟨(fun _ h => nomatch h), (allc (flat_s _) (fun _ h => nomatch h)), AOps_as 52 (v' := bV r17) (H' := [.vec 0 (intsD s16)]) rfl rfl ?_⟩
      refine AOps_nil ?_
      refine kI h rfl (fun h _ => ?_) (fun h _ => ?_)
      ·refine kR ?_
       refine kN 1 rfl ?_
       refine ACode_ret ?_
       obtain ⟨rr, hz21, h2⟩ := bindO h
       obtain rfl := Option.some.inj h2
       obtain rfl := Option.some.inj (show some rr = some _ from hks19)
       have h := hz21
       cases h
       have h := hks20
       cases h
       exact ⟨_, _, fun r a w h => ⟨r, h⟩, _, _, [], _, (.cons (ResV_tmp _ _ rfl) .nil), rfl, rfl, rfl, rfl, rfl⟩
      refine ACode_skip ?_
      cases h
      exact ⟨_, rfl, Weak_keep 0 hm [0, 1, 2, 3, 20, 21, 22] [] _ _ rfl rfl rfl⟩
     refine (ACode_region ?_)
     refine AOps_q 53 _ rfl rfl rfl (QOp_add _ _ _ _ _ _ _ rfl rfl rfl) ?_
     refine kN 1 rfl ?_
     exact ⟨k0, _, _, Nat.lt_succ_self _, Weak_keep 0 hm [0, 1, 2, 3, 20, 21, 22] [] _ _ rfl rfl rfl, _, rfl, rfl, h⟩
    refine ACode_exit ?_
    cases h
    exact ⟨_, rfl, Weak_keep 0 hm [] [] _ _ rfl rfl rfl⟩
  refine kR ?_
  refine kN 1 rfl ?_
  refine ACode_ret ?_
  cases h
  exact ⟨_, _, fun r a w h => ⟨r, h⟩, _, _, [], _, (.cons (ResV_tmp _ _ rfl) .nil), rfl, rfl, rfl, rfl, rfl⟩

-- (*loop.example/g01362/impl.Colouring).extensions
def impl_Colouring_extensions_on_ExtensionsByDegree_c1_l1 (p0 : Col) (p2 : List Int) (p2n : Nat) (x4 : Int) (x5 : List Int) : Nat → Int → (List Int) → Option (List Int)
 | 0, _, _ => none
 | k1 + 1, x8, x9 => (if decide (x8 < ((p2n : Nat) : Int)) then ((if 0 ≤ x8 ∧ x8 < ((p2n : Nat) : Int) ∧ 0 + p2n ≤ x5.length then ((if decide ((x5.getD (0 + x8.toNat) 0) = x4) then (impl_Colouring_joins p0 x8 (impl_size ((p2.drop 0).take p2n)) x4).bind fun r13 => some r13 else some false) : Option (Bool)).bind fun s14 => (if s14 then (if x9.length + ([x8]).length ≤ 1099511627776 then some (x9 ++ ([x8])) else none) else some x9) else none) : Option (List Int)).bind fun s17 => impl_Colouring_extensions_on_ExtensionsByDegree_c1_l1 p0 p2 p2n x4 x5 k1 (w64 (x8 + 1)) s17 else some x9)
def impl_Colouring_extensions_on_ExtensionsByDegree_c1_l0 (k : Nat) (self : Col → (List Int) → (List Int) → Nat → (List Int) → Option (Bool × List Int × List Int)) (p0 : Col) (p1 : List Int) (p2 : List Int) (p2n : Nat) : Nat → Int → (List Int) → (List Int) → Option (Sum (List Int × List Int) (Bool × List Int × List Int))
 | 0, _, _, _ => none
 | k0 + 1, x4, x5, x6 => (if decide (x4 < p0.k) then ((impl_Colouring_extensions_on_ExtensionsByDegree_c1_l1 p0 p2 p2n x4 x5 k 0 ([] : List Int) : Option (List Int)).bind fun s18 => ((if 0 ≤ x4 ∧ x4 < (p1.length : Int) then (impl_Colouring_hasClique k p0 x4 (w64 ((p1.getD x4.toNat 0) - 2)) s18).bind fun r20 => (if !r20 then (if 0 + p2n + ([x4]).length ≤ x5.length ∧ 1 ≤ ([x4]).length then (self p0 p1 (splicedL x5 (0 + p2n) (([x4]).length) ([x4])) (p2n + ([x4]).length) x6).bind fun r23 => some (!r23.1, r23.2.1, r23.2.2) else none) else some (false, x5, x6)) else none) : Option (Bool × List Int × List Int)).bind fun s24 => (if s24.1 then (some (.inr (false, s24.2.1, s24.2.2))).bind fun rr => some (.inr rr) else some (.inl (s24.2.1, s24.2.2))) : Option (Sum (List Int × List Int) (Sum (List Int × List Int) (Bool × List Int × List Int)))).bind fun os26 => (match os26 with | .inl s26 => impl_Colouring_extensions_on_ExtensionsByDegree_c1_l0 k self p0 p1 p2 p2n k0 (w64 (x4 + 1)) s26.1 s26.2 | .inr rr => some rr) else some (.inl (x5, x6)))
def impl_Colouring_extensions_on_ExtensionsByDegree_c1_body (self : Col → (List Int) → (List Int) → Nat → (List Int) → Option (Bool × List Int × List Int)) (k : Nat) (p0 : Col) (p1 : List Int) (p2 : List Int) (p2n : Nat) (p3_0 : List Int) : Option (Bool × List Int × List Int) :=
 (if decide ((impl_size ((p2.drop 0).take p2n)) = p0.p) then (impl_ExtensionsByDegree_c1 k p2 p2n p3_0).bind fun r3 => some (r3.1, r3.2.1, r3.2.2) else (impl_Colouring_extensions_on_ExtensionsByDegree_c1_l0 k self p0 p1 p2 p2n k 0 p2 p3_0 : Option (Sum (List Int × List Int) (Bool × List Int × List Int))).bind fun os27 => (match os27 with | .inl s27 => some (true, s27.1, s27.2) | .inr rr => some rr))
def impl_Colouring_extensions_on_ExtensionsByDegree_c1 : Nat → Col → (List Int) → (List Int) → Nat → (List Int) → Option (Bool × List Int × List Int)
 | 0, _, _, _, _, _ => none
 | k + 1, p0, p1, p2, p2n, p3_0 => impl_Colouring_extensions_on_ExtensionsByDegree_c1_body (impl_Colouring_extensions_on_ExtensionsByDegree_c1 k) k p0 p1 p2 p2n p3_0
set_option maxRecDepth 100000 in
theorem impl_Colouring_extensions_on_ExtensionsByDegree_c1_ac (k : Nat) (p0 : Col) (p1 : List Int) (p2 : List Int) (p2n : Nat) (p3_0 : List Int) (r : Bool × List Int × List Int) (h : impl_Colouring_extensions_on_ExtensionsByDegree_c1 k p0 p1 p2 p2n p3_0 = some r) : AC Try.prog 53 [.d (.pv (colD p0) 0), .d (.sl none (intsD p1)), .part 0 0 0 p2n, .clo 71 [.ptr 1 0]] [.vec 0 (intsD p2), .ref (.vec 2 0), .vec 0 (intsD p3_0)] (fun res H' => res = [bV r.1] ∧ H' = [.vec 0 (intsD r.2.1), .ref (.vec 2 1), .vec 1 (intsD r.2.2)]) := by
 induction k generalizing p0 p1 p2 p2n p3_0 r with
 | zero => simp [impl_Colouring_extensions_on_ExtensionsByDegree_c1] at h
 | succ k ih =>
  rw [impl_Colouring_extensions_on_ExtensionsByDegree_c1] at h
  obtain ⟨self, hself, hk⟩ : ∃ self : Col → (List Int) → (List Int) → Nat → (List Int) → Option (Bool × List Int × List Int), (∀ (p0 : Col) (p1 : List Int) (p2 : List Int) (p2n : Nat) (p3_0 : List Int) (r : Bool × List Int × List Int), self p0 p1 p2 p2n p3_0 = some r → AC Try.prog 53 [.d (.pv (colD p0) 0), .d (.sl none (intsD p1)), .part 0 0 0 p2n, .clo 71 [.ptr 1 0]] [.vec 0 (intsD p2), .ref (.vec 2 0), .vec 0 (intsD p3_0)] (fun res H' => res = [bV r.1] ∧ H' = [.vec 0 (intsD r.2.1), .ref (.vec 2 1), .vec 1 (intsD r.2.2)])) ∧ impl_Colouring_extensions_on_ExtensionsByDegree_c1 k = self := ⟨impl_Colouring_extensions_on_ExtensionsByDegree_c1 k, fun p0 p1 p2 p2n p3_0 r h => ih p0 p1 p2 p2n p3_0 r h, rfl⟩
  rw [hk] at h
  clear ih hk
  refine AC_of_body true Try.func53 rfl Try.ntmps53 (rvs := [.tmp 8]) rfl rfl (fun G hG => ?_)
  have hm : G.H.length = 3 := by rw [hG]; rfl
  have hz : zeroG G.H = true := by rw [hG]; rfl
  refine ACode_weak (Weak_bump 1 2 _ rfl rfl _ rfl) ?_
  unfold impl_Colouring_extensions_on_ExtensionsByDegree_c1_body at h
  refine kR ?_
  refine kN 1 rfl ?_
  refine kR ?_
  refine kM 1 rfl ?_
  refine AOps_callL [] 15 _ _ _ _ _ _ _ _ _ _ rfl rfl rfl rfl rfl rfl rfl Try.call55 rfl (nodupB_sound _ rfl) rfl rfl rfl (by have q := impl_size_ac ((p2.drop 0).take p2n); simp only [intsD_dt] at q; exact q) ?_
  rintro _ _ ⟨rfl, rfl⟩
  refine ⟨(fun _ h => nomatch h), (allc (flat_s _) (fun _ h => nomatch h)), AOps_as 15 (v' := iV (impl_size ((p2.drop 0).take p2n))) (H' := [.vec 0 (intsD p2), .ref (.vec 2 1), .vec 1 (intsD p3_0)]) rfl rfl ?_⟩
  refine kN 1 rfl ?_
  refine ACode_seq ?_
  refine kR ?_
  refine kM 2 rfl ?_
  refine AOps_q 18 _ rfl rfl rfl (QOp_nilCheck_pv _ _ _ rfl rfl) ?_
  refine AOps_q 19 _ rfl rfl rfl (QOp_fieldAddr_pv _ _ _ _ _ 0 _ _ rfl Try.underlying29 rfl _ Try.sizeOf2 rfl rfl) ?_
  refine AOps_q 20 _ rfl rfl rfl (QOp_load_pv _ _ _ _ _ rfl Try.isAgg2 rfl rfl) ?_
  refine AOps_q 21 _ rfl rfl rfl (QOp_eql _ _ _ _ _ _ _ rfl rfl rfl) ?_
  refine AOps_nil ?_
  refine kI h rfl (fun h _ => ?_) (fun h _ => ?_)
  ·refine kR ?_
   refine kM 2 rfl ?_
   obtain ⟨r3, hr3, h⟩ := bindO h
   refine kC [0, 1, 2] 24 (bV r3.1) [.vec 0 (intsD r3.2.1), .ref (.vec 2 2), .vec 2 (intsD r3.2.2)] rfl Try.call71 rfl rfl (impl_ExtensionsByDegree_c1_ac k p2 p2n p3_0 _ hr3) rfl ?_
   refine kN 1 rfl ?_
   refine ACode_ret ?_
   cases h
   exact ⟨_, _, Weak_reset 3 hm hz [8] _ _ rfl rfl, _, _, [], _, (.cons (ResV_tmp _ _ rfl) .nil), rfl, rfl, rfl, rfl, rfl⟩
  refine ACode_skip ?_
  refine kO (fun s27 => []) (fun s27 => [.vec 0 (intsD s27.1), .ref (.vec 2 1), .vec 1 (intsD s27.2)]) h (fun os27 h hks27 => ?_) (fun s27 h => ?_)
  ·refine kR ?_
   refine kM 1 rfl ?_
   refine AOps_q 26 _ rfl rfl rfl (QOp_nilCheck_pv _ _ _ rfl rfl) ?_
   refine AOps_q 27 _ rfl rfl rfl (QOp_fieldAddr_pv _ _ _ _ _ 1 _ _ rfl Try.underlying29 rfl _ Try.sizeOf2 rfl rfl) ?_
   refine AOps_q 28 _ rfl rfl rfl (QOp_load_pv _ _ _ _ _ rfl Try.isAgg2 rfl rfl) ?_
   refine kN 1 rfl ?_
   refine ACode_block ?_
   refine ACode_loopW (fun k0 E H => ∃ (x4 : Int) (x5 : List Int) (x6 : List Int), E = [(0, .d (.pv (colD p0) 0)), (1, .d (.sl none (intsD p1))), (2, .part 0 0 0 p2n), (3, .clo 71 [.ptr 1 0]), (9, iV (impl_size ((p2.drop 0).take p2n))), (28, iV p0.k), (29, iV x4)] ∧ H = [.vec 0 (intsD x5), .ref (.vec 2 1), .vec 1 (intsD x6)] ∧ impl_Colouring_extensions_on_ExtensionsByDegree_c1_l0 k self p0 p1 p2 p2n k0 x4 x5 x6 = some os27) k _ _ (Weak_keep 3 hm [0, 1, 2, 3, 9, 28, 29] [] _ _ rfl rfl rfl) ⟨_, _, _, rfl, rfl, h⟩ ?_
   clear h
   rintro k0 E H ⟨x4, x5, x6, rfl, rfl, h⟩
   cases k0 with
   | zero => cases (show (none : Option (Sum (List Int × List Int) (Bool × List Int × List Int))) = some _ from h)
   | succ k0 =>
    rw [impl_Colouring_extensions_on_ExtensionsByDegree_c1_l0] at h
    refine kR ?_
    refine AOps_q 30 _ rfl rfl rfl (QOp_lss _ _ _ _ _ _ _ rfl rfl rfl) ?_
    refine AOps_nil ?_
    refine ACode_seq ?_
    refine kI h rfl (fun h _ => ?_) (fun h _ => ?_)
    ·refine ACode_skip ?_
     refine kO (fun s26 => [(0, .d (.pv (colD p0) 0)), (1, .d (.sl none (intsD p1))), (2, .part 0 0 0 p2n), (3, .clo 71 [.ptr 1 0]), (9, iV (impl_size ((p2.drop 0).take p2n))), (28, iV p0.k), (29, iV x4)]) (fun s26 => [.vec 0 (intsD s26.1), .ref (.vec 2 1), .vec 1 (intsD s26.2)]) h (fun os26 h hks26 => ?_) (fun s26 h => ?_)
     ·refine ACode_block ?_
      refine kR ?_
      refine kN 2 rfl ?_
      refine kR ?_
      refine AOps_buildSlice 32 _ _ _ [] (intsD ([] : List Int)) _ rfl rfl rfl rfl rfl (by decide) Try.underlying25 Try.sizeOf2 (zero_of Try.typeInfo2 rfl) rfl rfl (intsD_one _) ?_
      refine kN 1 rfl ?_
      refine kB (fun s18 => [(0, .d (.pv (colD p0) 0)), (1, .d (.sl none (intsD p1))), (2, .part 0 0 0 p2n), (3, .clo 71 [.ptr 1 0]), (9, iV (impl_size ((p2.drop 0).take p2n))), (10, iV x4), (11, .vec 3 0), (28, iV p0.k), (29, iV x4)]) (fun s18 => [.vec 0 (intsD x5), .ref (.vec 2 1), .vec 1 (intsD x6), .vec 0 (intsD s18)]) h (fun s18 h => ?_) (fun s18 h => ?_)
      ·refine kR ?_
       refine kM 1 rfl ?_
       refine AOps_q 34 _ rfl rfl rfl (QOp_len_part _ _ _ _ _ _ _ _ _ _ rfl rfl rfl rfl Try.underlying25 rfl rfl rfl) ?_
       refine kN 1 rfl ?_
       refine ACode_block ?_
       refine ACode_loopW (fun k1 E H => ∃ (x8 : Int) (x9 : List Int), E = [(0, .d (.pv (colD p0) 0)), (1, .d (.sl none (intsD p1))), (2, .part 0 0 0 p2n), (3, .clo 71 [.ptr 1 0]), (9, iV (impl_size ((p2.drop 0).take p2n))), (10, iV x4), (11, .vec 3 0), (28, iV p0.k), (29, iV x4), (33, .part 0 0 0 p2n), (34, iV ((p2n : Nat) : Int)), (35, iV x8)] ∧ H = [.vec 0 (intsD x5), .ref (.vec 2 1), .vec 1 (intsD x6), .vec 0 (intsD x9)] ∧ impl_Colouring_extensions_on_ExtensionsByDegree_c1_l1 p0 p2 p2n x4 x5 k1 x8 x9 = some s18) k _ _ (Weak_keep 3 hm [0, 1, 2, 3, 9, 10, 11, 28, 29, 33, 34, 35] [3] _ _ rfl rfl rfl) ⟨_, _, rfl, rfl, h⟩ ?_
       clear h
       rintro k1 E H ⟨x8, x9, rfl, rfl, h⟩
       cases k1 with
       | zero => cases (show (none : Option (List Int)) = some _ from h)
       | succ k1 =>
        rw [impl_Colouring_extensions_on_ExtensionsByDegree_c1_l1] at h
        refine kR ?_
        refine AOps_q 36 _ rfl rfl rfl (QOp_lss _ _ _ _ _ _ _ rfl rfl rfl) ?_
        refine AOps_nil ?_
        refine ACode_seq ?_
        refine kI h rfl (fun h _ => ?_) (fun h _ => ?_)
        ·refine ACode_skip ?_
         refine kB (fun s17 => [(0, .d (.pv (colD p0) 0)), (1, .d (.sl none (intsD p1))), (2, .part 0 0 0 p2n), (3, .clo 71 [.ptr 1 0]), (9, iV (impl_size ((p2.drop 0).take p2n))), (10, iV x4), (11, .vec 3 0), (28, iV p0.k), (29, iV x4), (33, .part 0 0 0 p2n), (34, iV ((p2n : Nat) : Int)), (35, iV x8)]) (fun s17 => [.vec 0 (intsD x5), .ref (.vec 2 1), .vec 1 (intsD x6), .vec 0 (intsD s17)]) h (fun s17 h => ?_) (fun s17 h => ?_)
         ·refine ACode_block ?_
          refine kR ?_
          refine kM 1 rfl ?_
          obtain ⟨hc11, h⟩ := guardO h
          refine AOps_q 38 _ rfl rfl rfl (QOp_indexAddr_part _ _ _ _ _ _ _ _ _ _ _ _ rfl Try.underlying25 Try.sizeOf2 hc11.1 hc11.2.1 rfl rfl rfl rfl) ?_
          refine AOps_q 39 _ rfl rfl rfl (QOp_load_eptr _ _ _ _ _ _ _ rfl Try.isAgg2 rfl rfl (intsD_get _ _ 0 (by omega))) ?_
          refine kN 2 rfl ?_
          refine kB (fun s14 => [(0, .d (.pv (colD p0) 0)), (1, .d (.sl none (intsD p1))), (2, .part 0 0 0 p2n), (3, .clo 71 [.ptr 1 0]), (9, iV (impl_size ((p2.drop 0).take p2n))), (10, iV x4), (11, .vec 3 0), (12, iV x8), (28, iV p0.k), (29, iV x4), (33, .part 0 0 0 p2n), (34, iV ((p2n : Nat) : Int)), (35, iV x8), (49, bV s14)]) (fun s14 => [.vec 0 (intsD x5), .ref (.vec 2 1), .vec 1 (intsD x6), .vec 0 (intsD x9)]) h (fun s14 h => ?_) (fun s14 h => ?_)
          ·refine (ACode_region ?_)
           refine kM 2 rfl ?_
           refine AOps_q 42 _ rfl rfl rfl (QOp_eql _ _ _ _ _ _ _ rfl rfl rfl) ?_
           refine kM 1 rfl ?_
           refine AOps_case 43 _ rfl (fun hb12 => ?_) (fun hb12 => ?_)
           ·have h := iteT hb12 h
            refine kM 4 rfl ?_
            obtain ⟨r13, hr13, h⟩ := bindO h
            refine kC [] 48 (bV r13) [.vec 0 (intsD x5), .ref (.vec 2 1), .vec 1 (intsD x6), .vec 0 (intsD x9)] rfl Try.call77 rfl rfl (impl_Colouring_joins_ac p0 x8 (impl_size ((p2.drop 0).take p2n)) x4 _ hr13) rfl ?_
            refine kN 1 rfl ?_
            cases h
            exact Weak_keep 3 hm [0, 1, 2, 3, 9, 10, 11, 12, 28, 29, 33, 34, 35, 49] [3] _ _ rfl rfl rfl
           have h := iteF hb12 h
           refine AOps_skip 44 rfl rfl rfl ?_
           refine AOps_skip 45 rfl rfl rfl ?_
           refine AOps_skip 46 rfl rfl rfl ?_
           refine AOps_skip 47 rfl rfl rfl ?_
           refine AOps_skip 48 rfl rfl rfl ?_
           refine kN 1 rfl ?_
           cases h
           exact Weak_keep 3 hm [0, 1, 2, 3, 9, 10, 11, 12, 28, 29, 33, 34, 35, 49] [3] _ _ rfl rfl rfl
          refine kI h rfl (fun h _ => ?_) (fun h _ => ?_)
          ·refine (ACode_region ?_)
           refine kM 2 rfl ?_
           refine AOps_buildSlice 52 _ _ _ [_] (intsD ([x8])) _ rfl rfl rfl rfl rfl (by decide) Try.underlying25 Try.sizeOf2 (zero_of Try.typeInfo2 rfl) rfl rfl (intsD_one _) ?_
           obtain ⟨hc16, h⟩ := guardO h
           refine AOps_append 53 _ _ _ _ _ _ _ _ _ _ _ _ rfl rfl rfl rfl rfl rfl rfl Try.underlying25 Try.type2 rfl rfl rfl (by decide) rfl rfl rfl rfl (intsD_one _) (by rw [intsD_length, intsD_length]; exact hc16) ?_
           rw [intsD_app]
           refine kN 1 rfl ?_
           cases h
           exact Weak_trans (Weak_keep 3 hm [0, 1, 2, 3, 9, 10, 11, 28, 29, 33, 34, 35] [3] _ _ rfl rfl rfl) (Weak_reset 3 hm hz [0, 1, 2, 3, 9, 10, 11, 28, 29, 33, 34, 35] _ _ rfl rfl)
          refine ACode_skip ?_
          cases h
          exact Weak_keep 3 hm [0, 1, 2, 3, 9, 10, 11, 28, 29, 33, 34, 35] [3] _ _ rfl rfl rfl
         refine (ACode_region ?_)
         refine AOps_q 54 _ rfl rfl rfl (QOp_add _ _ _ _ _ _ _ rfl rfl rfl) ?_
         refine kN 1 rfl ?_
         exact ⟨k1, _, _, Nat.lt_succ_self _, Weak_keep 3 hm [0, 1, 2, 3, 9, 10, 11, 28, 29, 33, 34, 35] [3] _ _ rfl rfl rfl, _, _, rfl, rfl, h⟩
        refine ACode_exit ?_
        cases h
        exact Weak_keep 3 hm [0, 1, 2, 3, 9, 10, 11, 28, 29] [3] _ _ rfl rfl rfl
      refine kB (fun s24 => [(0, .d (.pv (colD p0) 0)), (1, .d (.sl none (intsD p1))), (2, .part 0 0 0 p2n), (3, .clo 71 [.ptr 1 0]), (9, iV (impl_size ((p2.drop 0).take p2n))), (28, iV p0.k), (29, iV x4), (75, bV s24.1)]) (fun s24 => [.vec 0 (intsD s24.2.1), .ref (.vec 2 1), .vec 1 (intsD s24.2.2)]) h (fun s24 h => ?_) (fun s24 h => ?_)
      ·refine (ACode_region ?_)
       refine kM 4 rfl ?_
       obtain ⟨hc19, h⟩ := guardO h
       refine AOps_q 59 _ rfl rfl rfl (QOp_indexAddr_sl _ _ _ _ _ _ _ _ rfl Try.underlying25 Try.sizeOf2 hc19.1 (by rw [intsD_length]; exact hc19.2) rfl rfl) ?_
       refine AOps_q 60 _ rfl rfl rfl (QOp_load_pv _ _ _ _ _ rfl Try.isAgg2 rfl (intsD_get _ _ 0 (by omega))) ?_
       refine AOps_q 61 _ rfl rfl rfl (QOp_sub _ _ _ _ _ _ _ rfl rfl rfl) ?_
       refine kM 1 rfl ?_
       obtain ⟨r20, hr20, h⟩ := bindO h
       refine AOps_callL [] 63 _ _ _ _ _ _ _ _ _ _ rfl rfl rfl rfl rfl rfl rfl Try.call78 rfl (nodupB_sound _ rfl) rfl rfl rfl (impl_Colouring_hasClique_ac k p0 x4 (w64 ((p1.getD x4.toNat 0) - 2)) s18 _ hr20) ?_
       rintro _ _ ⟨rfl, rfl⟩
       refine ⟨(fun _ h => nomatch h), (allc (flat_s _) (fun _ h => nomatch h)), AOps_as 63 (v' := bV r20) (H' := [.vec 0 (intsD x5), .ref (.vec 2 1), .vec 1 (intsD x6), .vec 0 (intsD s18)]) rfl rfl ?_⟩
       refine AOps_q 64 _ rfl rfl rfl (QOp_not _ _ _ rfl rfl) ?_
       refine kM 1 rfl ?_
       refine AOps_case 65 _ rfl (fun hb21 => ?_) (fun hb21 => ?_)
       ·have h := iteT hb21 h
        refine kM 4 rfl ?_
        refine AOps_buildSlice 70 _ _ _ [_] (intsD ([x4])) _ rfl rfl rfl rfl rfl (by decide) Try.underlying25 Try.sizeOf2 (zero_of Try.typeInfo2 rfl) rfl rfl (intsD_one _) ?_
        obtain ⟨hc22, h⟩ := guardO h
        refine AOps_append_part 71 _ _ _ _ _ 0 0 0 p2n (p2n + ([x4]).length) _ (intsD x5) (intsD ([x4])) _ rfl rfl rfl rfl rfl rfl rfl Try.underlying25 Try.type2 rfl rfl rfl rfl rfl (intsD_one _) (by rw [intsD_length]; exact hc22.2) (by rw [intsD_length, intsD_length]; exact hc22.1) (by rw [intsD_length]) ?_
        rw [intsD_length, intsD_spl]
        refine kM 1 rfl ?_
        obtain ⟨r23, hr23, h⟩ := bindO h
        refine kC [0, 1, 2] 73 (bV r23.1) [.vec 0 (intsD r23.2.1), .ref (.vec 2 2), .vec 2 (intsD r23.2.2), .vec 0 (intsD s18), .vec 0 (intsD ([x4]))] rfl Try.call53 rfl rfl (hself p0 p1 (splicedL x5 (0 + p2n) (([x4]).length) ([x4])) (p2n + ([x4]).length) x6 _ hr23) rfl ?_
        refine AOps_q 74 _ rfl rfl rfl (QOp_not _ _ _ rfl rfl) ?_
        refine kN 1 rfl ?_
        cases h
        exact Weak_trans (Weak_keep 3 hm [0, 1, 2, 3, 9, 28, 29, 75] [] _ _ rfl rfl rfl) (Weak_reset 3 hm hz [0, 1, 2, 3, 9, 28, 29, 75] _ _ rfl rfl)
       have h := iteF hb21 h
       refine AOps_skip 66 rfl rfl rfl ?_
       refine AOps_skip 67 rfl rfl rfl ?_
       refine AOps_skip 68 rfl rfl rfl ?_
       refine AOps_skip 69 rfl rfl rfl ?_
       refine AOps_skip 70 rfl rfl rfl ?_
       refine AOps_skip 71 rfl rfl rfl ?_
       refine AOps_skip 72 rfl rfl rfl ?_
       refine AOps_skip 73 rfl rfl rfl ?_
       refine AOps_skip 74 rfl rfl rfl ?_
       refine kN 1 rfl ?_
       cases h
       exact Weak_keep 3 hm [0, 1, 2, 3, 9, 28, 29, 75] [] _ _ rfl rfl rfl
      refine kI h rfl (fun h _ => ?_) (fun h _ => ?_)
      ·refine kR ?_
       refine kN 1 rfl ?_
       refine ACode_ret ?_
       obtain ⟨rr, hz28, h2⟩ := bindO h
       obtain rfl := Option.some.inj h2
       obtain rfl := Option.some.inj (show some rr = some _ from hks26)
       have h := hz28
       cases h
       have h := hks27
       cases h
       exact ⟨_, _, fun r a w h => ⟨r, h⟩, _, _, [], _, (.cons (ResV_tmp _ _ rfl) .nil), rfl, rfl, rfl, rfl, rfl⟩
      refine ACode_skip ?_
      cases h
      exact ⟨_, rfl, Weak_keep 3 hm [0, 1, 2, 3, 9, 28, 29] [] _ _ rfl rfl rfl⟩
     refine (ACode_region ?_)
     refine AOps_q 76 _ rfl rfl rfl (QOp_add _ _ _ _ _ _ _ rfl rfl rfl) ?_
     refine kN 1 rfl ?_
     exact ⟨k0, _, _, Nat.lt_succ_self _, Weak_keep 3 hm [0, 1, 2, 3, 9, 28, 29] [] _ _ rfl rfl rfl, _, _, _, rfl, rfl, h⟩
    refine ACode_exit ?_
    cases h
    exact ⟨_, rfl, Weak_keep 3 hm [] [] _ _ rfl rfl rfl⟩
  refine kR ?_
  refine kN 1 rfl ?_
  refine ACode_ret ?_
  cases h
  exact ⟨_, _, fun r a w h => ⟨r, h⟩, _, _, [], _, (.cons (ResV_tmp _ _ rfl) .nil), rfl, rfl, rfl, rfl, rfl⟩

-- (*loop.example/g01362/impl.Colouring).extend
def impl_Colouring_extend_on_ExtensionsByDegree_c1 (k : Nat) (p0 : Col) (p1 : List Int) (p2_0 : List Int) : Option (Bool × List Int) :=
 (impl_Colouring_extensions_on_ExtensionsByDegree_c1 k p0 p1 (List.replicate 17 (0 : Int)) 0 p2_0).bind fun r2 => some (r2.1, r2.2.2)
set_option maxRecDepth 100000 in
theorem impl_Colouring_extend_on_ExtensionsByDegree_c1_ac (k : Nat) (p0 : Col) (p1 : List Int) (p2_0 : List Int) (r : Bool × List Int) (h : impl_Colouring_extend_on_ExtensionsByDegree_c1 k p0 p1 p2_0 = some r) : AC Try.prog 30 [.d (.pv (colD p0) 0), .d (.sl none (intsD p1)), .clo 71 [.ptr 0 0]] [.ref (.vec 1 0), .vec 0 (intsD p2_0)] (fun res H' => res = [bV r.1] ∧ H' = [.ref (.vec 1 1), .vec 1 (intsD r.2)]) := by
 refine AC_of_body true Try.func30 rfl Try.ntmps30 (rvs := [.tmp 6]) rfl rfl (fun G hG => ?_)
 have hm : G.H.length = 2 := by rw [hG]; rfl
 have hz : zeroG G.H = true := by rw [hG]; rfl
 refine ACode_weak (Weak_bump 0 1 _ rfl rfl _ rfl) ?_
 unfold impl_Colouring_extend_on_ExtensionsByDegree_c1 at h
 refine kR ?_
 refine kN 1 rfl ?_
 refine kR ?_
 refine kM 2 rfl ?_
 refine AOps_makeBufG intsD iD 0 (intsD_rep · _) 9 _ _ _ _ _ _ 17 _ (.int .i64 0) rfl rfl rfl rfl rfl rfl Try.underlying25 Try.type2 rfl rfl (by decide) rfl rfl (by decide) ?_
 refine kM 1 rfl ?_
 obtain ⟨r2, hr2, h⟩ := bindO h
 refine kC [2, 0, 1] 11 (bV r2.1) [.ref (.vec 1 2), .vec 2 (intsD r2.2.2), .vec 0 (intsD r2.2.1)] rfl Try.call53 rfl rfl (impl_Colouring_extensions_on_ExtensionsByDegree_c1_ac k p0 p1 (List.replicate 17 (0 : Int)) 0 p2_0 _ hr2) rfl ?_
 refine kN 1 rfl ?_
 refine ACode_ret ?_
 cases h
 exact ⟨_, _, Weak_reset 2 hm hz [6] _ _ rfl rfl, _, _, [], _, (.cons (ResV_tmp _ _ rfl) .nil), rfl, rfl, rfl, rfl, rfl⟩

-- loop.example/g01362/impl.ExtensionsByDegree
def impl_ExtensionsByDegree (k : Nat) (p0 : Col) (p1 : List Int) : Option (Option (List Int) × Int) :=
 (impl_Colouring_extendingCode k p0 p1 (some (impl_always)) 12).bind fun r1 => (if !decide (r1 = 0) then some (none, r1) else (if 0 ≤ w64 (p0.p + 1) ∧ w64 (p0.p + 1) ≤ w64 (p0.p + 1) ∧ w64 (p0.p + 1) ≤ 1099511627776 then (impl_Colouring_extend_on_ExtensionsByDegree_c1 k p0 p1 (List.replicate (w64 (p0.p + 1)).toNat (0 : Int))).bind fun r4 => some (some r4.2, 0) else none))
set_option maxRecDepth 100000 in
theorem impl_ExtensionsByDegree_ac (k : Nat) (p0 : Col) (p1 : List Int) (r : Option (List Int) × Int) (h : impl_ExtensionsByDegree k p0 p1 = some r) : AC Try.prog 49 [.d (.agg (colD p0)), .d (.sl none (intsD p1))] [] (fun res H' => res = [ownA 0 (r.1.map intsD), iV r.2] ∧ H' = [] ++ ownH (r.1.map intsD)) := by
 refine AC_of_body false Try.func49 rfl Try.ntmps49 (rvs := [.tmp 4, .tmp 5]) rfl rfl (fun G hG => ?_)
 have hm : G.H.length = 0 := by rw [hG]; rfl
 have hz : zeroG G.H = true := by rw [hG]; rfl
 unfold impl_ExtensionsByDegree at h
 refine kR ?_
 refine AOps_boxI 2 _ _ (.agg (colD p0)) (colD p0) rfl (colD_one _) rfl rfl rfl rfl rfl ?_
 refine kN 2 rfl ?_
 refine ACode_seq ?_
 refine kR ?_
 refine kM 1 rfl ?_
 obtain ⟨r1, hr1, h⟩ := bindO h
 refine kC [] 9 (iV r1) [] rfl Try.call28 rfl rfl (impl_Colouring_extendingCode_ac k p0 p1 (some (impl_always)) 12 29 ([]) Try.call29 (fun r h => by cases h; exact impl_always_ac) _ hr1) rfl ?_
 refine kN 1 rfl ?_
 refine kR ?_
 refine kM 1 rfl ?_
 refine AOps_q 11 _ rfl rfl rfl (QOp_neq _ _ _ _ _ _ _ rfl rfl rfl) ?_
 refine AOps_nil ?_
 refine kI h rfl (fun h _ => ?_) (fun h _ => ?_)
 ·refine kR ?_
  refine kN 3 rfl ?_
  refine ACode_ret ?_
  cases h
  exact ⟨_, _, fun r a w h => ⟨r, h⟩, _, _, [], _, (.cons (ResV_tmp _ _ rfl) (.cons (ResV_tmp _ _ rfl) .nil)), rfl, rfl, rfl, rfl, rfl⟩
 refine ACode_skip ?_
 refine kR ?_
 refine AOps_q 13 _ rfl rfl rfl (QOp_fieldAddr_pv _ _ _ _ _ 0 _ _ rfl Try.underlying29 rfl _ Try.sizeOf2 rfl rfl) ?_
 refine AOps_q 14 _ rfl rfl rfl (QOp_load_pv _ _ _ _ _ rfl Try.isAgg2 rfl rfl) ?_
 refine AOps_q 15 _ rfl rfl rfl (QOp_add _ _ _ _ _ _ _ rfl rfl rfl) ?_
 obtain ⟨hc3, h⟩ := guardO h
 refine AOps_makeSliceG intsD iD 0 (intsD_rep · _) 16 _ _ _ _ _ _ (w64 (p0.p + 1)) (w64 (p0.p + 1)) _ (.int .i64 0) rfl rfl rfl rfl rfl rfl Try.underlying25 Try.type2 rfl rfl (by decide) rfl rfl hc3.1 hc3.2.1 hc3.2.2 ?_
 refine AOps_alloc 7 _ _ ([.sl (some true) []]) (zero_of Try.typeInfo25 rfl) (by rfl) rfl rfl rfl rfl ?_
 refine AOps_storeR 1 _ _ _ _ _ rfl rfl rfl rfl rfl rfl rfl rfl Try.sizeOf25 (fun r a w hr => vec_one hr rfl rfl rfl) ?_
 refine AOps_nil ?_
 refine kR ?_
 refine kM 1 rfl ?_
 refine AOps_q 18 _ rfl rfl rfl (QOp_makeFunc _ _ _ rfl rfl) ?_
 obtain ⟨r4, hr4, h⟩ := bindO h
 refine kC [1, 0] 19 (bV r4.1) [.vec 1 (intsD r4.2), .ref (.vec 0 1)] rfl Try.call30 rfl rfl (impl_Colouring_extend_on_ExtensionsByDegree_c1_ac k p0 p1 (List.replicate (w64 (p0.p + 1)).toNat (0 : Int)) _ hr4) rfl ?_
 refine AOps_nil ?_
 refine kR ?_
 refine AOps_q 20 _ rfl rfl rfl (QOp_load_ref _ _ _ _ rfl Try.isAgg25 rfl rfl) ?_
 refine kN 2 rfl ?_
 refine ACode_ret ?_
 cases h
 exact ⟨_, _, Weak_reset 0 hm hz [4, 5] _ _ rfl rfl, _, _, [0], _, (.cons (ResV_tmp _ _ rfl) (.cons (ResV_tmp _ _ rfl) .nil)), rfl, rfl, rfl, rfl, rfl⟩

-- loop.example/g01362/impl.sum
def impl_sum_l0 (p0 : List Int) : Nat → Int → Int → Option (Int)
 | 0, _, _ => none
 | k0 + 1, x1, x2 => (if decide (x2 < (p0.length : Int)) then (if 0 ≤ x2 ∧ x2 < (p0.length : Int) then impl_sum_l0 p0 k0 (w64 (x1 + (p0.getD x2.toNat 0))) (w64 (x2 + 1)) else none) else some x1)
def impl_sum (k : Nat) (p0 : List Int) : Option (Int) :=
 (impl_sum_l0 p0 k 0 0 : Option (Int)).bind fun s5 => some s5
set_option maxRecDepth 100000 in
theorem impl_sum_ac (k : Nat) (p0 : List Int) (r : Int) (h : impl_sum k p0 = some r) : AC Try.prog 50 [.d (.sl none (intsD p0))] [] (fun res H' => res = [iV r] ∧ H' = []) := by
 refine AC_of_body true Try.func50 rfl Try.ntmps50 (rvs := [.tmp 2]) rfl rfl (fun G hG => ?_)
 have hm : G.H.length = 0 := by rw [hG]; rfl
 have hz : zeroG G.H = true := by rw [hG]; rfl
 unfold impl_sum at h
 refine kR ?_
 refine kN 1 rfl ?_
 refine kR ?_
 refine kN 1 rfl ?_
 refine kB (fun s5 => [(3, iV s5)]) (fun s5 => []) h (fun s5 h => ?_) (fun s5 h => ?_)
 ·refine kR ?_
  refine kM 1 rfl ?_
  refine AOps_q 7 _ rfl rfl rfl (QOp_len_sl _ _ _ _ _ _ _ (intsD_length _) rfl rfl rfl rfl Try.underlying25 rfl) ?_
  refine kN 1 rfl ?_
  refine ACode_block ?_
  refine ACode_loopW (fun k0 E H => ∃ (x1 : Int) (x2 : Int), E = [(3, iV x1), (6, .d (.sl none (intsD p0))), (7, iV (p0.length : Int)), (8, iV x2)] ∧ H = [] ∧ impl_sum_l0 p0 k0 x1 x2 = some s5) k _ _ (Weak_keep 0 hm [3, 6, 7, 8] [] _ _ rfl rfl rfl) ⟨_, _, rfl, rfl, h⟩ ?_
  clear h
  rintro k0 E H ⟨x1, x2, rfl, rfl, h⟩
  cases k0 with
  | zero => cases (show (none : Option (Int)) = some _ from h)
  | succ k0 =>
   rw [impl_sum_l0] at h
   refine kR ?_
   refine AOps_q 9 _ rfl rfl rfl (QOp_lss _ _ _ _ _ _ _ rfl rfl rfl) ?_
   refine AOps_nil ?_
   refine ACode_seq ?_
   refine kI h rfl (fun h _ => ?_) (fun h _ => ?_)
   ·refine ACode_skip ?_
    refine ACode_seq ?_
    refine ACode_block ?_
    refine kR ?_
    obtain ⟨hc4, h⟩ := guardO h
    refine AOps_q 10 _ rfl rfl rfl (QOp_indexAddr_sl _ _ _ _ _ _ _ _ rfl Try.underlying25 Try.sizeOf2 hc4.1 (by rw [intsD_length]; exact hc4.2) rfl rfl) ?_
    refine AOps_q 11 _ rfl rfl rfl (QOp_load_pv _ _ _ _ _ rfl Try.isAgg2 rfl (intsD_get _ _ 0 (by omega))) ?_
    refine kN 1 rfl ?_
    refine (ACode_region ?_)
    refine kM 2 rfl ?_
    refine AOps_q 14 _ rfl rfl rfl (QOp_add _ _ _ _ _ _ _ rfl rfl rfl) ?_
    refine kN 1 rfl ?_
    refine (ACode_region ?_)
    refine AOps_q 15 _ rfl rfl rfl (QOp_add _ _ _ _ _ _ _ rfl rfl rfl) ?_
    refine kN 1 rfl ?_
    exact ⟨k0, _, _, Nat.lt_succ_self _, Weak_keep 0 hm [3, 6, 7, 8] [] _ _ rfl rfl rfl, _, _, rfl, rfl, h⟩
   refine ACode_exit ?_
   cases h
   exact Weak_keep 0 hm [3] [] _ _ rfl rfl rfl
 refine kR ?_
 refine kN 2 rfl ?_
 refine ACode_ret ?_
 cases h
 exact ⟨_, _, fun r a w h => ⟨r, h⟩, _, _, [], _, (.cons (ResV_tmp _ _ rfl) .nil), rfl, rfl, rfl, rfl, rfl⟩

-- loop.example/g01362/impl.CountExtensions
def impl_CountExtensions (k : Nat) (p0 : Col) (p1 : List Int) : Option (Int × Int) :=
 (impl_ExtensionsByDegree k p0 p1).bind fun r1 => (match r1.1 with | none => (impl_sum k ([])).bind fun r4 => some (r4, r1.2) | some l2 => (impl_sum k l2).bind fun r5 => some (r5, r1.2))
set_option maxRecDepth 100000 in
theorem impl_CountExtensions_ac (k : Nat) (p0 : Col) (p1 : List Int) (r : Int × Int) (h : impl_CountExtensions k p0 p1 = some r) : AC Try.prog 24 [.d (.agg (colD p0)), .d (.sl none (intsD p1))] [] (fun res H' => res = [iV r.1, iV r.2] ∧ H' = []) := by
 refine AC_of_body true Try.func24 rfl Try.ntmps24 (rvs := [.tmp 4, .tmp 5]) rfl rfl (fun G hG => ?_)
 have hm : G.H.length = 0 := by rw [hG]; rfl
 have hz : zeroG G.H = true := by rw [hG]; rfl
 unfold impl_CountExtensions at h
 refine kR ?_
 refine AOps_boxI 2 _ _ (.agg (colD p0)) (colD p0) rfl (colD_one _) rfl rfl rfl rfl rfl ?_
 refine kN 2 rfl ?_
 refine kR ?_
 refine AOps_q 9 _ rfl rfl rfl (QOp_loadN_pv _ _ _ _ _ _ rfl Try.isAgg29 Try.sizeOf29 rfl (colD_all _) (colD_length _)) ?_
 refine kM 1 rfl ?_
 obtain ⟨r1, hr1, h⟩ := bindO h
 refine AOps_call [] 11 _ _ _ _ _ _ _ _ _ _ rfl rfl rfl rfl rfl rfl rfl Try.call49 rfl (nodupB_sound _ rfl) rfl rfl rfl (impl_ExtensionsByDegree_ac k p0 p1 _ hr1) ?_
 revert h
 cases hx3 : r1.1 with
 | none =>
  intro h
  rintro _ _ ⟨rfl, rfl⟩
  refine ⟨(fun _ h => nomatch h), (allc (trivial) (allc (trivial) (fun _ h => nomatch h))), AOps_as 11 (v' := .tup [.d (.sl (some true) []), iV r1.2]) (H' := []) rfl rfl ?_⟩
  refine kN 5 rfl ?_
  refine kR ?_
  refine kM 1 rfl ?_
  obtain ⟨r4, hr4, h⟩ := bindO h
  refine kC [] 15 (iV r4) [] rfl Try.call50 rfl rfl (impl_sum_ac k ([]) _ hr4) rfl ?_
  refine kN 3 rfl ?_
  refine ACode_ret ?_
  cases h
  exact ⟨_, _, fun r a w h => ⟨r, h⟩, _, _, [], _, (.cons (ResV_tmp _ _ rfl) (.cons (ResV_tmp _ _ rfl) .nil)), rfl, rfl, rfl, rfl, rfl⟩
 | some l2 =>
  intro h
  rintro _ _ ⟨rfl, rfl⟩
  refine ⟨(allc (fun _ _ => trivial) (fun _ h => nomatch h)), (allc (trivial) (allc (trivial) (fun _ h => nomatch h))), AOps_as 11 (v' := .tup [.vec 0 0, iV r1.2]) (H' := [.vec 0 (intsD l2)]) rfl rfl ?_⟩
  refine kN 5 rfl ?_
  refine kR ?_
  refine kM 1 rfl ?_
  obtain ⟨r5, hr5, h⟩ := bindO h
  refine AOps_callL [] 15 _ _ _ _ _ _ _ _ _ _ rfl rfl rfl rfl rfl rfl rfl Try.call50 rfl (nodupB_sound _ rfl) rfl rfl rfl (impl_sum_ac k l2 _ hr5) ?_
  rintro _ _ ⟨rfl, rfl⟩
  refine ⟨(fun _ h => nomatch h), (allc (flat_s _) (fun _ h => nomatch h)), AOps_as 15 (v' := iV r5) (H' := [.vec 0 (intsD l2)]) rfl rfl ?_⟩
  refine kN 3 rfl ?_
  refine ACode_ret ?_
  cases h
  exact ⟨_, _, fun r a w h => ⟨r, h⟩, _, _, [], _, (.cons (ResV_tmp _ _ rfl) (.cons (ResV_tmp _ _ rfl) .nil)), rfl, rfl, rfl, rfl, rfl⟩

-- loop.example/g01362/laws.FnTop
def laws_FnTop_l0 (r4 : Int × Src) : Nat → Int → Src → (List Int) → Option (Src × List Int)
 | 0, _, _, _ => none
 | k0 + 1, x5, x6, x7 => (if decide (x5 < w64 ((w64 ((w64 (3 + r4.1)) * (w64 ((w64 (3 + r4.1)) - 1)))).tdiv 2)) then (laws_dice_below x6 2).bind fun r9 => (if x7.length + ([r9.1]).length ≤ 1099511627776 then laws_FnTop_l0 r4 k0 (w64 (x5 + 1)) r9.2 (x7 ++ ([r9.1])) else none) else some (x6, x7))
def laws_FnTop_l1 (r4 : Int × Src) : Nat → Int → (List Int) → Option (List Int)
 | 0, _, _ => none
 | k1 + 1, x12, x13 => (if decide (x12 < w64 (3 + r4.1)) then (if x13.length + ([x12]).length ≤ 1099511627776 then laws_FnTop_l1 r4 k1 (w64 (x12 + 1)) (x13 ++ ([x12])) else none) else some x13)
def laws_FnTop_l2 : Nat → Int → Src → (List Int) → Option (List Int)
 | 0, _, _, _ => none
 | k2 + 1, x17, x18, x19 => (if decide (0 < x17) then (laws_dice_below x18 (w64 (x17 + 1))).bind fun r21 => (if 0 ≤ x17 ∧ x17 < (x19.length : Int) then (if 0 ≤ r21.1 ∧ r21.1 < (x19.length : Int) then (if 0 ≤ x17 ∧ x17 < (x19.length : Int) then (if 0 ≤ r21.1 ∧ r21.1 < ((x19.set x17.toNat (x19.getD r21.1.toNat 0)).length : Int) then laws_FnTop_l2 k2 (w64 (x17 - 1)) r21.2 ((x19.set x17.toNat (x19.getD r21.1.toNat 0)).set r21.1.toNat (x19.getD x17.toNat 0)) else none) else none) else none) else none) else some x19)
def laws_FnTop (k : Nat) (p0 : List UInt8) : Option (Bool) :=
 (if (laws_big p0) then some true else (laws_roll k p0 62).bind fun r3 => (laws_dice_below r3 4).bind fun r4 => (laws_FnTop_l0 r4 k 0 r4.2 ([] : List Int) : Option (Src × List Int)).bind fun s11 => (laws_FnTop_l1 r4 k 0 ([] : List Int) : Option (List Int)).bind fun s16 => (laws_FnTop_l2 k (w64 ((w64 (3 + r4.1)) - 1)) s11.1 s16 : Option (List Int)).bind fun s26 => (impl_ColouringOf k (w64 (3 + r4.1)) 2 s11.2).bind fun r27 => (impl_RenumberPoints k r27.1 s26).bind fun r28 => (letO (if !decide (r27.2 = 0) then true else !decide (r28.2 = 0)) fun (s30 : Bool) => (if s30 then some (.inr false) else some (.inl ())) : Option (Sum (Unit) (Bool))).bind fun os32 => (match os32 with | .inl s32 => (impl_CliqueNumbers k r27.1).bind fun r33 => (impl_CliqueNumbers k r28.1).bind fun r34 => (impl_CountTriangles k r27.1).bind fun r35 => (impl_CountTriangles k r28.1).bind fun r36 => (impl_AreIsomorphic k r27.1 r28.1).bind fun r37 => (impl_AvoidsSizes k r27.1 ([3, 3])).bind fun r38 => (((if !decide (r33.2 = 0) then some true else (if !decide (r34.2 = 0) then some true else (if !decide (r35.2 = 0) then some true else (if !decide (r36.2 = 0) then some true else (if !decide (r37.2 = 0) then some true else (if !decide (r38.2 = 0) then some true else (if !decide (((r33.1.getD []).length : Int) = 2) then some true else (laws_likeInts k (r33.1.getD []) (r34.1.getD [])).bind fun r46 => (if !r46 then some true else (laws_likeInts k (r35.1.getD []) (r36.1.getD [])).bind fun r48 => (if !r48 then some true else (if !r37.1 then some true else (if 0 ≤ (0 : Int) ∧ (0 : Int) < ((r33.1.getD []).length : Int) then (if decide (((r33.1.getD []).getD (0 : Int).toNat 0) < 3) then (if 0 ≤ (1 : Int) ∧ (1 : Int) < ((r33.1.getD []).length : Int) then (if !(r38.1 == decide (((r33.1.getD []).getD (1 : Int).toNat 0) < 3)) then some true else (if decide (w64 (3 + r4.1) = 6) then some r38.1 else some false)) else none) else (if !(r38.1 == false) then some true else (if decide (w64 (3 + r4.1) = 6) then some r38.1 else some false))) else none))))))))))) : Option (Bool)).bind fun s58 => (if s58 then some (.inr false) else some (.inl ())) : Option (Sum (Unit) (Bool))).bind fun os60 => (match os60 with | .inl s60 => (impl_CountExtensions k r27.1 ([3, 3])).bind fun r61 => (impl_CountExtensions k r28.1 ([3, 3])).bind fun r62 => letO (if decide (r61.2 = r62.2) then (if decide (r61.1 = r62.1) then (decide (r61.2 = 0) == r38.1) else false) else false) fun (s65 : Bool) => some s65 | .inr rr => some rr) | .inr rr => some rr))
set_option maxHeartbeats 2000000 in
set_option maxRecDepth 100000 in
theorem laws_FnTop_ac (k : Nat) (p0 : List UInt8) (r : Bool) (h : laws_FnTop k p0 = some r) : AC Try.prog 4 [.d (.sl none (bysD p0))] [] (fun res H' => res = [bV r] ∧ H' = []) := by
 refine AC_of_body true Try.func4 rfl Try.ntmps4 (rvs := [.tmp 2]) rfl rfl (fun G hG => ?_)
 have hm : G.H.length = 0 := by rw [hG]; rfl
 have hz : zeroG G.H = true := by rw [hG]; rfl
 unfold laws_FnTop at h
 refine kR ?_
 refine kN 1 rfl ?_
 refine ACode_seq ?_
 refine kR ?_
 refine kM 1 rfl ?_
 refine kC [] 33 (bV (laws_big p0)) [] rfl Try.call14 rfl rfl (laws_big_ac p0) rfl ?_
 refine AOps_nil ?_
 refine kI h rfl (fun h _ => ?_) (fun h _ => ?_)
 ·refine kR ?_
  refine kN 1 rfl ?_
  refine ACode_ret ?_
  cases h
  exact ⟨_, _, fun r a w h => ⟨r, h⟩, _, _, [], _, (.cons (ResV_tmp _ _ rfl) .nil), rfl, rfl, rfl, rfl, rfl⟩
 refine ACode_skip ?_
 refine kR ?_
 refine kM 1 rfl ?_
 obtain ⟨r3, hr3, h⟩ := bindO h
 refine kC [] 35 (.ptr 0 0) [.box (srcD r3)] rfl Try.call15 rfl rfl (laws_roll_ac k p0 62 _ hr3) rfl ?_
 refine kN 1 rfl ?_
 refine kR ?_
 refine kM 1 rfl ?_
 obtain ⟨r4, hr4, h⟩ := bindO h
 refine kC [0] 37 (iV r4.1) [.box (srcD r4.2)] rfl Try.call16 rfl rfl (laws_dice_below_ac r3 4 _ hr4) rfl ?_
 refine AOps_q 38 _ rfl rfl rfl (QOp_add _ _ _ _ _ _ _ rfl rfl rfl) ?_
 refine kN 1 rfl ?_
 refine kR ?_
 refine AOps_buildSlice 39 _ _ _ [] (intsD ([] : List Int)) _ rfl rfl rfl rfl rfl (by decide) Try.underlying25 Try.sizeOf2 (zero_of Try.typeInfo2 rfl) rfl rfl (intsD_one _) ?_
 refine AOps_buildSlice 40 _ _ _ [] (intsD ([] : List Int)) _ rfl rfl rfl rfl rfl (by decide) Try.underlying25 Try.sizeOf2 (zero_of Try.typeInfo2 rfl) rfl rfl (intsD_one _) ?_
 refine kN 2 rfl ?_
 refine kB (fun s11 => [(3, .ptr 0 0), (4, iV (w64 (3 + r4.1))), (5, .vec 1 0), (6, .vec 2 0)]) (fun s11 => [.box (srcD s11.1), .vec 0 (intsD s11.2), .vec 0 (intsD ([] : List Int))]) h (fun s11 h => ?_) (fun s11 h => ?_)
 ·refine kR ?_
  refine kN 1 rfl ?_
  refine ACode_block ?_
  refine ACode_loopW (fun k0 E H => ∃ (x5 : Int) (x6 : Src) (x7 : List Int), E = [(3, .ptr 0 0), (4, iV (w64 (3 + r4.1))), (5, .vec 1 0), (6, .vec 2 0), (7, iV x5)] ∧ H = [.box (srcD x6), .vec 0 (intsD x7), .vec 0 (intsD ([] : List Int))] ∧ laws_FnTop_l0 r4 k0 x5 x6 x7 = some s11) k _ _ (Weak_keep 0 hm [3, 4, 5, 6, 7] [0, 1, 2] _ _ rfl rfl rfl) ⟨_, _, _, rfl, rfl, h⟩ ?_
  clear h
  rintro k0 E H ⟨x5, x6, x7, rfl, rfl, h⟩
  cases k0 with
  | zero => cases (show (none : Option (Src × List Int)) = some _ from h)
  | succ k0 =>
   rw [laws_FnTop_l0] at h
   refine ACode_seq ?_
   refine kR ?_
   refine kM 3 rfl ?_
   refine AOps_q 44 _ rfl rfl rfl (QOp_sub _ _ _ _ _ _ _ rfl rfl rfl) ?_
   refine AOps_q 45 _ rfl rfl rfl (QOp_mul _ _ _ _ _ _ _ rfl rfl rfl) ?_
   refine AOps_q 46 _ rfl rfl rfl (QOp_quo _ _ _ _ _ _ _ (by decide) rfl rfl rfl) ?_
   refine AOps_q 47 _ rfl rfl rfl (QOp_lss _ _ _ _ _ _ _ rfl rfl rfl) ?_
   refine AOps_nil ?_
   refine kI h rfl (fun h _ => ?_) (fun h _ => ?_)
   ·refine ACode_skip ?_
    refine ACode_seq ?_
    refine ACode_block ?_
    refine (ACode_region ?_)
    refine kM 2 rfl ?_
    obtain ⟨r9, hr9, h⟩ := bindO h
    refine kC [0] 52 (iV r9.1) [.box (srcD r9.2), .vec 0 (intsD x7), .vec 0 (intsD ([] : List Int))] rfl Try.call16 rfl rfl (laws_dice_below_ac x6 2 _ hr9) rfl ?_
    refine AOps_buildSlice 53 _ _ _ [_] (intsD ([r9.1])) _ rfl rfl rfl rfl rfl (by decide) Try.underlying25 Try.sizeOf2 (zero_of Try.typeInfo2 rfl) rfl rfl (intsD_one _) ?_
    obtain ⟨hc10, h⟩ := guardO h
    refine AOps_append 54 _ _ _ _ _ _ _ _ _ _ _ _ rfl rfl rfl rfl rfl rfl rfl Try.underlying25 Try.type2 rfl rfl rfl (by decide) rfl rfl rfl rfl (intsD_one _) (by rw [intsD_length, intsD_length]; exact hc10) ?_
    rw [intsD_app]
    refine kN 1 rfl ?_
    refine (ACode_region ?_)
    refine kM 1 rfl ?_
    refine AOps_q 49 _ rfl rfl rfl (QOp_add _ _ _ _ _ _ _ rfl rfl rfl) ?_
    refine kN 1 rfl ?_
    exact ⟨k0, _, _, Nat.lt_succ_self _, Weak_trans (Weak_keep 0 hm [3, 4, 5, 6, 7] [0, 1, 2] _ _ rfl rfl rfl) (Weak_reset 0 hm hz [3, 4, 5, 6, 7] _ _ rfl rfl), _, _, _, rfl, rfl, h⟩
   refine ACode_exit ?_
   cases h
   exact Weak_keep 0 hm [3, 4, 5, 6] [0, 1, 2] _ _ rfl rfl rfl
 refine kB (fun s16 => [(3, .ptr 0 0), (4, iV (w64 (3 + r4.1))), (5, .vec 1 0), (6, .vec 2 0)]) (fun s16 => [.box (srcD s11.1), .vec 0 (intsD s11.2), .vec 0 (intsD s16)]) h (fun s16 h => ?_) (fun s16 h => ?_)
 ·refine kR ?_
  refine kN 1 rfl ?_
  refine ACode_block ?_
  refine ACode_loopW (fun k1 E H => ∃ (x12 : Int) (x13 : List Int), E = [(3, .ptr 0 0), (4, iV (w64 (3 + r4.1))), (5, .vec 1 0), (6, .vec 2 0), (8, iV x12)] ∧ H = [.box (srcD s11.1), .vec 0 (intsD s11.2), .vec 0 (intsD x13)] ∧ laws_FnTop_l1 r4 k1 x12 x13 = some s16) k _ _ (Weak_keep 0 hm [3, 4, 5, 6, 8] [0, 1, 2] _ _ rfl rfl rfl) ⟨_, _, rfl, rfl, h⟩ ?_
  clear h
  rintro k1 E H ⟨x12, x13, rfl, rfl, h⟩
  cases k1 with
  | zero => cases (show (none : Option (List Int)) = some _ from h)
  | succ k1 =>
   rw [laws_FnTop_l1] at h
   refine ACode_seq ?_
   refine kR ?_
   refine kM 2 rfl ?_
   refine AOps_q 57 _ rfl rfl rfl (QOp_lss _ _ _ _ _ _ _ rfl rfl rfl) ?_
   refine AOps_nil ?_
   refine kI h rfl (fun h _ => ?_) (fun h _ => ?_)
   ·refine ACode_skip ?_
    refine ACode_seq ?_
    refine ACode_block ?_
    refine (ACode_region ?_)
    refine kM 2 rfl ?_
    refine AOps_buildSlice 62 _ _ _ [_] (intsD ([x12])) _ rfl rfl rfl rfl rfl (by decide) Try.underlying25 Try.sizeOf2 (zero_of Try.typeInfo2 rfl) rfl rfl (intsD_one _) ?_
    obtain ⟨hc15, h⟩ := guardO h
    refine AOps_append 63 _ _ _ _ _ _ _ _ _ _ _ _ rfl rfl rfl rfl rfl rfl rfl Try.underlying25 Try.type2 rfl rfl rfl (by decide) rfl rfl rfl rfl (intsD_one _) (by rw [intsD_length, intsD_length]; exact hc15) ?_
    rw [intsD_app]
    refine kN 1 rfl ?_
    refine (ACode_region ?_)
    refine kM 1 rfl ?_
    refine AOps_q 59 _ rfl rfl rfl (QOp_add _ _ _ _ _ _ _ rfl rfl rfl) ?_
    refine kN 1 rfl ?_
    exact ⟨k1, _, _, Nat.lt_succ_self _, Weak_trans (Weak_keep 0 hm [3, 4, 5, 6, 8] [0, 1, 2] _ _ rfl rfl rfl) (Weak_reset 0 hm hz [3, 4, 5, 6, 8] _ _ rfl rfl), _, _, rfl, rfl, h⟩
   refine ACode_exit ?_
   cases h
   exact Weak_keep 0 hm [3, 4, 5, 6] [0, 1, 2] _ _ rfl rfl rfl
 refine kB (fun s26 => [(4, iV (w64 (3 + r4.1))), (5, .vec 0 0), (6, .vec 1 0)]) (fun s26 => [.vec 0 (intsD s11.2), .vec 0 (intsD s26)]) h (fun s26 h => ?_) (fun s26 h => ?_)
 ·refine kR ?_
  refine kM 1 rfl ?_
  refine AOps_q 65 _ rfl rfl rfl (QOp_sub _ _ _ _ _ _ _ rfl rfl rfl) ?_
  refine kN 1 rfl ?_
  refine ACode_block ?_
  refine ACode_loopW (fun k2 E H => ∃ (x17 : Int) (x18 : Src) (x19 : List Int), E = [(3, .ptr 0 0), (4, iV (w64 (3 + r4.1))), (5, .vec 1 0), (6, .vec 2 0), (9, iV x17)] ∧ H = [.box (srcD x18), .vec 0 (intsD s11.2), .vec 0 (intsD x19)] ∧ laws_FnTop_l2 k2 x17 x18 x19 = some s26) k _ _ (Weak_keep 0 hm [3, 4, 5, 6, 9] [0, 1, 2] _ _ rfl rfl rfl) ⟨_, _, _, rfl, rfl, h⟩ ?_
  clear h
  rintro k2 E H ⟨x17, x18, x19, rfl, rfl, h⟩
  cases k2 with
  | zero => cases (show (none : Option (List Int)) = some _ from h)
  | succ k2 =>
   rw [laws_FnTop_l2] at h
   refine ACode_seq ?_
   refine kR ?_
   refine kM 1 rfl ?_
   refine AOps_q 67 _ rfl rfl rfl (QOp_gtr _ _ _ _ _ _ _ rfl rfl rfl) ?_
   refine AOps_nil ?_
   refine kI h rfl (fun h _ => ?_) (fun h _ => ?_)
   ·refine ACode_skip ?_
    refine ACode_seq ?_
    refine ACode_block ?_
    refine kR ?_
    refine kM 2 rfl ?_
    refine AOps_q 72 _ rfl rfl rfl (QOp_add _ _ _ _ _ _ _ rfl rfl rfl) ?_
    obtain ⟨r21, hr21, h⟩ := bindO h
    refine kC [0] 73 (iV r21.1) [.box (srcD r21.2), .vec 0 (intsD s11.2), .vec 0 (intsD x19)] rfl Try.call16 rfl rfl (laws_dice_below_ac x18 (w64 (x17 + 1)) _ hr21) rfl ?_
    refine kN 1 rfl ?_
    refine kR ?_
    refine kM 2 rfl ?_
    obtain ⟨hc22, h⟩ := guardO h
    refine AOps_q 76 _ rfl rfl rfl (QOp_indexAddr_vec _ _ _ _ _ _ _ _ _ rfl Try.underlying25 Try.sizeOf2 hc22.1 (by rw [intsD_length]; exact hc22.2) rfl rfl rfl) ?_
    refine AOps_q 77 _ rfl rfl rfl (QOp_load_eptr _ _ _ _ _ _ _ rfl Try.isAgg2 rfl rfl (intsD_get _ _ 0 (by omega))) ?_
    refine kN 1 rfl ?_
    refine kR ?_
    refine kM 4 rfl ?_
    obtain ⟨hc23, h⟩ := guardO h
    refine AOps_q 82 _ rfl rfl rfl (QOp_indexAddr_vec _ _ _ _ _ _ _ _ _ rfl Try.underlying25 Try.sizeOf2 hc23.1 (by rw [intsD_length]; exact hc23.2) rfl rfl rfl) ?_
    refine AOps_q 83 _ rfl rfl rfl (QOp_load_eptr _ _ _ _ _ _ _ rfl Try.isAgg2 rfl rfl (intsD_get _ _ 0 (by omega))) ?_
    obtain ⟨hc24, h⟩ := guardO h
    refine AOps_q 84 _ rfl rfl rfl (QOp_indexAddr_vec _ _ _ _ _ _ _ _ _ rfl Try.underlying25 Try.sizeOf2 hc24.1 (by rw [intsD_length]; exact hc24.2) rfl rfl rfl) ?_
    refine AOps_store_eptr _ _ _ _ _ _ (intsD x19) _ rfl rfl rfl rfl rfl rfl rfl Try.sizeOf2 (by rw [intsD_length]; omega) ?_
    rw [intsD_set]
    refine AOps_nil ?_
    refine (ACode_region ?_)
    refine kM 3 rfl ?_
    obtain ⟨hc25, h⟩ := guardO h
    refine AOps_q 88 _ rfl rfl rfl (QOp_indexAddr_vec _ _ _ _ _ _ _ _ _ rfl Try.underlying25 Try.sizeOf2 hc25.1 (by rw [intsD_length]; exact hc25.2) rfl rfl rfl) ?_
    refine AOps_store_eptr _ _ _ _ _ _ (intsD (x19.set x17.toNat (x19.getD r21.1.toNat 0))) _ rfl rfl rfl rfl rfl rfl rfl Try.sizeOf2 (by rw [intsD_length]; omega) ?_
    rw [intsD_set]
    refine AOps_nil ?_
    refine (ACode_region ?_)
    refine kM 1 rfl ?_
    refine AOps_q 69 _ rfl rfl rfl (QOp_sub _ _ _ _ _ _ _ rfl rfl rfl) ?_
    refine kN 1 rfl ?_
    exact ⟨k2, _, _, Nat.lt_succ_self _, Weak_keep 0 hm [3, 4, 5, 6, 9] [0, 1, 2] _ _ rfl rfl rfl, _, _, _, rfl, rfl, h⟩
   refine ACode_exit ?_
   cases h
   exact Weak_keep 0 hm [4, 5, 6] [1, 2] _ _ rfl rfl rfl
 refine kR ?_
 refine kM 2 rfl ?_
 obtain ⟨r27, hr27, h⟩ := bindO h
 refine AOps_callL [] 92 _ _ _ _ _ _ _ _ _ _ rfl rfl rfl rfl rfl rfl rfl Try.call17 rfl (nodupB_sound _ rfl) rfl rfl rfl (impl_ColouringOf_ac k (w64 (3 + r4.1)) 2 s11.2 _ hr27) ?_
 rintro _ _ ⟨rfl, rfl⟩
 refine ⟨(fun _ h => nomatch h), (allc (flat_agg (colD_flat _)) (allc (flat_s _) (fun _ h => nomatch h))), AOps_as 92 (v' := .tup [.d (.agg (colD r27.1)), iV r27.2]) (H' := [.vec 0 (intsD s11.2), .vec 0 (intsD s26)]) rfl rfl ?_⟩
 refine kM 3 rfl ?_
 refine AOps_alloc 12 _ _ (colD Col.zero) (zero_of Try.typeInfo29 rfl) (by rfl) rfl rfl rfl rfl ?_
 refine AOps_store _ _ _ _ _ _ (colD _) _ _ rfl rfl rfl rfl rfl rfl rfl (colD_one _) (by rw [colD_length]; exact Try.sizeOf29) (by rw [colD_length, colD_length]; decide) (colD_whole _ _) ?_
 refine kN 1 rfl ?_
 refine kR ?_
 refine AOps_q 96 _ rfl rfl rfl (QOp_loadN_ptr _ _ _ _ _ _ _ rfl Try.isAgg29 Try.sizeOf29 rfl rfl (colD_all _) (colD_length _)) ?_
 refine kM 1 rfl ?_
 obtain ⟨r28, hr28, h⟩ := bindO h
 refine AOps_callL [] 98 _ _ _ _ _ _ _ _ _ _ rfl rfl rfl rfl rfl rfl rfl Try.call18 rfl (nodupB_sound _ rfl) rfl rfl rfl (impl_RenumberPoints_ac k r27.1 s26 _ hr28) ?_
 rintro _ _ ⟨rfl, rfl⟩
 refine ⟨(fun _ h => nomatch h), (allc (flat_agg (colD_flat _)) (allc (flat_s _) (fun _ h => nomatch h))), AOps_as 98 (v' := .tup [.d (.agg (colD r28.1)), iV r28.2]) (H' := [.vec 0 (intsD s11.2), .vec 0 (intsD s26), .box (colD r27.1)]) rfl rfl ?_⟩
 refine kM 3 rfl ?_
 refine AOps_alloc 14 _ _ (colD Col.zero) (zero_of Try.typeInfo29 rfl) (by rfl) rfl rfl rfl rfl ?_
 refine AOps_store _ _ _ _ _ _ (colD _) _ _ rfl rfl rfl rfl rfl rfl rfl (colD_one _) (by rw [colD_length]; exact Try.sizeOf29) (by rw [colD_length, colD_length]; decide) (colD_whole _ _) ?_
 refine kN 1 rfl ?_
 refine kO (fun s32 => [(4, iV (w64 (3 + r4.1))), (12, .ptr 0 0), (14, .ptr 1 0)]) (fun s32 => [.box (colD r27.1), .box (colD r28.1)]) h (fun os32 h hks32 => ?_) (fun s32 h => ?_)
 ·refine kL (fun s30 => [(4, iV (w64 (3 + r4.1))), (12, .ptr 0 0), (14, .ptr 1 0), (106, bV s30)]) (fun s30 => [.box (colD r27.1), .box (colD r28.1)]) h (fun s30 h => ?_) (fun s30 h => ?_)
  ·refine (ACode_region ?_)
   refine kM 1 rfl ?_
   refine AOps_q 102 _ rfl rfl rfl (QOp_neq _ _ _ _ _ _ _ rfl rfl rfl) ?_
   refine kM 1 rfl ?_
   refine AOps_case 103 _ rfl (fun hb29 => ?_) (fun hb29 => ?_)
   ·have h := iteT hb29 h
    refine AOps_skip 104 rfl rfl rfl ?_
    refine AOps_skip 105 rfl rfl rfl ?_
    refine kN 1 rfl ?_
    cases h
    exact Weak_keep 0 hm [4, 12, 14, 106] [2, 3] _ _ rfl rfl rfl
   have h := iteF hb29 h
   refine kM 1 rfl ?_
   refine AOps_q 105 _ rfl rfl rfl (QOp_neq _ _ _ _ _ _ _ rfl rfl rfl) ?_
   refine kN 1 rfl ?_
   cases h
   exact Weak_keep 0 hm [4, 12, 14, 106] [2, 3] _ _ rfl rfl rfl
  refine kI h rfl (fun h _ => ?_) (fun h _ => ?_)
  ·refine kR ?_
   refine kN 1 rfl ?_
   refine ACode_ret ?_
   cases h
   have h := hks32
   cases h
   exact ⟨_, _, fun r a w h => ⟨r, h⟩, _, _, [], _, (.cons (ResV_tmp _ _ rfl) .nil), rfl, rfl, rfl, rfl, rfl⟩
  refine ACode_skip ?_
  cases h
  exact ⟨_, rfl, Weak_keep 0 hm [4, 12, 14] [0, 1] _ _ rfl rfl rfl⟩
 refine kR ?_
 refine AOps_q 108 _ rfl rfl rfl (QOp_loadN_ptr _ _ _ _ _ _ _ rfl Try.isAgg29 Try.sizeOf29 rfl rfl (colD_all _) (colD_length _)) ?_
 obtain ⟨r33, hr33, h⟩ := bindO h
 refine kC [] 109 (.tup [.d (.sl none (intsD (r33.1.getD []))), iV r33.2]) [.box (colD r27.1), .box (colD r28.1)] rfl Try.call19 rfl rfl (AC_frz rfl (frz_cons frz_nil) (impl_CliqueNumbers_ac k r27.1 _ hr33)) rfl ?_
 refine kN 5 rfl ?_
 refine kR ?_
 refine AOps_q 113 _ rfl rfl rfl (QOp_loadN_ptr _ _ _ _ _ _ _ rfl Try.isAgg29 Try.sizeOf29 rfl rfl (colD_all _) (colD_length _)) ?_
 obtain ⟨r34, hr34, h⟩ := bindO h
 refine kC [] 114 (.tup [.d (.sl none (intsD (r34.1.getD []))), iV r34.2]) [.box (colD r27.1), .box (colD r28.1)] rfl Try.call19 rfl rfl (AC_frz rfl (frz_cons frz_nil) (impl_CliqueNumbers_ac k r28.1 _ hr34)) rfl ?_
 refine kN 5 rfl ?_
 refine kR ?_
 refine AOps_q 118 _ rfl rfl rfl (QOp_loadN_ptr _ _ _ _ _ _ _ rfl Try.isAgg29 Try.sizeOf29 rfl rfl (colD_all _) (colD_length _)) ?_
 obtain ⟨r35, hr35, h⟩ := bindO h
 refine kC [] 119 (.tup [.d (.sl none (intsD (r35.1.getD []))), iV r35.2]) [.box (colD r27.1), .box (colD r28.1)] rfl Try.call20 rfl rfl (AC_frz rfl (frz_cons frz_nil) (impl_CountTriangles_ac k r27.1 _ hr35)) rfl ?_
 refine kN 5 rfl ?_
 refine kR ?_
 refine AOps_q 123 _ rfl rfl rfl (QOp_loadN_ptr _ _ _ _ _ _ _ rfl Try.isAgg29 Try.sizeOf29 rfl rfl (colD_all _) (colD_length _)) ?_
 obtain ⟨r36, hr36, h⟩ := bindO h
 refine kC [] 124 (.tup [.d (.sl none (intsD (r36.1.getD []))), iV r36.2]) [.box (colD r27.1), .box (colD r28.1)] rfl Try.call20 rfl rfl (AC_frz rfl (frz_cons frz_nil) (impl_CountTriangles_ac k r28.1 _ hr36)) rfl ?_
 refine kN 5 rfl ?_
 refine kR ?_
 refine AOps_q 128 _ rfl rfl rfl (QOp_loadN_ptr _ _ _ _ _ _ _ rfl Try.isAgg29 Try.sizeOf29 rfl rfl (colD_all _) (colD_length _)) ?_
 refine AOps_q 129 _ rfl rfl rfl (QOp_loadN_ptr _ _ _ _ _ _ _ rfl Try.isAgg29 Try.sizeOf29 rfl rfl (colD_all _) (colD_length _)) ?_
 obtain ⟨r37, hr37, h⟩ := bindO h
 refine kC [] 130 (.tup [bV r37.1, iV r37.2]) [.box (colD r27.1), .box (colD r28.1)] rfl Try.call21 rfl rfl (impl_AreIsomorphic_ac k r27.1 r28.1 _ hr37) rfl ?_
 refine kN 5 rfl ?_
 refine kR ?_
 refine AOps_q 134 _ rfl rfl rfl (QOp_loadN_ptr _ _ _ _ _ _ _ rfl Try.isAgg29 Try.sizeOf29 rfl rfl (colD_all _) (colD_length _)) ?_
 refine AOps_buildSlice 135 _ _ _ [_, _] (intsD ([3, 3])) _ rfl rfl rfl rfl rfl (by decide) Try.underlying25 Try.sizeOf2 (zero_of Try.typeInfo2 rfl) rfl rfl (intsD_one _) ?_
 obtain ⟨r38, hr38, h⟩ := bindO h
 refine AOps_callL [] 136 _ _ _ _ _ _ _ _ _ _ rfl rfl rfl rfl rfl rfl rfl Try.call22 rfl (nodupB_sound _ rfl) rfl rfl rfl (impl_AvoidsSizes_ac k r27.1 ([3, 3]) _ hr38) ?_
 rintro _ _ ⟨rfl, rfl⟩
 refine ⟨(fun _ h => nomatch h), (allc (flat_s _) (allc (flat_s _) (fun _ h => nomatch h))), AOps_as 136 (v' := .tup [bV r38.1, iV r38.2]) (H' := [.box (colD r27.1), .box (colD r28.1), .vec 0 (intsD ([3, 3]))]) rfl rfl ?_⟩
 refine kN 5 rfl ?_
 refine kO (fun s60 => [(12, .ptr 0 0), (14, .ptr 1 0), (26, bV r38.1)]) (fun s60 => [.box (colD r27.1), .box (colD r28.1)]) h (fun os60 h hks60 => ?_) (fun s60 h => ?_)
 ·refine kB (fun s58 => [(12, .ptr 0 0), (14, .ptr 1 0), (26, bV r38.1), (202, bV s58)]) (fun s58 => [.box (colD r27.1), .box (colD r28.1)]) h (fun s58 h => ?_) (fun s58 h => ?_)
  ·refine (ACode_region ?_)
   refine kM 1 rfl ?_
   refine AOps_q 140 _ rfl rfl rfl (QOp_neq _ _ _ _ _ _ _ rfl rfl rfl) ?_
   refine kM 1 rfl ?_
   refine AOps_case 141 _ rfl (fun hb39 => ?_) (fun hb39 => ?_)
   ·have h := iteT hb39 h
    refine AOps_skip 142 rfl rfl rfl ?_
    refine AOps_skip 143 rfl rfl rfl ?_
    refine kM 2 rfl ?_
    refine AOps_skip 146 rfl rfl rfl ?_
    refine AOps_skip 147 rfl rfl rfl ?_
    refine kM 2 rfl ?_
    refine AOps_skip 150 rfl rfl rfl ?_
    refine AOps_skip 151 rfl rfl rfl ?_
    refine kM 2 rfl ?_
    refine AOps_skip 154 rfl rfl rfl ?_
    refine AOps_skip 155 rfl rfl rfl ?_
    refine kM 2 rfl ?_
    refine AOps_skip 158 rfl rfl rfl ?_
    refine AOps_skip 159 rfl rfl rfl ?_
    refine kM 2 rfl ?_
    refine AOps_skip 162 rfl rfl rfl ?_
    refine AOps_skip 163 rfl rfl rfl ?_
    refine AOps_skip 164 rfl rfl rfl ?_
    refine kM 2 rfl ?_
    refine AOps_skip 167 rfl rfl rfl ?_
    refine AOps_skip 168 rfl rfl rfl ?_
    refine AOps_skip 169 rfl rfl rfl ?_
    refine AOps_skip 170 rfl rfl rfl ?_
    refine kM 2 rfl ?_
    refine AOps_skip 173 rfl rfl rfl ?_
    refine AOps_skip 174 rfl rfl rfl ?_
    refine AOps_skip 175 rfl rfl rfl ?_
    refine AOps_skip 176 rfl rfl rfl ?_
    refine kM 2 rfl ?_
    refine AOps_skip 179 rfl rfl rfl ?_
    refine AOps_skip 180 rfl rfl rfl ?_
    refine kM 2 rfl ?_
    refine AOps_skip 183 rfl rfl rfl ?_
    refine AOps_skip 184 rfl rfl rfl ?_
    refine AOps_skip 185 rfl rfl rfl ?_
    refine AOps_skip 186 rfl rfl rfl ?_
    refine AOps_skip 187 rfl rfl rfl ?_
    refine AOps_skip 188 rfl rfl rfl ?_
    refine AOps_skip 189 rfl rfl rfl ?_
    refine AOps_skip 190 rfl rfl rfl ?_
    refine AOps_skip 191 rfl rfl rfl ?_
    refine AOps_skip 192 rfl rfl rfl ?_
    refine AOps_skip 193 rfl rfl rfl ?_
    refine AOps_skip 194 rfl rfl rfl ?_
    refine kM 2 rfl ?_
    refine AOps_skip 197 rfl rfl rfl ?_
    refine AOps_skip 198 rfl rfl rfl ?_
    refine AOps_skip 199 rfl rfl rfl ?_
    refine AOps_skip 200 rfl rfl rfl ?_
    refine AOps_skip 201 rfl rfl rfl ?_
    refine kN 1 rfl ?_
    cases h
    exact Weak_keep 0 hm [12, 14, 26, 202] [0, 1] _ _ rfl rfl rfl
   have h := iteF hb39 h
   refine kM 1 rfl ?_
   refine AOps_q 143 _ rfl rfl rfl (QOp_neq _ _ _ _ _ _ _ rfl rfl rfl) ?_
   refine kM 2 rfl ?_
   refine AOps_case 145 _ rfl (fun hb40 => ?_) (fun hb40 => ?_)
   ·have h := iteT hb40 h
    refine AOps_skip 146 rfl rfl rfl ?_
    refine AOps_skip 147 rfl rfl rfl ?_
    refine kM 2 rfl ?_
    refine AOps_skip 150 rfl rfl rfl ?_
    refine AOps_skip 151 rfl rfl rfl ?_
    refine kM 2 rfl ?_
    refine AOps_skip 154 rfl rfl rfl ?_
    refine AOps_skip 155 rfl rfl rfl ?_
    refine kM 2 rfl ?_
    refine AOps_skip 158 rfl rfl rfl ?_
    refine AOps_skip 159 rfl rfl rfl ?_
    refine kM 2 rfl ?_
    refine AOps_skip 162 rfl rfl rfl ?_
    refine AOps_skip 163 rfl rfl rfl ?_
    refine AOps_skip 164 rfl rfl rfl ?_
    refine kM 2 rfl ?_
    refine AOps_skip 167 rfl rfl rfl ?_
    refine AOps_skip 168 rfl rfl rfl ?_
    refine AOps_skip 169 rfl rfl rfl ?_
    refine AOps_skip 170 rfl rfl rfl ?_
    refine kM 2 rfl ?_
    refine AOps_skip 173 rfl rfl rfl ?_
    refine AOps_skip 174 rfl rfl rfl ?_
    refine AOps_skip 175 rfl rfl rfl ?_
    refine AOps_skip 176 rfl rfl rfl ?_
    refine kM 2 rfl ?_
    refine AOps_skip 179 rfl rfl rfl ?_
    refine AOps_skip 180 rfl rfl rfl ?_
    refine kM 2 rfl ?_
    refine AOps_skip 183 rfl rfl rfl ?_
    refine AOps_skip 184 rfl rfl rfl ?_
    refine AOps_skip 185 rfl rfl rfl ?_
    refine AOps_skip 186 rfl rfl rfl ?_
    refine AOps_skip 187 rfl rfl rfl ?_
    refine AOps_skip 188 rfl rfl rfl ?_
    refine AOps_skip 189 rfl rfl rfl ?_
    refine AOps_skip 190 rfl rfl rfl ?_
    refine AOps_skip 191 rfl rfl rfl ?_
    refine AOps_skip 192 rfl rfl rfl ?_
    refine AOps_skip 193 rfl rfl rfl ?_
    refine AOps_skip 194 rfl rfl rfl ?_
    refine kM 2 rfl ?_
    refine AOps_skip 197 rfl rfl rfl ?_
    refine AOps_skip 198 rfl rfl rfl ?_
    refine AOps_skip 199 rfl rfl rfl ?_
    refine AOps_skip 200 rfl rfl rfl ?_
    refine AOps_skip 201 rfl rfl rfl ?_
    refine kN 1 rfl ?_
    cases h
    exact Weak_keep 0 hm [12, 14, 26, 202] [0, 1] _ _ rfl rfl rfl
   have h := iteF hb40 h
   refine kM 1 rfl ?_
   refine AOps_q 147 _ rfl rfl rfl (QOp_neq _ _ _ _ _ _ _ rfl rfl rfl) ?_
   refine kM 2 rfl ?_
   refine AOps_case 149 _ rfl (fun hb41 => ?_) (fun hb41 => ?_)
   ·have h := iteT hb41 h
    refine AOps_skip 150 rfl rfl rfl ?_
    refine AOps_skip 151 rfl rfl rfl ?_
    refine kM 2 rfl ?_
    refine AOps_skip 154 rfl rfl rfl ?_
    refine AOps_skip 155 rfl rfl rfl ?_
    refine kM 2 rfl ?_
    refine AOps_skip 158 rfl rfl rfl ?_
    refine AOps_skip 159 rfl rfl rfl ?_
    refine kM 2 rfl ?_
    refine AOps_skip 162 rfl rfl rfl ?_
    refine AOps_skip 163 rfl rfl rfl ?_
    refine AOps_skip 164 rfl rfl rfl ?_
    refine kM 2 rfl ?_
    refine AOps_skip 167 rfl rfl rfl ?_
    refine AOps_skip 168 rfl rfl rfl ?_
    refine AOps_skip 169 rfl rfl rfl ?_
    refine AOps_skip 170 rfl rfl rfl ?_
    refine kM 2 rfl ?_
    refine AOps_skip 173 rfl rfl rfl ?_
    refine AOps_skip 174 rfl rfl rfl ?_
    refine AOps_skip 175 rfl rfl rfl ?_
    refine AOps_skip 176 rfl rfl rfl ?_
    refine kM 2 rfl ?_
    refine AOps_skip 179 rfl rfl rfl ?_
    refine AOps_skip 180 rfl rfl rfl ?_
    refine kM 2 rfl ?_
    refine AOps_skip 183 rfl rfl rfl ?_
    refine AOps_skip 184 rfl rfl rfl ?_
    refine AOps_skip 185 rfl rfl rfl ?_
    refine AOps_skip 186 rfl rfl rfl ?_
    refine AOps_skip 187 rfl rfl rfl ?_
    refine AOps_skip 188 rfl rfl rfl ?_
    refine AOps_skip 189 rfl rfl rfl ?_
    refine AOps_skip 190 rfl rfl rfl ?_
    refine AOps_skip 191 rfl rfl rfl ?_
    refine AOps_skip 192 rfl rfl rfl ?_
    refine AOps_skip 193 rfl rfl rfl ?_
    refine AOps_skip 194 rfl rfl rfl ?_
    refine kM 2 rfl ?_
    refine AOps_skip 197 rfl rfl rfl ?_
    refine AOps_skip 198 rfl rfl rfl ?_
    refine AOps_skip 199 rfl rfl rfl ?_
    refine AOps_skip 200 rfl rfl rfl ?_
    refine AOps_skip 201 rfl rfl rfl ?_
    refine kN 1 rfl ?_
    cases h
    exact Weak_keep 0 hm [12, 14, 26, 202] [0, 1] _ _ rfl rfl rfl
   have h := iteF hb41 h
   refine kM 1 rfl ?_
   refine AOps_q 151 _ rfl rfl rfl (QOp_neq _ _ _ _ _ _ _ rfl rfl rfl) ?_
   refine kM 2 rfl ?_
   refine AOps_case 153 _ rfl (fun hb42 => ?_) (fun hb42 => ?_)
   ·have h := iteT hb42 h
    refine AOps_skip 154 rfl rfl rfl ?_
    refine AOps_skip 155 rfl rfl rfl ?_
    refine kM 2 rfl ?_
    refine AOps_skip 158 rfl rfl rfl ?_
    refine AOps_skip 159 rfl rfl rfl ?_
    refine kM 2 rfl ?_
    refine AOps_skip 162 rfl rfl rfl ?_
    refine AOps_skip 163 rfl rfl rfl ?_
    refine AOps_skip 164 rfl rfl rfl ?_
    refine kM 2 rfl ?_
    refine AOps_skip 167 rfl rfl rfl ?_
    refine AOps_skip 168 rfl rfl rfl ?_
    refine AOps_skip 169 rfl rfl rfl ?_
    refine AOps_skip 170 rfl rfl rfl ?_
    refine kM 2 rfl ?_
    refine AOps_skip 173 rfl rfl rfl ?_
    refine AOps_skip 174 rfl rfl rfl ?_
    refine AOps_skip 175 rfl rfl rfl ?_
    refine AOps_skip 176 rfl rfl rfl ?_
    refine kM 2 rfl ?_
    refine AOps_skip 179 rfl rfl rfl ?_
    refine AOps_skip 180 rfl rfl rfl ?_
    refine kM 2 rfl ?_
    refine AOps_skip 183 rfl rfl rfl ?_
    refine AOps_skip 184 rfl rfl rfl ?_
    refine AOps_skip 185 rfl rfl rfl ?_
    refine AOps_skip 186 rfl rfl rfl ?_
    refine AOps_skip 187 rfl rfl rfl ?_
    refine AOps_skip 188 rfl rfl rfl ?_
    refine AOps_skip 189 rfl rfl rfl ?_
    refine AOps_skip 190 rfl rfl rfl ?_
    refine AOps_skip 191 rfl rfl rfl ?_
    refine AOps_skip 192 rfl rfl rfl ?_
    refine AOps_skip 193 rfl rfl rfl ?_
    refine AOps_skip 194 rfl rfl rfl ?_
    refine kM 2 rfl ?_
    refine AOps_skip 197 rfl rfl rfl ?_
    refine AOps_skip 198 rfl rfl rfl ?_
    refine AOps_skip 199 rfl rfl rfl ?_
    refine AOps_skip 200 rfl rfl rfl ?_
    refine AOps_skip 201 rfl rfl rfl ?_
    refine kN 1 rfl ?_
    cases h
    exact Weak_keep 0 hm [12, 14, 26, 202] [0, 1] _ _ rfl rfl rfl
   have h := iteF hb42 h
   refine kM 1 rfl ?_
   refine AOps_q 155 _ rfl rfl rfl (QOp_neq _ _ _ _ _ _ _ rfl rfl rfl) ?_
   refine kM 2 rfl ?_
   refine AOps_case 157 _ rfl (fun hb43 => ?_) (fun hb43 => ?_)
   ·have h := iteT hb43 h
    refine AOps_skip 158 rfl rfl rfl ?_
    refine AOps_skip 159 rfl rfl rfl ?_
    refine kM 2 rfl ?_
    refine AOps_skip 162 rfl rfl rfl ?_
    refine AOps_skip 163 rfl rfl rfl ?_
    refine AOps_skip 164 rfl rfl rfl ?_
    refine kM 2 rfl ?_
    refine AOps_skip 167 rfl rfl rfl ?_
    refine AOps_skip 168 rfl rfl rfl ?_
    refine AOps_skip 169 rfl rfl rfl ?_
    refine AOps_skip 170 rfl rfl rfl ?_
    refine kM 2 rfl ?_
    refine AOps_skip 173 rfl rfl rfl ?_
    refine AOps_skip 174 rfl rfl rfl ?_
    refine AOps_skip 175 rfl rfl rfl ?_
    refine AOps_skip 176 rfl rfl rfl ?_
    refine kM 2 rfl ?_
    refine AOps_skip 179 rfl rfl rfl ?_
    refine AOps_skip 180 rfl rfl rfl ?_
    refine kM 2 rfl ?_
    refine AOps_skip 183 rfl rfl rfl ?_
    refine AOps_skip 184 rfl rfl rfl ?_
    refine AOps_skip 185 rfl rfl rfl ?_
    refine AOps_skip 186 rfl rfl rfl ?_
    refine AOps_skip 187 rfl rfl rfl ?_
    refine AOps_skip 188 rfl rfl rfl ?_
    refine AOps_skip 189 rfl rfl rfl ?_
    refine AOps_skip 190 rfl rfl rfl ?_
    refine AOps_skip 191 rfl rfl rfl ?_
    refine AOps_skip 192 rfl rfl rfl ?_
    refine AOps_skip 193 rfl rfl rfl ?_
    refine AOps_skip 194 rfl rfl rfl ?_
    refine kM 2 rfl ?_
    refine AOps_skip 197 rfl rfl rfl ?_
    refine AOps_skip 198 rfl rfl rfl ?_
    refine AOps_skip 199 rfl rfl rfl ?_
    refine AOps_skip 200 rfl rfl rfl ?_
    refine AOps_skip 201 rfl rfl rfl ?_
    refine kN 1 rfl ?_
    cases h
    exact Weak_keep 0 hm [12, 14, 26, 202] [0, 1] _ _ rfl rfl rfl
   have h := iteF hb43 h
   refine kM 1 rfl ?_
   refine AOps_q 159 _ rfl rfl rfl (QOp_neq _ _ _ _ _ _ _ rfl rfl rfl) ?_
   refine kM 2 rfl ?_
   refine AOps_case 161 _ rfl (fun hb44 => ?_) (fun hb44 => ?_)
   ·have h := iteT hb44 h
    refine AOps_skip 162 rfl rfl rfl ?_
    refine AOps_skip 163 rfl rfl rfl ?_
    refine AOps_skip 164 rfl rfl rfl ?_
    refine kM 2 rfl ?_
    refine AOps_skip 167 rfl rfl rfl ?_
    refine AOps_skip 168 rfl rfl rfl ?_
    refine AOps_skip 169 rfl rfl rfl ?_
    refine AOps_skip 170 rfl rfl rfl ?_
    refine kM 2 rfl ?_
    refine AOps_skip 173 rfl rfl rfl ?_
    refine AOps_skip 174 rfl rfl rfl ?_
    refine AOps_skip 175 rfl rfl rfl ?_
    refine AOps_skip 176 rfl rfl rfl ?_
    refine kM 2 rfl ?_
    refine AOps_skip 179 rfl rfl rfl ?_
    refine AOps_skip 180 rfl rfl rfl ?_
    refine kM 2 rfl ?_
    refine AOps_skip 183 rfl rfl rfl ?_
    refine AOps_skip 184 rfl rfl rfl ?_
    refine AOps_skip 185 rfl rfl rfl ?_
    refine AOps_skip 186 rfl rfl rfl ?_
    refine AOps_skip 187 rfl rfl rfl ?_
    refine AOps_skip 188 rfl rfl rfl ?_
    refine AOps_skip 189 rfl rfl rfl ?_
    refine AOps_skip 190 rfl rfl rfl ?_
    refine AOps_skip 191 rfl rfl rfl ?_
    refine AOps_skip 192 rfl rfl rfl ?_
    refine AOps_skip 193 rfl rfl rfl ?_
    refine AOps_skip 194 rfl rfl rfl ?_
    refine kM 2 rfl ?_
    refine AOps_skip 197 rfl rfl rfl ?_
    refine AOps_skip 198 rfl rfl rfl ?_
    refine AOps_skip 199 rfl rfl rfl ?_
    refine AOps_skip 200 rfl rfl rfl ?_
    refine AOps_skip 201 rfl rfl rfl ?_
    refine kN 1 rfl ?_
    cases h
    exact Weak_keep 0 hm [12, 14, 26, 202] [0, 1] _ _ rfl rfl rfl
   have h := iteF hb44 h
   refine kM 1 rfl ?_
   refine AOps_q 163 _ rfl rfl rfl (QOp_len_sl _ _ _ _ _ _ _ (intsD_length _) rfl rfl rfl rfl Try.underlying25 rfl) ?_
   refine AOps_q 164 _ rfl rfl rfl (QOp_neq _ _ _ _ _ _ _ rfl rfl rfl) ?_
   refine kM 2 rfl ?_
   refine AOps_case 166 _ rfl (fun hb45 => ?_) (fun hb45 => ?_)
   ·have h := iteT hb45 h
    refine AOps_skip 167 rfl rfl rfl ?_
    refine AOps_skip 168 rfl rfl rfl ?_
    refine AOps_skip 169 rfl rfl rfl ?_
    refine AOps_skip 170 rfl rfl rfl ?_
    refine kM 2 rfl ?_
    refine AOps_skip 173 rfl rfl rfl ?_
    refine AOps_skip 174 rfl rfl rfl ?_
    refine AOps_skip 175 rfl rfl rfl ?_
    refine AOps_skip 176 rfl rfl rfl ?_
    refine kM 2 rfl ?_
    refine AOps_skip 179 rfl rfl rfl ?_
    refine AOps_skip 180 rfl rfl rfl ?_
    refine kM 2 rfl ?_
    refine AOps_skip 183 rfl rfl rfl ?_
    refine AOps_skip 184 rfl rfl rfl ?_
    refine AOps_skip 185 rfl rfl rfl ?_
    refine AOps_skip 186 rfl rfl rfl ?_
    refine AOps_skip 187 rfl rfl rfl ?_
    refine AOps_skip 188 rfl rfl rfl ?_
    refine AOps_skip 189 rfl rfl rfl ?_
    refine AOps_skip 190 rfl rfl rfl ?_
    refine AOps_skip 191 rfl rfl rfl ?_
    refine AOps_skip 192 rfl rfl rfl ?_
    refine AOps_skip 193 rfl rfl rfl ?_
    refine AOps_skip 194 rfl rfl rfl ?_
    refine kM 2 rfl ?_
    refine AOps_skip 197 rfl rfl rfl ?_
    refine AOps_skip 198 rfl rfl rfl ?_
    refine AOps_skip 199 rfl rfl rfl ?_
    refine AOps_skip 200 rfl rfl rfl ?_
    refine AOps_skip 201 rfl rfl rfl ?_
    refine kN 1 rfl ?_
    cases h
    exact Weak_keep 0 hm [12, 14, 26, 202] [0, 1] _ _ rfl rfl rfl
   have h := iteF hb45 h
   refine kM 2 rfl ?_
   obtain ⟨r46, hr46, h⟩ := bindO h
   refine kC [] 169 (bV r46) [.box (colD r27.1), .box (colD r28.1), .vec 0 (intsD ([3, 3]))] rfl Try.call23 rfl rfl (laws_likeInts_ac k (r33.1.getD []) (r34.1.getD []) _ hr46) rfl ?_
   refine AOps_q 170 _ rfl rfl rfl (QOp_not _ _ _ rfl rfl) ?_
   refine kM 2 rfl ?_
   refine AOps_case 172 _ rfl (fun hb47 => ?_) (fun hb47 => ?_)
   ·have h := iteT hb47 h
    refine AOps_skip 173 rfl rfl rfl ?_
    refine AOps_skip 174 rfl rfl rfl ?_
    refine AOps_skip 175 rfl rfl rfl ?_
    refine AOps_skip 176 rfl rfl rfl ?_
    refine kM 2 rfl ?_
    refine AOps_skip 179 rfl rfl rfl ?_
    refine AOps_skip 180 rfl rfl rfl ?_
    refine kM 2 rfl ?_
    refine AOps_skip 183 rfl rfl rfl ?_
    refine AOps_skip 184 rfl rfl rfl ?_
    refine AOps_skip 185 rfl rfl rfl ?_
    refine AOps_skip 186 rfl rfl rfl ?_
    refine AOps_skip 187 rfl rfl rfl ?_
    refine AOps_skip 188 rfl rfl rfl ?_
    refine AOps_skip 189 rfl rfl rfl ?_
    refine AOps_skip 190 rfl rfl rfl ?_
    refine AOps_skip 191 rfl rfl rfl ?_
    refine AOps_skip 192 rfl rfl rfl ?_
    refine AOps_skip 193 rfl rfl rfl ?_
    refine AOps_skip 194 rfl rfl rfl ?_
    refine kM 2 rfl ?_
    refine AOps_skip 197 rfl rfl rfl ?_
    refine AOps_skip 198 rfl rfl rfl ?_
    refine AOps_skip 199 rfl rfl rfl ?_
    refine AOps_skip 200 rfl rfl rfl ?_
    refine AOps_skip 201 rfl rfl rfl ?_
    refine kN 1 rfl ?_
    cases h
    exact Weak_keep 0 hm [12, 14, 26, 202] [0, 1] _ _ rfl rfl rfl
   have h := iteF hb47 h
   refine kM 2 rfl ?_
   obtain ⟨r48, hr48, h⟩ := bindO h
   refine kC [] 175 (bV r48) [.box (colD r27.1), .box (colD r28.1), .vec 0 (intsD ([3, 3]))] rfl Try.call23 rfl rfl (laws_likeInts_ac k (r35.1.getD []) (r36.1.getD []) _ hr48) rfl ?_
   refine AOps_q 176 _ rfl rfl rfl (QOp_not _ _ _ rfl rfl) ?_
   refine kM 2 rfl ?_
   refine AOps_case 178 _ rfl (fun hb49 => ?_) (fun hb49 => ?_)
   ·have h := iteT hb49 h
    refine AOps_skip 179 rfl rfl rfl ?_
    refine AOps_skip 180 rfl rfl rfl ?_
    refine kM 2 rfl ?_
    refine AOps_skip 183 rfl rfl rfl ?_
    refine AOps_skip 184 rfl rfl rfl ?_
    refine AOps_skip 185 rfl rfl rfl ?_
    refine AOps_skip 186 rfl rfl rfl ?_
    refine AOps_skip 187 rfl rfl rfl ?_
    refine AOps_skip 188 rfl rfl rfl ?_
    refine AOps_skip 189 rfl rfl rfl ?_
    refine AOps_skip 190 rfl rfl rfl ?_
    refine AOps_skip 191 rfl rfl rfl ?_
    refine AOps_skip 192 rfl rfl rfl ?_
    refine AOps_skip 193 rfl rfl rfl ?_
    refine AOps_skip 194 rfl rfl rfl ?_
    refine kM 2 rfl ?_
    refine AOps_skip 197 rfl rfl rfl ?_
    refine AOps_skip 198 rfl rfl rfl ?_
    refine AOps_skip 199 rfl rfl rfl ?_
    refine AOps_skip 200 rfl rfl rfl ?_
    refine AOps_skip 201 rfl rfl rfl ?_
    refine kN 1 rfl ?_
    cases h
    exact Weak_keep 0 hm [12, 14, 26, 202] [0, 1] _ _ rfl rfl rfl
   have h := iteF hb49 h
   refine kM 1 rfl ?_
   refine AOps_q 180 _ rfl rfl rfl (QOp_not _ _ _ rfl rfl) ?_
   refine kM 2 rfl ?_
   refine AOps_case 182 _ rfl (fun hb50 => ?_) (fun hb50 => ?_)
   ·have h := iteT hb50 h
    refine AOps_skip 183 rfl rfl rfl ?_
    refine AOps_skip 184 rfl rfl rfl ?_
    refine AOps_skip 185 rfl rfl rfl ?_
    refine AOps_skip 186 rfl rfl rfl ?_
    refine AOps_skip 187 rfl rfl rfl ?_
    refine AOps_skip 188 rfl rfl rfl ?_
    refine AOps_skip 189 rfl rfl rfl ?_
    refine AOps_skip 190 rfl rfl rfl ?_
    refine AOps_skip 191 rfl rfl rfl ?_
    refine AOps_skip 192 rfl rfl rfl ?_
    refine AOps_skip 193 rfl rfl rfl ?_
    refine AOps_skip 194 rfl rfl rfl ?_
    refine kM 2 rfl ?_
    refine AOps_skip 197 rfl rfl rfl ?_
    refine AOps_skip 198 rfl rfl rfl ?_
    refine AOps_skip 199 rfl rfl rfl ?_
    refine AOps_skip 200 rfl rfl rfl ?_
    refine AOps_skip 201 rfl rfl rfl ?_
    refine kN 1 rfl ?_
    cases h
    exact Weak_keep 0 hm [12, 14, 26, 202] [0, 1] _ _ rfl rfl rfl
   have h := iteF hb50 h
   refine kM 2 rfl ?_
   obtain ⟨hc51, h⟩ := guardO h
   refine AOps_q 185 _ rfl rfl rfl (QOp_indexAddr_sl _ _ _ _ _ _ _ _ rfl Try.underlying25 Try.sizeOf2 hc51.1 (by rw [intsD_length]; exact hc51.2) rfl rfl) ?_
   refine AOps_q 186 _ rfl rfl rfl (QOp_load_pv _ _ _ _ _ rfl Try.isAgg2 rfl (intsD_get _ _ 0 (by omega))) ?_
   refine AOps_q 187 _ rfl rfl rfl (QOp_lss _ _ _ _ _ _ _ rfl rfl rfl) ?_
   refine kM 1 rfl ?_
   refine AOps_case 188 _ rfl (fun hb52 => ?_) (fun hb52 => ?_)
   ·have h := iteT hb52 h
    refine kM 1 rfl ?_
    obtain ⟨hc53, h⟩ := guardO h
    refine AOps_q 190 _ rfl rfl rfl (QOp_indexAddr_sl _ _ _ _ _ _ _ _ rfl Try.underlying25 Try.sizeOf2 hc53.1 (by rw [intsD_length]; exact hc53.2) rfl rfl) ?_
    refine AOps_q 191 _ rfl rfl rfl (QOp_load_pv _ _ _ _ _ rfl Try.isAgg2 rfl (intsD_get _ _ 0 (by omega))) ?_
    refine AOps_q 192 _ rfl rfl rfl (QOp_lss _ _ _ _ _ _ _ rfl rfl rfl) ?_
    refine kM 1 rfl ?_
    refine AOps_q 194 _ rfl rfl rfl (QOp_bneq _ _ _ _ _ _ rfl rfl rfl Try.underlying4) ?_
    refine kM 2 rfl ?_
    refine AOps_case 196 _ rfl (fun hb54 => ?_) (fun hb54 => ?_)
    ·have h := iteT hb54 h
     refine AOps_skip 197 rfl rfl rfl ?_
     refine AOps_skip 198 rfl rfl rfl ?_
     refine AOps_skip 199 rfl rfl rfl ?_
     refine AOps_skip 200 rfl rfl rfl ?_
     refine AOps_skip 201 rfl rfl rfl ?_
     refine kN 1 rfl ?_
     cases h
     exact Weak_keep 0 hm [12, 14, 26, 202] [0, 1] _ _ rfl rfl rfl
    have h := iteF hb54 h
    refine kM 1 rfl ?_
    refine AOps_q 198 _ rfl rfl rfl (QOp_eql _ _ _ _ _ _ _ rfl rfl rfl) ?_
    refine kM 1 rfl ?_
    refine AOps_case 199 _ rfl (fun hb55 => ?_) (fun hb55 => ?_)
    ·have h := iteT hb55 h
     refine kN 3 rfl ?_
     cases h
     exact Weak_keep 0 hm [12, 14, 26, 202] [0, 1] _ _ rfl rfl rfl
    have h := iteF hb55 h
    refine AOps_skip 200 rfl rfl rfl ?_
    refine kN 2 rfl ?_
    cases h
    exact Weak_keep 0 hm [12, 14, 26, 202] [0, 1] _ _ rfl rfl rfl
   have h := iteF hb52 h
   refine AOps_skip 189 rfl rfl rfl ?_
   refine AOps_skip 190 rfl rfl rfl ?_
   refine AOps_skip 191 rfl rfl rfl ?_
   refine AOps_skip 192 rfl rfl rfl ?_
   refine kM 1 rfl ?_
   refine AOps_q 194 _ rfl rfl rfl (QOp_bneq _ _ _ _ _ _ rfl rfl rfl Try.underlying4) ?_
   refine kM 2 rfl ?_
   refine AOps_case 196 _ rfl (fun hb56 => ?_) (fun hb56 => ?_)
   ·have h := iteT hb56 h
    refine AOps_skip 197 rfl rfl rfl ?_
    refine AOps_skip 198 rfl rfl rfl ?_
    refine AOps_skip 199 rfl rfl rfl ?_
    refine AOps_skip 200 rfl rfl rfl ?_
    refine AOps_skip 201 rfl rfl rfl ?_
    refine kN 1 rfl ?_
    cases h
    exact Weak_keep 0 hm [12, 14, 26, 202] [0, 1] _ _ rfl rfl rfl
   have h := iteF hb56 h
   refine kM 1 rfl ?_
   refine AOps_q 198 _ rfl rfl rfl (QOp_eql _ _ _ _ _ _ _ rfl rfl rfl) ?_
   refine kM 1 rfl ?_
   refine AOps_case 199 _ rfl (fun hb57 => ?_) (fun hb57 => ?_)
   ·have h := iteT hb57 h
    refine kN 3 rfl ?_
    cases h
    exact Weak_keep 0 hm [12, 14, 26, 202] [0, 1] _ _ rfl rfl rfl
   have h := iteF hb57 h
   refine AOps_skip 200 rfl rfl rfl ?_
   refine kN 2 rfl ?_
   cases h
   exact Weak_keep 0 hm [12, 14, 26, 202] [0, 1] _ _ rfl rfl rfl
  refine kI h rfl (fun h _ => ?_) (fun h _ => ?_)
  ·refine kR ?_
   refine kN 1 rfl ?_
   refine ACode_ret ?_
   cases h
   have h := hks60
   cases h
   exact ⟨_, _, fun r a w h => ⟨r, h⟩, _, _, [], _, (.cons (ResV_tmp _ _ rfl) .nil), rfl, rfl, rfl, rfl, rfl⟩
  refine ACode_skip ?_
  cases h
  exact ⟨_, rfl, Weak_keep 0 hm [12, 14, 26] [0, 1] _ _ rfl rfl rfl⟩
 refine kR ?_
 refine AOps_q 204 _ rfl rfl rfl (QOp_loadN_ptr _ _ _ _ _ _ _ rfl Try.isAgg29 Try.sizeOf29 rfl rfl (colD_all _) (colD_length _)) ?_
 refine AOps_buildSlice 205 _ _ _ [_, _] (intsD ([3, 3])) _ rfl rfl rfl rfl rfl (by decide) Try.underlying25 Try.sizeOf2 (zero_of Try.typeInfo2 rfl) rfl rfl (intsD_one _) ?_
 obtain ⟨r61, hr61, h⟩ := bindO h
 refine AOps_callL [] 206 _ _ _ _ _ _ _ _ _ _ rfl rfl rfl rfl rfl rfl rfl Try.call24 rfl (nodupB_sound _ rfl) rfl rfl rfl (impl_CountExtensions_ac k r27.1 ([3, 3]) _ hr61) ?_
 rintro _ _ ⟨rfl, rfl⟩
 refine ⟨(fun _ h => nomatch h), (allc (flat_s _) (allc (flat_s _) (fun _ h => nomatch h))), AOps_as 206 (v' := .tup [iV r61.1, iV r61.2]) (H' := [.box (colD r27.1), .box (colD r28.1), .vec 0 (intsD ([3, 3]))]) rfl rfl ?_⟩
 refine kN 5 rfl ?_
 refine kR ?_
 refine AOps_q 210 _ rfl rfl rfl (QOp_loadN_ptr _ _ _ _ _ _ _ rfl Try.isAgg29 Try.sizeOf29 rfl rfl (colD_all _) (colD_length _)) ?_
 refine AOps_buildSlice 211 _ _ _ [_, _] (intsD ([3, 3])) _ rfl rfl rfl rfl rfl (by decide) Try.underlying25 Try.sizeOf2 (zero_of Try.typeInfo2 rfl) rfl rfl (intsD_one _) ?_
 obtain ⟨r62, hr62, h⟩ := bindO h
 refine AOps_callL [] 212 _ _ _ _ _ _ _ _ _ _ rfl rfl rfl rfl rfl rfl rfl Try.call24 rfl (nodupB_sound _ rfl) rfl rfl rfl (impl_CountExtensions_ac k r28.1 ([3, 3]) _ hr62) ?_
 rintro _ _ ⟨rfl, rfl⟩
 refine ⟨(fun _ h => nomatch h), (allc (flat_s _) (allc (flat_s _) (fun _ h => nomatch h))), AOps_as 212 (v' := .tup [iV r62.1, iV r62.2]) (H' := [.box (colD r27.1), .box (colD r28.1), .vec 0 (intsD ([3, 3])), .vec 0 (intsD ([3, 3]))]) rfl rfl ?_⟩
 refine kN 5 rfl ?_
 refine kL (fun s65 => [(2, bV s65)]) (fun s65 => []) h (fun s65 h => ?_) (fun s65 h => ?_)
 ·refine (ACode_region ?_)
  refine kM 2 rfl ?_
  refine AOps_q 217 _ rfl rfl rfl (QOp_eql _ _ _ _ _ _ _ rfl rfl rfl) ?_
  refine kM 1 rfl ?_
  refine AOps_case 218 _ rfl (fun hb63 => ?_) (fun hb63 => ?_)
  ·have h := iteT hb63 h
   refine kM 2 rfl ?_
   refine AOps_q 221 _ rfl rfl rfl (QOp_eql _ _ _ _ _ _ _ rfl rfl rfl) ?_
   refine kM 2 rfl ?_
   refine AOps_case 223 _ rfl (fun hb64 => ?_) (fun hb64 => ?_)
   ·have h := iteT hb64 h
    refine kM 1 rfl ?_
    refine AOps_q 225 _ rfl rfl rfl (QOp_eql _ _ _ _ _ _ _ rfl rfl rfl) ?_
    refine kM 1 rfl ?_
    refine AOps_q 227 _ rfl rfl rfl (QOp_beq _ _ _ _ _ _ rfl rfl rfl Try.underlying4) ?_
    refine kN 2 rfl ?_
    cases h
    exact Weak_keep 0 hm [2] [] _ _ rfl rfl rfl
   have h := iteF hb64 h
   refine AOps_skip 224 rfl rfl rfl ?_
   refine AOps_skip 225 rfl rfl rfl ?_
   refine AOps_skip 226 rfl rfl rfl ?_
   refine AOps_skip 227 rfl rfl rfl ?_
   refine kN 2 rfl ?_
   cases h
   exact Weak_keep 0 hm [2] [] _ _ rfl rfl rfl
  have h := iteF hb63 h
  refine AOps_skip 219 rfl rfl rfl ?_
  refine AOps_skip 220 rfl rfl rfl ?_
  refine AOps_skip 221 rfl rfl rfl ?_
  refine kM 2 rfl ?_
  refine AOps_skip 224 rfl rfl rfl ?_
  refine AOps_skip 225 rfl rfl rfl ?_
  refine AOps_skip 226 rfl rfl rfl ?_
  refine AOps_skip 227 rfl rfl rfl ?_
  refine kN 2 rfl ?_
  cases h
  exact Weak_keep 0 hm [2] [] _ _ rfl rfl rfl
 refine ACode_ret ?_
 cases h
 exact ⟨_, _, fun r a w h => ⟨r, h⟩, _, _, [], _, (.cons (ResV_tmp _ _ rfl) .nil), rfl, rfl, rfl, rfl, rfl⟩

end Go.Proofs.Ytjcgphgipleccaa
