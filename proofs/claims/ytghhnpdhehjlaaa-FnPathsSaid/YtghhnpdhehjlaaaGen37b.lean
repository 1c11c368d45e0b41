/- Plain functions of the program and that the program computes them: printed by the own tool gen.py. No conditions. -/
import Derived.Test.YtghhnpdhehjlaaaGen37a
set_option linter.unusedVariables false
set_option linter.unusedSimpArgs false
namespace Go.Proofs.Ytghhnpdhehjlaaa
open Go Go.RowKit Ab

-- (*loop.example/g01362/impl.Colouring).that
def impl_Colouring_that_l0 (p0 : Col) (p1 : Int → Option (Bool)) : Nat → Int → (List Int) → Option (List Int)
 | 0, _, _ => none
 | k0 + 1, x1, x2 => (if decide (x1 < p0.p) then ((p1 x1).bind fun r4 => (if r4 then (if x2.length + ([x1]).length ≤ 1099511627776 then some (x2 ++ ([x1])) else none) else some x2) : Option (List Int)).bind fun s7 => impl_Colouring_that_l0 p0 p1 k0 (w64 (x1 + 1)) s7 else some x2)
def impl_Colouring_that (k : Nat) (p0 : Col) (p1 : Int → Option (Bool)) : Option (List Int) :=
 (impl_Colouring_that_l0 p0 p1 k 0 ([] : List Int) : Option (List Int)).bind fun s8 => some s8
set_option maxRecDepth 100000 in
theorem impl_Colouring_that_ac (k : Nat) (p0 : Col) (p1 : Int → Option (Bool)) (g_p1 : FuncId) (c_p1 : List D) (hg_p1 : ∀ args w, (callFunc g_p1 args).run Try.prog w = .ok (.enter g_p1 args) w) (hf_p1 : ∀ (a0 : Int) (r : Bool), p1 a0 = some r → AC Try.prog g_p1 ([iV a0] ++ c_p1.map AV.d) [] (fun res H' => res = [bV r] ∧ H' = [])) (r : List Int) (h : impl_Colouring_that k p0 p1 = some r) : AC Try.prog 71 [.d (.pv (colD p0) 0), .d (.clo g_p1 c_p1)] [] (fun res H' => res = [.vec 0 0] ∧ H' = [.vec 0 (intsD r)]) := by
 refine AC_of_body true Try.func71 rfl Try.ntmps71 (rvs := [.tmp 4]) rfl rfl (fun G hG => ?_)
 have hm : G.H.length = 0 := by rw [hG]; rfl
 have hz : zeroG G.H = true := by rw [hG]; rfl
 unfold impl_Colouring_that at h
 refine kR ?_
 refine kN 1 rfl ?_
 refine kR ?_
 refine AOps_buildSlice 7 _ _ _ [] (intsD ([] : List Int)) _ rfl rfl rfl rfl rfl (by decide) Try.underlying34 Try.sizeOf2 (zero_of Try.typeInfo2 rfl) rfl rfl (intsD_one _) ?_
 refine kN 1 rfl ?_
 refine kB (fun s8 => [(5, .vec 0 0)]) (fun s8 => [.vec 0 (intsD s8)]) h (fun s8 h => ?_) (fun s8 h => ?_)
 ·refine kR ?_
  refine kM 1 rfl ?_
  refine AOps_q 9 _ rfl rfl rfl (QOp_nilCheck_pv _ _ _ rfl rfl) ?_
  refine AOps_q 10 _ rfl rfl rfl (QOp_fieldAddr_pv _ _ _ _ _ 0 _ _ rfl Try.underlying27 rfl _ Try.sizeOf2 rfl rfl) ?_
  refine AOps_q 11 _ rfl rfl rfl (QOp_load_pv _ _ _ _ _ rfl Try.isAgg2 rfl rfl) ?_
  refine kN 1 rfl ?_
  refine ACode_block ?_
  refine ACode_loopW (fun k0 E H => ∃ (x1 : Int) (x2 : List Int), E = [(1, .d (.clo g_p1 c_p1)), (5, .vec 0 0), (11, iV p0.p), (12, iV x1)] ∧ H = [.vec 0 (intsD x2)] ∧ impl_Colouring_that_l0 p0 p1 k0 x1 x2 = some s8) k _ _ (Weak_keep 0 hm [1, 5, 11, 12] [0] _ _ rfl rfl rfl) ⟨_, _, rfl, rfl, h⟩ ?_
  clear h
  rintro k0 E H ⟨x1, x2, rfl, rfl, h⟩
  cases k0 with
  | zero => cases (show (none : Option (List Int)) = some _ from h)
  | succ k0 =>
   rw [impl_Colouring_that_l0] at h
   refine kR ?_
   refine AOps_q 13 _ rfl rfl rfl (QOp_lss _ _ _ _ _ _ _ rfl rfl rfl) ?_
   refine AOps_nil ?_
   refine ACode_seq ?_
   refine kI h rfl (fun h _ => ?_) (fun h _ => ?_)
   ·refine ACode_skip ?_
    refine kB (fun s7 => [(1, .d (.clo g_p1 c_p1)), (5, .vec 0 0), (11, iV p0.p), (12, iV x1)]) (fun s7 => [.vec 0 (intsD s7)]) h (fun s7 h => ?_) (fun s7 h => ?_)
    ·refine ACode_block ?_
     refine kR ?_
     refine kN 2 rfl ?_
     refine kR ?_
     refine kM 2 rfl ?_
     obtain ⟨r4, hr4, h⟩ := bindO h
     refine kC [] 17 (bV r4) [.vec 0 (intsD x2)] rfl hg_p1 rfl (viewA_mapD _) (hf_p1 x1 _ hr4) rfl ?_
     refine AOps_nil ?_
     refine kI h rfl (fun h _ => ?_) (fun h _ => ?_)
     ·refine (ACode_region ?_)
      refine kM 2 rfl ?_
      refine AOps_buildSlice 20 _ _ _ [_] (intsD ([x1])) _ rfl rfl rfl rfl rfl (by decide) Try.underlying34 Try.sizeOf2 (zero_of Try.typeInfo2 rfl) rfl rfl (intsD_one _) ?_
      obtain ⟨hc6, h⟩ := guardO h
      refine AOps_append 21 _ _ _ _ _ _ _ _ _ _ _ _ rfl rfl rfl rfl rfl rfl rfl Try.underlying34 Try.type2 rfl rfl rfl (by decide) rfl rfl rfl rfl (intsD_one _) (by rw [intsD_length, intsD_length]; exact hc6) ?_
      rw [intsD_app]
      refine kN 1 rfl ?_
      cases h
      exact Weak_trans (Weak_keep 0 hm [1, 5, 11, 12] [0] _ _ rfl rfl rfl) (Weak_reset 0 hm hz [1, 5, 11, 12] _ _ rfl rfl)
     refine ACode_skip ?_
     cases h
     exact Weak_keep 0 hm [1, 5, 11, 12] [0] _ _ rfl rfl rfl
    refine (ACode_region ?_)
    refine AOps_q 22 _ rfl rfl rfl (QOp_add _ _ _ _ _ _ _ rfl rfl rfl) ?_
    refine kN 1 rfl ?_
    exact ⟨k0, _, _, Nat.lt_succ_self _, Weak_keep 0 hm [1, 5, 11, 12] [0] _ _ rfl rfl rfl, _, _, rfl, rfl, h⟩
   refine ACode_exit ?_
   cases h
   exact Weak_keep 0 hm [5] [0] _ _ rfl rfl rfl
 refine kR ?_
 refine kN 2 rfl ?_
 refine ACode_ret ?_
 cases h
 exact ⟨_, _, Weak_reset 0 hm hz [4] _ _ rfl rfl, _, _, [0], _, (.cons (ResV_tmp _ _ rfl) .nil), rfl, rfl, rfl, rfl, rfl⟩

-- loop.example/g01362/impl.number
def impl_number (p0 : Int) (p1 : Int) : Int :=
 w64 ((w64 ((w64 ((if p0 < p1 then p1 else p0) * (w64 ((if p0 < p1 then p1 else p0) - 1)))).tdiv 2)) + (if p1 < p0 then p1 else p0))
set_option maxRecDepth 100000 in
theorem impl_number_ac (p0 : Int) (p1 : Int) : AC Try.prog 96 [iV p0, iV p1] [] (fun res H' => res = [iV (impl_number p0 p1)] ∧ H' = []) := by
 refine AC_of_body true Try.func96 rfl Try.ntmps96 (rvs := [.tmp 4]) rfl rfl (fun G hG => ?_)
 have hm : G.H.length = 0 := by rw [hG]; rfl
 have hz : zeroG G.H = true := by rw [hG]; rfl
 obtain ⟨r, h⟩ : ∃ r, impl_number p0 p1 = r := ⟨_, rfl⟩
 rw [h]
 unfold impl_number at h
 refine kR ?_
 refine kN 1 rfl ?_
 refine kR ?_
 refine kM 2 rfl ?_
 refine AOps_q 7 _ rfl rfl rfl (QOp_min _ _ _ _ _ _ rfl rfl rfl rfl rfl) ?_
 refine kM 2 rfl ?_
 refine AOps_q 10 _ rfl rfl rfl (QOp_max _ _ _ _ _ _ rfl rfl rfl rfl rfl) ?_
 refine kN 2 rfl ?_
 refine kR ?_
 refine kM 2 rfl ?_
 refine AOps_q 13 _ rfl rfl rfl (QOp_sub _ _ _ _ _ _ _ rfl rfl rfl) ?_
 refine AOps_q 14 _ rfl rfl rfl (QOp_mul _ _ _ _ _ _ _ rfl rfl rfl) ?_
 refine AOps_q 15 _ rfl rfl rfl (QOp_quo _ _ _ _ _ _ _ (by decide) rfl rfl rfl) ?_
 refine kM 1 rfl ?_
 refine AOps_q 17 _ rfl rfl rfl (QOp_add _ _ _ _ _ _ _ rfl rfl rfl) ?_
 refine kN 1 rfl ?_
 refine ACode_ret ?_
 cases h
 exact ⟨_, _, fun r a w h => ⟨r, h⟩, _, _, [], _, (.cons (ResV_tmp _ _ rfl) .nil), rfl, rfl, rfl, rfl, rfl⟩

-- (*loop.example/g01362/impl.Colouring).at
def impl_Colouring_at (p0 : Col) (p1 : Int) (p2 : Int) : Option (Int) :=
 (if 0 ≤ (impl_number p1 p2) ∧ (impl_number p1 p2) < 136 then some ((p0.get ((impl_number p1 p2).toNat)).toNat : Int) else none)
set_option maxRecDepth 100000 in
theorem impl_Colouring_at_ac (p0 : Col) (p1 : Int) (p2 : Int) (r : Int) (h : impl_Colouring_at p0 p1 p2 = some r) : AC Try.prog 67 [.d (.pv (colD p0) 0), iV p1, iV p2] [] (fun res H' => res = [iV r] ∧ H' = []) := by
 refine AC_of_body true Try.func67 rfl Try.ntmps67 (rvs := [.tmp 6]) rfl rfl (fun G hG => ?_)
 have hm : G.H.length = 0 := by rw [hG]; rfl
 have hz : zeroG G.H = true := by rw [hG]; rfl
 unfold impl_Colouring_at at h
 refine kR ?_
 refine kN 1 rfl ?_
 refine ACode_seq (ACode_quiet mixed (by kernel_rfl) ?_)
 refine kQ 3 rfl ?_
 refine AQ_call 10 _ _ _ _ _ _ _ _ _ rfl rfl rfl rfl rfl rfl rfl Try.call96 rfl rfl rfl (impl_number_ac p1 p2) ?_
 refine AQ_q 11 _ rfl rfl rfl (QOp_nilCheck_pv _ _ _ rfl rfl) ?_
 refine AQ_q 12 _ rfl rfl rfl (QOp_fieldAddr_pv _ _ _ _ _ 2 _ _ rfl Try.underlying27 rfl _ Try.sizeOf22 rfl rfl) ?_
 obtain ⟨hc2, h⟩ := guardO h
 refine AQ_q 13 _ rfl rfl rfl (QOp_indexAddrA_pv _ _ _ _ _ _ _ _ _ rfl Try.underlying22 Try.sizeOf5 hc2.1 hc2.2 rfl rfl) ?_
 refine AQ_q 14 _ rfl rfl rfl (QOp_load_pv _ _ _ _ _ rfl Try.isAgg5 rfl (colD_get _ _ (by omega))) ?_
 refine AQ_q 15 _ rfl rfl rfl (QOp_fromByte _ _ _ _ _ rfl rfl Try.underlying2 wrap_i64_byte rfl) ?_
 refine kQ 1 rfl ?_
 refine AQ_nil ?_
 refine ACode_ret ?_
 cases h
 exact ⟨_, _, fun r a w h => ⟨r, h⟩, _, _, [], _, (.cons (ResV_tmp _ _ rfl) .nil), rfl, rfl, rfl, rfl, rfl⟩

-- (*loop.example/g01362/impl.Colouring).joins
def impl_Colouring_joins (p0 : Col) (p1 : Int) (p2 : Int) (p3 : Int) : Option (Bool) :=
 ((if !decide (p1 = p2) then (impl_Colouring_at p0 p1 p2).bind fun r2 => some (decide (r2 = p3)) else some false) : Option (Bool)).bind fun s3 => some s3
set_option maxRecDepth 100000 in
theorem impl_Colouring_joins_ac (p0 : Col) (p1 : Int) (p2 : Int) (p3 : Int) (r : Bool) (h : impl_Colouring_joins p0 p1 p2 p3 = some r) : AC Try.prog 73 [.d (.pv (colD p0) 0), iV p1, iV p2, iV p3] [] (fun res H' => res = [bV r] ∧ H' = []) := by
 refine AC_of_body true Try.func73 rfl Try.ntmps73 (rvs := [.tmp 8]) rfl rfl (fun G hG => ?_)
 have hm : G.H.length = 0 := by rw [hG]; rfl
 have hz : zeroG G.H = true := by rw [hG]; rfl
 unfold impl_Colouring_joins at h
 refine kR ?_
 refine kN 1 rfl ?_
 refine kB (fun s3 => [(8, bV s3)]) (fun s3 => []) h (fun s3 h => ?_) (fun s3 h => ?_)
 ·refine (ACode_region ?_)
  refine kM 2 rfl ?_
  refine AOps_q 11 _ rfl rfl rfl (QOp_neq _ _ _ _ _ _ _ rfl rfl rfl) ?_
  refine kM 1 rfl ?_
  refine AOps_case 12 _ rfl (fun hb1 => ?_) (fun hb1 => ?_)
  ·have h := iteT hb1 h
   refine kM 3 rfl ?_
   obtain ⟨r2, hr2, h⟩ := bindO h
   refine kC [] 16 (iV r2) [] rfl Try.call67 rfl rfl (impl_Colouring_at_ac p0 p1 p2 _ hr2) rfl ?_
   refine kM 1 rfl ?_
   refine AOps_q 18 _ rfl rfl rfl (QOp_eql _ _ _ _ _ _ _ rfl rfl rfl) ?_
   refine kN 2 rfl ?_
   cases h
   exact Weak_keep 0 hm [8] [] _ _ rfl rfl rfl
  have h := iteF hb1 h
  refine AOps_skip 13 rfl rfl rfl ?_
  refine AOps_skip 14 rfl rfl rfl ?_
  refine AOps_skip 15 rfl rfl rfl ?_
  refine AOps_skip 16 rfl rfl rfl ?_
  refine AOps_skip 17 rfl rfl rfl ?_
  refine AOps_skip 18 rfl rfl rfl ?_
  refine kN 2 rfl ?_
  cases h
  exact Weak_keep 0 hm [8] [] _ _ rfl rfl rfl
 refine ACode_ret ?_
 cases h
 exact ⟨_, _, fun r a w h => ⟨r, h⟩, _, _, [], _, (.cons (ResV_tmp _ _ rfl) .nil), rfl, rfl, rfl, rfl, rfl⟩

-- (*loop.example/g01362/impl.Colouring).neighbours$1
def impl_Colouring_neighbours_c1 (p0 : Int) (p1 : Col) (p2 : Int) (p3 : Int) : Option (Bool) :=
 (impl_Colouring_joins p1 p2 p0 p3).bind fun r1 => some r1
set_option maxRecDepth 100000 in
theorem impl_Colouring_neighbours_c1_ac (p0 : Int) (p1 : Col) (p2 : Int) (p3 : Int) (r : Bool) (h : impl_Colouring_neighbours_c1 p0 p1 p2 p3 = some r) : AC Try.prog 97 [iV p0, .d (.pv ([.pv (colD p1) 0]) 0), .d (.pv ([iD p2]) 0), .d (.pv ([iD p3]) 0)] [] (fun res H' => res = [bV r] ∧ H' = []) := by
 refine AC_of_body true Try.func97 rfl Try.ntmps97 (rvs := [.tmp 5]) rfl rfl (fun G hG => ?_)
 have hm : G.H.length = 0 := by rw [hG]; rfl
 have hz : zeroG G.H = true := by rw [hG]; rfl
 unfold impl_Colouring_neighbours_c1 at h
 refine kR ?_
 refine kN 1 rfl ?_
 refine kR ?_
 refine AOps_q 6 _ rfl rfl rfl (QOp_load_pv _ _ _ _ _ rfl Try.isAgg96 rfl rfl) ?_
 refine AOps_q 7 _ rfl rfl rfl (QOp_load_pv _ _ _ _ _ rfl Try.isAgg2 rfl rfl) ?_
 refine kM 1 rfl ?_
 refine AOps_q 9 _ rfl rfl rfl (QOp_load_pv _ _ _ _ _ rfl Try.isAgg2 rfl rfl) ?_
 obtain ⟨r1, hr1, h⟩ := bindO h
 refine kC [] 10 (bV r1) [] rfl Try.call73 rfl rfl (impl_Colouring_joins_ac p1 p2 p0 p3 _ hr1) rfl ?_
 refine kN 1 rfl ?_
 refine ACode_ret ?_
 cases h
 exact ⟨_, _, fun r a w h => ⟨r, h⟩, _, _, [], _, (.cons (ResV_tmp _ _ rfl) .nil), rfl, rfl, rfl, rfl, rfl⟩

-- (*loop.example/g01362/impl.Colouring).neighbours
def impl_Colouring_neighbours (k : Nat) (p0 : Col) (p1 : Int) (p2 : Int) : Option (List Int) :=
 (impl_Colouring_that k p0 (fun a0 => impl_Colouring_neighbours_c1 a0 p0 p1 p2)).bind fun r1 => some r1
set_option maxRecDepth 100000 in
theorem impl_Colouring_neighbours_ac (k : Nat) (p0 : Col) (p1 : Int) (p2 : Int) (r : List Int) (h : impl_Colouring_neighbours k p0 p1 p2 = some r) : AC Try.prog 76 [.d (.pv (colD p0) 0), iV p1, iV p2] [] (fun res H' => res = [.vec 0 0] ∧ H' = [.vec 0 (intsD r)]) := by
 refine AC_of_body true Try.func76 rfl Try.ntmps76 (rvs := [.tmp 6]) rfl rfl (fun G hG => ?_)
 have hm : G.H.length = 0 := by rw [hG]; rfl
 have hz : zeroG G.H = true := by rw [hG]; rfl
 unfold impl_Colouring_neighbours at h
 refine kR ?_
 refine AOps_boxI 3 _ _ (.pv (colD p0) 0) _ rfl (fun c hc => by cases hc with | head => rfl | tail _ h => cases h) rfl rfl rfl rfl rfl ?_
 refine AOps_boxI 4 _ _ (iD p1) _ rfl (fun c hc => by cases hc with | head => rfl | tail _ h => cases h) rfl rfl rfl rfl rfl ?_
 refine AOps_boxI 5 _ _ (iD p2) _ rfl (fun c hc => by cases hc with | head => rfl | tail _ h => cases h) rfl rfl rfl rfl rfl ?_
 refine kN 1 rfl ?_
 refine kR ?_
 refine AOps_q 7 _ rfl rfl rfl (QOp_load_pv _ _ _ _ _ rfl Try.isAgg96 rfl rfl) ?_
 refine AOps_q 8 _ rfl rfl rfl (QOp_makeFuncD _ _ _ _ rfl rfl rfl) ?_
 obtain ⟨r1, hr1, h⟩ := bindO h
 refine kC [] 9 (.vec 0 0) [.vec 0 (intsD r1)] rfl Try.call71 rfl rfl (impl_Colouring_that_ac k p0 (fun a0 => impl_Colouring_neighbours_c1 a0 p0 p1 p2) 97 ([.pv ([.pv (colD p0) 0]) 0, .pv ([iD p1]) 0, .pv ([iD p2]) 0]) Try.call97 (fun a0 r h => impl_Colouring_neighbours_c1_ac a0 p0 p1 p2 r h) _ hr1) rfl ?_
 refine kN 1 rfl ?_
 refine ACode_ret ?_
 cases h
 exact ⟨_, _, Weak_reset 0 hm hz [6] _ _ rfl rfl, _, _, [0], _, (.cons (ResV_tmp _ _ rfl) .nil), rfl, rfl, rfl, rfl, rfl⟩

-- (*loop.example/g01362/impl.longest).behind
def impl_longest_behind_l0 (self : Lon → (List (MK × Int)) → Int → Int → Option (Int × List (MK × Int))) (p0 : Lon) (p1 : Int) (r3 : List Int) : Nat → Int → Int → (List (MK × Int)) → Option (Int × List (MK × Int))
 | 0, _, _, _ => none
 | k0 + 1, x4, x5, x6 => (if decide (x5 < (r3.length : Int)) then ((if 0 ≤ x5 ∧ x5 < (r3.length : Int) then (if 0 ≤ (r3.getD x5.toNat 0) then (if decide (bAnd .i64 (bShr .i64 p1 (r3.getD x5.toNat 0)) 1 = 0) then (if 0 ≤ (r3.getD x5.toNat 0) then (self p0 x6 (bOr .i64 p1 (bShl .i64 1 (r3.getD x5.toNat 0))) (r3.getD x5.toNat 0)).bind fun r12 => some ((if x4 < w64 (r12.1 + 1) then w64 (r12.1 + 1) else x4), r12.2) else none) else some (x4, x6)) else none) else none) : Option (Int × List (MK × Int))).bind fun s13 => impl_longest_behind_l0 self p0 p1 r3 k0 s13.1 (w64 (x5 + 1)) s13.2 else some (x4, x6))
def impl_longest_behind_body (self : Lon → (List (MK × Int)) → Int → Int → Option (Int × List (MK × Int))) (k : Nat) (p0 : Lon) (p0m : List (MK × Int)) (p1 : Int) (p2 : Int) : Option (Int × List (MK × Int)) :=
 (if okK (MK.l ([p1, p2] : List Int)) = true ∧ ([p1, p2] : List Int).length = 2 then (if (lookM p0m (MK.l ([p1, p2] : List Int))).isSome then some (((lookM p0m (MK.l ([p1, p2] : List Int))).getD 0), p0m) else ((impl_Colouring_neighbours k p0.x p2 p0.c).bind fun r3 => impl_longest_behind_l0 self p0 p1 r3 k 0 0 p0m : Option (Int × List (MK × Int))).bind fun s14 => (if (okK (MK.l ([p1, p2] : List Int)) = true ∧ ([p1, p2] : List Int).length = 2) ∧ okI s14.1 = true ∧ s14.2.length < 4611686018427387904 then some (s14.1, ((MK.l ([p1, p2] : List Int), s14.1) :: s14.2)) else none)) else none)
def impl_longest_behind : Nat → Lon → (List (MK × Int)) → Int → Int → Option (Int × List (MK × Int))
 | 0, _, _, _, _ => none
 | k + 1, p0, p0m, p1, p2 => impl_longest_behind_body (impl_longest_behind k) k p0 p0m p1 p2
set_option maxRecDepth 100000 in
theorem impl_longest_behind_ac {vp0 : Value} (k : Nat) (p0 : Lon) (p0m : List (MK × Int)) (p1 : Int) (p2 : Int) (r : Int × List (MK × Int)) (h : impl_longest_behind k p0 p0m p1 p2 = some r) : AC Try.prog 86 [.d (.pv (lonD p0 vp0) 0), iV p1, iV p2] [.mp vp0 (mapI Try.prog 111 2 p0m)] (fun res H' => res = [iV r.1] ∧ H' = [.mp vp0 (mapI Try.prog 111 2 r.2)]) := by
 induction k generalizing p0 p0m p1 p2 r with
 | zero => simp [impl_longest_behind] at h
 | succ k ih =>
  rw [impl_longest_behind] at h
  obtain ⟨self, hself, hk⟩ : ∃ self : Lon → (List (MK × Int)) → Int → Int → Option (Int × List (MK × Int)), (∀ (p0 : Lon) (p0m : List (MK × Int)) (p1 : Int) (p2 : Int) (r : Int × List (MK × Int)), self p0 p0m p1 p2 = some r → AC Try.prog 86 [.d (.pv (lonD p0 vp0) 0), iV p1, iV p2] [.mp vp0 (mapI Try.prog 111 2 p0m)] (fun res H' => res = [iV r.1] ∧ H' = [.mp vp0 (mapI Try.prog 111 2 r.2)])) ∧ impl_longest_behind k = self := ⟨impl_longest_behind k, fun p0 p0m p1 p2 r h => ih p0 p0m p1 p2 r h, rfl⟩
  rw [hk] at h
  clear ih hk
  refine AC_of_body true Try.func86 rfl Try.ntmps86 (rvs := [.tmp 6]) rfl rfl (fun G hG => ?_)
  have hm : G.H.length = 1 := by rw [hG]; rfl
  have hz : zeroG G.H = true := by rw [hG]; rfl
  unfold impl_longest_behind_body at h
  refine kR ?_
  refine kN 1 rfl ?_
  refine kR ?_
  refine kM 2 rfl ?_
  refine AOps_q 15 _ rfl rfl rfl (QOp_buildA _ _ _ [_, _] [0, 1] [iD p1, iD p2] _ (intsD ([0, 0] : List Int)) (intsD ([p1, p2] : List Int)) rfl rfl Try.underlying111 (zero_of Try.typeInfo111 rfl) Try.sizeOf2 (by decide) rfl (by rfl) (by rfl) (allc (ok1 rfl) (allc (ok1 rfl) (fun _ h => nomatch h)))) ?_
  refine AOps_alloc 7 _ _ (intsD ([0, 0] : List Int)) (zero_of Try.typeInfo111 rfl) (by rfl) rfl rfl rfl rfl ?_
  refine AOps_store _ _ _ _ _ _ (intsD _) _ _ rfl rfl rfl rfl rfl rfl rfl (intsD_one _) (by rw [intsD_length]; exact Try.sizeOf111) (by rw [intsD_length, intsD_length]; exact Nat.le_refl _) (ints_whole ([0, 0] : List Int) ([p1, p2] : List Int) rfl) ?_
  refine AOps_nil ?_
  refine ACode_seq ?_
  refine ACode_seq (ACode_quiet mixed (by kernel_rfl) ?_)
  refine kQ 1 rfl ?_
  refine AQ_q 18 _ rfl rfl rfl (QOp_nilCheck_pv _ _ _ rfl rfl) ?_
  refine AQ_q 19 _ rfl rfl rfl (QOp_fieldAddr_pv _ _ _ _ _ 2 _ _ rfl Try.underlying100 rfl _ Try.sizeOf98 rfl rfl) ?_
  refine AQ_q 20 _ rfl rfl rfl (QOp_load_pv _ _ _ _ _ rfl Try.isAgg98 rfl rfl) ?_
  refine AQ_q 21 _ rfl rfl rfl (QOp_loadN_ptr _ _ _ _ _ _ _ rfl Try.isAgg111 Try.sizeOf111 rfl rfl (ints_all _ rfl) (by rw [intsD_length]; exact rfl)) ?_
  obtain ⟨hc1, h⟩ := guardO h
  refine AQ_q 22 _ rfl rfl rfl (QOp_lookup keyed111_Try Try.underlying98 Try.underlying2 (fun w => by kernel_rfl) 0 _ p0m (MK.l ([p1, p2] : List Int)) _ _ _ rfl rfl rfl rfl (isKey_l _) (key111_Try hc1)) ?_
  refine kQ 5 rfl ?_
  refine AQ_nil ?_
  refine kR ?_
  refine kN 1 rfl ?_
  refine kI h rfl (fun h _ => ?_) (fun h _ => ?_)
  ·refine kR ?_
   refine kN 2 rfl ?_
   refine ACode_ret ?_
   cases h
   exact ⟨_, _, fun r a w h => ⟨r, h⟩, _, _, [], _, (.cons (ResV_tmp _ _ rfl) .nil), rfl, rfl, rfl, rfl, rfl⟩
  refine ACode_skip ?_
  refine kR ?_
  refine kN 1 rfl ?_
  refine kB (fun s14 => [(0, .d (.pv (lonD p0 vp0) 0)), (7, .ptr 1 0), (10, iV s14.1)]) (fun s14 => [.mp vp0 (mapI Try.prog 111 2 s14.2), .box (intsD ([p1, p2] : List Int))]) h (fun s14 h => ?_) (fun s14 h => ?_)
  ·obtain ⟨r3, hr3, h⟩ := bindO h
   refine ACode_seqJ (fun E' H' => Weak 65 G E' H' [(0, .d (.pv (lonD p0 vp0) 0)), (1, iV p1), (7, .ptr 1 0), (10, iV 0), (36, .vec 2 0), (37, iV (r3.length : Int)), (38, iV 0)] [.mp vp0 (mapI Try.prog 111 2 p0m), .box (intsD ([p1, p2] : List Int)), .vec 0 (intsD r3)]) ?_ ?_
   ·refine ACode_any mixed ?_
    refine AAny_q 0 27 _ rfl (by kernel_rfl) rfl rfl rfl (QOp_move _ _ rfl rfl) ?_
    refine AAny_q 1 28 _ rfl (by kernel_rfl) rfl rfl rfl (QOp_nilCheck_pv _ _ _ rfl rfl) ?_
    refine AAny_q 2 29 _ rfl (by kernel_rfl) rfl rfl rfl (QOp_fieldAddr_pv _ _ _ _ _ 0 _ _ rfl Try.underlying100 rfl _ Try.sizeOf96 rfl rfl) ?_
    refine AAny_q 3 30 _ rfl (by kernel_rfl) rfl rfl rfl (QOp_load_pv _ _ _ _ _ rfl Try.isAgg96 rfl rfl) ?_
    refine AAny_q 4 31 _ rfl (by kernel_rfl) rfl rfl rfl (QOp_move _ _ rfl rfl) ?_
    refine AAny_q 5 32 _ rfl (by kernel_rfl) rfl rfl rfl (QOp_move _ _ rfl rfl) ?_
    refine AAny_q 6 33 _ rfl (by kernel_rfl) rfl rfl rfl (QOp_nilCheck_pv _ _ _ rfl rfl) ?_
    refine AAny_q 7 34 _ rfl (by kernel_rfl) rfl rfl rfl (QOp_fieldAddr_pv _ _ _ _ _ 1 _ _ rfl Try.underlying100 rfl _ Try.sizeOf2 rfl rfl) ?_
    refine AAny_q 8 35 _ rfl (by kernel_rfl) rfl rfl rfl (QOp_load_pv _ _ _ _ _ rfl Try.isAgg2 rfl rfl) ?_
    refine AAny_q 11 38 _ rfl (by kernel_rfl) rfl rfl rfl (QOp_move _ _ rfl rfl) ?_
    refine AAny_all [9] (by kernel_rfl) rfl (allc ?_ (fun _ h => nomatch h))
    refine AStep_callN 9 36 _ _ _ _ _ _ _ _ _ rfl rfl rfl rfl rfl rfl rfl rfl Try.call76 rfl rfl rfl (impl_Colouring_neighbours_ac k p0.x p2 p0.c _ hr3) ?_
    rintro _ _ ⟨rfl, rfl⟩
    refine ⟨(allc (fun _ _ => trivial) (fun _ h => nomatch h)), (allc (trivial) (fun _ h => nomatch h)), AAny_as 36 (v' := .vec 2 0) (H' := [.mp vp0 (mapI Try.prog 111 2 p0m), .box (intsD ([p1, p2] : List Int)), .vec 0 (intsD r3)]) rfl rfl ?_⟩
    refine AAny_q 10 37 _ rfl (by kernel_rfl) rfl rfl rfl (QOp_len_vec _ _ _ _ _ _ _ _ (intsD_length _) rfl rfl rfl rfl Try.underlying34 rfl rfl) ?_
    refine AAny_done (by kernel_rfl) ?_
    exact Weak_keep 1 hm [0, 1, 7, 10, 36, 37, 38] [1, 2] _ _ rfl rfl rfl
   intro E' H' hw
   refine ACode_weak hw ?_
   refine ACode_block ?_
   refine ACode_loopW (fun k0 E H => ∃ (x4 : Int) (x5 : Int) (x6 : List (MK × Int)), E = [(0, .d (.pv (lonD p0 vp0) 0)), (1, iV p1), (7, .ptr 1 0), (10, iV x4), (36, .vec 2 0), (37, iV (r3.length : Int)), (38, iV x5)] ∧ H = [.mp vp0 (mapI Try.prog 111 2 x6), .box (intsD ([p1, p2] : List Int)), .vec 0 (intsD r3)] ∧ impl_longest_behind_l0 self p0 p1 r3 k0 x4 x5 x6 = some s14) k _ _ (Weak_keep 1 hm [0, 1, 7, 10, 36, 37, 38] [1, 2] _ _ rfl rfl rfl) ⟨_, _, _, rfl, rfl, h⟩ ?_
   clear h
   rintro k0 E H ⟨x4, x5, x6, rfl, rfl, h⟩
   cases k0 with
   | zero => cases (show (none : Option (Int × List (MK × Int))) = some _ from h)
   | succ k0 =>
    rw [impl_longest_behind_l0] at h
    refine kR ?_
    refine AOps_q 39 _ rfl rfl rfl (QOp_lss _ _ _ _ _ _ _ rfl rfl rfl) ?_
    refine AOps_nil ?_
    refine ACode_seq ?_
    refine kI h rfl (fun h _ => ?_) (fun h _ => ?_)
    ·refine ACode_skip ?_
     refine kB (fun s13 => [(0, .d (.pv (lonD p0 vp0) 0)), (1, iV p1), (7, .ptr 1 0), (10, iV s13.1), (36, .vec 2 0), (37, iV (r3.length : Int)), (38, iV x5)]) (fun s13 => [.mp vp0 (mapI Try.prog 111 2 s13.2), .box (intsD ([p1, p2] : List Int)), .vec 0 (intsD r3)]) h (fun s13 h => ?_) (fun s13 h => ?_)
     ·refine ACode_block ?_
      refine kR ?_
      obtain ⟨hc8, h⟩ := guardO h
      refine AOps_q 40 _ rfl rfl rfl (QOp_indexAddr_vec _ _ _ _ _ _ _ _ _ rfl Try.underlying34 Try.sizeOf2 hc8.1 (by rw [intsD_length]; exact hc8.2) rfl rfl rfl) ?_
      refine AOps_q 41 _ rfl rfl rfl (QOp_load_eptr _ _ _ _ _ _ _ rfl Try.isAgg2 rfl rfl (intsD_get _ _ 0 (by omega))) ?_
      refine kN 1 rfl ?_
      refine kR ?_
      refine kM 2 rfl ?_
      obtain ⟨hc9, h⟩ := guardO h
      refine AOps_q 44 _ rfl rfl rfl (QOp_shr _ _ _ _ _ _ _ _ hc9 rfl rfl rfl) ?_
      refine AOps_q 45 _ rfl rfl rfl (QOp_and _ _ _ _ _ _ _ rfl rfl rfl) ?_
      refine AOps_q 46 _ rfl rfl rfl (QOp_eql _ _ _ _ _ _ _ rfl rfl rfl) ?_
      refine AOps_nil ?_
      refine kI h rfl (fun h _ => ?_) (fun h _ => ?_)
      ·refine (ACode_region ?_)
       refine kM 4 rfl ?_
       obtain ⟨hc11, h⟩ := guardO h
       refine AOps_q 51 _ rfl rfl rfl (QOp_shl _ _ _ _ _ _ _ _ hc11 rfl rfl rfl) ?_
       refine AOps_q 52 _ rfl rfl rfl (QOp_or _ _ _ _ _ _ _ rfl rfl rfl) ?_
       refine kM 1 rfl ?_
       obtain ⟨r12, hr12, h⟩ := bindO h
       refine kC [0] 54 (iV r12.1) [.mp vp0 (mapI Try.prog 111 2 r12.2), .box (intsD ([p1, p2] : List Int)), .vec 0 (intsD r3)] rfl Try.call86 rfl rfl (hself p0 x6 (bOr .i64 p1 (bShl .i64 1 (r3.getD x5.toNat 0))) (r3.getD x5.toNat 0) _ hr12) rfl ?_
       refine AOps_q 55 _ rfl rfl rfl (QOp_add _ _ _ _ _ _ _ rfl rfl rfl) ?_
       refine AOps_q 56 _ rfl rfl rfl (QOp_max _ _ _ _ _ _ rfl rfl rfl rfl rfl) ?_
       refine kN 1 rfl ?_
       cases h
       exact Weak_keep 1 hm [0, 1, 7, 10, 36, 37, 38] [1, 2] _ _ rfl rfl rfl
      refine ACode_skip ?_
      cases h
      exact Weak_keep 1 hm [0, 1, 7, 10, 36, 37, 38] [1, 2] _ _ rfl rfl rfl
     refine (ACode_region ?_)
     refine AOps_q 57 _ rfl rfl rfl (QOp_add _ _ _ _ _ _ _ rfl rfl rfl) ?_
     refine kN 1 rfl ?_
     exact ⟨k0, _, _, Nat.lt_succ_self _, Weak_keep 1 hm [0, 1, 7, 10, 36, 37, 38] [1, 2] _ _ rfl rfl rfl, _, _, _, rfl, rfl, h⟩
    refine ACode_exit ?_
    cases h
    exact Weak_keep 1 hm [0, 7, 10] [1] _ _ rfl rfl rfl
  refine ACode_seq (ACode_last (l := [_, _, _, _, _, _]) mixed (by kernel_rfl) (by kernel_rfl) ?_)
  refine kQ 1 rfl ?_
  refine AQ_q 59 _ rfl rfl rfl (QOp_nilCheck_pv _ _ _ rfl rfl) ?_
  refine AQ_q 60 _ rfl rfl rfl (QOp_fieldAddr_pv _ _ _ _ _ 2 _ _ rfl Try.underlying100 rfl _ Try.sizeOf98 rfl rfl) ?_
  refine AQ_q 61 _ rfl rfl rfl (QOp_load_pv _ _ _ _ _ rfl Try.isAgg98 rfl rfl) ?_
  refine AQ_q 62 _ rfl rfl rfl (QOp_loadN_ptr _ _ _ _ _ _ _ rfl Try.isAgg111 Try.sizeOf111 rfl rfl (ints_all _ rfl) (by rw [intsD_length]; exact rfl)) ?_
  refine kQ 1 rfl ?_
  refine AQ_nil ?_
  obtain ⟨hc15, h⟩ := guardO h
  refine AOps_mapUpdate keyed111_Try Try.underlying98 Try.underlying2 0 _ s14.2 (MK.l ([p1, p2] : List Int)) _ s14.1 _ _ _ rfl rfl rfl rfl rfl rfl (isKey_l _) (key111_Try hc15.1) rfl hc15.2.1 hc15.2.2 ?_
  refine AOps_nil ?_
  refine kR ?_
  refine kN 2 rfl ?_
  refine ACode_ret ?_
  cases h
  exact ⟨_, _, fun r a w h => ⟨r, h⟩, _, _, [], _, (.cons (ResV_tmp _ _ rfl) .nil), rfl, rfl, rfl, rfl, rfl⟩

-- (*loop.example/g01362/impl.Colouring).path
def impl_Colouring_path_l0 (k : Nat) (p0 : Col) (p1 : Int) : Nat → Int → Int → Int → (List (MK × Int)) → Option (Int × Int × List (MK × Int))
 | 0, _, _, _, _ => none
 | k0 + 1, x2, x3, x4, x5 => (if decide (x4 < p0.p) then ((if 0 ≤ x4 then (impl_longest_behind k (⟨p0, p1⟩ : Lon) x5 (bShl .i64 1 x4) x4).bind fun r8 => (if decide (x3 < r8.1) then some (x4, r8.1, r8.2) else some (x2, x3, r8.2)) else none) : Option (Int × Int × List (MK × Int))).bind fun s10 => impl_Colouring_path_l0 k p0 p1 k0 s10.1 s10.2.1 (w64 (x4 + 1)) s10.2.2 else some (x2, x3, x5))
def impl_Colouring_path_l2 (k : Nat) (p0 : Col) (p1 : Int) (x14 : Int) (r19 : List Int) : Nat → Int → Int → (List (MK × Int)) → (List Int) → Option (Int × List (MK × Int) × List Int)
 | 0, _, _, _, _ => none
 | k2 + 1, x20, x21, x22, x23 => (if decide (x21 < (r19.length : Int)) then ((if 0 ≤ x21 ∧ x21 < (r19.length : Int) then ((if 0 ≤ (r19.getD x21.toNat 0) then (if decide (bAnd .i64 (bShr .i64 x20 (r19.getD x21.toNat 0)) 1 = 0) then (if 0 ≤ (r19.getD x21.toNat 0) then (impl_longest_behind k (⟨p0, p1⟩ : Lon) x22 (bOr .i64 x20 (bShl .i64 1 (r19.getD x21.toNat 0))) (r19.getD x21.toNat 0)).bind fun r29 => some (decide (r29.1 = w64 (x14 - 1)), r29.2) else none) else some (false, x22)) else none) : Option (Bool × List (MK × Int))).bind fun s30 => (if s30.1 then (if 0 ≤ (r19.getD x21.toNat 0) then (if x23.length + ([(r19.getD x21.toNat 0)]).length ≤ 1099511627776 then (some (bOr .i64 x20 (bShl .i64 1 (r19.getD x21.toNat 0)), s30.2, (x23 ++ ([(r19.getD x21.toNat 0)])))).bind fun rr => some (.inr rr) else none) else none) else some (.inl s30.2)) else none) : Option (Sum (List (MK × Int)) (Int × List (MK × Int) × List Int))).bind fun os34 => (match os34 with | .inl s34 => impl_Colouring_path_l2 k p0 p1 x14 r19 k2 x20 (w64 (x21 + 1)) s34 x23 | .inr rr => some rr) else some (x20, x22, x23))
def impl_Colouring_path_l1 (k : Nat) (p0 : Col) (p1 : Int) : Nat → Int → Int → (List (MK × Int)) → (List Int) → Option (List Int)
 | 0, _, _, _, _ => none
 | k1 + 1, x13, x14, x15, x16 => (if decide (0 < x14) then ((if 0 ≤ w64 ((x16.length : Int) - 1) ∧ w64 ((x16.length : Int) - 1) < (x16.length : Int) then (impl_Colouring_neighbours k p0 (x16.getD (w64 ((x16.length : Int) - 1)).toNat 0) p1).bind fun r19 => impl_Colouring_path_l2 k p0 p1 x14 r19 k x13 0 x15 x16 else none) : Option (Int × List (MK × Int) × List Int)).bind fun s35 => impl_Colouring_path_l1 k p0 p1 k1 s35.1 (w64 (x14 - 1)) s35.2.1 s35.2.2 else some x16)
def impl_Colouring_path (k : Nat) (p0 : Col) (p1 : Int) : Option (List Int) :=
 (impl_Colouring_path_l0 k p0 p1 k 0 (-1) 0 ([] : List (MK × Int)) : Option (Int × Int × List (MK × Int))).bind fun s11 => (if 0 ≤ s11.1 then (impl_Colouring_path_l1 k p0 p1 k (bShl .i64 1 s11.1) s11.2.1 s11.2.2 ([s11.1]) : Option (List Int)).bind fun s36 => some s36 else none)
set_option maxRecDepth 100000 in
theorem impl_Colouring_path_ac (k : Nat) (p0 : Col) (p1 : Int) (r : List Int) (h : impl_Colouring_path k p0 p1 = some r) : AC Try.prog 49 [.d (.pv (colD p0) 0), iV p1] [] (fun res H' => res = [.vec 0 0] ∧ H' = [.vec 0 (intsD r)]) := by
 refine AC_of_body true Try.func49 rfl Try.ntmps49 (rvs := [.tmp 4]) rfl rfl (fun G hG => ?_)
 have hm : G.H.length = 0 := by rw [hG]; rfl
 have hz : zeroG G.H = true := by rw [hG]; rfl
 unfold impl_Colouring_path at h
 refine kR ?_
 refine kN 1 rfl ?_
 refine kR ?_
 refine kM 2 rfl ?_
 refine AOps_makeMap 17 _ rfl rfl rfl rfl 111 2 (fun m1 hm1 => ?_)
 refine AOps_q 18 _ rfl rfl rfl (QOp_build _ _ [_, _, _] [0, 1, 2] [.pv (colD p0) 0, iD p1, .s m1] _ [.s (.pointer none), iD 0, .s (.map none)] (lonD (⟨p0, p1⟩ : Lon) m1) [(0, 1), (1, 1), (2, 1)] rfl rfl Try.underlying100 (zero_of Try.typeInfo100 rfl) (fun w => by simp [Try.sizeOf96, Try.sizeOf2, Try.sizeOf98]) rfl (by rfl) (lonZ_fill (⟨p0, p1⟩ : Lon) m1) (allc (ok1 rfl) (allc (ok1 rfl) (allc (ok1 hm1) (fun _ h => nomatch h))))) ?_
 refine AOps_boxI 19 _ _ (.agg (lonD (⟨p0, p1⟩ : Lon) m1)) (lonD (⟨p0, p1⟩ : Lon) m1) rfl (lonD_one _ _ hm1) rfl rfl rfl rfl rfl ?_
 refine kN 1 rfl ?_
 refine kR ?_
 refine kN 2 rfl ?_
 refine kB (fun s11 => [(0, .d (.pv (colD p0) 0)), (1, iV p1), (5, .d (.pv (lonD (⟨p0, p1⟩ : Lon) m1) 0)), (6, iV s11.1), (7, iV s11.2.1)]) (fun s11 => [.mp m1 (mapI Try.prog 111 2 s11.2.2)]) h (fun s11 h => ?_) (fun s11 h => ?_)
 ·refine kR ?_
  refine kM 1 rfl ?_
  refine AOps_q 21 _ rfl rfl rfl (QOp_nilCheck_pv _ _ _ rfl rfl) ?_
  refine AOps_q 22 _ rfl rfl rfl (QOp_fieldAddr_pv _ _ _ _ _ 0 _ _ rfl Try.underlying27 rfl _ Try.sizeOf2 rfl rfl) ?_
  refine AOps_q 23 _ rfl rfl rfl (QOp_load_pv _ _ _ _ _ rfl Try.isAgg2 rfl rfl) ?_
  refine kN 1 rfl ?_
  refine ACode_block ?_
  refine ACode_loopW (fun k0 E H => ∃ (x2 : Int) (x3 : Int) (x4 : Int) (x5 : List (MK × Int)), E = [(0, .d (.pv (colD p0) 0)), (1, iV p1), (5, .d (.pv (lonD (⟨p0, p1⟩ : Lon) m1) 0)), (6, iV x2), (7, iV x3), (23, iV p0.p), (24, iV x4)] ∧ H = [.mp m1 (mapI Try.prog 111 2 x5)] ∧ impl_Colouring_path_l0 k p0 p1 k0 x2 x3 x4 x5 = some s11) k _ _ (Weak_keep 0 hm [0, 1, 5, 6, 7, 23, 24] [0] _ _ rfl rfl rfl) ⟨_, _, _, _, rfl, rfl, h⟩ ?_
  clear h
  rintro k0 E H ⟨x2, x3, x4, x5, rfl, rfl, h⟩
  cases k0 with
  | zero => cases (show (none : Option (Int × Int × List (MK × Int))) = some _ from h)
  | succ k0 =>
   rw [impl_Colouring_path_l0] at h
   refine kR ?_
   refine AOps_q 25 _ rfl rfl rfl (QOp_lss _ _ _ _ _ _ _ rfl rfl rfl) ?_
   refine AOps_nil ?_
   refine ACode_seq ?_
   refine kI h rfl (fun h _ => ?_) (fun h _ => ?_)
   ·refine ACode_skip ?_
    refine kB (fun s10 => [(0, .d (.pv (colD p0) 0)), (1, iV p1), (5, .d (.pv (lonD (⟨p0, p1⟩ : Lon) m1) 0)), (6, iV s10.1), (7, iV s10.2.1), (23, iV p0.p), (24, iV x4)]) (fun s10 => [.mp m1 (mapI Try.prog 111 2 s10.2.2)]) h (fun s10 h => ?_) (fun s10 h => ?_)
    ·refine ACode_block ?_
     refine kR ?_
     refine kN 2 rfl ?_
     refine kR ?_
     refine kM 2 rfl ?_
     obtain ⟨hc7, h⟩ := guardO h
     refine AOps_q 29 _ rfl rfl rfl (QOp_shl _ _ _ _ _ _ _ _ hc7 rfl rfl rfl) ?_
     refine kM 1 rfl ?_
     obtain ⟨r8, hr8, h⟩ := bindO h
     refine kC [0] 31 (iV r8.1) [.mp m1 (mapI Try.prog 111 2 r8.2)] rfl Try.call86 rfl rfl (impl_longest_behind_ac k (⟨p0, p1⟩ : Lon) x5 (bShl .i64 1 x4) x4 _ hr8) rfl ?_
     refine kN 1 rfl ?_
     refine kR ?_
     refine kM 2 rfl ?_
     refine AOps_q 34 _ rfl rfl rfl (QOp_gtr _ _ _ _ _ _ _ rfl rfl rfl) ?_
     refine AOps_nil ?_
     refine kI h rfl (fun h _ => ?_) (fun h _ => ?_)
     ·refine (ACode_region ?_)
      refine kN 4 rfl ?_
      cases h
      exact Weak_keep 0 hm [0, 1, 5, 6, 7, 23, 24] [0] _ _ rfl rfl rfl
     refine ACode_skip ?_
     cases h
     exact Weak_keep 0 hm [0, 1, 5, 6, 7, 23, 24] [0] _ _ rfl rfl rfl
    refine (ACode_region ?_)
    refine AOps_q 37 _ rfl rfl rfl (QOp_add _ _ _ _ _ _ _ rfl rfl rfl) ?_
    refine kN 1 rfl ?_
    exact ⟨k0, _, _, Nat.lt_succ_self _, Weak_keep 0 hm [0, 1, 5, 6, 7, 23, 24] [0] _ _ rfl rfl rfl, _, _, _, _, rfl, rfl, h⟩
   refine ACode_exit ?_
   cases h
   exact Weak_keep 0 hm [0, 1, 5, 6, 7] [0] _ _ rfl rfl rfl
 refine ACode_seq (ACode_anyU mixed ?_)
 refine AU_u 0 38 _ rfl (by kernel_rfl) rfl rfl rfl (UOp_move _ _ rfl rfl) ?_
 refine AU_u 2 40 _ rfl (by kernel_rfl) rfl rfl rfl (UOp_move _ _ rfl rfl) ?_
 obtain ⟨hc12, h⟩ := guardO h
 refine AU_u 3 41 _ rfl (by kernel_rfl) rfl rfl rfl (UOp_shl _ _ _ _ _ _ _ _ hc12 rfl rfl rfl) ?_
 refine AU_all [1] (by kernel_rfl) rfl (allc ?_ (fun _ h => nomatch h))
 refine US_of 1 rfl rfl ?_
 refine AOps_buildSlice 39 _ _ _ [_] (intsD ([s11.1])) _ rfl rfl rfl rfl rfl (by decide) Try.underlying34 Try.sizeOf2 (zero_of Try.typeInfo2 rfl) rfl rfl (intsD_one _) ?_
 refine AOps_nil ?_
 refine AU_u 4 10 _ rfl (by kernel_rfl) rfl rfl rfl (UOp_assign _ _ rfl rfl) ?_
 refine AU_u 5 11 _ rfl (by kernel_rfl) rfl rfl rfl (UOp_assign _ _ rfl rfl) ?_
 refine AU_done (by kernel_rfl) ?_
 refine kB (fun s36 => [(10, .vec 0 0)]) (fun s36 => [.vec 0 (intsD s36)]) h (fun s36 h => ?_) (fun s36 h => ?_)
 ·refine kR ?_
  refine kN 2 rfl ?_
  refine ACode_block ?_
  refine ACode_loopW (fun k1 E H => ∃ (x13 : Int) (x14 : Int) (x15 : List (MK × Int)) (x16 : List Int), E = [(0, .d (.pv (colD p0) 0)), (1, iV p1), (5, .d (.pv (lonD (⟨p0, p1⟩ : Lon) m1) 0)), (10, .vec 1 0), (11, iV x13), (12, iV x14)] ∧ H = [.mp m1 (mapI Try.prog 111 2 x15), .vec 0 (intsD x16)] ∧ impl_Colouring_path_l1 k p0 p1 k1 x13 x14 x15 x16 = some s36) k _ _ (Weak_keep 0 hm [0, 1, 5, 10, 11, 12] [0, 1] _ _ rfl rfl rfl) ⟨_, _, _, _, rfl, rfl, h⟩ ?_
  clear h
  rintro k1 E H ⟨x13, x14, x15, x16, rfl, rfl, h⟩
  cases k1 with
  | zero => cases (show (none : Option (List Int)) = some _ from h)
  | succ k1 =>
   rw [impl_Colouring_path_l1] at h
   refine ACode_seq ?_
   refine kR ?_
   refine kM 1 rfl ?_
   refine AOps_q 44 _ rfl rfl rfl (QOp_gtr _ _ _ _ _ _ _ rfl rfl rfl) ?_
   refine AOps_nil ?_
   refine kI h rfl (fun h _ => ?_) (fun h _ => ?_)
   ·refine ACode_skip ?_
    refine kB (fun s35 => [(0, .d (.pv (colD p0) 0)), (1, iV p1), (5, .d (.pv (lonD (⟨p0, p1⟩ : Lon) m1) 0)), (10, .vec 1 0), (11, iV s35.1), (12, iV x14)]) (fun s35 => [.mp m1 (mapI Try.prog 111 2 s35.2.1), .vec 0 (intsD s35.2.2)]) h (fun s35 h => ?_) (fun s35 h => ?_)
    ·refine ACode_block ?_
     refine kR ?_
     refine kM 3 rfl ?_
     refine AOps_q 50 _ rfl rfl rfl (QOp_len_vec _ _ _ _ _ _ _ _ (intsD_length _) rfl rfl rfl rfl Try.underlying34 rfl rfl) ?_
     refine AOps_q 51 _ rfl rfl rfl (QOp_sub _ _ _ _ _ _ _ rfl rfl rfl) ?_
     obtain ⟨hc18, h⟩ := guardO h
     refine AOps_q 52 _ rfl rfl rfl (QOp_indexAddr_vec _ _ _ _ _ _ _ _ _ rfl Try.underlying34 Try.sizeOf2 hc18.1 (by rw [intsD_length]; exact hc18.2) rfl rfl rfl) ?_
     refine AOps_q 53 _ rfl rfl rfl (QOp_load_eptr _ _ _ _ _ _ _ rfl Try.isAgg2 rfl rfl (intsD_get _ _ 0 (by omega))) ?_
     refine kM 1 rfl ?_
     obtain ⟨r19, hr19, h⟩ := bindO h
     refine kC [] 55 (.vec 2 0) [.mp m1 (mapI Try.prog 111 2 x15), .vec 0 (intsD x16), .vec 0 (intsD r19)] rfl Try.call76 rfl rfl (impl_Colouring_neighbours_ac k p0 (x16.getD (w64 ((x16.length : Int) - 1)).toNat 0) p1 _ hr19) rfl ?_
     refine AOps_q 56 _ rfl rfl rfl (QOp_len_vec _ _ _ _ _ _ _ _ (intsD_length _) rfl rfl rfl rfl Try.underlying34 rfl rfl) ?_
     refine kN 1 rfl ?_
     refine ACode_block ?_
     refine ACode_loopW (fun k2 E H => ∃ (x20 : Int) (x21 : Int) (x22 : List (MK × Int)) (x23 : List Int), E = [(0, .d (.pv (colD p0) 0)), (1, iV p1), (5, .d (.pv (lonD (⟨p0, p1⟩ : Lon) m1) 0)), (10, .vec 1 0), (11, iV x20), (12, iV x14), (55, .vec 2 0), (56, iV (r19.length : Int)), (57, iV x21)] ∧ H = [.mp m1 (mapI Try.prog 111 2 x22), .vec 0 (intsD x23), .vec 0 (intsD r19)] ∧ impl_Colouring_path_l2 k p0 p1 x14 r19 k2 x20 x21 x22 x23 = some s35) k _ _ (Weak_keep 0 hm [0, 1, 5, 10, 11, 12, 55, 56, 57] [0, 1, 2] _ _ rfl rfl rfl) ⟨_, _, _, _, rfl, rfl, h⟩ ?_
     clear h
     rintro k2 E H ⟨x20, x21, x22, x23, rfl, rfl, h⟩
     cases k2 with
     | zero => cases (show (none : Option (Int × List (MK × Int) × List Int)) = some _ from h)
     | succ k2 =>
      rw [impl_Colouring_path_l2] at h
      refine kR ?_
      refine AOps_q 58 _ rfl rfl rfl (QOp_lss _ _ _ _ _ _ _ rfl rfl rfl) ?_
      refine AOps_nil ?_
      refine ACode_seq ?_
      refine kI h rfl (fun h _ => ?_) (fun h _ => ?_)
      ·refine ACode_skip ?_
       refine kO (fun s34 => [(0, .d (.pv (colD p0) 0)), (1, iV p1), (5, .d (.pv (lonD (⟨p0, p1⟩ : Lon) m1) 0)), (10, .vec 1 0), (11, iV x20), (12, iV x14), (55, .vec 2 0), (56, iV (r19.length : Int)), (57, iV x21)]) (fun s34 => [.mp m1 (mapI Try.prog 111 2 s34), .vec 0 (intsD x23), .vec 0 (intsD r19)]) h (fun os34 h hks34 => ?_) (fun s34 h => ?_)
       ·refine ACode_block ?_
        refine kR ?_
        obtain ⟨hc25, h⟩ := guardO h
        refine AOps_q 59 _ rfl rfl rfl (QOp_indexAddr_vec _ _ _ _ _ _ _ _ _ rfl Try.underlying34 Try.sizeOf2 hc25.1 (by rw [intsD_length]; exact hc25.2) rfl rfl rfl) ?_
        refine AOps_q 60 _ rfl rfl rfl (QOp_load_eptr _ _ _ _ _ _ _ rfl Try.isAgg2 rfl rfl (intsD_get _ _ 0 (by omega))) ?_
        refine kN 1 rfl ?_
        refine kB (fun s30 => [(0, .d (.pv (colD p0) 0)), (1, iV p1), (5, .d (.pv (lonD (⟨p0, p1⟩ : Lon) m1) 0)), (10, .vec 1 0), (11, iV x20), (12, iV x14), (14, iV (r19.getD x21.toNat 0)), (55, .vec 2 0), (56, iV (r19.length : Int)), (57, iV x21), (77, bV s30.1)]) (fun s30 => [.mp m1 (mapI Try.prog 111 2 s30.2), .vec 0 (intsD x23), .vec 0 (intsD r19)]) h (fun s30 h => ?_) (fun s30 h => ?_)
        ·refine (ACode_region ?_)
         refine kM 2 rfl ?_
         obtain ⟨hc26, h⟩ := guardO h
         refine AOps_q 63 _ rfl rfl rfl (QOp_shr _ _ _ _ _ _ _ _ hc26 rfl rfl rfl) ?_
         refine AOps_q 64 _ rfl rfl rfl (QOp_and _ _ _ _ _ _ _ rfl rfl rfl) ?_
         refine AOps_q 65 _ rfl rfl rfl (QOp_eql _ _ _ _ _ _ _ rfl rfl rfl) ?_
         refine kM 1 rfl ?_
         refine AOps_case 66 _ rfl (fun hb27 => ?_) (fun hb27 => ?_)
         ·have h := iteT hb27 h
          refine kM 3 rfl ?_
          obtain ⟨hc28, h⟩ := guardO h
          refine AOps_q 70 _ rfl rfl rfl (QOp_shl _ _ _ _ _ _ _ _ hc28 rfl rfl rfl) ?_
          refine AOps_q 71 _ rfl rfl rfl (QOp_or _ _ _ _ _ _ _ rfl rfl rfl) ?_
          refine kM 1 rfl ?_
          obtain ⟨r29, hr29, h⟩ := bindO h
          refine kC [0] 73 (iV r29.1) [.mp m1 (mapI Try.prog 111 2 r29.2), .vec 0 (intsD x23), .vec 0 (intsD r19)] rfl Try.call86 rfl rfl (impl_longest_behind_ac k (⟨p0, p1⟩ : Lon) x22 (bOr .i64 x20 (bShl .i64 1 (r19.getD x21.toNat 0))) (r19.getD x21.toNat 0) _ hr29) rfl ?_
          refine kM 1 rfl ?_
          refine AOps_q 75 _ rfl rfl rfl (QOp_sub _ _ _ _ _ _ _ rfl rfl rfl) ?_
          refine AOps_q 76 _ rfl rfl rfl (QOp_eql _ _ _ _ _ _ _ rfl rfl rfl) ?_
          refine kN 1 rfl ?_
          cases h
          exact Weak_keep 0 hm [0, 1, 5, 10, 11, 12, 14, 55, 56, 57, 77] [0, 1, 2] _ _ rfl rfl rfl
         have h := iteF hb27 h
         refine AOps_skip 67 rfl rfl rfl ?_
         refine AOps_skip 68 rfl rfl rfl ?_
         refine AOps_skip 69 rfl rfl rfl ?_
         refine AOps_skip 70 rfl rfl rfl ?_
         refine AOps_skip 71 rfl rfl rfl ?_
         refine AOps_skip 72 rfl rfl rfl ?_
         refine AOps_skip 73 rfl rfl rfl ?_
         refine AOps_skip 74 rfl rfl rfl ?_
         refine AOps_skip 75 rfl rfl rfl ?_
         refine AOps_skip 76 rfl rfl rfl ?_
         refine kN 1 rfl ?_
         cases h
         exact Weak_keep 0 hm [0, 1, 5, 10, 11, 12, 14, 55, 56, 57, 77] [0, 1, 2] _ _ rfl rfl rfl
        refine kI h rfl (fun h _ => ?_) (fun h _ => ?_)
        ·refine ACode_seq (ACode_anyU mixed ?_)
         refine AU_u 0 78 _ rfl (by kernel_rfl) rfl rfl rfl (UOp_move _ _ rfl rfl) ?_
         refine AU_u 1 79 _ rfl (by kernel_rfl) rfl rfl rfl (UOp_move _ _ rfl rfl) ?_
         refine AU_u 4 82 _ rfl (by kernel_rfl) rfl rfl rfl (UOp_move _ _ rfl rfl) ?_
         refine AU_u 5 83 _ rfl (by kernel_rfl) rfl rfl rfl (UOp_move _ _ rfl rfl) ?_
         obtain ⟨hc32, h⟩ := guardO h
         refine AU_u 6 84 _ rfl (by kernel_rfl) rfl rfl rfl (UOp_shl _ _ _ _ _ _ _ _ hc32 rfl rfl rfl) ?_
         refine AU_u 7 85 _ rfl (by kernel_rfl) rfl rfl rfl (UOp_or _ _ _ _ _ _ _ rfl rfl rfl) ?_
         refine AU_all [2] (by kernel_rfl) rfl (allc ?_ (fun _ h => nomatch h))
         refine US_of 2 rfl rfl ?_
         refine AOps_buildSlice 80 _ _ _ [_] (intsD ([(r19.getD x21.toNat 0)])) _ rfl rfl rfl rfl rfl (by decide) Try.underlying34 Try.sizeOf2 (zero_of Try.typeInfo2 rfl) rfl rfl (intsD_one _) ?_
         refine AOps_nil ?_
         refine AU_all [3] (by kernel_rfl) rfl (allc ?_ (fun _ h => nomatch h))
         refine US_of 3 rfl rfl ?_
         obtain ⟨hc33, h⟩ := guardO h
         refine AOps_append 81 _ _ _ _ _ _ _ _ _ _ _ _ rfl rfl rfl rfl rfl rfl rfl Try.underlying34 Try.type2 rfl rfl rfl (by decide) rfl rfl rfl rfl (intsD_one _) (by rw [intsD_length, intsD_length]; exact hc33) ?_
         rw [intsD_app]
         refine AOps_nil ?_
         refine AU_u 8 10 _ rfl (by kernel_rfl) rfl rfl rfl (UOp_assign _ _ rfl rfl) ?_
         refine AU_u 9 11 _ rfl (by kernel_rfl) rfl rfl rfl (UOp_assign _ _ rfl rfl) ?_
         refine AU_done (by kernel_rfl) ?_
         refine ACode_exit ?_
         obtain ⟨rr, hz37, h2⟩ := bindO h
         obtain rfl := Option.some.inj h2
         obtain rfl := Option.some.inj (show some rr = some _ from hks34)
         have h := hz37
         cases h
         exact Weak_trans (Weak_keep 0 hm [0, 1, 5, 10, 11, 12] [0, 1] _ _ rfl rfl rfl) (Weak_reset 0 hm hz [0, 1, 5, 10, 11, 12] _ _ rfl rfl)
        refine ACode_skip ?_
        cases h
        exact ⟨_, rfl, Weak_keep 0 hm [0, 1, 5, 10, 11, 12, 55, 56, 57] [0, 1, 2] _ _ rfl rfl rfl⟩
       refine (ACode_region ?_)
       refine AOps_q 86 _ rfl rfl rfl (QOp_add _ _ _ _ _ _ _ rfl rfl rfl) ?_
       refine kN 1 rfl ?_
       exact ⟨k2, _, _, Nat.lt_succ_self _, Weak_keep 0 hm [0, 1, 5, 10, 11, 12, 55, 56, 57] [0, 1, 2] _ _ rfl rfl rfl, _, _, _, _, rfl, rfl, h⟩
      refine ACode_exit ?_
      cases h
      exact Weak_keep 0 hm [0, 1, 5, 10, 11, 12] [0, 1] _ _ rfl rfl rfl
    refine (ACode_region ?_)
    refine kM 1 rfl ?_
    refine AOps_q 46 _ rfl rfl rfl (QOp_sub _ _ _ _ _ _ _ rfl rfl rfl) ?_
    refine kN 1 rfl ?_
    exact ⟨k1, _, _, Nat.lt_succ_self _, Weak_keep 0 hm [0, 1, 5, 10, 11, 12] [0, 1] _ _ rfl rfl rfl, _, _, _, _, rfl, rfl, h⟩
   refine ACode_exit ?_
   cases h
   exact Weak_keep 0 hm [10] [1] _ _ rfl rfl rfl
 refine kR ?_
 refine kN 2 rfl ?_
 refine ACode_ret ?_
 cases h
 exact ⟨_, _, Weak_reset 0 hm hz [4] _ _ rfl rfl, _, _, [0], _, (.cons (ResV_tmp _ _ rfl) .nil), rfl, rfl, rfl, rfl, rfl⟩

-- loop.example/g01362/impl.LongestPath
def impl_LongestPath (k : Nat) (p0 : Col) (p1 : Int) : Option (Option (List Int) × Int) :=
 (impl_Colouring_patternCode k p0 p1 true).bind fun r1 => (if !decide (r1 = 0) then some (none, r1) else (impl_Colouring_path k p0 p1).bind fun r3 => some (some r3, 0))
set_option maxRecDepth 100000 in
theorem impl_LongestPath_ac (k : Nat) (p0 : Col) (p1 : Int) (r : Option (List Int) × Int) (h : impl_LongestPath k p0 p1 = some r) : AC Try.prog 11 [.d (.agg (colD p0)), iV p1] [] (fun res H' => res = [ownA 0 (r.1.map intsD), iV r.2] ∧ H' = [] ++ ownH (r.1.map intsD)) := by
 refine AC_of_body false Try.func11 rfl Try.ntmps11 (rvs := [.tmp 4, .tmp 5]) rfl rfl (fun G hG => ?_)
 have hm : G.H.length = 0 := by rw [hG]; rfl
 have hz : zeroG G.H = true := by rw [hG]; rfl
 unfold impl_LongestPath at h
 refine kR ?_
 refine AOps_boxI 2 _ _ (.agg (colD p0)) (colD p0) rfl (colD_one _) rfl rfl rfl rfl rfl ?_
 refine kN 2 rfl ?_
 refine ACode_seq ?_
 refine kR ?_
 refine kM 1 rfl ?_
 obtain ⟨r1, hr1, h⟩ := bindO h
 refine kC [] 8 (iV r1) [] rfl Try.call56 rfl rfl (impl_Colouring_patternCode_ac k p0 p1 true _ hr1) rfl ?_
 refine kN 1 rfl ?_
 refine kR ?_
 refine kM 1 rfl ?_
 refine AOps_q 10 _ rfl rfl rfl (QOp_neq _ _ _ _ _ _ _ rfl rfl rfl) ?_
 refine AOps_nil ?_
 refine kI h rfl (fun h _ => ?_) (fun h _ => ?_)
 ·refine kR ?_
  refine kN 3 rfl ?_
  refine ACode_ret ?_
  cases h
  exact ⟨_, _, fun r a w h => ⟨r, h⟩, _, _, [], _, (.cons (ResV_tmp _ _ rfl) (.cons (ResV_tmp _ _ rfl) .nil)), rfl, rfl, rfl, rfl, rfl⟩
 refine ACode_skip ?_
 refine kR ?_
 refine kM 1 rfl ?_
 obtain ⟨r3, hr3, h⟩ := bindO h
 refine kC [] 13 (.vec 0 0) [.vec 0 (intsD r3)] rfl Try.call49 rfl rfl (impl_Colouring_path_ac k p0 p1 _ hr3) rfl ?_
 refine kN 2 rfl ?_
 refine ACode_ret ?_
 cases h
 exact ⟨_, _, Weak_reset 0 hm hz [4, 5] _ _ rfl rfl, _, _, [0], _, (.cons (ResV_tmp _ _ rfl) (.cons (ResV_tmp _ _ rfl) .nil)), rfl, rfl, rfl, rfl, rfl⟩

-- loop.example/g01362/spec.l01In
def spec_l01In (p0 : Int) (p1 : Int) (p2 : Int) : Bool :=
 letO (if decide (p1 ≤ p0) then decide (p0 ≤ p2) else false) fun (s2 : Bool) => s2
set_option maxRecDepth 100000 in
theorem spec_l01In_ac (p0 : Int) (p1 : Int) (p2 : Int) : AC Try.prog 38 [iV p0, iV p1, iV p2] [] (fun res H' => res = [bV (spec_l01In p0 p1 p2)] ∧ H' = []) := by
 refine AC_of_body true Try.func38 rfl Try.ntmps38 (rvs := [.tmp 6]) rfl rfl (fun G hG => ?_)
 have hm : G.H.length = 0 := by rw [hG]; rfl
 have hz : zeroG G.H = true := by rw [hG]; rfl
 obtain ⟨r, h⟩ : ∃ r, spec_l01In p0 p1 p2 = r := ⟨_, rfl⟩
 rw [h]
 unfold spec_l01In at h
 refine kR ?_
 refine kN 1 rfl ?_
 refine kL (fun s2 => [(6, bV s2)]) (fun s2 => []) h (fun s2 h => ?_) (fun s2 h => ?_)
 ·refine (ACode_region ?_)
  refine kM 2 rfl ?_
  refine AOps_q 9 _ rfl rfl rfl (QOp_geq _ _ _ _ _ _ _ rfl rfl rfl) ?_
  refine kM 1 rfl ?_
  refine AOps_case 10 _ rfl (fun hb1 => ?_) (fun hb1 => ?_)
  ·have h := iteT hb1 h
   refine kM 2 rfl ?_
   refine AOps_q 13 _ rfl rfl rfl (QOp_leq _ _ _ _ _ _ _ rfl rfl rfl) ?_
   refine kN 2 rfl ?_
   cases h
   exact Weak_keep 0 hm [6] [] _ _ rfl rfl rfl
  have h := iteF hb1 h
  refine AOps_skip 11 rfl rfl rfl ?_
  refine AOps_skip 12 rfl rfl rfl ?_
  refine AOps_skip 13 rfl rfl rfl ?_
  refine kN 2 rfl ?_
  cases h
  exact Weak_keep 0 hm [6] [] _ _ rfl rfl rfl
 refine ACode_ret ?_
 cases h
 exact ⟨_, _, fun r a w h => ⟨r, h⟩, _, _, [], _, (.cons (ResV_tmp _ _ rfl) .nil), rfl, rfl, rfl, rfl, rfl⟩

-- loop.example/g01362/spec.l01Is
def spec_l01Is_l0 (k : Nat) (p0 : Col) : Nat → Int → Option (Sum (Unit) (Bool))
 | 0, _ => none
 | k0 + 1, x7 => (if decide (x7 < 136) then (((if decide (x7 < w64 ((w64 (p0.p * (w64 (p0.p - 1)))).tdiv 2)) then (if 0 ≤ x7 ∧ x7 < 136 then (if decide (p0.k ≤ ((p0.get x7.toNat).toNat : Int)) then some true else (if decide (w64 ((w64 (p0.p * (w64 (p0.p - 1)))).tdiv 2) ≤ x7) then (if 0 ≤ x7 ∧ x7 < 136 then some (!decide (((p0.get x7.toNat).toNat : Int) = 0)) else none) else some false)) else none) else (if decide (w64 ((w64 (p0.p * (w64 (p0.p - 1)))).tdiv 2) ≤ x7) then (if 0 ≤ x7 ∧ x7 < 136 then some (!decide (((p0.get x7.toNat).toNat : Int) = 0)) else none) else some false)) : Option (Bool)).bind fun s16 => (if s16 then (some (.inr false)).bind fun rr => some (.inr rr) else some (.inl ())) : Option (Sum (Unit) (Sum (Unit) (Bool)))).bind fun os18 => (match os18 with | .inl s18 => spec_l01Is_l0 k p0 k0 (w64 (x7 + 1)) | .inr rr => some rr) else some (.inl ()))
def spec_l01Is (k : Nat) (p0 : Col) : Option (Bool) :=
 (letO (if !(spec_l01In p0.p 1 17) then true else !(spec_l01In p0.k 1 4)) fun (s4 : Bool) => (if s4 then some (.inr false) else some (.inl ())) : Option (Sum (Unit) (Bool))).bind fun os6 => (match os6 with | .inl s6 => (spec_l01Is_l0 k p0 k 0 : Option (Sum (Unit) (Bool))).bind fun os19 => (match os19 with | .inl s19 => some true | .inr rr => some rr) | .inr rr => some rr)
set_option maxRecDepth 100000 in
theorem spec_l01Is_ac (k : Nat) (p0 : Col) (r : Bool) (h : spec_l01Is k p0 = some r) : AC Try.prog 78 [.d (.agg (colD p0))] [] (fun res H' => res = [bV r] ∧ H' = []) := by
 refine AC_of_body true Try.func78 rfl Try.ntmps78 (rvs := [.tmp 2]) rfl rfl (fun G hG => ?_)
 have hm : G.H.length = 0 := by rw [hG]; rfl
 have hz : zeroG G.H = true := by rw [hG]; rfl
 unfold spec_l01Is at h
 refine kR ?_
 refine AOps_boxI 1 _ _ (.agg (colD p0)) (colD p0) rfl (colD_one _) rfl rfl rfl rfl rfl ?_
 refine kN 1 rfl ?_
 refine kO (fun s6 => [(1, .d (.pv (colD p0) 0))]) (fun s6 => []) h (fun os6 h hks6 => ?_) (fun s6 h => ?_)
 ·refine kL (fun s4 => [(1, .d (.pv (colD p0) 0)), (14, bV s4)]) (fun s4 => []) h (fun s4 h => ?_) (fun s4 h => ?_)
  ·refine (ACode_region ?_)
   refine AOps_q 5 _ rfl rfl rfl (QOp_fieldAddr_pv _ _ _ _ _ 0 _ _ rfl Try.underlying27 rfl _ Try.sizeOf2 rfl rfl) ?_
   refine AOps_q 6 _ rfl rfl rfl (QOp_load_pv _ _ _ _ _ rfl Try.isAgg2 rfl rfl) ?_
   refine kC [] 7 (bV (spec_l01In p0.p 1 17)) [] rfl Try.call38 rfl rfl (spec_l01In_ac p0.p 1 17) rfl ?_
   refine AOps_q 8 _ rfl rfl rfl (QOp_not _ _ _ rfl rfl) ?_
   refine kM 1 rfl ?_
   refine AOps_case 9 _ rfl (fun hb2 => ?_) (fun hb2 => ?_)
   ·have h := iteT hb2 h
    refine AOps_skip 10 rfl rfl rfl ?_
    refine AOps_skip 11 rfl rfl rfl ?_
    refine AOps_skip 12 rfl rfl rfl ?_
    refine AOps_skip 13 rfl rfl rfl ?_
    refine kN 1 rfl ?_
    cases h
    exact Weak_keep 0 hm [1, 14] [] _ _ rfl rfl rfl
   have h := iteF hb2 h
   refine AOps_q 10 _ rfl rfl rfl (QOp_fieldAddr_pv _ _ _ _ _ 1 _ _ rfl Try.underlying27 rfl _ Try.sizeOf2 rfl rfl) ?_
   refine AOps_q 11 _ rfl rfl rfl (QOp_load_pv _ _ _ _ _ rfl Try.isAgg2 rfl rfl) ?_
   refine kC [] 12 (bV (spec_l01In p0.k 1 4)) [] rfl Try.call38 rfl rfl (spec_l01In_ac p0.k 1 4) rfl ?_
   refine AOps_q 13 _ rfl rfl rfl (QOp_not _ _ _ rfl rfl) ?_
   refine kN 1 rfl ?_
   cases h
   exact Weak_keep 0 hm [1, 14] [] _ _ rfl rfl rfl
  refine kI h rfl (fun h _ => ?_) (fun h _ => ?_)
  ·refine kR ?_
   refine kN 1 rfl ?_
   refine ACode_ret ?_
   cases h
   have h := hks6
   cases h
   exact ⟨_, _, fun r a w h => ⟨r, h⟩, _, _, [], _, (.cons (ResV_tmp _ _ rfl) .nil), rfl, rfl, rfl, rfl, rfl⟩
  refine ACode_skip ?_
  cases h
  exact ⟨_, rfl, Weak_keep 0 hm [1] [] _ _ rfl rfl rfl⟩
 refine kR ?_
 refine AOps_q 15 _ rfl rfl rfl (QOp_fieldAddr_pv _ _ _ _ _ 0 _ _ rfl Try.underlying27 rfl _ Try.sizeOf2 rfl rfl) ?_
 refine AOps_q 16 _ rfl rfl rfl (QOp_load_pv _ _ _ _ _ rfl Try.isAgg2 rfl rfl) ?_
 refine AOps_q 17 _ rfl rfl rfl (QOp_fieldAddr_pv _ _ _ _ _ 0 _ _ rfl Try.underlying27 rfl _ Try.sizeOf2 rfl rfl) ?_
 refine AOps_q 18 _ rfl rfl rfl (QOp_load_pv _ _ _ _ _ rfl Try.isAgg2 rfl rfl) ?_
 refine AOps_q 19 _ rfl rfl rfl (QOp_sub _ _ _ _ _ _ _ rfl rfl rfl) ?_
 refine AOps_q 20 _ rfl rfl rfl (QOp_mul _ _ _ _ _ _ _ rfl rfl rfl) ?_
 refine AOps_q 21 _ rfl rfl rfl (QOp_quo _ _ _ _ _ _ _ (by decide) rfl rfl rfl) ?_
 refine kN 1 rfl ?_
 refine kO (fun s19 => []) (fun s19 => []) h (fun os19 h hks19 => ?_) (fun s19 h => ?_)
 ·refine kR ?_
  refine kN 1 rfl ?_
  refine ACode_block ?_
  refine ACode_loopW (fun k0 E H => ∃ (x7 : Int), E = [(1, .d (.pv (colD p0) 0)), (3, iV (w64 ((w64 (p0.p * (w64 (p0.p - 1)))).tdiv 2))), (4, iV x7)] ∧ H = [] ∧ spec_l01Is_l0 k p0 k0 x7 = some os19) k _ _ (Weak_keep 0 hm [1, 3, 4] [] _ _ rfl rfl rfl) ⟨_, rfl, rfl, h⟩ ?_
  clear h
  rintro k0 E H ⟨x7, rfl, rfl, h⟩
  cases k0 with
  | zero => cases (show (none : Option (Sum (Unit) (Bool))) = some _ from h)
  | succ k0 =>
   rw [spec_l01Is_l0] at h
   refine ACode_seq ?_
   refine kR ?_
   refine kM 1 rfl ?_
   refine AOps_q 23 _ rfl rfl rfl (QOp_lss _ _ _ _ _ _ _ rfl rfl rfl) ?_
   refine AOps_nil ?_
   refine kI h rfl (fun h _ => ?_) (fun h _ => ?_)
   ·refine ACode_skip ?_
    refine kO (fun s18 => [(1, .d (.pv (colD p0) 0)), (3, iV (w64 ((w64 (p0.p * (w64 (p0.p - 1)))).tdiv 2))), (4, iV x7)]) (fun s18 => []) h (fun os18 h hks18 => ?_) (fun s18 h => ?_)
    ·refine ACode_block ?_
     refine kB (fun s16 => [(1, .d (.pv (colD p0) 0)), (3, iV (w64 ((w64 (p0.p * (w64 (p0.p - 1)))).tdiv 2))), (4, iV x7), (50, bV s16)]) (fun s16 => []) h (fun s16 h => ?_) (fun s16 h => ?_)
     ·refine (ACode_quiet mixed (by kernel_rfl) ?_)
      refine kQ 2 rfl ?_
      refine AQ_q 28 _ rfl rfl rfl (QOp_lss _ _ _ _ _ _ _ rfl rfl rfl) ?_
      refine kQ 1 rfl ?_
      refine AQ_case 29 _ rfl (fun hb9 => ?_) (fun hb9 => ?_)
      ·have h := iteT hb9 h
       refine kQ 1 rfl ?_
       refine AQ_q 31 _ rfl rfl rfl (QOp_fieldAddr_pv _ _ _ _ _ 2 _ _ rfl Try.underlying27 rfl _ Try.sizeOf22 rfl rfl) ?_
       obtain ⟨hc10, h⟩ := guardO h
       refine AQ_q 32 _ rfl rfl rfl (QOp_indexAddrA_pv _ _ _ _ _ _ _ _ _ rfl Try.underlying22 Try.sizeOf5 hc10.1 hc10.2 rfl rfl) ?_
       refine AQ_q 33 _ rfl rfl rfl (QOp_load_pv _ _ _ _ _ rfl Try.isAgg5 rfl (colD_get _ _ (by omega))) ?_
       refine AQ_q 34 _ rfl rfl rfl (QOp_fromByte _ _ _ _ _ rfl rfl Try.underlying2 wrap_i64_byte rfl) ?_
       refine AQ_q 35 _ rfl rfl rfl (QOp_fieldAddr_pv _ _ _ _ _ 1 _ _ rfl Try.underlying27 rfl _ Try.sizeOf2 rfl rfl) ?_
       refine AQ_q 36 _ rfl rfl rfl (QOp_load_pv _ _ _ _ _ rfl Try.isAgg2 rfl rfl) ?_
       refine AQ_q 37 _ rfl rfl rfl (QOp_geq _ _ _ _ _ _ _ rfl rfl rfl) ?_
       refine kQ 2 rfl ?_
       refine AQ_case 39 _ rfl (fun hb11 => ?_) (fun hb11 => ?_)
       ·have h := iteT hb11 h
        refine AQ_skip 40 rfl rfl rfl ?_
        refine AQ_skip 41 rfl rfl rfl ?_
        refine AQ_skip 42 rfl rfl rfl ?_
        refine AQ_skip 43 rfl rfl rfl ?_
        refine AQ_skip 44 rfl rfl rfl ?_
        refine AQ_skip 45 rfl rfl rfl ?_
        refine AQ_skip 46 rfl rfl rfl ?_
        refine AQ_skip 47 rfl rfl rfl ?_
        refine AQ_skip 48 rfl rfl rfl ?_
        refine AQ_skip 49 rfl rfl rfl ?_
        refine kQ 1 rfl ?_
        refine AQ_nil ?_
        cases h
        exact Weak_keep 0 hm [1, 3, 4, 50] [] _ _ rfl rfl rfl
       have h := iteF hb11 h
       refine kQ 2 rfl ?_
       refine AQ_q 42 _ rfl rfl rfl (QOp_geq _ _ _ _ _ _ _ rfl rfl rfl) ?_
       refine kQ 1 rfl ?_
       refine AQ_case 43 _ rfl (fun hb12 => ?_) (fun hb12 => ?_)
       ·have h := iteT hb12 h
        refine kQ 1 rfl ?_
        refine AQ_q 45 _ rfl rfl rfl (QOp_fieldAddr_pv _ _ _ _ _ 2 _ _ rfl Try.underlying27 rfl _ Try.sizeOf22 rfl rfl) ?_
        obtain ⟨hc13, h⟩ := guardO h
        refine AQ_q 46 _ rfl rfl rfl (QOp_indexAddrA_pv _ _ _ _ _ _ _ _ _ rfl Try.underlying22 Try.sizeOf5 hc13.1 hc13.2 rfl rfl) ?_
        refine AQ_q 47 _ rfl rfl rfl (QOp_load_pv _ _ _ _ _ rfl Try.isAgg5 rfl (colD_get _ _ (by omega))) ?_
        refine AQ_q 48 _ rfl rfl rfl (QOp_neq _ _ _ _ _ _ _ rfl rfl rfl) ?_
        refine kQ 2 rfl ?_
        refine AQ_nil ?_
        cases h
        exact Weak_keep 0 hm [1, 3, 4, 50] [] _ _ rfl rfl rfl
       have h := iteF hb12 h
       refine AQ_skip 44 rfl rfl rfl ?_
       refine AQ_skip 45 rfl rfl rfl ?_
       refine AQ_skip 46 rfl rfl rfl ?_
       refine AQ_skip 47 rfl rfl rfl ?_
       refine AQ_skip 48 rfl rfl rfl ?_
       refine kQ 2 rfl ?_
       refine AQ_nil ?_
       cases h
       exact Weak_keep 0 hm [1, 3, 4, 50] [] _ _ rfl rfl rfl
      have h := iteF hb9 h
      refine AQ_skip 30 rfl rfl rfl ?_
      refine AQ_skip 31 rfl rfl rfl ?_
      refine AQ_skip 32 rfl rfl rfl ?_
      refine AQ_skip 33 rfl rfl rfl ?_
      refine AQ_skip 34 rfl rfl rfl ?_
      refine AQ_skip 35 rfl rfl rfl ?_
      refine AQ_skip 36 rfl rfl rfl ?_
      refine AQ_skip 37 rfl rfl rfl ?_
      refine kQ 4 rfl ?_
      refine AQ_q 42 _ rfl rfl rfl (QOp_geq _ _ _ _ _ _ _ rfl rfl rfl) ?_
      refine kQ 1 rfl ?_
      refine AQ_case 43 _ rfl (fun hb14 => ?_) (fun hb14 => ?_)
      ·have h := iteT hb14 h
       refine kQ 1 rfl ?_
       refine AQ_q 45 _ rfl rfl rfl (QOp_fieldAddr_pv _ _ _ _ _ 2 _ _ rfl Try.underlying27 rfl _ Try.sizeOf22 rfl rfl) ?_
       obtain ⟨hc15, h⟩ := guardO h
       refine AQ_q 46 _ rfl rfl rfl (QOp_indexAddrA_pv _ _ _ _ _ _ _ _ _ rfl Try.underlying22 Try.sizeOf5 hc15.1 hc15.2 rfl rfl) ?_
       refine AQ_q 47 _ rfl rfl rfl (QOp_load_pv _ _ _ _ _ rfl Try.isAgg5 rfl (colD_get _ _ (by omega))) ?_
       refine AQ_q 48 _ rfl rfl rfl (QOp_neq _ _ _ _ _ _ _ rfl rfl rfl) ?_
       refine kQ 2 rfl ?_
       refine AQ_nil ?_
       cases h
       exact Weak_keep 0 hm [1, 3, 4, 50] [] _ _ rfl rfl rfl
      have h := iteF hb14 h
      refine AQ_skip 44 rfl rfl rfl ?_
      refine AQ_skip 45 rfl rfl rfl ?_
      refine AQ_skip 46 rfl rfl rfl ?_
      refine AQ_skip 47 rfl rfl rfl ?_
      refine AQ_skip 48 rfl rfl rfl ?_
      refine kQ 2 rfl ?_
      refine AQ_nil ?_
      cases h
      exact Weak_keep 0 hm [1, 3, 4, 50] [] _ _ rfl rfl rfl
     refine kI h rfl (fun h _ => ?_) (fun h _ => ?_)
     ·refine kR ?_
      refine kN 1 rfl ?_
      refine ACode_ret ?_
      obtain ⟨rr, hz20, h2⟩ := bindO h
      obtain rfl := Option.some.inj h2
      obtain rfl := Option.some.inj (show some rr = some _ from hks18)
      have h := hz20
      cases h
      have h := hks19
      cases h
      exact ⟨_, _, fun r a w h => ⟨r, h⟩, _, _, [], _, (.cons (ResV_tmp _ _ rfl) .nil), rfl, rfl, rfl, rfl, rfl⟩
     refine ACode_skip ?_
     cases h
     exact ⟨_, rfl, Weak_keep 0 hm [1, 3, 4] [] _ _ rfl rfl rfl⟩
    refine (ACode_region ?_)
    refine kM 1 rfl ?_
    refine AOps_q 25 _ rfl rfl rfl (QOp_add _ _ _ _ _ _ _ rfl rfl rfl) ?_
    refine kN 1 rfl ?_
    exact ⟨k0, _, _, Nat.lt_succ_self _, Weak_keep 0 hm [1, 3, 4] [] _ _ rfl rfl rfl, _, rfl, rfl, h⟩
   refine ACode_exit ?_
   cases h
   exact ⟨_, rfl, Weak_keep 0 hm [] [] _ _ rfl rfl rfl⟩
 refine kR ?_
 refine kN 1 rfl ?_
 refine ACode_ret ?_
 cases h
 exact ⟨_, _, fun r a w h => ⟨r, h⟩, _, _, [], _, (.cons (ResV_tmp _ _ rfl) .nil), rfl, rfl, rfl, rfl, rfl⟩

-- loop.example/g01362/spec.l01All
def spec_l01All_l0 (p0 : List Int) (p1 : Int) : Nat → Int → Option (Sum (Unit) (Bool))
 | 0, _ => none
 | k0 + 1, x1 => (if decide (x1 < (p0.length : Int)) then (if 0 ≤ x1 ∧ x1 < (p0.length : Int) then (if !(spec_l01In (p0.getD x1.toNat 0) 0 (w64 (p1 - 1))) then some (.inr false) else spec_l01All_l0 p0 p1 k0 (w64 (x1 + 1))) else none) else some (.inl ()))
def spec_l01All (k : Nat) (p0 : List Int) (p1 : Int) : Option (Bool) :=
 (spec_l01All_l0 p0 p1 k 0 : Option (Sum (Unit) (Bool))).bind fun os6 => (match os6 with | .inl s6 => some true | .inr rr => some rr)
set_option maxRecDepth 100000 in
theorem spec_l01All_ac (k : Nat) (p0 : List Int) (p1 : Int) (r : Bool) (h : spec_l01All k p0 p1 = some r) : AC Try.prog 79 [.d (.sl none (intsD p0)), iV p1] [] (fun res H' => res = [bV r] ∧ H' = []) := by
 refine AC_of_body true Try.func79 rfl Try.ntmps79 (rvs := [.tmp 4]) rfl rfl (fun G hG => ?_)
 have hm : G.H.length = 0 := by rw [hG]; rfl
 have hz : zeroG G.H = true := by rw [hG]; rfl
 unfold spec_l01All at h
 refine kR ?_
 refine kN 1 rfl ?_
 refine kO (fun s6 => []) (fun s6 => []) h (fun os6 h hks6 => ?_) (fun s6 h => ?_)
 ·refine kR ?_
  refine kN 1 rfl ?_
  refine ACode_block ?_
  refine ACode_loopW (fun k0 E H => ∃ (x1 : Int), E = [(0, .d (.sl none (intsD p0))), (1, iV p1), (5, iV x1)] ∧ H = [] ∧ spec_l01All_l0 p0 p1 k0 x1 = some os6) k _ _ (Weak_keep 0 hm [0, 1, 5] [] _ _ rfl rfl rfl) ⟨_, rfl, rfl, h⟩ ?_
  clear h
  rintro k0 E H ⟨x1, rfl, rfl, h⟩
  cases k0 with
  | zero => cases (show (none : Option (Sum (Unit) (Bool))) = some _ from h)
  | succ k0 =>
   rw [spec_l01All_l0] at h
   refine ACode_seq ?_
   refine kR ?_
   refine kM 2 rfl ?_
   refine AOps_q 8 _ rfl rfl rfl (QOp_len_sl _ _ _ _ _ _ _ (intsD_length _) rfl rfl rfl rfl Try.underlying34 rfl) ?_
   refine AOps_q 9 _ rfl rfl rfl (QOp_lss _ _ _ _ _ _ _ rfl rfl rfl) ?_
   refine AOps_nil ?_
   refine kI h rfl (fun h _ => ?_) (fun h _ => ?_)
   ·refine ACode_skip ?_
    refine ACode_seq ?_
    refine ACode_block ?_
    refine kR ?_
    refine kM 2 rfl ?_
    obtain ⟨hc3, h⟩ := guardO h
    refine AOps_q 14 _ rfl rfl rfl (QOp_indexAddr_sl _ _ _ _ _ _ _ _ rfl Try.underlying34 Try.sizeOf2 hc3.1 (by rw [intsD_length]; exact hc3.2) rfl rfl) ?_
    refine AOps_q 15 _ rfl rfl rfl (QOp_load_pv _ _ _ _ _ rfl Try.isAgg2 rfl (intsD_get _ _ 0 (by omega))) ?_
    refine kM 1 rfl ?_
    refine AOps_q 17 _ rfl rfl rfl (QOp_sub _ _ _ _ _ _ _ rfl rfl rfl) ?_
    refine kC [] 18 (bV (spec_l01In (p0.getD x1.toNat 0) 0 (w64 (p1 - 1)))) [] rfl Try.call38 rfl rfl (spec_l01In_ac (p0.getD x1.toNat 0) 0 (w64 (p1 - 1))) rfl ?_
    refine AOps_q 19 _ rfl rfl rfl (QOp_not _ _ _ rfl rfl) ?_
    refine AOps_nil ?_
    refine kI h rfl (fun h _ => ?_) (fun h _ => ?_)
    ·refine kR ?_
     refine kN 1 rfl ?_
     refine ACode_ret ?_
     cases h
     have h := hks6
     cases h
     exact ⟨_, _, fun r a w h => ⟨r, h⟩, _, _, [], _, (.cons (ResV_tmp _ _ rfl) .nil), rfl, rfl, rfl, rfl, rfl⟩
    refine ACode_skip ?_
    refine (ACode_region ?_)
    refine kM 1 rfl ?_
    refine AOps_q 11 _ rfl rfl rfl (QOp_add _ _ _ _ _ _ _ rfl rfl rfl) ?_
    refine kN 1 rfl ?_
    exact ⟨k0, _, _, Nat.lt_succ_self _, Weak_keep 0 hm [0, 1, 5] [] _ _ rfl rfl rfl, _, rfl, rfl, h⟩
   refine ACode_exit ?_
   cases h
   exact ⟨_, rfl, Weak_keep 0 hm [] [] _ _ rfl rfl rfl⟩
 refine kR ?_
 refine kN 1 rfl ?_
 refine ACode_ret ?_
 cases h
 exact ⟨_, _, fun r a w h => ⟨r, h⟩, _, _, [], _, (.cons (ResV_tmp _ _ rfl) .nil), rfl, rfl, rfl, rfl, rfl⟩

-- loop.example/g01362/spec.l01Given
def spec_l01Given (k : Nat) (p0 : Col) (p1 : Int) (p2 : List Int) : Option (Int) :=
 ((spec_l01Is k p0).bind fun r1 => (if !r1 then some (.inr 1) else ((if !(spec_l01In p1 0 (w64 (p0.k - 1))) then some true else (spec_l01All k p2 p0.p).bind fun r5 => some (!r5)) : Option (Bool)).bind fun s6 => (if s6 then some (.inr 2) else some (.inl ()))) : Option (Sum (Unit) (Int))).bind fun os8 => (match os8 with | .inl s8 => some 0 | .inr rr => some rr)
set_option maxRecDepth 100000 in
theorem spec_l01Given_ac (k : Nat) (p0 : Col) (p1 : Int) (p2 : List Int) (r : Int) (h : spec_l01Given k p0 p1 p2 = some r) : AC Try.prog 37 [.d (.agg (colD p0)), iV p1, .d (.sl none (intsD p2))] [] (fun res H' => res = [iV r] ∧ H' = []) := by
 refine AC_of_body true Try.func37 rfl Try.ntmps37 (rvs := [.tmp 6]) rfl rfl (fun G hG => ?_)
 have hm : G.H.length = 0 := by rw [hG]; rfl
 have hz : zeroG G.H = true := by rw [hG]; rfl
 unfold spec_l01Given at h
 refine kR ?_
 refine AOps_boxI 3 _ _ (.agg (colD p0)) (colD p0) rfl (colD_one _) rfl rfl rfl rfl rfl ?_
 refine kN 1 rfl ?_
 refine kO (fun s8 => []) (fun s8 => []) h (fun os8 h hks8 => ?_) (fun s8 h => ?_)
 ·refine ACode_block ?_
  refine kR ?_
  refine AOps_q 8 _ rfl rfl rfl (QOp_loadN_pv _ _ _ _ _ _ rfl Try.isAgg27 Try.sizeOf27 rfl (colD_all _) (colD_length _)) ?_
  obtain ⟨r1, hr1, h⟩ := bindO h
  refine kC [] 9 (bV r1) [] rfl Try.call78 rfl rfl (spec_l01Is_ac k p0 _ hr1) rfl ?_
  refine AOps_q 10 _ rfl rfl rfl (QOp_not _ _ _ rfl rfl) ?_
  refine kN 1 rfl ?_
  refine kI h rfl (fun h _ => ?_) (fun h _ => ?_)
  ·refine kR ?_
   refine kN 1 rfl ?_
   refine ACode_ret ?_
   cases h
   have h := hks8
   cases h
   exact ⟨_, _, fun r a w h => ⟨r, h⟩, _, _, [], _, (.cons (ResV_tmp _ _ rfl) .nil), rfl, rfl, rfl, rfl, rfl⟩
  refine kB (fun s6 => [(11, bV s6)]) (fun s6 => []) h (fun s6 h => ?_) (fun s6 h => ?_)
  ·refine (ACode_region ?_)
   refine kM 1 rfl ?_
   refine AOps_q 13 _ rfl rfl rfl (QOp_fieldAddr_pv _ _ _ _ _ 1 _ _ rfl Try.underlying27 rfl _ Try.sizeOf2 rfl rfl) ?_
   refine AOps_q 14 _ rfl rfl rfl (QOp_load_pv _ _ _ _ _ rfl Try.isAgg2 rfl rfl) ?_
   refine AOps_q 15 _ rfl rfl rfl (QOp_sub _ _ _ _ _ _ _ rfl rfl rfl) ?_
   refine kC [] 16 (bV (spec_l01In p1 0 (w64 (p0.k - 1)))) [] rfl Try.call38 rfl rfl (spec_l01In_ac p1 0 (w64 (p0.k - 1))) rfl ?_
   refine AOps_q 17 _ rfl rfl rfl (QOp_not _ _ _ rfl rfl) ?_
   refine kM 1 rfl ?_
   refine AOps_case 18 _ rfl (fun hb4 => ?_) (fun hb4 => ?_)
   ·have h := iteT hb4 h
    refine AOps_skip 19 rfl rfl rfl ?_
    refine AOps_skip 20 rfl rfl rfl ?_
    refine AOps_skip 21 rfl rfl rfl ?_
    refine AOps_skip 22 rfl rfl rfl ?_
    refine AOps_skip 23 rfl rfl rfl ?_
    refine kN 2 rfl ?_
    cases h
    exact Weak_keep 0 hm [11] [] _ _ rfl rfl rfl
   have h := iteF hb4 h
   refine kM 1 rfl ?_
   refine AOps_q 20 _ rfl rfl rfl (QOp_fieldAddr_pv _ _ _ _ _ 0 _ _ rfl Try.underlying27 rfl _ Try.sizeOf2 rfl rfl) ?_
   refine AOps_q 21 _ rfl rfl rfl (QOp_load_pv _ _ _ _ _ rfl Try.isAgg2 rfl rfl) ?_
   obtain ⟨r5, hr5, h⟩ := bindO h
   refine kC [] 22 (bV r5) [] rfl Try.call79 rfl rfl (spec_l01All_ac k p2 p0.p _ hr5) rfl ?_
   refine AOps_q 23 _ rfl rfl rfl (QOp_not _ _ _ rfl rfl) ?_
   refine kN 2 rfl ?_
   cases h
   exact Weak_keep 0 hm [11] [] _ _ rfl rfl rfl
  refine kI h rfl (fun h _ => ?_) (fun h _ => ?_)
  ·refine kR ?_
   refine kN 1 rfl ?_
   refine ACode_ret ?_
   cases h
   have h := hks8
   cases h
   exact ⟨_, _, fun r a w h => ⟨r, h⟩, _, _, [], _, (.cons (ResV_tmp _ _ rfl) .nil), rfl, rfl, rfl, rfl, rfl⟩
  refine ACode_skip ?_
  cases h
  exact ⟨_, rfl, Weak_keep 0 hm [] [] _ _ rfl rfl rfl⟩
 refine kR ?_
 refine kN 1 rfl ?_
 refine ACode_ret ?_
 cases h
 exact ⟨_, _, fun r a w h => ⟨r, h⟩, _, _, [], _, (.cons (ResV_tmp _ _ rfl) .nil), rfl, rfl, rfl, rfl, rfl⟩

-- loop.example/g01362/spec.l04Code
def spec_l04Code (k : Nat) (p0 : Col) (p1 : Int) (p2 : Bool) : Option (Int) :=
 (spec_l01Given k p0 p1 ([])).bind fun r1 => letO (letO (if decide (r1 = 0) then (if p2 then decide (11 < p0.p) else false) else false) fun (s4 : Bool) => (if s4 then 3 else r1)) fun (s6 : Int) => some s6
set_option maxRecDepth 100000 in
theorem spec_l04Code_ac (k : Nat) (p0 : Col) (p1 : Int) (p2 : Bool) (r : Int) (h : spec_l04Code k p0 p1 p2 = some r) : AC Try.prog 39 [.d (.agg (colD p0)), iV p1, bV p2] [] (fun res H' => res = [iV r] ∧ H' = []) := by
 refine AC_of_body true Try.func39 rfl Try.ntmps39 (rvs := [.tmp 6]) rfl rfl (fun G hG => ?_)
 have hm : G.H.length = 0 := by rw [hG]; rfl
 have hz : zeroG G.H = true := by rw [hG]; rfl
 unfold spec_l04Code at h
 refine kR ?_
 refine AOps_boxI 3 _ _ (.agg (colD p0)) (colD p0) rfl (colD_one _) rfl rfl rfl rfl rfl ?_
 refine kN 1 rfl ?_
 refine kR ?_
 refine AOps_q 8 _ rfl rfl rfl (QOp_loadN_pv _ _ _ _ _ _ rfl Try.isAgg27 Try.sizeOf27 rfl (colD_all _) (colD_length _)) ?_
 refine kM 1 rfl ?_
 obtain ⟨r1, hr1, h⟩ := bindO h
 refine kC [] 10 (iV r1) [] rfl Try.call37 rfl rfl (spec_l01Given_ac k p0 p1 ([]) _ hr1) rfl ?_
 refine kN 1 rfl ?_
 refine kL (fun s6 => [(7, iV s6)]) (fun s6 => []) h (fun s6 h => ?_) (fun s6 h => ?_)
 ·refine kL (fun s4 => [(7, iV r1), (20, bV s4)]) (fun s4 => []) h (fun s4 h => ?_) (fun s4 h => ?_)
  ·refine (ACode_region ?_)
   refine kM 1 rfl ?_
   refine AOps_q 12 _ rfl rfl rfl (QOp_eql _ _ _ _ _ _ _ rfl rfl rfl) ?_
   refine kM 1 rfl ?_
   refine AOps_case 13 _ rfl (fun hb2 => ?_) (fun hb2 => ?_)
   ·have h := iteT hb2 h
    refine kM 3 rfl ?_
    refine AOps_case 16 _ rfl (fun hb3 => ?_) (fun hb3 => ?_)
    ·have h := iteT hb3 h
     refine AOps_q 17 _ rfl rfl rfl (QOp_fieldAddr_pv _ _ _ _ _ 0 _ _ rfl Try.underlying27 rfl _ Try.sizeOf2 rfl rfl) ?_
     refine AOps_q 18 _ rfl rfl rfl (QOp_load_pv _ _ _ _ _ rfl Try.isAgg2 rfl rfl) ?_
     refine AOps_q 19 _ rfl rfl rfl (QOp_gtr _ _ _ _ _ _ _ rfl rfl rfl) ?_
     refine kN 1 rfl ?_
     cases h
     exact Weak_keep 0 hm [7, 20] [] _ _ rfl rfl rfl
    have h := iteF hb3 h
    refine AOps_skip 17 rfl rfl rfl ?_
    refine AOps_skip 18 rfl rfl rfl ?_
    refine AOps_skip 19 rfl rfl rfl ?_
    refine kN 1 rfl ?_
    cases h
    exact Weak_keep 0 hm [7, 20] [] _ _ rfl rfl rfl
   have h := iteF hb2 h
   refine AOps_skip 14 rfl rfl rfl ?_
   refine kM 2 rfl ?_
   refine AOps_skip 17 rfl rfl rfl ?_
   refine AOps_skip 18 rfl rfl rfl ?_
   refine AOps_skip 19 rfl rfl rfl ?_
   refine kN 1 rfl ?_
   cases h
   exact Weak_keep 0 hm [7, 20] [] _ _ rfl rfl rfl
  refine kI h rfl (fun h _ => ?_) (fun h _ => ?_)
  ·refine (ACode_region ?_)
   refine kN 1 rfl ?_
   cases h
   exact Weak_keep 0 hm [7] [] _ _ rfl rfl rfl
  refine ACode_skip ?_
  cases h
  exact Weak_keep 0 hm [7] [] _ _ rfl rfl rfl
 refine kR ?_
 refine kN 2 rfl ?_
 refine ACode_ret ?_
 cases h
 exact ⟨_, _, fun r a w h => ⟨r, h⟩, _, _, [], _, (.cons (ResV_tmp _ _ rfl) .nil), rfl, rfl, rfl, rfl, rfl⟩

-- loop.example/g01362/spec.l01Around
def spec_l01Around_l0 (p0 : Col) (p1 : Int) (p2 : Int) : Nat → Int → Int → Option (Int)
 | 0, _, _ => none
 | k0 + 1, x1, x2 => (if decide (x2 < p0.p) then (((if !decide (x2 = p1) then (spec_l01At p0 p1 x2).bind fun r5 => some (decide (r5 = p2)) else some false) : Option (Bool)).bind fun s6 => (if s6 then (if 0 ≤ IntKind.u64.wrap x2 then some (bOr .i64 x1 (bShl .i64 1 (IntKind.u64.wrap x2))) else none) else some x1) : Option (Int)).bind fun s9 => spec_l01Around_l0 p0 p1 p2 k0 s9 (w64 (x2 + 1)) else some x1)
def spec_l01Around (k : Nat) (p0 : Col) (p1 : Int) (p2 : Int) : Option (Int) :=
 (spec_l01Around_l0 p0 p1 p2 k 0 0 : Option (Int)).bind fun s10 => some s10
set_option maxRecDepth 100000 in
theorem spec_l01Around_ac (k : Nat) (p0 : Col) (p1 : Int) (p2 : Int) (r : Int) (h : spec_l01Around k p0 p1 p2 = some r) : AC Try.prog 83 [.d (.agg (colD p0)), iV p1, iV p2] [] (fun res H' => res = [iV r] ∧ H' = []) := by
 refine AC_of_body true Try.func83 rfl Try.ntmps83 (rvs := [.tmp 6]) rfl rfl (fun G hG => ?_)
 have hm : G.H.length = 0 := by rw [hG]; rfl
 have hz : zeroG G.H = true := by rw [hG]; rfl
 unfold spec_l01Around at h
 refine kR ?_
 refine AOps_boxI 3 _ _ (.agg (colD p0)) (colD p0) rfl (colD_one _) rfl rfl rfl rfl rfl ?_
 refine kN 1 rfl ?_
 refine kR ?_
 refine kN 1 rfl ?_
 refine kB (fun s10 => [(7, iV s10)]) (fun s10 => []) h (fun s10 h => ?_) (fun s10 h => ?_)
 ·refine kR ?_
  refine kN 1 rfl ?_
  refine ACode_block ?_
  refine ACode_loopW (fun k0 E H => ∃ (x1 : Int) (x2 : Int), E = [(1, iV p1), (2, iV p2), (3, .d (.pv (colD p0) 0)), (7, iV x1), (8, iV x2)] ∧ H = [] ∧ spec_l01Around_l0 p0 p1 p2 k0 x1 x2 = some s10) k _ _ (Weak_keep 0 hm [1, 2, 3, 7, 8] [] _ _ rfl rfl rfl) ⟨_, _, rfl, rfl, h⟩ ?_
  clear h
  rintro k0 E H ⟨x1, x2, rfl, rfl, h⟩
  cases k0 with
  | zero => cases (show (none : Option (Int)) = some _ from h)
  | succ k0 =>
   rw [spec_l01Around_l0] at h
   refine ACode_seq ?_
   refine kR ?_
   refine kM 1 rfl ?_
   refine AOps_q 10 _ rfl rfl rfl (QOp_fieldAddr_pv _ _ _ _ _ 0 _ _ rfl Try.underlying27 rfl _ Try.sizeOf2 rfl rfl) ?_
   refine AOps_q 11 _ rfl rfl rfl (QOp_load_pv _ _ _ _ _ rfl Try.isAgg2 rfl rfl) ?_
   refine AOps_q 12 _ rfl rfl rfl (QOp_lss _ _ _ _ _ _ _ rfl rfl rfl) ?_
   refine AOps_nil ?_
   refine kI h rfl (fun h _ => ?_) (fun h _ => ?_)
   ·refine ACode_skip ?_
    refine kB (fun s9 => [(1, iV p1), (2, iV p2), (3, .d (.pv (colD p0) 0)), (7, iV s9), (8, iV x2)]) (fun s9 => []) h (fun s9 h => ?_) (fun s9 h => ?_)
    ·refine ACode_block ?_
     refine kB (fun s6 => [(1, iV p1), (2, iV p2), (3, .d (.pv (colD p0) 0)), (7, iV x1), (8, iV x2), (25, bV s6)]) (fun s6 => []) h (fun s6 h => ?_) (fun s6 h => ?_)
     ·refine (ACode_region ?_)
      refine kM 2 rfl ?_
      refine AOps_q 17 _ rfl rfl rfl (QOp_neq _ _ _ _ _ _ _ rfl rfl rfl) ?_
      refine kM 1 rfl ?_
      refine AOps_case 18 _ rfl (fun hb4 => ?_) (fun hb4 => ?_)
      ·have h := iteT hb4 h
       refine AOps_q 19 _ rfl rfl rfl (QOp_loadN_pv _ _ _ _ _ _ rfl Try.isAgg27 Try.sizeOf27 rfl (colD_all _) (colD_length _)) ?_
       refine kM 2 rfl ?_
       obtain ⟨r5, hr5, h⟩ := bindO h
       refine kC [] 22 (iV r5) [] rfl Try.call98 rfl rfl (spec_l01At_ac p0 p1 x2 _ hr5) rfl ?_
       refine kM 1 rfl ?_
       refine AOps_q 24 _ rfl rfl rfl (QOp_eql _ _ _ _ _ _ _ rfl rfl rfl) ?_
       refine kN 1 rfl ?_
       cases h
       exact Weak_keep 0 hm [1, 2, 3, 7, 8, 25] [] _ _ rfl rfl rfl
      have h := iteF hb4 h
      refine AOps_skip 19 rfl rfl rfl ?_
      refine AOps_skip 20 rfl rfl rfl ?_
      refine AOps_skip 21 rfl rfl rfl ?_
      refine AOps_skip 22 rfl rfl rfl ?_
      refine AOps_skip 23 rfl rfl rfl ?_
      refine AOps_skip 24 rfl rfl rfl ?_
      refine kN 1 rfl ?_
      cases h
      exact Weak_keep 0 hm [1, 2, 3, 7, 8, 25] [] _ _ rfl rfl rfl
     refine kI h rfl (fun h _ => ?_) (fun h _ => ?_)
     ·refine (ACode_region ?_)
      refine kM 2 rfl ?_
      refine AOps_q 28 _ rfl rfl rfl (QOp_conv _ _ _ _ _ _ rfl rfl Try.underlying93 rfl) ?_
      obtain ⟨hc8, h⟩ := guardO h
      refine AOps_q 29 _ rfl rfl rfl (QOp_shl _ _ _ _ _ _ _ _ hc8 rfl rfl rfl) ?_
      refine AOps_q 30 _ rfl rfl rfl (QOp_or _ _ _ _ _ _ _ rfl rfl rfl) ?_
      refine kN 1 rfl ?_
      cases h
      exact Weak_keep 0 hm [1, 2, 3, 7, 8] [] _ _ rfl rfl rfl
     refine ACode_skip ?_
     cases h
     exact Weak_keep 0 hm [1, 2, 3, 7, 8] [] _ _ rfl rfl rfl
    refine (ACode_region ?_)
    refine kM 1 rfl ?_
    refine AOps_q 14 _ rfl rfl rfl (QOp_add _ _ _ _ _ _ _ rfl rfl rfl) ?_
    refine kN 1 rfl ?_
    exact ⟨k0, _, _, Nat.lt_succ_self _, Weak_keep 0 hm [1, 2, 3, 7, 8] [] _ _ rfl rfl rfl, _, _, rfl, rfl, h⟩
   refine ACode_exit ?_
   cases h
   exact Weak_keep 0 hm [7] [] _ _ rfl rfl rfl
 refine kR ?_
 refine kN 2 rfl ?_
 refine ACode_ret ?_
 cases h
 exact ⟨_, _, fun r a w h => ⟨r, h⟩, _, _, [], _, (.cons (ResV_tmp _ _ rfl) .nil), rfl, rfl, rfl, rfl, rfl⟩

-- loop.example/g01362/spec.l02Rows
def spec_l02Rows_l0 (k : Nat) (p0 : Col) (p1 : Int) : Nat → Int → (List Int) → Option (List Int)
 | 0, _, _ => none
 | k0 + 1, x1, x2 => (if decide (x1 < p0.p) then (spec_l01Around k p0 x1 p1).bind fun r4 => (if x2.length + ([r4]).length ≤ 1099511627776 then spec_l02Rows_l0 k p0 p1 k0 (w64 (x1 + 1)) (x2 ++ ([r4])) else none) else some x2)
def spec_l02Rows (k : Nat) (p0 : Col) (p1 : Int) : Option (List Int) :=
 (spec_l02Rows_l0 k p0 p1 k 0 ([] : List Int) : Option (List Int)).bind fun s6 => some s6
set_option maxRecDepth 100000 in
theorem spec_l02Rows_ac (k : Nat) (p0 : Col) (p1 : Int) (r : List Int) (h : spec_l02Rows k p0 p1 = some r) : AC Try.prog 80 [.d (.agg (colD p0)), iV p1] [] (fun res H' => res = [.vec 0 0] ∧ H' = [.vec 0 (intsD r)]) := by
 refine AC_of_body true Try.func80 rfl Try.ntmps80 (rvs := [.tmp 4]) rfl rfl (fun G hG => ?_)
 have hm : G.H.length = 0 := by rw [hG]; rfl
 have hz : zeroG G.H = true := by rw [hG]; rfl
 unfold spec_l02Rows at h
 refine kR ?_
 refine AOps_boxI 2 _ _ (.agg (colD p0)) (colD p0) rfl (colD_one _) rfl rfl rfl rfl rfl ?_
 refine kN 1 rfl ?_
 refine kR ?_
 refine AOps_buildSlice 7 _ _ _ [] (intsD ([] : List Int)) _ rfl rfl rfl rfl rfl (by decide) Try.underlying34 Try.sizeOf2 (zero_of Try.typeInfo2 rfl) rfl rfl (intsD_one _) ?_
 refine kN 1 rfl ?_
 refine kB (fun s6 => [(5, .vec 0 0)]) (fun s6 => [.vec 0 (intsD s6)]) h (fun s6 h => ?_) (fun s6 h => ?_)
 ·refine kR ?_
  refine kN 1 rfl ?_
  refine ACode_block ?_
  refine ACode_loopW (fun k0 E H => ∃ (x1 : Int) (x2 : List Int), E = [(1, iV p1), (2, .d (.pv (colD p0) 0)), (5, .vec 0 0), (6, iV x1)] ∧ H = [.vec 0 (intsD x2)] ∧ spec_l02Rows_l0 k p0 p1 k0 x1 x2 = some s6) k _ _ (Weak_keep 0 hm [1, 2, 5, 6] [0] _ _ rfl rfl rfl) ⟨_, _, rfl, rfl, h⟩ ?_
  clear h
  rintro k0 E H ⟨x1, x2, rfl, rfl, h⟩
  cases k0 with
  | zero => cases (show (none : Option (List Int)) = some _ from h)
  | succ k0 =>
   rw [spec_l02Rows_l0] at h
   refine ACode_seq ?_
   refine kR ?_
   refine kM 1 rfl ?_
   refine AOps_q 9 _ rfl rfl rfl (QOp_fieldAddr_pv _ _ _ _ _ 0 _ _ rfl Try.underlying27 rfl _ Try.sizeOf2 rfl rfl) ?_
   refine AOps_q 10 _ rfl rfl rfl (QOp_load_pv _ _ _ _ _ rfl Try.isAgg2 rfl rfl) ?_
   refine AOps_q 11 _ rfl rfl rfl (QOp_lss _ _ _ _ _ _ _ rfl rfl rfl) ?_
   refine AOps_nil ?_
   refine kI h rfl (fun h _ => ?_) (fun h _ => ?_)
   ·refine ACode_skip ?_
    refine ACode_seq ?_
    refine ACode_block ?_
    refine (ACode_region ?_)
    refine kM 1 rfl ?_
    refine AOps_q 15 _ rfl rfl rfl (QOp_loadN_pv _ _ _ _ _ _ rfl Try.isAgg27 Try.sizeOf27 rfl (colD_all _) (colD_length _)) ?_
    refine kM 2 rfl ?_
    obtain ⟨r4, hr4, h⟩ := bindO h
    refine kC [] 18 (iV r4) [.vec 0 (intsD x2)] rfl Try.call83 rfl rfl (spec_l01Around_ac k p0 x1 p1 _ hr4) rfl ?_
    refine AOps_buildSlice 19 _ _ _ [_] (intsD ([r4])) _ rfl rfl rfl rfl rfl (by decide) Try.underlying34 Try.sizeOf2 (zero_of Try.typeInfo2 rfl) rfl rfl (intsD_one _) ?_
    obtain ⟨hc5, h⟩ := guardO h
    refine AOps_append 20 _ _ _ _ _ _ _ _ _ _ _ _ rfl rfl rfl rfl rfl rfl rfl Try.underlying34 Try.type2 rfl rfl rfl (by decide) rfl rfl rfl rfl (intsD_one _) (by rw [intsD_length, intsD_length]; exact hc5) ?_
    rw [intsD_app]
    refine kN 1 rfl ?_
    refine (ACode_region ?_)
    refine kM 1 rfl ?_
    refine AOps_q 13 _ rfl rfl rfl (QOp_add _ _ _ _ _ _ _ rfl rfl rfl) ?_
    refine kN 1 rfl ?_
    exact ⟨k0, _, _, Nat.lt_succ_self _, Weak_trans (Weak_keep 0 hm [1, 2, 5, 6] [0] _ _ rfl rfl rfl) (Weak_reset 0 hm hz [1, 2, 5, 6] _ _ rfl rfl), _, _, rfl, rfl, h⟩
   refine ACode_exit ?_
   cases h
   exact Weak_keep 0 hm [5] [0] _ _ rfl rfl rfl
 refine kR ?_
 refine kN 2 rfl ?_
 refine ACode_ret ?_
 cases h
 exact ⟨_, _, Weak_reset 0 hm hz [4] _ _ rfl rfl, _, _, [0], _, (.cons (ResV_tmp _ _ rfl) .nil), rfl, rfl, rfl, rfl, rfl⟩

-- loop.example/g01362/spec.l04Ends
def spec_l04Ends_l1 (p0 : List Int) (x3 : Int) : Nat → Int → (List Int) → Option (List Int)
 | 0, _, _ => none
 | k1 + 1, x6, x7 => (if decide (x6 < (p0.length : Int)) then ((if 0 ≤ IntKind.u64.wrap x6 then (if decide (bAnd .i64 x3 (bShl .i64 1 (IntKind.u64.wrap x6)) = 0) then some x7 else ((if decide (bXor .i64 x3 (bShl .i64 1 (IntKind.u64.wrap x6)) = 0) then some true else (if 0 ≤ bXor .i64 x3 (bShl .i64 1 (IntKind.u64.wrap x6)) ∧ bXor .i64 x3 (bShl .i64 1 (IntKind.u64.wrap x6)) < (x7.length : Int) then (if 0 ≤ x6 ∧ x6 < (p0.length : Int) then some (!decide (bAnd .i64 (x7.getD (bXor .i64 x3 (bShl .i64 1 (IntKind.u64.wrap x6))).toNat 0) (p0.getD x6.toNat 0) = 0)) else none) else none)) : Option (Bool)).bind fun s14 => (if s14 then (if 0 ≤ x3 ∧ x3 < (x7.length : Int) then (if 0 ≤ x3 ∧ x3 < (x7.length : Int) then some (x7.set x3.toNat (bOr .i64 (x7.getD x3.toNat 0) (bShl .i64 1 (IntKind.u64.wrap x6)))) else none) else none) else some x7)) else none) : Option (List Int)).bind fun s18 => spec_l04Ends_l1 p0 x3 k1 (w64 (x6 + 1)) s18 else some x7)
def spec_l04Ends_l0 (k : Nat) (p0 : List Int) : Nat → Int → (List Int) → Option (List Int)
 | 0, _, _ => none
 | k0 + 1, x3, x4 => (if decide (x3 < (x4.length : Int)) then (spec_l04Ends_l1 p0 x3 k 0 x4 : Option (List Int)).bind fun s19 => spec_l04Ends_l0 k p0 k0 (w64 (x3 + 1)) s19 else some x4)
def spec_l04Ends (k : Nat) (p0 : List Int) : Option (List Int) :=
 (if 0 ≤ IntKind.u64.wrap (p0.length : Int) then (if 0 ≤ bShl .i64 1 (IntKind.u64.wrap (p0.length : Int)) ∧ bShl .i64 1 (IntKind.u64.wrap (p0.length : Int)) ≤ bShl .i64 1 (IntKind.u64.wrap (p0.length : Int)) ∧ bShl .i64 1 (IntKind.u64.wrap (p0.length : Int)) ≤ 1099511627776 then (spec_l04Ends_l0 k p0 k 1 (List.replicate (bShl .i64 1 (IntKind.u64.wrap (p0.length : Int))).toNat (0 : Int)) : Option (List Int)).bind fun s20 => some s20 else none) else none)
set_option maxRecDepth 100000 in
theorem spec_l04Ends_ac (k : Nat) (p0 : List Int) (r : List Int) (h : spec_l04Ends k p0 = some r) : AC Try.prog 81 [.d (.sl none (intsD p0))] [] (fun res H' => res = [.vec 0 0] ∧ H' = [.vec 0 (intsD r)]) := by
 refine AC_of_body true Try.func81 rfl Try.ntmps81 (rvs := [.tmp 2]) rfl rfl (fun G hG => ?_)
 have hm : G.H.length = 0 := by rw [hG]; rfl
 have hz : zeroG G.H = true := by rw [hG]; rfl
 unfold spec_l04Ends at h
 refine kR ?_
 refine kN 1 rfl ?_
 refine kR ?_
 refine kM 1 rfl ?_
 refine AOps_q 10 _ rfl rfl rfl (QOp_len_sl _ _ _ _ _ _ _ (intsD_length _) rfl rfl rfl rfl Try.underlying34 rfl) ?_
 refine kN 1 rfl ?_
 refine kR ?_
 refine kM 1 rfl ?_
 refine AOps_q 12 _ rfl rfl rfl (QOp_conv _ _ _ _ _ _ rfl rfl Try.underlying93 rfl) ?_
 obtain ⟨hc1, h⟩ := guardO h
 refine AOps_q 13 _ rfl rfl rfl (QOp_shl _ _ _ _ _ _ _ _ hc1 rfl rfl rfl) ?_
 obtain ⟨hc2, h⟩ := guardO h
 refine AOps_makeSliceG intsD iD 0 (intsD_rep · _) 14 _ _ _ _ _ _ (bShl .i64 1 (IntKind.u64.wrap (p0.length : Int))) (bShl .i64 1 (IntKind.u64.wrap (p0.length : Int))) _ (.int .i64 0) rfl rfl rfl rfl rfl rfl Try.underlying34 Try.type2 rfl rfl (by decide) rfl rfl hc2.1 hc2.2.1 hc2.2.2 ?_
 refine kN 1 rfl ?_
 refine kB (fun s20 => [(4, .vec 0 0)]) (fun s20 => [.vec 0 (intsD s20)]) h (fun s20 h => ?_) (fun s20 h => ?_)
 ·refine kR ?_
  refine kN 1 rfl ?_
  refine ACode_block ?_
  refine ACode_loopW (fun k0 E H => ∃ (x3 : Int) (x4 : List Int), E = [(0, .d (.sl none (intsD p0))), (3, iV (p0.length : Int)), (4, .vec 0 0), (5, iV x3)] ∧ H = [.vec 0 (intsD x4)] ∧ spec_l04Ends_l0 k p0 k0 x3 x4 = some s20) k _ _ (Weak_keep 0 hm [0, 3, 4, 5] [0] _ _ rfl rfl rfl) ⟨_, _, rfl, rfl, h⟩ ?_
  clear h
  rintro k0 E H ⟨x3, x4, rfl, rfl, h⟩
  cases k0 with
  | zero => cases (show (none : Option (List Int)) = some _ from h)
  | succ k0 =>
   rw [spec_l04Ends_l0] at h
   refine ACode_seq ?_
   refine kR ?_
   refine kM 2 rfl ?_
   refine AOps_q 17 _ rfl rfl rfl (QOp_len_vec _ _ _ _ _ _ _ _ (intsD_length _) rfl rfl rfl rfl Try.underlying34 rfl rfl) ?_
   refine AOps_q 18 _ rfl rfl rfl (QOp_lss _ _ _ _ _ _ _ rfl rfl rfl) ?_
   refine AOps_nil ?_
   refine kI h rfl (fun h _ => ?_) (fun h _ => ?_)
   ·refine ACode_skip ?_
    refine kB (fun s19 => [(0, .d (.sl none (intsD p0))), (3, iV (p0.length : Int)), (4, .vec 0 0), (5, iV x3)]) (fun s19 => [.vec 0 (intsD s19)]) h (fun s19 h => ?_) (fun s19 h => ?_)
    ·refine ACode_block ?_
     refine kR ?_
     refine kN 1 rfl ?_
     refine ACode_block ?_
     refine ACode_loopW (fun k1 E H => ∃ (x6 : Int) (x7 : List Int), E = [(0, .d (.sl none (intsD p0))), (3, iV (p0.length : Int)), (4, .vec 0 0), (5, iV x3), (6, iV x6)] ∧ H = [.vec 0 (intsD x7)] ∧ spec_l04Ends_l1 p0 x3 k1 x6 x7 = some s19) k _ _ (Weak_keep 0 hm [0, 3, 4, 5, 6] [0] _ _ rfl rfl rfl) ⟨_, _, rfl, rfl, h⟩ ?_
     clear h
     rintro k1 E H ⟨x6, x7, rfl, rfl, h⟩
     cases k1 with
     | zero => cases (show (none : Option (List Int)) = some _ from h)
     | succ k1 =>
      rw [spec_l04Ends_l1] at h
      refine ACode_seq ?_
      refine kR ?_
      refine kM 2 rfl ?_
      refine AOps_q 23 _ rfl rfl rfl (QOp_lss _ _ _ _ _ _ _ rfl rfl rfl) ?_
      refine AOps_nil ?_
      refine kI h rfl (fun h _ => ?_) (fun h _ => ?_)
      ·refine ACode_skip ?_
       refine kB (fun s18 => [(0, .d (.sl none (intsD p0))), (3, iV (p0.length : Int)), (4, .vec 0 0), (5, iV x3), (6, iV x6)]) (fun s18 => [.vec 0 (intsD s18)]) h (fun s18 h => ?_) (fun s18 h => ?_)
       ·refine ACode_block ?_
        refine kR ?_
        refine kM 1 rfl ?_
        refine AOps_q 27 _ rfl rfl rfl (QOp_conv _ _ _ _ _ _ rfl rfl Try.underlying93 rfl) ?_
        obtain ⟨hc9, h⟩ := guardO h
        refine AOps_q 28 _ rfl rfl rfl (QOp_shl _ _ _ _ _ _ _ _ hc9 rfl rfl rfl) ?_
        refine kN 1 rfl ?_
        refine ACode_seq ?_
        refine kR ?_
        refine kM 2 rfl ?_
        refine AOps_q 31 _ rfl rfl rfl (QOp_and _ _ _ _ _ _ _ rfl rfl rfl) ?_
        refine AOps_q 32 _ rfl rfl rfl (QOp_eql _ _ _ _ _ _ _ rfl rfl rfl) ?_
        refine AOps_nil ?_
        refine kI h rfl (fun h _ => ?_) (fun h _ => ?_)
        ·refine ACode_exit ?_
         cases h
         exact Weak_keep 0 hm [0, 3, 4, 5, 6] [0] _ _ rfl rfl rfl
        refine ACode_skip ?_
        refine kR ?_
        refine kM 2 rfl ?_
        refine AOps_q 35 _ rfl rfl rfl (QOp_xor _ _ _ _ _ _ _ rfl rfl rfl) ?_
        refine kN 1 rfl ?_
        refine kB (fun s14 => [(0, .d (.sl none (intsD p0))), (3, iV (p0.length : Int)), (4, .vec 0 0), (5, iV x3), (6, iV x6), (7, iV (bShl .i64 1 (IntKind.u64.wrap x6))), (49, bV s14)]) (fun s14 => [.vec 0 (intsD x7)]) h (fun s14 h => ?_) (fun s14 h => ?_)
        ·refine (ACode_quiet mixed (by kernel_rfl) ?_)
         refine kQ 1 rfl ?_
         refine AQ_q 37 _ rfl rfl rfl (QOp_eql _ _ _ _ _ _ _ rfl rfl rfl) ?_
         refine kQ 1 rfl ?_
         refine AQ_case 38 _ rfl (fun hb11 => ?_) (fun hb11 => ?_)
         ·have h := iteT hb11 h
          refine AQ_skip 39 rfl rfl rfl ?_
          refine AQ_skip 40 rfl rfl rfl ?_
          refine AQ_skip 41 rfl rfl rfl ?_
          refine AQ_skip 42 rfl rfl rfl ?_
          refine AQ_skip 43 rfl rfl rfl ?_
          refine AQ_skip 44 rfl rfl rfl ?_
          refine AQ_skip 45 rfl rfl rfl ?_
          refine AQ_skip 46 rfl rfl rfl ?_
          refine AQ_skip 47 rfl rfl rfl ?_
          refine AQ_skip 48 rfl rfl rfl ?_
          refine kQ 1 rfl ?_
          refine AQ_nil ?_
          cases h
          exact Weak_keep 0 hm [0, 3, 4, 5, 6, 7, 49] [0] _ _ rfl rfl rfl
         have h := iteF hb11 h
         refine kQ 2 rfl ?_
         obtain ⟨hc12, h⟩ := guardO h
         refine AQ_q 41 _ rfl rfl rfl (QOp_indexAddr_vec _ _ _ _ _ _ _ _ _ rfl Try.underlying34 Try.sizeOf2 hc12.1 (by rw [intsD_length]; exact hc12.2) rfl rfl rfl) ?_
         refine AQ_q 42 _ rfl rfl rfl (QOp_load_eptr _ _ _ _ _ _ _ rfl Try.isAgg2 rfl rfl (intsD_get _ _ 0 (by omega))) ?_
         refine kQ 2 rfl ?_
         obtain ⟨hc13, h⟩ := guardO h
         refine AQ_q 45 _ rfl rfl rfl (QOp_indexAddr_sl _ _ _ _ _ _ _ _ rfl Try.underlying34 Try.sizeOf2 hc13.1 (by rw [intsD_length]; exact hc13.2) rfl rfl) ?_
         refine AQ_q 46 _ rfl rfl rfl (QOp_load_pv _ _ _ _ _ rfl Try.isAgg2 rfl (intsD_get _ _ 0 (by omega))) ?_
         refine AQ_q 47 _ rfl rfl rfl (QOp_and _ _ _ _ _ _ _ rfl rfl rfl) ?_
         refine AQ_q 48 _ rfl rfl rfl (QOp_neq _ _ _ _ _ _ _ rfl rfl rfl) ?_
         refine kQ 1 rfl ?_
         refine AQ_nil ?_
         cases h
         exact Weak_keep 0 hm [0, 3, 4, 5, 6, 7, 49] [0] _ _ rfl rfl rfl
        refine kI h rfl (fun h _ => ?_) (fun h _ => ?_)
        ·refine (ACode_region ?_)
         refine kM 4 rfl ?_
         obtain ⟨hc16, h⟩ := guardO h
         refine AOps_q 54 _ rfl rfl rfl (QOp_indexAddr_vec _ _ _ _ _ _ _ _ _ rfl Try.underlying34 Try.sizeOf2 hc16.1 (by rw [intsD_length]; exact hc16.2) rfl rfl rfl) ?_
         refine AOps_q 55 _ rfl rfl rfl (QOp_load_eptr _ _ _ _ _ _ _ rfl Try.isAgg2 rfl rfl (intsD_get _ _ 0 (by omega))) ?_
         refine kM 1 rfl ?_
         refine AOps_q 57 _ rfl rfl rfl (QOp_or _ _ _ _ _ _ _ rfl rfl rfl) ?_
         obtain ⟨hc17, h⟩ := guardO h
         refine AOps_q 58 _ rfl rfl rfl (QOp_indexAddr_vec _ _ _ _ _ _ _ _ _ rfl Try.underlying34 Try.sizeOf2 hc17.1 (by rw [intsD_length]; exact hc17.2) rfl rfl rfl) ?_
         refine AOps_store_eptr _ _ _ _ _ _ (intsD x7) _ rfl rfl rfl rfl rfl rfl rfl Try.sizeOf2 (by rw [intsD_length]; omega) ?_
         rw [intsD_set]
         refine AOps_nil ?_
         cases h
         exact Weak_keep 0 hm [0, 3, 4, 5, 6] [0] _ _ rfl rfl rfl
        refine ACode_skip ?_
        cases h
        exact Weak_keep 0 hm [0, 3, 4, 5, 6] [0] _ _ rfl rfl rfl
       refine (ACode_region ?_)
       refine kM 1 rfl ?_
       refine AOps_q 25 _ rfl rfl rfl (QOp_add _ _ _ _ _ _ _ rfl rfl rfl) ?_
       refine kN 1 rfl ?_
       exact ⟨k1, _, _, Nat.lt_succ_self _, Weak_keep 0 hm [0, 3, 4, 5, 6] [0] _ _ rfl rfl rfl, _, _, rfl, rfl, h⟩
      refine ACode_exit ?_
      cases h
      exact Weak_keep 0 hm [0, 3, 4, 5] [0] _ _ rfl rfl rfl
    refine (ACode_region ?_)
    refine kM 1 rfl ?_
    refine AOps_q 20 _ rfl rfl rfl (QOp_add _ _ _ _ _ _ _ rfl rfl rfl) ?_
    refine kN 1 rfl ?_
    exact ⟨k0, _, _, Nat.lt_succ_self _, Weak_keep 0 hm [0, 3, 4, 5] [0] _ _ rfl rfl rfl, _, _, rfl, rfl, h⟩
   refine ACode_exit ?_
   cases h
   exact Weak_keep 0 hm [4] [0] _ _ rfl rfl rfl
 refine kR ?_
 refine kN 2 rfl ?_
 refine ACode_ret ?_
 cases h
 exact ⟨_, _, Weak_reset 0 hm hz [2] _ _ rfl rfl, _, _, [0], _, (.cons (ResV_tmp _ _ rfl) .nil), rfl, rfl, rfl, rfl, rfl⟩

-- loop.example/g01362/spec.l01Ones
def spec_l01Ones_l0 : Nat → Int → Int → Option (Int)
 | 0, _, _ => none
 | k0 + 1, x1, x2 => (if decide (0 < x1) then spec_l01Ones_l0 k0 (w64 (x1.tdiv 2)) (w64 (x2 + (x1.tmod 2))) else some x2)
def spec_l01Ones (k : Nat) (p0 : Int) : Option (Int) :=
 (spec_l01Ones_l0 k p0 0 : Option (Int)).bind fun s4 => some s4
set_option maxRecDepth 100000 in
theorem spec_l01Ones_ac (k : Nat) (p0 : Int) (r : Int) (h : spec_l01Ones k p0 = some r) : AC Try.prog 82 [iV p0] [] (fun res H' => res = [iV r] ∧ H' = []) := by
 refine AC_of_body true Try.func82 rfl Try.ntmps82 (rvs := [.tmp 2]) rfl rfl (fun G hG => ?_)
 have hm : G.H.length = 0 := by rw [hG]; rfl
 have hz : zeroG G.H = true := by rw [hG]; rfl
 unfold spec_l01Ones at h
 refine kR ?_
 refine kN 1 rfl ?_
 refine kR ?_
 refine kN 1 rfl ?_
 refine kB (fun s4 => [(3, iV s4)]) (fun s4 => []) h (fun s4 h => ?_) (fun s4 h => ?_)
 ·refine ACode_block ?_
  refine ACode_loopW (fun k0 E H => ∃ (x1 : Int) (x2 : Int), E = [(0, iV x1), (3, iV x2)] ∧ H = [] ∧ spec_l01Ones_l0 k0 x1 x2 = some s4) k _ _ (Weak_keep 0 hm [0, 3] [] _ _ rfl rfl rfl) ⟨_, _, rfl, rfl, h⟩ ?_
  clear h
  rintro k0 E H ⟨x1, x2, rfl, rfl, h⟩
  cases k0 with
  | zero => cases (show (none : Option (Int)) = some _ from h)
  | succ k0 =>
   rw [spec_l01Ones_l0] at h
   refine ACode_seq ?_
   refine kR ?_
   refine kM 1 rfl ?_
   refine AOps_q 5 _ rfl rfl rfl (QOp_gtr _ _ _ _ _ _ _ rfl rfl rfl) ?_
   refine AOps_nil ?_
   refine kI h rfl (fun h _ => ?_) (fun h _ => ?_)
   ·refine ACode_skip ?_
    refine ACode_seq ?_
    refine ACode_block ?_
    refine (ACode_region ?_)
    refine kM 2 rfl ?_
    refine AOps_q 10 _ rfl rfl rfl (QOp_rem _ _ _ _ _ _ _ (by decide) rfl rfl rfl) ?_
    refine AOps_q 11 _ rfl rfl rfl (QOp_add _ _ _ _ _ _ _ rfl rfl rfl) ?_
    refine kN 1 rfl ?_
    refine (ACode_region ?_)
    refine kM 1 rfl ?_
    refine AOps_q 7 _ rfl rfl rfl (QOp_quo _ _ _ _ _ _ _ (by decide) rfl rfl rfl) ?_
    refine kN 1 rfl ?_
    exact ⟨k0, _, _, Nat.lt_succ_self _, Weak_keep 0 hm [0, 3] [] _ _ rfl rfl rfl, _, _, rfl, rfl, h⟩
   refine ACode_exit ?_
   cases h
   exact Weak_keep 0 hm [3] [] _ _ rfl rfl rfl
 refine kR ?_
 refine kN 2 rfl ?_
 refine ACode_ret ?_
 cases h
 exact ⟨_, _, fun r a w h => ⟨r, h⟩, _, _, [], _, (.cons (ResV_tmp _ _ rfl) .nil), rfl, rfl, rfl, rfl, rfl⟩

-- loop.example/g01362/spec.l04Path
def spec_l04Path_l0 (k : Nat) (r2 : List Int) : Nat → Int → Int → Option (Int)
 | 0, _, _ => none
 | k0 + 1, x3, x4 => (if decide (x4 < (r2.length : Int)) then ((if 0 ≤ x4 ∧ x4 < (r2.length : Int) then (if !decide ((r2.getD x4.toNat 0) = 0) then (spec_l01Ones k x4).bind fun r8 => some (if x3 < r8 then r8 else x3) else some x3) else none) : Option (Int)).bind fun s9 => spec_l04Path_l0 k r2 k0 s9 (w64 (x4 + 1)) else some x3)
def spec_l04Path_l1 (k : Nat) (r2 : List Int) (s10 : Int) : Nat → Int → (List Int) → Option (List Int)
 | 0, _, _ => none
 | k1 + 1, x11, x12 => (if decide (x11 < (r2.length : Int)) then (((if 0 ≤ x11 ∧ x11 < (r2.length : Int) then (if !decide ((r2.getD x11.toNat 0) = 0) then (spec_l01Ones k x11).bind fun r16 => some (decide (r16 = s10)) else some false) else none) : Option (Bool)).bind fun s17 => (if s17 then (if x12.length + ([x11]).length ≤ 1099511627776 then some (x12 ++ ([x11])) else none) else some x12) : Option (List Int)).bind fun s20 => spec_l04Path_l1 k r2 s10 k1 (w64 (x11 + 1)) s20 else some x12)
def spec_l04Path_l4 (r2 : List Int) (x22 : Int) (x23 : List Int) (x27 : Int) : Nat → Int → Int → Option (Int)
 | 0, _, _ => none
 | k4 + 1, x32, x33 => (((if decide (x33 < (x23.length : Int)) then (if decide (x32 < 0) then (if 0 ≤ IntKind.u64.wrap x27 then some (decide (bAnd .i64 (bShr .i64 x22 (IntKind.u64.wrap x27)) 1 = 1)) else none) else some false) else some false) : Option (Bool)).bind fun s37 => (if s37 then some (.inl ()) else (some x32).bind fun rr => some (.inr rr)) : Option (Sum (Unit) (Int))).bind fun os39 => (match os39 with | .inl s39 => ((if 0 ≤ x33 ∧ x33 < (x23.length : Int) then (if 0 ≤ (x23.getD x33.toNat 0) ∧ (x23.getD x33.toNat 0) < (r2.length : Int) then (if 0 ≤ IntKind.u64.wrap x27 then (if decide (bAnd .i64 (bShr .i64 (r2.getD (x23.getD x33.toNat 0).toNat 0) (IntKind.u64.wrap x27)) 1 = 1) then some x27 else some x32) else none) else none) else none) : Option (Int)).bind fun s44 => spec_l04Path_l4 r2 x22 x23 x27 k4 s44 (w64 (x33 + 1)) | .inr rr => some rr)
def spec_l04Path_l3 (k : Nat) (p0 : Col) (r2 : List Int) (x22 : Int) (x23 : List Int) : Nat → Int → Int → Option (Int)
 | 0, _, _ => none
 | k3 + 1, x26, x27 => (letO (if decide (x27 < p0.p) then decide (x26 < 0) else false) fun (s29 : Bool) => (if s29 then some (.inl ()) else (some x26).bind fun rr => some (.inr rr)) : Option (Sum (Unit) (Int))).bind fun os31 => (match os31 with | .inl s31 => (spec_l04Path_l4 r2 x22 x23 x27 k x26 0 : Option (Int)).bind fun s45 => spec_l04Path_l3 k p0 r2 x22 x23 k3 s45 (w64 (x27 + 1)) | .inr rr => some rr)
def spec_l04Path_l5 (r2 : List Int) (x23 : List Int) (s46 : Int) : Nat → Int → (List Int) → Option (List Int)
 | 0, _, _ => none
 | k5 + 1, x47, x48 => (if decide (x47 < (x23.length : Int)) then ((if 0 ≤ x47 ∧ x47 < (x23.length : Int) then (if 0 ≤ (x23.getD x47.toNat 0) ∧ (x23.getD x47.toNat 0) < (r2.length : Int) then (if 0 ≤ IntKind.u64.wrap s46 then (if decide (bAnd .i64 (bShr .i64 (r2.getD (x23.getD x47.toNat 0).toNat 0) (IntKind.u64.wrap s46)) 1 = 1) then (if 0 ≤ x47 ∧ x47 < (x23.length : Int) then (if 0 ≤ IntKind.u64.wrap s46 then (if x48.length + ([bXor .i64 (x23.getD x47.toNat 0) (bShl .i64 1 (IntKind.u64.wrap s46))]).length ≤ 1099511627776 then some (x48 ++ ([bXor .i64 (x23.getD x47.toNat 0) (bShl .i64 1 (IntKind.u64.wrap s46))])) else none) else none) else none) else some x48) else none) else none) else none) : Option (List Int)).bind fun s57 => spec_l04Path_l5 r2 x23 s46 k5 (w64 (x47 + 1)) s57 else some x48)
def spec_l04Path_l2 (k : Nat) (p0 : Col) (r1 : List Int) (r2 : List Int) (s10 : Int) : Nat → Int → (List Int) → (List Int) → Option (List Int)
 | 0, _, _, _ => none
 | k2 + 1, x22, x23, x24 => (if decide ((x24.length : Int) < s10) then ((spec_l04Path_l3 k p0 r2 x22 x23 k (-1) 0 : Option (Int)).bind fun s46 => (spec_l04Path_l5 r2 x23 s46 k 0 ([] : List Int) : Option (List Int)).bind fun s58 => (if x24.length + ([s46]).length ≤ 1099511627776 then (if 0 ≤ s46 ∧ s46 < (r1.length : Int) then some ((r1.getD s46.toNat 0), s58, (x24 ++ ([s46]))) else none) else none) : Option (Int × List Int × List Int)).bind fun s61 => spec_l04Path_l2 k p0 r1 r2 s10 k2 s61.1 s61.2.1 s61.2.2 else some x24)
def spec_l04Path (k : Nat) (p0 : Col) (p1 : Int) : Option (List Int) :=
 (spec_l02Rows k p0 p1).bind fun r1 => (spec_l04Ends k r1).bind fun r2 => (spec_l04Path_l0 k r2 k 0 0 : Option (Int)).bind fun s10 => (spec_l04Path_l1 k r2 s10 k 0 ([] : List Int) : Option (List Int)).bind fun s21 => (spec_l04Path_l2 k p0 r1 r2 s10 k (w64 ((r2.length : Int) - 1)) s21 ([] : List Int) : Option (List Int)).bind fun s62 => some s62
set_option maxRecDepth 100000 in
theorem spec_l04Path_ac (k : Nat) (p0 : Col) (p1 : Int) (r : List Int) (h : spec_l04Path k p0 p1 = some r) : AC Try.prog 40 [.d (.agg (colD p0)), iV p1] [] (fun res H' => res = [.vec 0 0] ∧ H' = [.vec 0 (intsD r)]) := by
 refine AC_of_body true Try.func40 rfl Try.ntmps40 (rvs := [.tmp 4]) rfl rfl (fun G hG => ?_)
 have hm : G.H.length = 0 := by rw [hG]; rfl
 have hz : zeroG G.H = true := by rw [hG]; rfl
 unfold spec_l04Path at h
 refine kR ?_
 refine AOps_boxI 2 _ _ (.agg (colD p0)) (colD p0) rfl (colD_one _) rfl rfl rfl rfl rfl ?_
 refine kN 1 rfl ?_
 refine kR ?_
 refine AOps_q 18 _ rfl rfl rfl (QOp_loadN_pv _ _ _ _ _ _ rfl Try.isAgg27 Try.sizeOf27 rfl (colD_all _) (colD_length _)) ?_
 refine kM 1 rfl ?_
 obtain ⟨r1, hr1, h⟩ := bindO h
 refine kC [] 20 (.vec 0 0) [.vec 0 (intsD r1)] rfl Try.call80 rfl rfl (spec_l02Rows_ac k p0 p1 _ hr1) rfl ?_
 refine kN 1 rfl ?_
 refine kR ?_
 refine kM 1 rfl ?_
 obtain ⟨r2, hr2, h⟩ := bindO h
 refine AOps_callL [] 22 _ _ _ _ _ _ _ _ _ _ rfl rfl rfl rfl rfl rfl rfl Try.call81 rfl (nodupB_sound _ rfl) rfl rfl rfl (spec_l04Ends_ac k r1 _ hr2) ?_
 rintro _ _ ⟨rfl, rfl⟩
 refine ⟨(allc (intsD_flat _) (fun _ h => nomatch h)), (allc (trivial) (fun _ h => nomatch h)), AOps_as 22 (v' := .vec 1 0) (H' := [.vec 0 (intsD r1), .vec 0 (intsD r2)]) rfl rfl ?_⟩
 refine kN 2 rfl ?_
 refine kB (fun s10 => [(2, .d (.pv (colD p0) 0)), (5, .vec 0 0), (6, .vec 1 0), (7, iV s10)]) (fun s10 => [.vec 0 (intsD r1), .vec 0 (intsD r2)]) h (fun s10 h => ?_) (fun s10 h => ?_)
 ·refine kR ?_
  refine kN 1 rfl ?_
  refine ACode_block ?_
  refine ACode_loopW (fun k0 E H => ∃ (x3 : Int) (x4 : Int), E = [(2, .d (.pv (colD p0) 0)), (5, .vec 0 0), (6, .vec 1 0), (7, iV x3), (8, iV x4)] ∧ H = [.vec 0 (intsD r1), .vec 0 (intsD r2)] ∧ spec_l04Path_l0 k r2 k0 x3 x4 = some s10) k _ _ (Weak_keep 0 hm [2, 5, 6, 7, 8] [0, 1] _ _ rfl rfl rfl) ⟨_, _, rfl, rfl, h⟩ ?_
  clear h
  rintro k0 E H ⟨x3, x4, rfl, rfl, h⟩
  cases k0 with
  | zero => cases (show (none : Option (Int)) = some _ from h)
  | succ k0 =>
   rw [spec_l04Path_l0] at h
   refine ACode_seq ?_
   refine kR ?_
   refine kM 2 rfl ?_
   refine AOps_q 25 _ rfl rfl rfl (QOp_len_vec _ _ _ _ _ _ _ _ (intsD_length _) rfl rfl rfl rfl Try.underlying34 rfl rfl) ?_
   refine AOps_q 26 _ rfl rfl rfl (QOp_lss _ _ _ _ _ _ _ rfl rfl rfl) ?_
   refine AOps_nil ?_
   refine kI h rfl (fun h _ => ?_) (fun h _ => ?_)
   ·refine ACode_skip ?_
    refine kB (fun s9 => [(2, .d (.pv (colD p0) 0)), (5, .vec 0 0), (6, .vec 1 0), (7, iV s9), (8, iV x4)]) (fun s9 => [.vec 0 (intsD r1), .vec 0 (intsD r2)]) h (fun s9 h => ?_) (fun s9 h => ?_)
    ·refine ACode_block ?_
     refine kR ?_
     refine kM 2 rfl ?_
     obtain ⟨hc6, h⟩ := guardO h
     refine AOps_q 31 _ rfl rfl rfl (QOp_indexAddr_vec _ _ _ _ _ _ _ _ _ rfl Try.underlying34 Try.sizeOf2 hc6.1 (by rw [intsD_length]; exact hc6.2) rfl rfl rfl) ?_
     refine AOps_q 32 _ rfl rfl rfl (QOp_load_eptr _ _ _ _ _ _ _ rfl Try.isAgg2 rfl rfl (intsD_get _ _ 0 (by omega))) ?_
     refine AOps_q 33 _ rfl rfl rfl (QOp_neq _ _ _ _ _ _ _ rfl rfl rfl) ?_
     refine AOps_nil ?_
     refine kI h rfl (fun h _ => ?_) (fun h _ => ?_)
     ·refine (ACode_region ?_)
      refine kM 2 rfl ?_
      obtain ⟨r8, hr8, h⟩ := bindO h
      refine kC [] 36 (iV r8) [.vec 0 (intsD r1), .vec 0 (intsD r2)] rfl Try.call82 rfl rfl (spec_l01Ones_ac k x4 _ hr8) rfl ?_
      refine AOps_q 37 _ rfl rfl rfl (QOp_max _ _ _ _ _ _ rfl rfl rfl rfl rfl) ?_
      refine kN 1 rfl ?_
      cases h
      exact Weak_keep 0 hm [2, 5, 6, 7, 8] [0, 1] _ _ rfl rfl rfl
     refine ACode_skip ?_
     cases h
     exact Weak_keep 0 hm [2, 5, 6, 7, 8] [0, 1] _ _ rfl rfl rfl
    refine (ACode_region ?_)
    refine kM 1 rfl ?_
    refine AOps_q 28 _ rfl rfl rfl (QOp_add _ _ _ _ _ _ _ rfl rfl rfl) ?_
    refine kN 1 rfl ?_
    exact ⟨k0, _, _, Nat.lt_succ_self _, Weak_keep 0 hm [2, 5, 6, 7, 8] [0, 1] _ _ rfl rfl rfl, _, _, rfl, rfl, h⟩
   refine ACode_exit ?_
   cases h
   exact Weak_keep 0 hm [2, 5, 6, 7] [0, 1] _ _ rfl rfl rfl
 refine kR ?_
 refine AOps_buildSlice 38 _ _ _ [] (intsD ([] : List Int)) _ rfl rfl rfl rfl rfl (by decide) Try.underlying34 Try.sizeOf2 (zero_of Try.typeInfo2 rfl) rfl rfl (intsD_one _) ?_
 refine kN 1 rfl ?_
 refine kB (fun s21 => [(2, .d (.pv (colD p0) 0)), (5, .vec 0 0), (6, .vec 1 0), (7, iV s10), (9, .vec 2 0)]) (fun s21 => [.vec 0 (intsD r1), .vec 0 (intsD r2), .vec 0 (intsD s21)]) h (fun s21 h => ?_) (fun s21 h => ?_)
 ·refine kR ?_
  refine kN 1 rfl ?_
  refine ACode_block ?_
  refine ACode_loopW (fun k1 E H => ∃ (x11 : Int) (x12 : List Int), E = [(2, .d (.pv (colD p0) 0)), (5, .vec 0 0), (6, .vec 1 0), (7, iV s10), (9, .vec 2 0), (10, iV x11)] ∧ H = [.vec 0 (intsD r1), .vec 0 (intsD r2), .vec 0 (intsD x12)] ∧ spec_l04Path_l1 k r2 s10 k1 x11 x12 = some s21) k _ _ (Weak_keep 0 hm [2, 5, 6, 7, 9, 10] [0, 1, 2] _ _ rfl rfl rfl) ⟨_, _, rfl, rfl, h⟩ ?_
  clear h
  rintro k1 E H ⟨x11, x12, rfl, rfl, h⟩
  cases k1 with
  | zero => cases (show (none : Option (List Int)) = some _ from h)
  | succ k1 =>
   rw [spec_l04Path_l1] at h
   refine ACode_seq ?_
   refine kR ?_
   refine kM 2 rfl ?_
   refine AOps_q 41 _ rfl rfl rfl (QOp_len_vec _ _ _ _ _ _ _ _ (intsD_length _) rfl rfl rfl rfl Try.underlying34 rfl rfl) ?_
   refine AOps_q 42 _ rfl rfl rfl (QOp_lss _ _ _ _ _ _ _ rfl rfl rfl) ?_
   refine AOps_nil ?_
   refine kI h rfl (fun h _ => ?_) (fun h _ => ?_)
   ·refine ACode_skip ?_
    refine kB (fun s20 => [(2, .d (.pv (colD p0) 0)), (5, .vec 0 0), (6, .vec 1 0), (7, iV s10), (9, .vec 2 0), (10, iV x11)]) (fun s20 => [.vec 0 (intsD r1), .vec 0 (intsD r2), .vec 0 (intsD s20)]) h (fun s20 h => ?_) (fun s20 h => ?_)
    ·refine ACode_block ?_
     refine kB (fun s17 => [(2, .d (.pv (colD p0) 0)), (5, .vec 0 0), (6, .vec 1 0), (7, iV s10), (9, .vec 2 0), (10, iV x11), (55, bV s17)]) (fun s17 => [.vec 0 (intsD r1), .vec 0 (intsD r2), .vec 0 (intsD x12)]) h (fun s17 h => ?_) (fun s17 h => ?_)
     ·refine (ACode_region ?_)
      refine kM 2 rfl ?_
      obtain ⟨hc14, h⟩ := guardO h
      refine AOps_q 47 _ rfl rfl rfl (QOp_indexAddr_vec _ _ _ _ _ _ _ _ _ rfl Try.underlying34 Try.sizeOf2 hc14.1 (by rw [intsD_length]; exact hc14.2) rfl rfl rfl) ?_
      refine AOps_q 48 _ rfl rfl rfl (QOp_load_eptr _ _ _ _ _ _ _ rfl Try.isAgg2 rfl rfl (intsD_get _ _ 0 (by omega))) ?_
      refine AOps_q 49 _ rfl rfl rfl (QOp_neq _ _ _ _ _ _ _ rfl rfl rfl) ?_
      refine kM 1 rfl ?_
      refine AOps_case 50 _ rfl (fun hb15 => ?_) (fun hb15 => ?_)
      ·have h := iteT hb15 h
       refine kM 1 rfl ?_
       obtain ⟨r16, hr16, h⟩ := bindO h
       refine kC [] 52 (iV r16) [.vec 0 (intsD r1), .vec 0 (intsD r2), .vec 0 (intsD x12)] rfl Try.call82 rfl rfl (spec_l01Ones_ac k x11 _ hr16) rfl ?_
       refine kM 1 rfl ?_
       refine AOps_q 54 _ rfl rfl rfl (QOp_eql _ _ _ _ _ _ _ rfl rfl rfl) ?_
       refine kN 1 rfl ?_
       cases h
       exact Weak_keep 0 hm [2, 5, 6, 7, 9, 10, 55] [0, 1, 2] _ _ rfl rfl rfl
      have h := iteF hb15 h
      refine AOps_skip 51 rfl rfl rfl ?_
      refine AOps_skip 52 rfl rfl rfl ?_
      refine AOps_skip 53 rfl rfl rfl ?_
      refine AOps_skip 54 rfl rfl rfl ?_
      refine kN 1 rfl ?_
      cases h
      exact Weak_keep 0 hm [2, 5, 6, 7, 9, 10, 55] [0, 1, 2] _ _ rfl rfl rfl
     refine kI h rfl (fun h _ => ?_) (fun h _ => ?_)
     ·refine (ACode_region ?_)
      refine kM 2 rfl ?_
      refine AOps_buildSlice 58 _ _ _ [_] (intsD ([x11])) _ rfl rfl rfl rfl rfl (by decide) Try.underlying34 Try.sizeOf2 (zero_of Try.typeInfo2 rfl) rfl rfl (intsD_one _) ?_
      obtain ⟨hc19, h⟩ := guardO h
      refine AOps_append 59 _ _ _ _ _ _ _ _ _ _ _ _ rfl rfl rfl rfl rfl rfl rfl Try.underlying34 Try.type2 rfl rfl rfl (by decide) rfl rfl rfl rfl (intsD_one _) (by rw [intsD_length, intsD_length]; exact hc19) ?_
      rw [intsD_app]
      refine kN 1 rfl ?_
      cases h
      exact Weak_trans (Weak_keep 0 hm [2, 5, 6, 7, 9, 10] [0, 1, 2] _ _ rfl rfl rfl) (Weak_reset 0 hm hz [2, 5, 6, 7, 9, 10] _ _ rfl rfl)
     refine ACode_skip ?_
     cases h
     exact Weak_keep 0 hm [2, 5, 6, 7, 9, 10] [0, 1, 2] _ _ rfl rfl rfl
    refine (ACode_region ?_)
    refine kM 1 rfl ?_
    refine AOps_q 44 _ rfl rfl rfl (QOp_add _ _ _ _ _ _ _ rfl rfl rfl) ?_
    refine kN 1 rfl ?_
    exact ⟨k1, _, _, Nat.lt_succ_self _, Weak_keep 0 hm [2, 5, 6, 7, 9, 10] [0, 1, 2] _ _ rfl rfl rfl, _, _, rfl, rfl, h⟩
   refine ACode_exit ?_
   cases h
   exact Weak_keep 0 hm [2, 5, 6, 7, 9] [0, 1, 2] _ _ rfl rfl rfl
 refine kR ?_
 refine AOps_buildSlice 60 _ _ _ [] (intsD ([] : List Int)) _ rfl rfl rfl rfl rfl (by decide) Try.underlying34 Try.sizeOf2 (zero_of Try.typeInfo2 rfl) rfl rfl (intsD_one _) ?_
 refine kM 1 rfl ?_
 refine AOps_q 62 _ rfl rfl rfl (QOp_len_vec _ _ _ _ _ _ _ _ (intsD_length _) rfl rfl rfl rfl Try.underlying34 rfl rfl) ?_
 refine AOps_q 63 _ rfl rfl rfl (QOp_sub _ _ _ _ _ _ _ rfl rfl rfl) ?_
 refine kN 2 rfl ?_
 refine kB (fun s62 => [(11, .vec 0 0)]) (fun s62 => [.vec 0 (intsD s62)]) h (fun s62 h => ?_) (fun s62 h => ?_)
 ·refine ACode_block ?_
  refine ACode_loopW (fun k2 E H => ∃ (x22 : Int) (x23 : List Int) (x24 : List Int), E = [(2, .d (.pv (colD p0) 0)), (5, .vec 0 0), (6, .vec 1 0), (7, iV s10), (9, .vec 2 0), (11, .vec 3 0), (12, iV x22)] ∧ H = [.vec 0 (intsD r1), .vec 0 (intsD r2), .vec 0 (intsD x23), .vec 0 (intsD x24)] ∧ spec_l04Path_l2 k p0 r1 r2 s10 k2 x22 x23 x24 = some s62) k _ _ (Weak_keep 0 hm [2, 5, 6, 7, 9, 11, 12] [0, 1, 2, 3] _ _ rfl rfl rfl) ⟨_, _, _, rfl, rfl, h⟩ ?_
  clear h
  rintro k2 E H ⟨x22, x23, x24, rfl, rfl, h⟩
  cases k2 with
  | zero => cases (show (none : Option (List Int)) = some _ from h)
  | succ k2 =>
   rw [spec_l04Path_l2] at h
   refine ACode_seq ?_
   refine kR ?_
   refine kM 1 rfl ?_
   refine AOps_q 65 _ rfl rfl rfl (QOp_len_vec _ _ _ _ _ _ _ _ (intsD_length _) rfl rfl rfl rfl Try.underlying34 rfl rfl) ?_
   refine kM 1 rfl ?_
   refine AOps_q 67 _ rfl rfl rfl (QOp_lss _ _ _ _ _ _ _ rfl rfl rfl) ?_
   refine AOps_nil ?_
   refine kI h rfl (fun h _ => ?_) (fun h _ => ?_)
   ·refine ACode_skip ?_
    obtain ⟨s61, hss61, hks61⟩ := bindO h
    clear h
    refine ACode_tailJ (fun E' H' => Weak 149 G E' H' [(2, .d (.pv (colD p0) 0)), (5, .vec 0 0), (6, .vec 1 0), (7, iV s10), (9, .vec 2 0), (11, .vec 3 0), (12, iV s61.1)] [.vec 0 (intsD r1), .vec 0 (intsD r2), .vec 0 (intsD s61.2.1), .vec 0 (intsD s61.2.2)]) ?_ ?_
    ·have h := hss61
     clear hss61
     refine ACode_block ?_
     refine kR ?_
     refine kN 1 rfl ?_
     refine kB (fun s46 => [(2, .d (.pv (colD p0) 0)), (5, .vec 0 0), (6, .vec 1 0), (7, iV s10), (9, .vec 2 0), (11, .vec 3 0), (13, iV s46)]) (fun s46 => [.vec 0 (intsD r1), .vec 0 (intsD r2), .vec 0 (intsD x23), .vec 0 (intsD x24)]) h (fun s46 h => ?_) (fun s46 h => ?_)
     ·refine kR ?_
      refine kN 1 rfl ?_
      refine ACode_block ?_
      refine ACode_loopW (fun k3 E H => ∃ (x26 : Int) (x27 : Int), E = [(2, .d (.pv (colD p0) 0)), (5, .vec 0 0), (6, .vec 1 0), (7, iV s10), (9, .vec 2 0), (11, .vec 3 0), (12, iV x22), (13, iV x26), (14, iV x27)] ∧ H = [.vec 0 (intsD r1), .vec 0 (intsD r2), .vec 0 (intsD x23), .vec 0 (intsD x24)] ∧ spec_l04Path_l3 k p0 r2 x22 x23 k3 x26 x27 = some s46) k _ _ (Weak_keep 0 hm [2, 5, 6, 7, 9, 11, 12, 13, 14] [0, 1, 2, 3] _ _ rfl rfl rfl) ⟨_, _, rfl, rfl, h⟩ ?_
      clear h
      rintro k3 E H ⟨x26, x27, rfl, rfl, h⟩
      cases k3 with
      | zero => cases (show (none : Option (Int)) = some _ from h)
      | succ k3 =>
       rw [spec_l04Path_l3] at h
       refine kO (fun s31 => [(2, .d (.pv (colD p0) 0)), (5, .vec 0 0), (6, .vec 1 0), (7, iV s10), (9, .vec 2 0), (11, .vec 3 0), (12, iV x22), (13, iV x26), (14, iV x27)]) (fun s31 => [.vec 0 (intsD r1), .vec 0 (intsD r2), .vec 0 (intsD x23), .vec 0 (intsD x24)]) h (fun os31 h hks31 => ?_) (fun s31 h => ?_)
       ·refine kL (fun s29 => [(2, .d (.pv (colD p0) 0)), (5, .vec 0 0), (6, .vec 1 0), (7, iV s10), (9, .vec 2 0), (11, .vec 3 0), (12, iV x22), (13, iV x26), (14, iV x27), (75, bV s29)]) (fun s29 => [.vec 0 (intsD r1), .vec 0 (intsD r2), .vec 0 (intsD x23), .vec 0 (intsD x24)]) h (fun s29 h => ?_) (fun s29 h => ?_)
        ·refine (ACode_region ?_)
         refine kM 1 rfl ?_
         refine AOps_q 69 _ rfl rfl rfl (QOp_fieldAddr_pv _ _ _ _ _ 0 _ _ rfl Try.underlying27 rfl _ Try.sizeOf2 rfl rfl) ?_
         refine AOps_q 70 _ rfl rfl rfl (QOp_load_pv _ _ _ _ _ rfl Try.isAgg2 rfl rfl) ?_
         refine AOps_q 71 _ rfl rfl rfl (QOp_lss _ _ _ _ _ _ _ rfl rfl rfl) ?_
         refine kM 1 rfl ?_
         refine AOps_case 72 _ rfl (fun hb28 => ?_) (fun hb28 => ?_)
         ·have h := iteT hb28 h
          refine kM 1 rfl ?_
          refine AOps_q 74 _ rfl rfl rfl (QOp_lss _ _ _ _ _ _ _ rfl rfl rfl) ?_
          refine kN 1 rfl ?_
          cases h
          exact Weak_keep 0 hm [2, 5, 6, 7, 9, 11, 12, 13, 14, 75] [0, 1, 2, 3] _ _ rfl rfl rfl
         have h := iteF hb28 h
         refine AOps_skip 73 rfl rfl rfl ?_
         refine AOps_skip 74 rfl rfl rfl ?_
         refine kN 1 rfl ?_
         cases h
         exact Weak_keep 0 hm [2, 5, 6, 7, 9, 11, 12, 13, 14, 75] [0, 1, 2, 3] _ _ rfl rfl rfl
        refine kI h rfl (fun h _ => ?_) (fun h _ => ?_)
        ·refine ACode_skip ?_
         cases h
         exact ⟨_, rfl, Weak_keep 0 hm [2, 5, 6, 7, 9, 11, 12, 13, 14] [0, 1, 2, 3] _ _ rfl rfl rfl⟩
        refine ACode_exit ?_
        obtain ⟨rr, hz63, h2⟩ := bindO h
        obtain rfl := Option.some.inj h2
        obtain rfl := Option.some.inj (show some rr = some _ from hks31)
        have h := hz63
        cases h
        exact Weak_keep 0 hm [2, 5, 6, 7, 9, 11, 13] [0, 1, 2, 3] _ _ rfl rfl rfl
       refine kB (fun s45 => [(2, .d (.pv (colD p0) 0)), (5, .vec 0 0), (6, .vec 1 0), (7, iV s10), (9, .vec 2 0), (11, .vec 3 0), (12, iV x22), (13, iV s45), (14, iV x27)]) (fun s45 => [.vec 0 (intsD r1), .vec 0 (intsD r2), .vec 0 (intsD x23), .vec 0 (intsD x24)]) h (fun s45 h => ?_) (fun s45 h => ?_)
       ·refine ACode_block ?_
        refine kR ?_
        refine kN 1 rfl ?_
        refine ACode_block ?_
        refine ACode_loopW (fun k4 E H => ∃ (x32 : Int) (x33 : Int), E = [(2, .d (.pv (colD p0) 0)), (5, .vec 0 0), (6, .vec 1 0), (7, iV s10), (9, .vec 2 0), (11, .vec 3 0), (12, iV x22), (13, iV x32), (14, iV x27), (15, iV x33)] ∧ H = [.vec 0 (intsD r1), .vec 0 (intsD r2), .vec 0 (intsD x23), .vec 0 (intsD x24)] ∧ spec_l04Path_l4 r2 x22 x23 x27 k4 x32 x33 = some s45) k _ _ (Weak_keep 0 hm [2, 5, 6, 7, 9, 11, 12, 13, 14, 15] [0, 1, 2, 3] _ _ rfl rfl rfl) ⟨_, _, rfl, rfl, h⟩ ?_
        clear h
        rintro k4 E H ⟨x32, x33, rfl, rfl, h⟩
        cases k4 with
        | zero => cases (show (none : Option (Int)) = some _ from h)
        | succ k4 =>
         rw [spec_l04Path_l4] at h
         refine kO (fun s39 => [(2, .d (.pv (colD p0) 0)), (5, .vec 0 0), (6, .vec 1 0), (7, iV s10), (9, .vec 2 0), (11, .vec 3 0), (12, iV x22), (13, iV x32), (14, iV x27), (15, iV x33)]) (fun s39 => [.vec 0 (intsD r1), .vec 0 (intsD r2), .vec 0 (intsD x23), .vec 0 (intsD x24)]) h (fun os39 h hks39 => ?_) (fun s39 h => ?_)
         ·refine kB (fun s37 => [(2, .d (.pv (colD p0) 0)), (5, .vec 0 0), (6, .vec 1 0), (7, iV s10), (9, .vec 2 0), (11, .vec 3 0), (12, iV x22), (13, iV x32), (14, iV x27), (15, iV x33), (93, bV s37)]) (fun s37 => [.vec 0 (intsD r1), .vec 0 (intsD r2), .vec 0 (intsD x23), .vec 0 (intsD x24)]) h (fun s37 h => ?_) (fun s37 h => ?_)
          ·refine (ACode_region ?_)
           refine kM 2 rfl ?_
           refine AOps_q 80 _ rfl rfl rfl (QOp_len_vec _ _ _ _ _ _ _ _ (intsD_length _) rfl rfl rfl rfl Try.underlying34 rfl rfl) ?_
           refine AOps_q 81 _ rfl rfl rfl (QOp_lss _ _ _ _ _ _ _ rfl rfl rfl) ?_
           refine kM 1 rfl ?_
           refine AOps_case 82 _ rfl (fun hb34 => ?_) (fun hb34 => ?_)
           ·have h := iteT hb34 h
            refine kM 1 rfl ?_
            refine AOps_q 84 _ rfl rfl rfl (QOp_lss _ _ _ _ _ _ _ rfl rfl rfl) ?_
            refine kM 2 rfl ?_
            refine AOps_case 86 _ rfl (fun hb35 => ?_) (fun hb35 => ?_)
            ·have h := iteT hb35 h
             refine kM 2 rfl ?_
             refine AOps_q 89 _ rfl rfl rfl (QOp_conv _ _ _ _ _ _ rfl rfl Try.underlying93 rfl) ?_
             obtain ⟨hc36, h⟩ := guardO h
             refine AOps_q 90 _ rfl rfl rfl (QOp_shr _ _ _ _ _ _ _ _ hc36 rfl rfl rfl) ?_
             refine AOps_q 91 _ rfl rfl rfl (QOp_and _ _ _ _ _ _ _ rfl rfl rfl) ?_
             refine AOps_q 92 _ rfl rfl rfl (QOp_eql _ _ _ _ _ _ _ rfl rfl rfl) ?_
             refine kN 1 rfl ?_
             cases h
             exact Weak_keep 0 hm [2, 5, 6, 7, 9, 11, 12, 13, 14, 15, 93] [0, 1, 2, 3] _ _ rfl rfl rfl
            have h := iteF hb35 h
            refine AOps_skip 87 rfl rfl rfl ?_
            refine AOps_skip 88 rfl rfl rfl ?_
            refine AOps_skip 89 rfl rfl rfl ?_
            refine AOps_skip 90 rfl rfl rfl ?_
            refine AOps_skip 91 rfl rfl rfl ?_
            refine AOps_skip 92 rfl rfl rfl ?_
            refine kN 1 rfl ?_
            cases h
            exact Weak_keep 0 hm [2, 5, 6, 7, 9, 11, 12, 13, 14, 15, 93] [0, 1, 2, 3] _ _ rfl rfl rfl
           have h := iteF hb34 h
           refine AOps_skip 83 rfl rfl rfl ?_
           refine AOps_skip 84 rfl rfl rfl ?_
           refine kM 2 rfl ?_
           refine AOps_skip 87 rfl rfl rfl ?_
           refine AOps_skip 88 rfl rfl rfl ?_
           refine AOps_skip 89 rfl rfl rfl ?_
           refine AOps_skip 90 rfl rfl rfl ?_
           refine AOps_skip 91 rfl rfl rfl ?_
           refine AOps_skip 92 rfl rfl rfl ?_
           refine kN 1 rfl ?_
           cases h
           exact Weak_keep 0 hm [2, 5, 6, 7, 9, 11, 12, 13, 14, 15, 93] [0, 1, 2, 3] _ _ rfl rfl rfl
          refine kI h rfl (fun h _ => ?_) (fun h _ => ?_)
          ·refine ACode_skip ?_
           cases h
           exact ⟨_, rfl, Weak_keep 0 hm [2, 5, 6, 7, 9, 11, 12, 13, 14, 15] [0, 1, 2, 3] _ _ rfl rfl rfl⟩
          refine ACode_exit ?_
          obtain ⟨rr, hz64, h2⟩ := bindO h
          obtain rfl := Option.some.inj h2
          obtain rfl := Option.some.inj (show some rr = some _ from hks39)
          have h := hz64
          cases h
          exact Weak_keep 0 hm [2, 5, 6, 7, 9, 11, 12, 13, 14] [0, 1, 2, 3] _ _ rfl rfl rfl
         refine kB (fun s44 => [(2, .d (.pv (colD p0) 0)), (5, .vec 0 0), (6, .vec 1 0), (7, iV s10), (9, .vec 2 0), (11, .vec 3 0), (12, iV x22), (13, iV s44), (14, iV x27), (15, iV x33)]) (fun s44 => [.vec 0 (intsD r1), .vec 0 (intsD r2), .vec 0 (intsD x23), .vec 0 (intsD x24)]) h (fun s44 h => ?_) (fun s44 h => ?_)
         ·refine ACode_block ?_
          refine kR ?_
          refine kM 3 rfl ?_
          obtain ⟨hc40, h⟩ := guardO h
          refine AOps_q 99 _ rfl rfl rfl (QOp_indexAddr_vec _ _ _ _ _ _ _ _ _ rfl Try.underlying34 Try.sizeOf2 hc40.1 (by rw [intsD_length]; exact hc40.2) rfl rfl rfl) ?_
          refine AOps_q 100 _ rfl rfl rfl (QOp_load_eptr _ _ _ _ _ _ _ rfl Try.isAgg2 rfl rfl (intsD_get _ _ 0 (by omega))) ?_
          obtain ⟨hc41, h⟩ := guardO h
          refine AOps_q 101 _ rfl rfl rfl (QOp_indexAddr_vec _ _ _ _ _ _ _ _ _ rfl Try.underlying34 Try.sizeOf2 hc41.1 (by rw [intsD_length]; exact hc41.2) rfl rfl rfl) ?_
          refine AOps_q 102 _ rfl rfl rfl (QOp_load_eptr _ _ _ _ _ _ _ rfl Try.isAgg2 rfl rfl (intsD_get _ _ 0 (by omega))) ?_
          refine kM 1 rfl ?_
          refine AOps_q 104 _ rfl rfl rfl (QOp_conv _ _ _ _ _ _ rfl rfl Try.underlying93 rfl) ?_
          obtain ⟨hc42, h⟩ := guardO h
          refine AOps_q 105 _ rfl rfl rfl (QOp_shr _ _ _ _ _ _ _ _ hc42 rfl rfl rfl) ?_
          refine AOps_q 106 _ rfl rfl rfl (QOp_and _ _ _ _ _ _ _ rfl rfl rfl) ?_
          refine AOps_q 107 _ rfl rfl rfl (QOp_eql _ _ _ _ _ _ _ rfl rfl rfl) ?_
          refine AOps_nil ?_
          refine kI h rfl (fun h _ => ?_) (fun h _ => ?_)
          ·refine (ACode_region ?_)
           refine kN 2 rfl ?_
           cases h
           exact Weak_keep 0 hm [2, 5, 6, 7, 9, 11, 12, 13, 14, 15] [0, 1, 2, 3] _ _ rfl rfl rfl
          refine ACode_skip ?_
          cases h
          exact Weak_keep 0 hm [2, 5, 6, 7, 9, 11, 12, 13, 14, 15] [0, 1, 2, 3] _ _ rfl rfl rfl
         refine (ACode_region ?_)
         refine kM 1 rfl ?_
         refine AOps_q 95 _ rfl rfl rfl (QOp_add _ _ _ _ _ _ _ rfl rfl rfl) ?_
         refine kN 1 rfl ?_
         exact ⟨k4, _, _, Nat.lt_succ_self _, Weak_keep 0 hm [2, 5, 6, 7, 9, 11, 12, 13, 14, 15] [0, 1, 2, 3] _ _ rfl rfl rfl, _, _, rfl, rfl, h⟩
       refine (ACode_region ?_)
       refine kM 1 rfl ?_
       refine AOps_q 77 _ rfl rfl rfl (QOp_add _ _ _ _ _ _ _ rfl rfl rfl) ?_
       refine kN 1 rfl ?_
       exact ⟨k3, _, _, Nat.lt_succ_self _, Weak_keep 0 hm [2, 5, 6, 7, 9, 11, 12, 13, 14] [0, 1, 2, 3] _ _ rfl rfl rfl, _, _, rfl, rfl, h⟩
     refine kR ?_
     refine AOps_buildSlice 109 _ _ _ [] (intsD ([] : List Int)) _ rfl rfl rfl rfl rfl (by decide) Try.underlying34 Try.sizeOf2 (zero_of Try.typeInfo2 rfl) rfl rfl (intsD_one _) ?_
     refine kN 1 rfl ?_
     refine kB (fun s58 => [(2, .d (.pv (colD p0) 0)), (5, .vec 0 0), (6, .vec 1 0), (7, iV s10), (11, .vec 2 0), (13, iV s46), (16, .vec 3 0)]) (fun s58 => [.vec 0 (intsD r1), .vec 0 (intsD r2), .vec 0 (intsD x24), .vec 0 (intsD s58)]) h (fun s58 h => ?_) (fun s58 h => ?_)
     ·refine kR ?_
      refine kN 1 rfl ?_
      refine ACode_block ?_
      refine ACode_loopW (fun k5 E H => ∃ (x47 : Int) (x48 : List Int), E = [(2, .d (.pv (colD p0) 0)), (5, .vec 0 0), (6, .vec 1 0), (7, iV s10), (9, .vec 2 0), (11, .vec 3 0), (13, iV s46), (16, .vec 4 0), (17, iV x47)] ∧ H = [.vec 0 (intsD r1), .vec 0 (intsD r2), .vec 0 (intsD x23), .vec 0 (intsD x24), .vec 0 (intsD x48)] ∧ spec_l04Path_l5 r2 x23 s46 k5 x47 x48 = some s58) k _ _ (Weak_keep 0 hm [2, 5, 6, 7, 9, 11, 13, 16, 17] [0, 1, 2, 3, 4] _ _ rfl rfl rfl) ⟨_, _, rfl, rfl, h⟩ ?_
      clear h
      rintro k5 E H ⟨x47, x48, rfl, rfl, h⟩
      cases k5 with
      | zero => cases (show (none : Option (List Int)) = some _ from h)
      | succ k5 =>
       rw [spec_l04Path_l5] at h
       refine ACode_seq ?_
       refine kR ?_
       refine kM 2 rfl ?_
       refine AOps_q 112 _ rfl rfl rfl (QOp_len_vec _ _ _ _ _ _ _ _ (intsD_length _) rfl rfl rfl rfl Try.underlying34 rfl rfl) ?_
       refine AOps_q 113 _ rfl rfl rfl (QOp_lss _ _ _ _ _ _ _ rfl rfl rfl) ?_
       refine AOps_nil ?_
       refine kI h rfl (fun h _ => ?_) (fun h _ => ?_)
       ·refine ACode_skip ?_
        refine kB (fun s57 => [(2, .d (.pv (colD p0) 0)), (5, .vec 0 0), (6, .vec 1 0), (7, iV s10), (9, .vec 2 0), (11, .vec 3 0), (13, iV s46), (16, .vec 4 0), (17, iV x47)]) (fun s57 => [.vec 0 (intsD r1), .vec 0 (intsD r2), .vec 0 (intsD x23), .vec 0 (intsD x24), .vec 0 (intsD s57)]) h (fun s57 h => ?_) (fun s57 h => ?_)
        ·refine ACode_block ?_
         refine kR ?_
         refine kM 3 rfl ?_
         obtain ⟨hc50, h⟩ := guardO h
         refine AOps_q 119 _ rfl rfl rfl (QOp_indexAddr_vec _ _ _ _ _ _ _ _ _ rfl Try.underlying34 Try.sizeOf2 hc50.1 (by rw [intsD_length]; exact hc50.2) rfl rfl rfl) ?_
         refine AOps_q 120 _ rfl rfl rfl (QOp_load_eptr _ _ _ _ _ _ _ rfl Try.isAgg2 rfl rfl (intsD_get _ _ 0 (by omega))) ?_
         obtain ⟨hc51, h⟩ := guardO h
         refine AOps_q 121 _ rfl rfl rfl (QOp_indexAddr_vec _ _ _ _ _ _ _ _ _ rfl Try.underlying34 Try.sizeOf2 hc51.1 (by rw [intsD_length]; exact hc51.2) rfl rfl rfl) ?_
         refine AOps_q 122 _ rfl rfl rfl (QOp_load_eptr _ _ _ _ _ _ _ rfl Try.isAgg2 rfl rfl (intsD_get _ _ 0 (by omega))) ?_
         refine kM 1 rfl ?_
         refine AOps_q 124 _ rfl rfl rfl (QOp_conv _ _ _ _ _ _ rfl rfl Try.underlying93 rfl) ?_
         obtain ⟨hc52, h⟩ := guardO h
         refine AOps_q 125 _ rfl rfl rfl (QOp_shr _ _ _ _ _ _ _ _ hc52 rfl rfl rfl) ?_
         refine AOps_q 126 _ rfl rfl rfl (QOp_and _ _ _ _ _ _ _ rfl rfl rfl) ?_
         refine AOps_q 127 _ rfl rfl rfl (QOp_eql _ _ _ _ _ _ _ rfl rfl rfl) ?_
         refine AOps_nil ?_
         refine kI h rfl (fun h _ => ?_) (fun h _ => ?_)
         ·refine (ACode_region ?_)
          refine kM 3 rfl ?_
          obtain ⟨hc54, h⟩ := guardO h
          refine AOps_q 131 _ rfl rfl rfl (QOp_indexAddr_vec _ _ _ _ _ _ _ _ _ rfl Try.underlying34 Try.sizeOf2 hc54.1 (by rw [intsD_length]; exact hc54.2) rfl rfl rfl) ?_
          refine AOps_q 132 _ rfl rfl rfl (QOp_load_eptr _ _ _ _ _ _ _ rfl Try.isAgg2 rfl rfl (intsD_get _ _ 0 (by omega))) ?_
          refine kM 1 rfl ?_
          refine AOps_q 134 _ rfl rfl rfl (QOp_conv _ _ _ _ _ _ rfl rfl Try.underlying93 rfl) ?_
          obtain ⟨hc55, h⟩ := guardO h
          refine AOps_q 135 _ rfl rfl rfl (QOp_shl _ _ _ _ _ _ _ _ hc55 rfl rfl rfl) ?_
          refine AOps_q 136 _ rfl rfl rfl (QOp_xor _ _ _ _ _ _ _ rfl rfl rfl) ?_
          refine AOps_buildSlice 137 _ _ _ [_] (intsD ([bXor .i64 (x23.getD x47.toNat 0) (bShl .i64 1 (IntKind.u64.wrap s46))])) _ rfl rfl rfl rfl rfl (by decide) Try.underlying34 Try.sizeOf2 (zero_of Try.typeInfo2 rfl) rfl rfl (intsD_one _) ?_
          obtain ⟨hc56, h⟩ := guardO h
          refine AOps_append 138 _ _ _ _ _ _ _ _ _ _ _ _ rfl rfl rfl rfl rfl rfl rfl Try.underlying34 Try.type2 rfl rfl rfl (by decide) rfl rfl rfl rfl (intsD_one _) (by rw [intsD_length, intsD_length]; exact hc56) ?_
          rw [intsD_app]
          refine kN 1 rfl ?_
          cases h
          exact Weak_trans (Weak_keep 0 hm [2, 5, 6, 7, 9, 11, 13, 16, 17] [0, 1, 2, 3, 4] _ _ rfl rfl rfl) (Weak_reset 0 hm hz [2, 5, 6, 7, 9, 11, 13, 16, 17] _ _ rfl rfl)
         refine ACode_skip ?_
         cases h
         exact Weak_keep 0 hm [2, 5, 6, 7, 9, 11, 13, 16, 17] [0, 1, 2, 3, 4] _ _ rfl rfl rfl
        refine (ACode_region ?_)
        refine kM 1 rfl ?_
        refine AOps_q 115 _ rfl rfl rfl (QOp_add _ _ _ _ _ _ _ rfl rfl rfl) ?_
        refine kN 1 rfl ?_
        exact ⟨k5, _, _, Nat.lt_succ_self _, Weak_keep 0 hm [2, 5, 6, 7, 9, 11, 13, 16, 17] [0, 1, 2, 3, 4] _ _ rfl rfl rfl, _, _, rfl, rfl, h⟩
       refine ACode_exit ?_
       cases h
       exact Weak_keep 0 hm [2, 5, 6, 7, 11, 13, 16] [0, 1, 3, 4] _ _ rfl rfl rfl
     refine kR ?_
     refine kM 2 rfl ?_
     refine AOps_buildSlice 141 _ _ _ [_] (intsD ([s46])) _ rfl rfl rfl rfl rfl (by decide) Try.underlying34 Try.sizeOf2 (zero_of Try.typeInfo2 rfl) rfl rfl (intsD_one _) ?_
     obtain ⟨hc59, h⟩ := guardO h
     refine AOps_append 142 _ _ _ _ _ _ _ _ _ _ _ _ rfl rfl rfl rfl rfl rfl rfl Try.underlying34 Try.type2 rfl rfl rfl (by decide) rfl rfl rfl rfl (intsD_one _) (by rw [intsD_length, intsD_length]; exact hc59) ?_
     rw [intsD_app]
     refine kN 1 rfl ?_
     refine kR ?_
     refine kN 2 rfl ?_
     refine (ACode_region ?_)
     refine kM 2 rfl ?_
     obtain ⟨hc60, h⟩ := guardO h
     refine AOps_q 146 _ rfl rfl rfl (QOp_indexAddr_vec _ _ _ _ _ _ _ _ _ rfl Try.underlying34 Try.sizeOf2 hc60.1 (by rw [intsD_length]; exact hc60.2) rfl rfl rfl) ?_
     refine AOps_q 147 _ rfl rfl rfl (QOp_load_eptr _ _ _ _ _ _ _ rfl Try.isAgg2 rfl rfl (intsD_get _ _ 0 (by omega))) ?_
     refine kN 1 rfl ?_
     cases h
     exact Weak_trans (Weak_keep 0 hm [2, 5, 6, 7, 9, 11, 12] [0, 1, 3, 2] _ _ rfl rfl rfl) (Weak_reset 0 hm hz [2, 5, 6, 7, 9, 11, 12] _ _ rfl rfl)
    intro E' H' hw
    refine ATail_weak hw ?_
    have h := hks61
    refine ATail_end ?_
    exact ⟨k2, _, _, Nat.lt_succ_self _, Weak_keep 0 hm [2, 5, 6, 7, 9, 11, 12] [0, 1, 2, 3] _ _ rfl rfl rfl, _, _, _, rfl, rfl, h⟩
   refine ACode_exit ?_
   cases h
   exact Weak_keep 0 hm [11] [3] _ _ rfl rfl rfl
 refine kR ?_
 refine kN 2 rfl ?_
 refine ACode_ret ?_
 cases h
 exact ⟨_, _, Weak_reset 0 hm hz [4] _ _ rfl rfl, _, _, [0], _, (.cons (ResV_tmp _ _ rfl) .nil), rfl, rfl, rfl, rfl, rfl⟩

-- loop.example/g01362/spec.LongestPath
def spec_LongestPath (k : Nat) (p0 : Col) (p1 : Int) : Option (List Int × Int) :=
 (spec_l04Code k p0 p1 true).bind fun r1 => (if !decide (r1 = 0) then some ([], r1) else (spec_l04Path k p0 p1).bind fun r3 => some (r3, 0))
set_option maxRecDepth 100000 in
theorem spec_LongestPath_ac (k : Nat) (p0 : Col) (p1 : Int) (r : List Int × Int) (h : spec_LongestPath k p0 p1 = some r) : AC Try.prog 12 [.d (.agg (colD p0)), iV p1] [] (fun res H' => res = [.d (.sl none (intsD r.1)), iV r.2] ∧ H' = []) := by
 refine AC_of_body true Try.func12 rfl Try.ntmps12 (rvs := [.tmp 4, .tmp 5]) rfl rfl (fun G hG => ?_)
 have hm : G.H.length = 0 := by rw [hG]; rfl
 have hz : zeroG G.H = true := by rw [hG]; rfl
 unfold spec_LongestPath at h
 refine kR ?_
 refine AOps_boxI 2 _ _ (.agg (colD p0)) (colD p0) rfl (colD_one _) rfl rfl rfl rfl rfl ?_
 refine kN 2 rfl ?_
 refine ACode_seq ?_
 refine kR ?_
 refine AOps_q 7 _ rfl rfl rfl (QOp_loadN_pv _ _ _ _ _ _ rfl Try.isAgg27 Try.sizeOf27 rfl (colD_all _) (colD_length _)) ?_
 refine kM 1 rfl ?_
 obtain ⟨r1, hr1, h⟩ := bindO h
 refine kC [] 9 (iV r1) [] rfl Try.call39 rfl rfl (spec_l04Code_ac k p0 p1 true _ hr1) rfl ?_
 refine kN 1 rfl ?_
 refine kR ?_
 refine kM 1 rfl ?_
 refine AOps_q 11 _ rfl rfl rfl (QOp_neq _ _ _ _ _ _ _ rfl rfl rfl) ?_
 refine AOps_nil ?_
 refine kI h rfl (fun h _ => ?_) (fun h _ => ?_)
 ·refine kR ?_
  refine kN 3 rfl ?_
  refine ACode_ret ?_
  cases h
  exact ⟨_, _, fun r a w h => ⟨r, h⟩, _, _, [], _, (.cons (ResV_tmp _ _ rfl) (.cons (ResV_tmp _ _ rfl) .nil)), rfl, rfl, rfl, rfl, rfl⟩
 refine ACode_skip ?_
 refine kR ?_
 refine AOps_q 13 _ rfl rfl rfl (QOp_loadN_pv _ _ _ _ _ _ rfl Try.isAgg27 Try.sizeOf27 rfl (colD_all _) (colD_length _)) ?_
 refine kM 1 rfl ?_
 obtain ⟨r3, hr3, h⟩ := bindO h
 refine kC [] 15 (.vec 0 0) [.vec 0 (intsD r3)] rfl Try.call40 rfl rfl (spec_l04Path_ac k p0 p1 _ hr3) rfl ?_
 refine kN 2 rfl ?_
 refine ACode_ret ?_
 cases h
 exact ⟨_, _, fun r a w h => ⟨r, h⟩, _, _, [], _, (.cons (ResV_tmp _ _ rfl) (.cons (ResV_tmp _ _ rfl) .nil)), rfl, rfl, rfl, rfl, rfl⟩

-- loop.example/g01362/laws.likeInts
def laws_likeInts_l0 (p0 : List Int) (p1 : List Int) : Nat → Int → Option (Sum (Unit) (Bool))
 | 0, _ => none
 | k0 + 1, x2 => (if decide (x2 < (p0.length : Int)) then (if 0 ≤ x2 ∧ x2 < (p0.length : Int) then (if 0 ≤ x2 ∧ x2 < (p1.length : Int) then (if !decide ((p0.getD x2.toNat 0) = (p1.getD x2.toNat 0)) then some (.inr false) else laws_likeInts_l0 p0 p1 k0 (w64 (x2 + 1))) else none) else none) else some (.inl ()))
def laws_likeInts (k : Nat) (p0 : List Int) (p1 : List Int) : Option (Bool) :=
 (if !decide ((p0.length : Int) = (p1.length : Int)) then some false else (laws_likeInts_l0 p0 p1 k 0 : Option (Sum (Unit) (Bool))).bind fun os7 => (match os7 with | .inl s7 => some true | .inr rr => some rr))
set_option maxRecDepth 100000 in
theorem laws_likeInts_ac (k : Nat) (p0 : List Int) (p1 : List Int) (r : Bool) (h : laws_likeInts k p0 p1 = some r) : AC Try.prog 13 [.d (.sl none (intsD p0)), .d (.sl none (intsD p1))] [] (fun res H' => res = [bV r] ∧ H' = []) := by
 refine AC_of_body true Try.func13 rfl Try.ntmps13 (rvs := [.tmp 4]) rfl rfl (fun G hG => ?_)
 have hm : G.H.length = 0 := by rw [hG]; rfl
 have hz : zeroG G.H = true := by rw [hG]; rfl
 unfold laws_likeInts at h
 refine kR ?_
 refine kN 1 rfl ?_
 refine ACode_seq ?_
 refine kR ?_
 refine kM 1 rfl ?_
 refine AOps_q 7 _ rfl rfl rfl (QOp_len_sl _ _ _ _ _ _ _ (intsD_length _) rfl rfl rfl rfl Try.underlying34 rfl) ?_
 refine kM 1 rfl ?_
 refine AOps_q 9 _ rfl rfl rfl (QOp_len_sl _ _ _ _ _ _ _ (intsD_length _) rfl rfl rfl rfl Try.underlying34 rfl) ?_
 refine AOps_q 10 _ rfl rfl rfl (QOp_neq _ _ _ _ _ _ _ rfl rfl rfl) ?_
 refine AOps_nil ?_
 refine kI h rfl (fun h _ => ?_) (fun h _ => ?_)
 ·refine kR ?_
  refine kN 1 rfl ?_
  refine ACode_ret ?_
  cases h
  exact ⟨_, _, fun r a w h => ⟨r, h⟩, _, _, [], _, (.cons (ResV_tmp _ _ rfl) .nil), rfl, rfl, rfl, rfl, rfl⟩
 refine ACode_skip ?_
 refine kO (fun s7 => []) (fun s7 => []) h (fun os7 h hks7 => ?_) (fun s7 h => ?_)
 ·refine kR ?_
  refine kN 1 rfl ?_
  refine ACode_block ?_
  refine ACode_loopW (fun k0 E H => ∃ (x2 : Int), E = [(0, .d (.sl none (intsD p0))), (1, .d (.sl none (intsD p1))), (5, iV x2)] ∧ H = [] ∧ laws_likeInts_l0 p0 p1 k0 x2 = some os7) k _ _ (Weak_keep 0 hm [0, 1, 5] [] _ _ rfl rfl rfl) ⟨_, rfl, rfl, h⟩ ?_
  clear h
  rintro k0 E H ⟨x2, rfl, rfl, h⟩
  cases k0 with
  | zero => cases (show (none : Option (Sum (Unit) (Bool))) = some _ from h)
  | succ k0 =>
   rw [laws_likeInts_l0] at h
   refine ACode_seq ?_
   refine kR ?_
   refine kM 2 rfl ?_
   refine AOps_q 13 _ rfl rfl rfl (QOp_len_sl _ _ _ _ _ _ _ (intsD_length _) rfl rfl rfl rfl Try.underlying34 rfl) ?_
   refine AOps_q 14 _ rfl rfl rfl (QOp_lss _ _ _ _ _ _ _ rfl rfl rfl) ?_
   refine AOps_nil ?_
   refine kI h rfl (fun h _ => ?_) (fun h _ => ?_)
   ·refine ACode_skip ?_
    refine ACode_seq ?_
    refine ACode_block ?_
    refine ACode_seq (ACode_quiet mixed (by kernel_rfl) ?_)
    refine kQ 2 rfl ?_
    obtain ⟨hc4, h⟩ := guardO h
    refine AQ_q 19 _ rfl rfl rfl (QOp_indexAddr_sl _ _ _ _ _ _ _ _ rfl Try.underlying34 Try.sizeOf2 hc4.1 (by rw [intsD_length]; exact hc4.2) rfl rfl) ?_
    refine AQ_q 20 _ rfl rfl rfl (QOp_load_pv _ _ _ _ _ rfl Try.isAgg2 rfl (intsD_get _ _ 0 (by omega))) ?_
    refine kQ 2 rfl ?_
    obtain ⟨hc5, h⟩ := guardO h
    refine AQ_q 23 _ rfl rfl rfl (QOp_indexAddr_sl _ _ _ _ _ _ _ _ rfl Try.underlying34 Try.sizeOf2 hc5.1 (by rw [intsD_length]; exact hc5.2) rfl rfl) ?_
    refine AQ_q 24 _ rfl rfl rfl (QOp_load_pv _ _ _ _ _ rfl Try.isAgg2 rfl (intsD_get _ _ 0 (by omega))) ?_
    refine AQ_q 25 _ rfl rfl rfl (QOp_neq _ _ _ _ _ _ _ rfl rfl rfl) ?_
    refine AQ_nil ?_
    refine kI h rfl (fun h _ => ?_) (fun h _ => ?_)
    ·refine kR ?_
     refine kN 1 rfl ?_
     refine ACode_ret ?_
     cases h
     have h := hks7
     cases h
     exact ⟨_, _, fun r a w h => ⟨r, h⟩, _, _, [], _, (.cons (ResV_tmp _ _ rfl) .nil), rfl, rfl, rfl, rfl, rfl⟩
    refine ACode_skip ?_
    refine (ACode_region ?_)
    refine kM 1 rfl ?_
    refine AOps_q 16 _ rfl rfl rfl (QOp_add _ _ _ _ _ _ _ rfl rfl rfl) ?_
    refine kN 1 rfl ?_
    exact ⟨k0, _, _, Nat.lt_succ_self _, Weak_keep 0 hm [0, 1, 5] [] _ _ rfl rfl rfl, _, rfl, rfl, h⟩
   refine ACode_exit ?_
   cases h
   exact ⟨_, rfl, Weak_keep 0 hm [] [] _ _ rfl rfl rfl⟩
 refine kR ?_
 refine kN 1 rfl ?_
 refine ACode_ret ?_
 cases h
 exact ⟨_, _, fun r a w h => ⟨r, h⟩, _, _, [], _, (.cons (ResV_tmp _ _ rfl) .nil), rfl, rfl, rfl, rfl, rfl⟩

-- loop.example/g01362/impl.size[int64]
def impl_size (p0 : List Int) : Int :=
 (p0.length : Int)
set_option maxRecDepth 100000 in
theorem impl_size_ac (p0 : List Int) : AC Try.prog 48 [.d (.sl none (intsD p0))] [] (fun res H' => res = [iV (impl_size p0)] ∧ H' = []) := by
 refine AC_of_body true Try.func48 rfl Try.ntmps48 (rvs := [.tmp 2]) rfl rfl (fun G hG => ?_)
 have hm : G.H.length = 0 := by rw [hG]; rfl
 have hz : zeroG G.H = true := by rw [hG]; rfl
 obtain ⟨r, h⟩ : ∃ r, impl_size p0 = r := ⟨_, rfl⟩
 rw [h]
 unfold impl_size at h
 refine kR ?_
 refine kN 1 rfl ?_
 refine kR ?_
 refine kM 1 rfl ?_
 refine AOps_q 4 _ rfl rfl rfl (QOp_len_sl _ _ _ _ _ _ _ (intsD_length _) rfl rfl rfl rfl Try.underlying34 rfl) ?_
 refine kN 1 rfl ?_
 refine ACode_ret ?_
 cases h
 exact ⟨_, _, fun r a w h => ⟨r, h⟩, _, _, [], _, (.cons (ResV_tmp _ _ rfl) .nil), rfl, rfl, rfl, rfl, rfl⟩

-- slices.Index[[]int64,int64]
def slices_Index_l0 (p0 : List Int) (p1 : Int) : Nat → Int → Option (Sum (Unit) (Int))
 | 0, _ => none
 | k0 + 1, x1 => (if decide (x1 < (p0.length : Int)) then (if 0 ≤ x1 ∧ x1 < (p0.length : Int) then (if decide (p1 = (p0.getD x1.toNat 0)) then some (.inr x1) else slices_Index_l0 p0 p1 k0 (w64 (x1 + 1))) else none) else some (.inl ()))
def slices_Index (k : Nat) (p0 : List Int) (p1 : Int) : Option (Int) :=
 (slices_Index_l0 p0 p1 k 0 : Option (Sum (Unit) (Int))).bind fun os5 => (match os5 with | .inl s5 => some (-1) | .inr rr => some rr)
set_option maxRecDepth 100000 in
theorem slices_Index_ac (k : Nat) (p0 : List Int) (p1 : Int) (r : Int) (h : slices_Index k p0 p1 = some r) : AC Try.prog 105 [.d (.sl none (intsD p0)), iV p1] [] (fun res H' => res = [iV r] ∧ H' = []) := by
 refine AC_of_body true Try.func105 rfl Try.ntmps105 (rvs := [.tmp 4]) rfl rfl (fun G hG => ?_)
 have hm : G.H.length = 0 := by rw [hG]; rfl
 have hz : zeroG G.H = true := by rw [hG]; rfl
 unfold slices_Index at h
 refine kR ?_
 refine kN 1 rfl ?_
 refine kO (fun s5 => []) (fun s5 => []) h (fun os5 h hks5 => ?_) (fun s5 h => ?_)
 ·refine kR ?_
  refine kM 1 rfl ?_
  refine AOps_q 7 _ rfl rfl rfl (QOp_len_sl _ _ _ _ _ _ _ (intsD_length _) rfl rfl rfl rfl Try.underlying34 rfl) ?_
  refine kN 1 rfl ?_
  refine ACode_block ?_
  refine ACode_loopW (fun k0 E H => ∃ (x1 : Int), E = [(0, .d (.sl none (intsD p0))), (1, iV p1), (7, iV (p0.length : Int)), (8, iV x1)] ∧ H = [] ∧ slices_Index_l0 p0 p1 k0 x1 = some os5) k _ _ (Weak_keep 0 hm [0, 1, 7, 8] [] _ _ rfl rfl rfl) ⟨_, rfl, rfl, h⟩ ?_
  clear h
  rintro k0 E H ⟨x1, rfl, rfl, h⟩
  cases k0 with
  | zero => cases (show (none : Option (Sum (Unit) (Int))) = some _ from h)
  | succ k0 =>
   rw [slices_Index_l0] at h
   refine kR ?_
   refine AOps_q 9 _ rfl rfl rfl (QOp_lss _ _ _ _ _ _ _ rfl rfl rfl) ?_
   refine AOps_nil ?_
   refine ACode_seq ?_
   refine kI h rfl (fun h _ => ?_) (fun h _ => ?_)
   ·refine ACode_skip ?_
    refine ACode_seq ?_
    refine ACode_block ?_
    refine kR ?_
    refine kN 2 rfl ?_
    refine kR ?_
    refine kM 3 rfl ?_
    obtain ⟨hc3, h⟩ := guardO h
    refine AOps_q 14 _ rfl rfl rfl (QOp_indexAddr_sl _ _ _ _ _ _ _ _ rfl Try.underlying34 Try.sizeOf2 hc3.1 (by rw [intsD_length]; exact hc3.2) rfl rfl) ?_
    refine AOps_q 15 _ rfl rfl rfl (QOp_load_pv _ _ _ _ _ rfl Try.isAgg2 rfl (intsD_get _ _ 0 (by omega))) ?_
    refine AOps_q 16 _ rfl rfl rfl (QOp_eql _ _ _ _ _ _ _ rfl rfl rfl) ?_
    refine AOps_nil ?_
    refine kI h rfl (fun h _ => ?_) (fun h _ => ?_)
    ·refine kR ?_
     refine kN 2 rfl ?_
     refine ACode_ret ?_
     cases h
     have h := hks5
     cases h
     exact ⟨_, _, fun r a w h => ⟨r, h⟩, _, _, [], _, (.cons (ResV_tmp _ _ rfl) .nil), rfl, rfl, rfl, rfl, rfl⟩
    refine ACode_skip ?_
    refine (ACode_region ?_)
    refine AOps_q 18 _ rfl rfl rfl (QOp_add _ _ _ _ _ _ _ rfl rfl rfl) ?_
    refine kN 1 rfl ?_
    exact ⟨k0, _, _, Nat.lt_succ_self _, Weak_keep 0 hm [0, 1, 7, 8] [] _ _ rfl rfl rfl, _, rfl, rfl, h⟩
   refine ACode_exit ?_
   cases h
   exact ⟨_, rfl, Weak_keep 0 hm [] [] _ _ rfl rfl rfl⟩
 refine kR ?_
 refine kN 1 rfl ?_
 refine ACode_ret ?_
 cases h
 exact ⟨_, _, fun r a w h => ⟨r, h⟩, _, _, [], _, (.cons (ResV_tmp _ _ rfl) .nil), rfl, rfl, rfl, rfl, rfl⟩

-- slices.Contains[[]int64,int64]
def slices_Contains (k : Nat) (p0 : List Int) (p1 : Int) : Option (Bool) :=
 (slices_Index k p0 p1).bind fun r1 => some (decide (0 ≤ r1))
set_option maxRecDepth 100000 in
theorem slices_Contains_ac (k : Nat) (p0 : List Int) (p1 : Int) (r : Bool) (h : slices_Contains k p0 p1 = some r) : AC Try.prog 99 [.d (.sl none (intsD p0)), iV p1] [] (fun res H' => res = [bV r] ∧ H' = []) := by
 refine AC_of_body true Try.func99 rfl Try.ntmps99 (rvs := [.tmp 4]) rfl rfl (fun G hG => ?_)
 have hm : G.H.length = 0 := by rw [hG]; rfl
 have hz : zeroG G.H = true := by rw [hG]; rfl
 unfold slices_Contains at h
 refine kR ?_
 refine kN 1 rfl ?_
 refine kR ?_
 refine kM 2 rfl ?_
 obtain ⟨r1, hr1, h⟩ := bindO h
 refine kC [] 7 (iV r1) [] rfl Try.call105 rfl rfl (slices_Index_ac k p0 p1 _ hr1) rfl ?_
 refine AOps_q 8 _ rfl rfl rfl (QOp_geq _ _ _ _ _ _ _ rfl rfl rfl) ?_
 refine kN 1 rfl ?_
 refine ACode_ret ?_
 cases h
 exact ⟨_, _, fun r a w h => ⟨r, h⟩, _, _, [], _, (.cons (ResV_tmp _ _ rfl) .nil), rfl, rfl, rfl, rfl, rfl⟩

-- (*loop.example/g01362/impl.Colouring).cycle
def impl_Colouring_cycle_l0 (k : Nat) (self : Col → Int → Int → (List Int) → Nat → Option (Option Nat × List Int)) (p0 : Col) (p1 : Int) (p2 : Int) (p3 : List Int) (p3n : Nat) : Nat → Int → (List Int) → Option (Sum (List Int) (Option Nat × List Int))
 | 0, _, _ => none
 | k0 + 1, x12, x13 => (if decide (x12 < p0.p) then (((slices_Contains k ((x13.drop 0).take p3n) x12).bind fun r15 => (if !r15 then (impl_Colouring_joins p0 (p3.getD (0 + (w64 (((p3n : Nat) : Int) - 1)).toNat) 0) x12 p1).bind fun r17 => some r17 else some false) : Option (Bool)).bind fun s18 => (if s18 then (if 0 + p3n + ([x12]).length ≤ x13.length ∧ 1 ≤ ([x12]).length then (self p0 p1 p2 (splicedL x13 (0 + p3n) (([x12]).length) ([x12])) (p3n + ([x12]).length)).bind fun r21 => (match r21.1 with | none => some (.inl r21.2) | some l22 => (some (.inr (some l22, r21.2))).bind fun rr => some (.inr rr)) else none) else some (.inl x13)) : Option (Sum (List Int) (Sum (List Int) (Option Nat × List Int)))).bind fun os24 => (match os24 with | .inl s24 => impl_Colouring_cycle_l0 k self p0 p1 p2 p3 p3n k0 (w64 (x12 + 1)) s24 | .inr rr => some rr) else some (.inl x13))
def impl_Colouring_cycle_body (self : Col → Int → Int → (List Int) → Nat → Option (Option Nat × List Int)) (k : Nat) (p0 : Col) (p1 : Int) (p2 : Int) (p3 : List Int) (p3n : Nat) : Option (Option Nat × List Int) :=
 (if 0 ≤ w64 (((p3n : Nat) : Int) - 1) ∧ w64 (((p3n : Nat) : Int) - 1) < ((p3n : Nat) : Int) ∧ 0 + p3n ≤ p3.length then (if decide ((impl_size ((p3.drop 0).take p3n)) = p2) then (((if 0 ≤ (0 : Int) ∧ (0 : Int) < ((p3n : Nat) : Int) ∧ 0 + p3n ≤ p3.length then (impl_Colouring_joins p0 (p3.getD (0 + (0 : Int).toNat) 0) (p3.getD (0 + (w64 (((p3n : Nat) : Int) - 1)).toNat) 0) p1).bind fun r5 => (if r5 then (if 0 ≤ (1 : Int) ∧ (1 : Int) < ((p3n : Nat) : Int) ∧ 0 + p3n ≤ p3.length then some (decide ((p3.getD (0 + (1 : Int).toNat) 0) < (p3.getD (0 + (w64 (((p3n : Nat) : Int) - 1)).toNat) 0))) else none) else some false) else none) : Option (Bool)).bind fun s8 => (if s8 then some (.inr (some p3n, p3)) else some (.inl ())) : Option (Sum (Unit) (Option Nat × List Int))).bind fun os10 => (match os10 with | .inl s10 => some (none, p3) | .inr rr => some rr) else ((if 0 ≤ (0 : Int) ∧ (0 : Int) < ((p3n : Nat) : Int) ∧ 0 + p3n ≤ p3.length then impl_Colouring_cycle_l0 k self p0 p1 p2 p3 p3n k (w64 ((p3.getD (0 + (0 : Int).toNat) 0) + 1)) p3 else none) : Option (Sum (List Int) (Option Nat × List Int))).bind fun os25 => (match os25 with | .inl s25 => some (none, s25) | .inr rr => some rr)) else none)
def impl_Colouring_cycle : Nat → Col → Int → Int → (List Int) → Nat → Option (Option Nat × List Int)
 | 0, _, _, _, _, _ => none
 | k + 1, p0, p1, p2, p3, p3n => impl_Colouring_cycle_body (impl_Colouring_cycle k) k p0 p1 p2 p3 p3n
set_option maxRecDepth 100000 in
theorem impl_Colouring_cycle_ac (k : Nat) (p0 : Col) (p1 : Int) (p2 : Int) (p3 : List Int) (p3n : Nat) (r : Option Nat × List Int) (h : impl_Colouring_cycle k p0 p1 p2 p3 p3n = some r) : AC Try.prog 87 [.d (.pv (colD p0) 0), iV p1, iV p2, .part 0 0 0 p3n] [.vec 0 (intsD p3)] (fun res H' => res = [bufA 0 r.1] ∧ H' = [.vec 0 (intsD r.2)]) := by
 induction k generalizing p0 p1 p2 p3 p3n r with
 | zero => simp [impl_Colouring_cycle] at h
 | succ k ih =>
  rw [impl_Colouring_cycle] at h
  obtain ⟨self, hself, hk⟩ : ∃ self : Col → Int → Int → (List Int) → Nat → Option (Option Nat × List Int), (∀ (p0 : Col) (p1 : Int) (p2 : Int) (p3 : List Int) (p3n : Nat) (r : Option Nat × List Int), self p0 p1 p2 p3 p3n = some r → AC Try.prog 87 [.d (.pv (colD p0) 0), iV p1, iV p2, .part 0 0 0 p3n] [.vec 0 (intsD p3)] (fun res H' => res = [bufA 0 r.1] ∧ H' = [.vec 0 (intsD r.2)])) ∧ impl_Colouring_cycle k = self := ⟨impl_Colouring_cycle k, fun p0 p1 p2 p3 p3n r h => ih p0 p1 p2 p3 p3n r h, rfl⟩
  rw [hk] at h
  clear ih hk
  refine AC_of_body false Try.func87 rfl Try.ntmps87 (rvs := [.tmp 8]) rfl rfl (fun G hG => ?_)
  have hm : G.H.length = 1 := by rw [hG]; rfl
  have hz : zeroG G.H = true := by rw [hG]; rfl
  unfold impl_Colouring_cycle_body at h
  refine kR ?_
  refine kN 1 rfl ?_
  refine kR ?_
  refine kM 2 rfl ?_
  refine AOps_q 14 _ rfl rfl rfl (QOp_len_part _ _ _ _ _ _ _ _ _ _ rfl rfl rfl rfl Try.underlying34 rfl rfl rfl) ?_
  refine AOps_q 15 _ rfl rfl rfl (QOp_sub _ _ _ _ _ _ _ rfl rfl rfl) ?_
  obtain ⟨hc1, h⟩ := guardO h
  refine AOps_q 16 _ rfl rfl rfl (QOp_indexAddr_part _ _ _ _ _ _ _ _ _ _ _ _ rfl Try.underlying34 Try.sizeOf2 hc1.1 hc1.2.1 rfl rfl rfl rfl) ?_
  refine AOps_q 17 _ rfl rfl rfl (QOp_load_eptr _ _ _ _ _ _ _ rfl Try.isAgg2 rfl rfl (intsD_get _ _ 0 (by omega))) ?_
  refine kN 1 rfl ?_
  refine ACode_seq ?_
  refine kR ?_
  refine kM 1 rfl ?_
  refine AOps_callL [] 19 _ _ _ _ _ _ _ _ _ _ rfl rfl rfl rfl rfl rfl rfl Try.call48 rfl (nodupB_sound _ rfl) rfl rfl rfl (by have q := impl_size_ac ((p3.drop 0).take p3n); simp only [intsD_dt] at q; exact q) ?_
  rintro _ _ ⟨rfl, rfl⟩
  refine ⟨(fun _ h => nomatch h), (allc (flat_s _) (fun _ h => nomatch h)), AOps_as 19 (v' := iV (impl_size ((p3.drop 0).take p3n))) (H' := [.vec 0 (intsD p3)]) rfl rfl ?_⟩
  refine kM 1 rfl ?_
  refine AOps_q 21 _ rfl rfl rfl (QOp_eql _ _ _ _ _ _ _ rfl rfl rfl) ?_
  refine AOps_nil ?_
  refine kI h rfl (fun h _ => ?_) (fun h _ => ?_)
  ·refine kO (fun s10 => []) (fun s10 => [.vec 0 (intsD p3)]) h (fun os10 h hks10 => ?_) (fun s10 h => ?_)
   ·refine kB (fun s8 => [(3, .part 0 0 0 p3n), (35, bV s8)]) (fun s8 => [.vec 0 (intsD p3)]) h (fun s8 h => ?_) (fun s8 h => ?_)
    ·refine (ACode_region ?_)
     refine kM 2 rfl ?_
     obtain ⟨hc4, h⟩ := guardO h
     refine AOps_q 24 _ rfl rfl rfl (QOp_indexAddr_part _ _ _ _ _ _ _ _ _ _ _ _ rfl Try.underlying34 Try.sizeOf2 hc4.1 hc4.2.1 rfl rfl rfl rfl) ?_
     refine AOps_q 25 _ rfl rfl rfl (QOp_load_eptr _ _ _ _ _ _ _ rfl Try.isAgg2 rfl rfl (intsD_get _ _ 0 (by omega))) ?_
     refine kM 2 rfl ?_
     obtain ⟨r5, hr5, h⟩ := bindO h
     refine kC [] 28 (bV r5) [.vec 0 (intsD p3)] rfl Try.call73 rfl rfl (impl_Colouring_joins_ac p0 (p3.getD (0 + (0 : Int).toNat) 0) (p3.getD (0 + (w64 (((p3n : Nat) : Int) - 1)).toNat) 0) p1 _ hr5) rfl ?_
     refine kM 1 rfl ?_
     refine AOps_case 29 _ rfl (fun hb6 => ?_) (fun hb6 => ?_)
     ·have h := iteT hb6 h
      refine kM 1 rfl ?_
      obtain ⟨hc7, h⟩ := guardO h
      refine AOps_q 31 _ rfl rfl rfl (QOp_indexAddr_part _ _ _ _ _ _ _ _ _ _ _ _ rfl Try.underlying34 Try.sizeOf2 hc7.1 hc7.2.1 rfl rfl rfl rfl) ?_
      refine AOps_q 32 _ rfl rfl rfl (QOp_load_eptr _ _ _ _ _ _ _ rfl Try.isAgg2 rfl rfl (intsD_get _ _ 0 (by omega))) ?_
      refine kM 1 rfl ?_
      refine AOps_q 34 _ rfl rfl rfl (QOp_lss _ _ _ _ _ _ _ rfl rfl rfl) ?_
      refine kN 1 rfl ?_
      cases h
      exact Weak_keep 1 hm [3, 35] [] _ _ rfl rfl rfl
     have h := iteF hb6 h
     refine AOps_skip 30 rfl rfl rfl ?_
     refine AOps_skip 31 rfl rfl rfl ?_
     refine AOps_skip 32 rfl rfl rfl ?_
     refine AOps_skip 33 rfl rfl rfl ?_
     refine AOps_skip 34 rfl rfl rfl ?_
     refine kN 1 rfl ?_
     cases h
     exact Weak_keep 1 hm [3, 35] [] _ _ rfl rfl rfl
    refine kI h rfl (fun h _ => ?_) (fun h _ => ?_)
    ·refine kR ?_
     refine kN 2 rfl ?_
     refine ACode_ret ?_
     cases h
     have h := hks10
     cases h
     exact ⟨_, _, fun r a w h => ⟨r, h⟩, _, _, [], _, (.cons (ResV_tmp _ _ rfl) .nil), rfl, rfl, rfl, rfl, rfl⟩
    refine ACode_skip ?_
    cases h
    exact ⟨_, rfl, Weak_keep 1 hm [] [] _ _ rfl rfl rfl⟩
   refine kR ?_
   refine kN 1 rfl ?_
   refine ACode_ret ?_
   cases h
   exact ⟨_, _, fun r a w h => ⟨r, h⟩, _, _, [], _, (.cons (ResV_tmp _ _ rfl) .nil), rfl, rfl, rfl, rfl, rfl⟩
  refine ACode_skip ?_
  refine kO (fun s25 => []) (fun s25 => [.vec 0 (intsD s25)]) h (fun os25 h hks25 => ?_) (fun s25 h => ?_)
  ·refine kR ?_
   refine kM 1 rfl ?_
   obtain ⟨hc11, h⟩ := guardO h
   refine AOps_q 38 _ rfl rfl rfl (QOp_indexAddr_part _ _ _ _ _ _ _ _ _ _ _ _ rfl Try.underlying34 Try.sizeOf2 hc11.1 hc11.2.1 rfl rfl rfl rfl) ?_
   refine AOps_q 39 _ rfl rfl rfl (QOp_load_eptr _ _ _ _ _ _ _ rfl Try.isAgg2 rfl rfl (intsD_get _ _ 0 (by omega))) ?_
   refine AOps_q 40 _ rfl rfl rfl (QOp_add _ _ _ _ _ _ _ rfl rfl rfl) ?_
   refine kN 1 rfl ?_
   refine ACode_block ?_
   refine ACode_loopW (fun k0 E H => ∃ (x12 : Int) (x13 : List Int), E = [(0, .d (.pv (colD p0) 0)), (1, iV p1), (2, iV p2), (3, .part 0 0 0 p3n), (9, iV (p3.getD (0 + (w64 (((p3n : Nat) : Int) - 1)).toNat) 0)), (10, iV x12)] ∧ H = [.vec 0 (intsD x13)] ∧ impl_Colouring_cycle_l0 k self p0 p1 p2 p3 p3n k0 x12 x13 = some os25) k _ _ (Weak_keep 1 hm [0, 1, 2, 3, 9, 10] [] _ _ rfl rfl rfl) ⟨_, _, rfl, rfl, h⟩ ?_
   clear h
   rintro k0 E H ⟨x12, x13, rfl, rfl, h⟩
   cases k0 with
   | zero => cases (show (none : Option (Sum (List Int) (Option Nat × List Int))) = some _ from h)
   | succ k0 =>
    rw [impl_Colouring_cycle_l0] at h
    refine ACode_seq ?_
    refine kR ?_
    refine kM 2 rfl ?_
    refine AOps_q 43 _ rfl rfl rfl (QOp_nilCheck_pv _ _ _ rfl rfl) ?_
    refine AOps_q 44 _ rfl rfl rfl (QOp_fieldAddr_pv _ _ _ _ _ 0 _ _ rfl Try.underlying27 rfl _ Try.sizeOf2 rfl rfl) ?_
    refine AOps_q 45 _ rfl rfl rfl (QOp_load_pv _ _ _ _ _ rfl Try.isAgg2 rfl rfl) ?_
    refine AOps_q 46 _ rfl rfl rfl (QOp_lss _ _ _ _ _ _ _ rfl rfl rfl) ?_
    refine AOps_nil ?_
    refine kI h rfl (fun h _ => ?_) (fun h _ => ?_)
    ·refine ACode_skip ?_
     refine kO (fun s24 => [(0, .d (.pv (colD p0) 0)), (1, iV p1), (2, iV p2), (3, .part 0 0 0 p3n), (9, iV (p3.getD (0 + (w64 (((p3n : Nat) : Int) - 1)).toNat) 0)), (10, iV x12)]) (fun s24 => [.vec 0 (intsD s24)]) h (fun os24 h hks24 => ?_) (fun s24 h => ?_)
     ·refine ACode_block ?_
      refine kB (fun s18 => [(0, .d (.pv (colD p0) 0)), (1, iV p1), (2, iV p2), (3, .part 0 0 0 p3n), (9, iV (p3.getD (0 + (w64 (((p3n : Nat) : Int) - 1)).toNat) 0)), (10, iV x12), (59, bV s18)]) (fun s18 => [.vec 0 (intsD x13)]) h (fun s18 h => ?_) (fun s18 h => ?_)
      ·refine (ACode_region ?_)
       refine kM 2 rfl ?_
       obtain ⟨r15, hr15, h⟩ := bindO h
       refine AOps_callL [] 51 _ _ _ _ _ _ _ _ _ _ rfl rfl rfl rfl rfl rfl rfl Try.call99 rfl (nodupB_sound _ rfl) rfl rfl rfl (by have q := slices_Contains_ac k ((x13.drop 0).take p3n) x12 _ hr15; simp only [intsD_dt] at q; exact q) ?_
       rintro _ _ ⟨rfl, rfl⟩
       refine ⟨(fun _ h => nomatch h), (allc (flat_s _) (fun _ h => nomatch h)), AOps_as 51 (v' := bV r15) (H' := [.vec 0 (intsD x13)]) rfl rfl ?_⟩
       refine AOps_q 52 _ rfl rfl rfl (QOp_not _ _ _ rfl rfl) ?_
       refine kM 1 rfl ?_
       refine AOps_case 53 _ rfl (fun hb16 => ?_) (fun hb16 => ?_)
       ·have h := iteT hb16 h
        refine kM 4 rfl ?_
        obtain ⟨r17, hr17, h⟩ := bindO h
        refine kC [] 58 (bV r17) [.vec 0 (intsD x13)] rfl Try.call73 rfl rfl (impl_Colouring_joins_ac p0 (p3.getD (0 + (w64 (((p3n : Nat) : Int) - 1)).toNat) 0) x12 p1 _ hr17) rfl ?_
        refine kN 1 rfl ?_
        cases h
        exact Weak_keep 1 hm [0, 1, 2, 3, 9, 10, 59] [] _ _ rfl rfl rfl
       have h := iteF hb16 h
       refine AOps_skip 54 rfl rfl rfl ?_
       refine AOps_skip 55 rfl rfl rfl ?_
       refine AOps_skip 56 rfl rfl rfl ?_
       refine AOps_skip 57 rfl rfl rfl ?_
       refine AOps_skip 58 rfl rfl rfl ?_
       refine kN 1 rfl ?_
       cases h
       exact Weak_keep 1 hm [0, 1, 2, 3, 9, 10, 59] [] _ _ rfl rfl rfl
      refine kI h rfl (fun h _ => ?_) (fun h _ => ?_)
      ·refine kR ?_
       refine kM 5 rfl ?_
       refine AOps_buildSlice 65 _ _ _ [_] (intsD ([x12])) _ rfl rfl rfl rfl rfl (by decide) Try.underlying34 Try.sizeOf2 (zero_of Try.typeInfo2 rfl) rfl rfl (intsD_one _) ?_
       obtain ⟨hc20, h⟩ := guardO h
       refine AOps_append_part 66 _ _ _ _ _ 0 0 0 p3n (p3n + ([x12]).length) _ (intsD x13) (intsD ([x12])) _ rfl rfl rfl rfl rfl rfl rfl Try.underlying34 Try.type2 rfl rfl rfl rfl rfl (intsD_one _) (by rw [intsD_length]; exact hc20.2) (by rw [intsD_length, intsD_length]; exact hc20.1) (by rw [intsD_length]) ?_
       rw [intsD_length, intsD_spl]
       obtain ⟨r21, hr21, h⟩ := bindO h
       refine AOps_call [0] 67 _ _ _ _ _ _ _ _ _ _ rfl rfl rfl rfl rfl rfl rfl Try.call87 rfl (nodupB_sound _ rfl) rfl rfl rfl (hself p0 p1 p2 (splicedL x13 (0 + p3n) (([x12]).length) ([x12])) (p3n + ([x12]).length) _ hr21) ?_
       revert h
       cases hx23 : r21.1 with
       | none =>
        intro h
        rintro _ _ ⟨rfl, rfl⟩
        refine ⟨(allc (fun _ _ => trivial) (fun _ h => nomatch h)), (allc (trivial) (fun _ h => nomatch h)), AOps_as 67 (v' := .d (.sl (some true) [])) (H' := [.vec 0 (intsD r21.2), .vec 0 (intsD ([x12]))]) rfl rfl ?_⟩
        refine kN 1 rfl ?_
        refine kR ?_
        refine kM 1 rfl ?_
        refine AOps_q 69 _ rfl rfl rfl (QOp_isnilN _ _ _ _ _ _ _ rfl rfl rfl Try.underlying34) ?_
        refine AOps_nil ?_
        refine ACode_condF rfl ?_
        refine ACode_skip ?_
        cases h
        exact ⟨_, rfl, Weak_keep 1 hm [0, 1, 2, 3, 9, 10] [] _ _ rfl rfl rfl⟩
       | some l22 =>
        intro h
        rintro _ _ ⟨rfl, rfl⟩
        refine ⟨(allc (fun _ _ => trivial) (fun _ h => nomatch h)), (allc (trivial) (fun _ h => nomatch h)), AOps_as 67 (v' := .part 0 0 0 l22) (H' := [.vec 0 (intsD r21.2), .vec 0 (intsD ([x12]))]) rfl rfl ?_⟩
        refine kN 1 rfl ?_
        refine kR ?_
        refine kM 1 rfl ?_
        refine AOps_q 69 _ rfl rfl rfl (QOp_partnilN _ _ _ _ _ _ _ _ _ _ rfl rfl rfl rfl Try.underlying34) ?_
        refine AOps_nil ?_
        refine ACode_condT rfl ?_
        refine kR ?_
        refine kN 2 rfl ?_
        refine ACode_ret ?_
        obtain ⟨rr, hz26, h2⟩ := bindO h
        obtain rfl := Option.some.inj h2
        obtain rfl := Option.some.inj (show some rr = some _ from hks24)
        have h := hz26
        cases h
        have h := hks25
        cases h
        exact ⟨_, _, fun r a w h => ⟨r, h⟩, _, _, [], _, (.cons (ResV_tmp _ _ rfl) .nil), rfl, rfl, rfl, rfl, rfl⟩
      refine ACode_skip ?_
      cases h
      exact ⟨_, rfl, Weak_keep 1 hm [0, 1, 2, 3, 9, 10] [] _ _ rfl rfl rfl⟩
     refine (ACode_region ?_)
     refine kM 1 rfl ?_
     refine AOps_q 48 _ rfl rfl rfl (QOp_add _ _ _ _ _ _ _ rfl rfl rfl) ?_
     refine kN 1 rfl ?_
     exact ⟨k0, _, _, Nat.lt_succ_self _, Weak_keep 1 hm [0, 1, 2, 3, 9, 10] [] _ _ rfl rfl rfl, _, _, rfl, rfl, h⟩
    refine ACode_exit ?_
    cases h
    exact ⟨_, rfl, Weak_keep 1 hm [] [] _ _ rfl rfl rfl⟩
  refine kR ?_
  refine kN 1 rfl ?_
  refine ACode_ret ?_
  cases h
  exact ⟨_, _, fun r a w h => ⟨r, h⟩, _, _, [], _, (.cons (ResV_tmp _ _ rfl) .nil), rfl, rfl, rfl, rfl, rfl⟩

-- (*loop.example/g01362/impl.Colouring).firstCycle
def impl_Colouring_firstCycle_l0 (k : Nat) (p0 : Col) (p1 : Int) (p2 : Int) : Nat → Int → Option (Sum (Unit) (Option (List Int)))
 | 0, _ => none
 | k0 + 1, x2 => (if decide (x2 < w64 ((w64 (p0.p - p2)) + 1)) then (if 0 + 0 + ([x2]).length ≤ (List.replicate 17 (0 : Int)).length ∧ 1 ≤ ([x2]).length then (impl_Colouring_cycle k p0 p1 p2 (splicedL (List.replicate 17 (0 : Int)) (0 + 0) (([x2]).length) ([x2])) (0 + ([x2]).length)).bind fun r6 => (match r6.1 with | none => impl_Colouring_firstCycle_l0 k p0 p1 p2 k0 (w64 (x2 + 1)) | some l7 => ((if l7 ≤ r6.2.length ∧ 0 < r6.2.length then some (some (r6.2.take l7)) else none)).bind fun rr => some (.inr rr)) else none) else some (.inl ()))
def impl_Colouring_firstCycle (k : Nat) (p0 : Col) (p1 : Int) (p2 : Int) : Option (Option (List Int)) :=
 (if decide (p2 < 3) then some none else (impl_Colouring_firstCycle_l0 k p0 p1 p2 k 0 : Option (Sum (Unit) (Option (List Int)))).bind fun os9 => (match os9 with | .inl s9 => some none | .inr rr => some rr))
set_option maxRecDepth 100000 in
theorem impl_Colouring_firstCycle_ac (k : Nat) (p0 : Col) (p1 : Int) (p2 : Int) (r : Option (List Int)) (h : impl_Colouring_firstCycle k p0 p1 p2 = some r) : AC Try.prog 50 [.d (.pv (colD p0) 0), iV p1, iV p2] [] (fun res H' => res = [ownA 0 (r.map intsD)] ∧ H' = [] ++ ownH (r.map intsD)) := by
 refine AC_of_body false Try.func50 rfl Try.ntmps50 (rvs := [.tmp 6]) rfl rfl (fun G hG => ?_)
 have hm : G.H.length = 0 := by rw [hG]; rfl
 have hz : zeroG G.H = true := by rw [hG]; rfl
 unfold impl_Colouring_firstCycle at h
 refine kR ?_
 refine kN 1 rfl ?_
 refine ACode_seq ?_
 refine kR ?_
 refine kM 1 rfl ?_
 refine AOps_q 10 _ rfl rfl rfl (QOp_lss _ _ _ _ _ _ _ rfl rfl rfl) ?_
 refine AOps_nil ?_
 refine kI h rfl (fun h _ => ?_) (fun h _ => ?_)
 ·refine kR ?_
  refine kN 1 rfl ?_
  refine ACode_ret ?_
  cases h
  exact ⟨_, _, fun r a w h => ⟨r, h⟩, _, _, [], _, (.cons (ResV_tmp _ _ rfl) .nil), rfl, rfl, rfl, rfl, rfl⟩
 refine ACode_skip ?_
 refine kO (fun s9 => []) (fun s9 => []) h (fun os9 h hks9 => ?_) (fun s9 h => ?_)
 ·refine kR ?_
  refine kM 1 rfl ?_
  refine AOps_q 12 _ rfl rfl rfl (QOp_nilCheck_pv _ _ _ rfl rfl) ?_
  refine AOps_q 13 _ rfl rfl rfl (QOp_fieldAddr_pv _ _ _ _ _ 0 _ _ rfl Try.underlying27 rfl _ Try.sizeOf2 rfl rfl) ?_
  refine AOps_q 14 _ rfl rfl rfl (QOp_load_pv _ _ _ _ _ rfl Try.isAgg2 rfl rfl) ?_
  refine kM 1 rfl ?_
  refine AOps_q 16 _ rfl rfl rfl (QOp_sub _ _ _ _ _ _ _ rfl rfl rfl) ?_
  refine AOps_q 17 _ rfl rfl rfl (QOp_add _ _ _ _ _ _ _ rfl rfl rfl) ?_
  refine kN 1 rfl ?_
  refine ACode_block ?_
  refine ACode_loopW (fun k0 E H => ∃ (x2 : Int), E = [(0, .d (.pv (colD p0) 0)), (1, iV p1), (2, iV p2), (17, iV (w64 ((w64 (p0.p - p2)) + 1))), (18, iV x2)] ∧ H = [] ∧ impl_Colouring_firstCycle_l0 k p0 p1 p2 k0 x2 = some os9) k _ _ (Weak_keep 0 hm [0, 1, 2, 17, 18] [] _ _ rfl rfl rfl) ⟨_, rfl, rfl, h⟩ ?_
  clear h
  rintro k0 E H ⟨x2, rfl, rfl, h⟩
  cases k0 with
  | zero => cases (show (none : Option (Sum (Unit) (Option (List Int)))) = some _ from h)
  | succ k0 =>
   rw [impl_Colouring_firstCycle_l0] at h
   refine kR ?_
   refine AOps_q 19 _ rfl rfl rfl (QOp_lss _ _ _ _ _ _ _ rfl rfl rfl) ?_
   refine AOps_nil ?_
   refine ACode_seq ?_
   refine kI h rfl (fun h _ => ?_) (fun h _ => ?_)
   ·refine ACode_skip ?_
    refine ACode_seq ?_
    refine ACode_block ?_
    refine kR ?_
    refine kN 2 rfl ?_
    refine kR ?_
    refine kM 3 rfl ?_
    refine AOps_makeBufG intsD iD 0 (intsD_rep · _) 24 _ _ _ _ _ _ 17 _ (.int .i64 0) rfl rfl rfl rfl rfl rfl Try.underlying34 Try.type2 rfl rfl (by decide) rfl rfl (by decide) ?_
    refine kM 1 rfl ?_
    refine AOps_buildSlice 26 _ _ _ [_] (intsD ([x2])) _ rfl rfl rfl rfl rfl (by decide) Try.underlying34 Try.sizeOf2 (zero_of Try.typeInfo2 rfl) rfl rfl (intsD_one _) ?_
    obtain ⟨hc5, h⟩ := guardO h
    refine AOps_append_part 27 _ _ _ _ _ 0 0 0 0 (0 + ([x2]).length) _ (intsD (List.replicate 17 (0 : Int))) (intsD ([x2])) _ rfl rfl rfl rfl rfl rfl rfl Try.underlying34 Try.type2 rfl rfl rfl rfl rfl (intsD_one _) (by rw [intsD_length]; exact hc5.2) (by rw [intsD_length, intsD_length]; exact hc5.1) (by rw [intsD_length]) ?_
    rw [intsD_length, intsD_spl]
    obtain ⟨r6, hr6, h⟩ := bindO h
    refine AOps_call [0] 28 _ _ _ _ _ _ _ _ _ _ rfl rfl rfl rfl rfl rfl rfl Try.call87 rfl (nodupB_sound _ rfl) rfl rfl rfl (impl_Colouring_cycle_ac k p0 p1 p2 (splicedL (List.replicate 17 (0 : Int)) (0 + 0) (([x2]).length) ([x2])) (0 + ([x2]).length) _ hr6) ?_
    revert h
    cases hx8 : r6.1 with
    | none =>
     intro h
     rintro _ _ ⟨rfl, rfl⟩
     refine ⟨(allc (fun _ _ => trivial) (fun _ h => nomatch h)), (allc (trivial) (fun _ h => nomatch h)), AOps_as 28 (v' := .d (.sl (some true) [])) (H' := [.vec 0 (intsD r6.2), .vec 0 (intsD ([x2]))]) rfl rfl ?_⟩
     refine kN 1 rfl ?_
     refine kR ?_
     refine kM 1 rfl ?_
     refine AOps_q 30 _ rfl rfl rfl (QOp_isnilN _ _ _ _ _ _ _ rfl rfl rfl Try.underlying34) ?_
     refine AOps_nil ?_
     refine ACode_condF rfl ?_
     refine ACode_skip ?_
     refine (ACode_region ?_)
     refine AOps_q 32 _ rfl rfl rfl (QOp_add _ _ _ _ _ _ _ rfl rfl rfl) ?_
     refine kN 1 rfl ?_
     exact ⟨k0, _, _, Nat.lt_succ_self _, Weak_keep 0 hm [0, 1, 2, 17, 18] [] _ _ rfl rfl rfl, _, rfl, rfl, h⟩
    | some l7 =>
     intro h
     rintro _ _ ⟨rfl, rfl⟩
     refine ⟨(allc (fun _ _ => trivial) (fun _ h => nomatch h)), (allc (trivial) (fun _ h => nomatch h)), AOps_as 28 (v' := .part 0 0 0 l7) (H' := [.vec 0 (intsD r6.2), .vec 0 (intsD ([x2]))]) rfl rfl ?_⟩
     refine kN 1 rfl ?_
     refine kR ?_
     refine kM 1 rfl ?_
     refine AOps_q 30 _ rfl rfl rfl (QOp_partnilN _ _ _ _ _ _ _ _ _ _ rfl rfl rfl rfl Try.underlying34) ?_
     refine AOps_nil ?_
     refine ACode_condT rfl ?_
     refine kR ?_
     refine kN 2 rfl ?_
     refine ACode_ret ?_
     obtain ⟨rr, hz10, h2⟩ := bindO h
     obtain rfl := Option.some.inj h2
     obtain rfl := Option.some.inj (show some rr = some _ from hks9)
     have h := hz10
     obtain ⟨hcR, h⟩ := guardO h
     cases h
     exact ⟨_, _, (Weak_trans (Weak_shrink 6 0 0 l7 (intsD r6.2) _ rfl rfl (by rw [intsD_length]; exact hcR.1) (by rw [intsD_length]; exact hcR.2) (ints_take _ _)) (Weak_reset 0 hm hz [6] _ _ rfl rfl)), _, _, [0], _, (.cons (ResV_tmp _ _ rfl) .nil), rfl, rfl, rfl, rfl, rfl⟩
   refine ACode_exit ?_
   cases h
   exact ⟨_, rfl, Weak_keep 0 hm [] [] _ _ rfl rfl rfl⟩
 refine kR ?_
 refine kN 1 rfl ?_
 refine ACode_ret ?_
 cases h
 exact ⟨_, _, fun r a w h => ⟨r, h⟩, _, _, [], _, (.cons (ResV_tmp _ _ rfl) .nil), rfl, rfl, rfl, rfl, rfl⟩

-- loop.example/g01362/impl.CycleLengths
def impl_CycleLengths_l0 (k : Nat) (p0 : Col) (p1 : Int) : Nat → Int → (List Int) → Option (List Int)
 | 0, _, _ => none
 | k0 + 1, x3, x4 => (if decide (x3 ≤ p0.p) then ((impl_Colouring_firstCycle k p0 p1 x3).bind fun r6 => (match r6 with | none => some x4 | some l7 => (if x4.length + ([x3]).length ≤ 1099511627776 then some (x4 ++ ([x3])) else none)) : Option (List Int)).bind fun s10 => impl_CycleLengths_l0 k p0 p1 k0 (w64 (x3 + 1)) s10 else some x4)
def impl_CycleLengths (k : Nat) (p0 : Col) (p1 : Int) : Option (Option (List Int) × Int) :=
 (impl_Colouring_patternCode k p0 p1 true).bind fun r1 => (if !decide (r1 = 0) then some (none, r1) else (impl_CycleLengths_l0 k p0 p1 k 3 ([] : List Int) : Option (List Int)).bind fun s11 => some (some s11, 0))
set_option maxRecDepth 100000 in
theorem impl_CycleLengths_ac (k : Nat) (p0 : Col) (p1 : Int) (r : Option (List Int) × Int) (h : impl_CycleLengths k p0 p1 = some r) : AC Try.prog 14 [.d (.agg (colD p0)), iV p1] [] (fun res H' => res = [ownA 0 (r.1.map intsD), iV r.2] ∧ H' = [] ++ ownH (r.1.map intsD)) := by
 refine AC_of_body false Try.func14 rfl Try.ntmps14 (rvs := [.tmp 4, .tmp 5]) rfl rfl (fun G hG => ?_)
 have hm : G.H.length = 0 := by rw [hG]; rfl
 have hz : zeroG G.H = true := by rw [hG]; rfl
 unfold impl_CycleLengths at h
 refine kR ?_
 refine AOps_boxI 2 _ _ (.agg (colD p0)) (colD p0) rfl (colD_one _) rfl rfl rfl rfl rfl ?_
 refine kN 2 rfl ?_
 refine ACode_seq ?_
 refine kR ?_
 refine kM 1 rfl ?_
 obtain ⟨r1, hr1, h⟩ := bindO h
 refine kC [] 10 (iV r1) [] rfl Try.call56 rfl rfl (impl_Colouring_patternCode_ac k p0 p1 true _ hr1) rfl ?_
 refine kN 1 rfl ?_
 refine kR ?_
 refine kM 1 rfl ?_
 refine AOps_q 12 _ rfl rfl rfl (QOp_neq _ _ _ _ _ _ _ rfl rfl rfl) ?_
 refine AOps_nil ?_
 refine kI h rfl (fun h _ => ?_) (fun h _ => ?_)
 ·refine kR ?_
  refine kN 3 rfl ?_
  refine ACode_ret ?_
  cases h
  exact ⟨_, _, fun r a w h => ⟨r, h⟩, _, _, [], _, (.cons (ResV_tmp _ _ rfl) (.cons (ResV_tmp _ _ rfl) .nil)), rfl, rfl, rfl, rfl, rfl⟩
 refine ACode_skip ?_
 refine kR ?_
 refine AOps_buildSlice 14 _ _ _ [] (intsD ([] : List Int)) _ rfl rfl rfl rfl rfl (by decide) Try.underlying34 Try.sizeOf2 (zero_of Try.typeInfo2 rfl) rfl rfl (intsD_one _) ?_
 refine kN 1 rfl ?_
 refine kB (fun s11 => [(7, .vec 0 0)]) (fun s11 => [.vec 0 (intsD s11)]) h (fun s11 h => ?_) (fun s11 h => ?_)
 ·refine kR ?_
  refine kN 1 rfl ?_
  refine ACode_block ?_
  refine ACode_loopW (fun k0 E H => ∃ (x3 : Int) (x4 : List Int), E = [(1, iV p1), (2, .d (.pv (colD p0) 0)), (7, .vec 0 0), (8, iV x3)] ∧ H = [.vec 0 (intsD x4)] ∧ impl_CycleLengths_l0 k p0 p1 k0 x3 x4 = some s11) k _ _ (Weak_keep 0 hm [1, 2, 7, 8] [0] _ _ rfl rfl rfl) ⟨_, _, rfl, rfl, h⟩ ?_
  clear h
  rintro k0 E H ⟨x3, x4, rfl, rfl, h⟩
  cases k0 with
  | zero => cases (show (none : Option (List Int)) = some _ from h)
  | succ k0 =>
   rw [impl_CycleLengths_l0] at h
   refine ACode_seq ?_
   refine kR ?_
   refine kM 1 rfl ?_
   refine AOps_q 16 _ rfl rfl rfl (QOp_fieldAddr_pv _ _ _ _ _ 0 _ _ rfl Try.underlying27 rfl _ Try.sizeOf2 rfl rfl) ?_
   refine AOps_q 17 _ rfl rfl rfl (QOp_load_pv _ _ _ _ _ rfl Try.isAgg2 rfl rfl) ?_
   refine AOps_q 18 _ rfl rfl rfl (QOp_leq _ _ _ _ _ _ _ rfl rfl rfl) ?_
   refine AOps_nil ?_
   refine kI h rfl (fun h _ => ?_) (fun h _ => ?_)
   ·refine ACode_skip ?_
    refine kB (fun s10 => [(1, iV p1), (2, .d (.pv (colD p0) 0)), (7, .vec 0 0), (8, iV x3)]) (fun s10 => [.vec 0 (intsD s10)]) h (fun s10 h => ?_) (fun s10 h => ?_)
    ·refine ACode_block ?_
     refine kR ?_
     refine kM 2 rfl ?_
     obtain ⟨r6, hr6, h⟩ := bindO h
     refine AOps_call [] 23 _ _ _ _ _ _ _ _ _ _ rfl rfl rfl rfl rfl rfl rfl Try.call50 rfl (nodupB_sound _ rfl) rfl rfl rfl (impl_Colouring_firstCycle_ac k p0 p1 x3 _ hr6) ?_
     revert h
     cases hx8 : r6 with
     | none =>
      intro h
      rintro _ _ ⟨rfl, rfl⟩
      refine ⟨(fun _ h => nomatch h), (allc (trivial) (fun _ h => nomatch h)), AOps_as 23 (v' := .d (.sl (some true) [])) (H' := [.vec 0 (intsD x4)]) rfl rfl ?_⟩
      refine AOps_q 24 _ rfl rfl rfl (QOp_isnilN _ _ _ _ _ _ _ rfl rfl rfl Try.underlying34) ?_
      refine AOps_nil ?_
      refine ACode_condF rfl ?_
      refine ACode_skip ?_
      cases h
      exact Weak_keep 0 hm [1, 2, 7, 8] [0] _ _ rfl rfl rfl
     | some l7 =>
      intro h
      rintro _ _ ⟨rfl, rfl⟩
      refine ⟨(allc (fun _ _ => trivial) (fun _ h => nomatch h)), (allc (trivial) (fun _ h => nomatch h)), AOps_as 23 (v' := .vec 1 0) (H' := [.vec 0 (intsD x4), .vec 0 (intsD l7)]) rfl rfl ?_⟩
      refine AOps_q 24 _ rfl rfl rfl (QOp_vecnilN _ _ _ _ _ _ _ _ rfl rfl rfl rfl Try.underlying34) ?_
      refine AOps_nil ?_
      refine ACode_condT rfl ?_
      refine (ACode_region ?_)
      refine kM 2 rfl ?_
      refine AOps_buildSlice 27 _ _ _ [_] (intsD ([x3])) _ rfl rfl rfl rfl rfl (by decide) Try.underlying34 Try.sizeOf2 (zero_of Try.typeInfo2 rfl) rfl rfl (intsD_one _) ?_
      obtain ⟨hc9, h⟩ := guardO h
      refine AOps_append 28 _ _ _ _ _ _ _ _ _ _ _ _ rfl rfl rfl rfl rfl rfl rfl Try.underlying34 Try.type2 rfl rfl rfl (by decide) rfl rfl rfl rfl (intsD_one _) (by rw [intsD_length, intsD_length]; exact hc9) ?_
      rw [intsD_app]
      refine kN 1 rfl ?_
      cases h
      exact Weak_trans (Weak_keep 0 hm [1, 2, 7, 8] [0] _ _ rfl rfl rfl) (Weak_reset 0 hm hz [1, 2, 7, 8] _ _ rfl rfl)
    refine (ACode_region ?_)
    refine kM 1 rfl ?_
    refine AOps_q 20 _ rfl rfl rfl (QOp_add _ _ _ _ _ _ _ rfl rfl rfl) ?_
    refine kN 1 rfl ?_
    exact ⟨k0, _, _, Nat.lt_succ_self _, Weak_keep 0 hm [1, 2, 7, 8] [0] _ _ rfl rfl rfl, _, _, rfl, rfl, h⟩
   refine ACode_exit ?_
   cases h
   exact Weak_keep 0 hm [7] [0] _ _ rfl rfl rfl
 refine kR ?_
 refine kN 3 rfl ?_
 refine ACode_ret ?_
 cases h
 exact ⟨_, _, Weak_reset 0 hm hz [4, 5] _ _ rfl rfl, _, _, [0], _, (.cons (ResV_tmp _ _ rfl) (.cons (ResV_tmp _ _ rfl) .nil)), rfl, rfl, rfl, rfl, rfl⟩

end Go.Proofs.Ytghhnpdhehjlaaa
