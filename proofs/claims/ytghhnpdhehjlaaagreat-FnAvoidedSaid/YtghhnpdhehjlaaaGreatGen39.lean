/- Plain functions of the program and that the program computes them: printed by the own tool gen.py. No conditions. -/
import Derived.Test.YtghhnpdhehjlaaaGreatGen39b
set_option linter.unusedVariables false
set_option linter.unusedSimpArgs false
namespace Go.Proofs.YtghhnpdhehjlaaaGreat
open Go Go.RowKit Ab

-- (*loop.example/g01362/impl.Colouring).cliques
def impl_Colouring_cliques_on_greatest_c1_l0 (k : Nat) (self : Col → Int → (List Int) → (List Int) → Option (Bool × List Int)) (p0 : Col) (p1 : Int) (p2 : List Int) : Nat → Int → (List Int) → Option (Sum (List Int) (Bool × List Int))
 | 0, _, _ => none
 | k0 + 1, x6, x7 => (if decide (x6 < p0.p) then (((impl_Colouring_goesWith k p0 p1 p2 x6).bind fun r9 => (if r9 then (if p2.isEmpty then (if ([x6]).length ≤ 1099511627776 ∧ ([x6]).length ≠ 0 then (self p0 p1 ([x6]) x7).bind fun r14 => some (!r14.1, r14.2) else none) else (cloneA p2).bind fun r15 => (if r15.length + ([x6]).length ≤ 1099511627776 then (self p0 p1 (r15 ++ ([x6])) x7).bind fun r17 => some (!r17.1, r17.2) else none)) else some (false, x7)) : Option (Bool × List Int)).bind fun s18 => (if s18.1 then (some (.inr (false, s18.2))).bind fun rr => some (.inr rr) else some (.inl s18.2)) : Option (Sum (List Int) (Sum (List Int) (Bool × List Int)))).bind fun os20 => (match os20 with | .inl s20 => impl_Colouring_cliques_on_greatest_c1_l0 k self p0 p1 p2 k0 (w64 (x6 + 1)) s20 | .inr rr => some rr) else some (.inl x7))
def impl_Colouring_cliques_on_greatest_c1_body (self : Col → Int → (List Int) → (List Int) → Option (Bool × List Int)) (k : Nat) (p0 : Col) (p1 : Int) (p2 : List Int) (p3_0 : List Int) : Option (Bool × List Int) :=
 (if !((impl_Colouring_greatest_c1 p2 p3_0).1) then some (false, (impl_Colouring_greatest_c1 p2 p3_0).2) else ((if decide (0 < (p2.length : Int)) then (if 0 ≤ w64 ((p2.length : Int) - 1) ∧ w64 ((p2.length : Int) - 1) < (p2.length : Int) then some (w64 ((p2.getD (w64 ((p2.length : Int) - 1)).toNat 0) + 1)) else none) else some 0) : Option (Int)).bind fun s5 => (impl_Colouring_cliques_on_greatest_c1_l0 k self p0 p1 p2 k s5 ((impl_Colouring_greatest_c1 p2 p3_0).2) : Option (Sum (List Int) (Bool × List Int))).bind fun os21 => (match os21 with | .inl s21 => some (true, s21) | .inr rr => some rr))
def impl_Colouring_cliques_on_greatest_c1 : Nat → Col → Int → (List Int) → (List Int) → Option (Bool × List Int)
 | 0, _, _, _, _ => none
 | k + 1, p0, p1, p2, p3_0 => impl_Colouring_cliques_on_greatest_c1_body (impl_Colouring_cliques_on_greatest_c1 k) k p0 p1 p2 p3_0
set_option maxRecDepth 100000 in
theorem impl_Colouring_cliques_on_greatest_c1_ac (k : Nat) (p0 : Col) (p1 : Int) (p2 : List Int) (p3_0 : List Int) (r : Bool × List Int) (h : impl_Colouring_cliques_on_greatest_c1 k p0 p1 p2 p3_0 = some r) : AC Tryz.prog 141 [.d (.pv (colD p0) 0), iV p1, .d (.sl none (intsD p2)), .clo 176 [.ptr 0 0]] [.box [.sl none (intsD p3_0)]] (fun res H' => res = [bV r.1] ∧ H' = [.box [.sl none (intsD r.2)]]) := by
 induction k generalizing p0 p1 p2 p3_0 r with
 | zero => simp [impl_Colouring_cliques_on_greatest_c1] at h
 | succ k ih =>
  rw [impl_Colouring_cliques_on_greatest_c1] at h
  obtain ⟨self, hself, hk⟩ : ∃ self : Col → Int → (List Int) → (List Int) → Option (Bool × List Int), (∀ (p0 : Col) (p1 : Int) (p2 : List Int) (p3_0 : List Int) (r : Bool × List Int), self p0 p1 p2 p3_0 = some r → AC Tryz.prog 141 [.d (.pv (colD p0) 0), iV p1, .d (.sl none (intsD p2)), .clo 176 [.ptr 0 0]] [.box [.sl none (intsD p3_0)]] (fun res H' => res = [bV r.1] ∧ H' = [.box [.sl none (intsD r.2)]])) ∧ impl_Colouring_cliques_on_greatest_c1 k = self := ⟨impl_Colouring_cliques_on_greatest_c1 k, fun p0 p1 p2 p3_0 r h => ih p0 p1 p2 p3_0 r h, rfl⟩
  rw [hk] at h
  clear ih hk
  refine AC_of_body true Tryz.func141 rfl Tryz.ntmps141 (rvs := [.tmp 8]) rfl rfl (fun G hG => ?_)
  have hm : G.H.length = 1 := by rw [hG]; rfl
  have hz : zeroG G.H = true := by rw [hG]; rfl
  unfold impl_Colouring_cliques_on_greatest_c1_body at h
  refine kR ?_
  refine kN 1 rfl ?_
  refine ACode_seq ?_
  refine kR ?_
  refine kM 2 rfl ?_
  refine kC [0] 13 (bV ((impl_Colouring_greatest_c1 p2 p3_0).1)) [.box [.sl none (intsD ((impl_Colouring_greatest_c1 p2 p3_0).2))]] rfl Tryz.call176 rfl rfl (impl_Colouring_greatest_c1_ac p2 p3_0) rfl ?_
  refine AOps_q 14 _ rfl rfl rfl (QOp_not _ _ _ rfl rfl) ?_
  refine AOps_nil ?_
  refine kI h rfl (fun h _ => ?_) (fun h _ => ?_)
  ·refine kR ?_
   refine kN 1 rfl ?_
   refine ACode_ret ?_
   cases h
   exact ⟨_, _, fun r a w h => ⟨r, h⟩, _, _, [], _, (.cons (ResV_tmp _ _ rfl) .nil), rfl, rfl, rfl, rfl, rfl⟩
  refine ACode_skip ?_
  refine kR ?_
  refine kN 1 rfl ?_
  refine kB (fun s5 => [(0, .d (.pv (colD p0) 0)), (1, iV p1), (2, .d (.sl none (intsD p2))), (3, .clo 176 [.ptr 0 0]), (9, iV s5)]) (fun s5 => [.box [.sl none (intsD ((impl_Colouring_greatest_c1 p2 p3_0).2))]]) h (fun s5 h => ?_) (fun s5 h => ?_)
  ·refine kR ?_
   refine kM 1 rfl ?_
   refine AOps_q 16 _ rfl rfl rfl (QOp_len_sl _ _ _ _ _ _ _ (intsD_length _) rfl rfl rfl rfl Tryz.underlying27 rfl) ?_
   refine AOps_q 17 _ rfl rfl rfl (QOp_gtr _ _ _ _ _ _ _ rfl rfl rfl) ?_
   refine AOps_nil ?_
   refine kI h rfl (fun h _ => ?_) (fun h _ => ?_)
   ·refine (ACode_region ?_)
    refine kM 2 rfl ?_
    refine AOps_q 20 _ rfl rfl rfl (QOp_len_sl _ _ _ _ _ _ _ (intsD_length _) rfl rfl rfl rfl Tryz.underlying27 rfl) ?_
    refine AOps_q 21 _ rfl rfl rfl (QOp_sub _ _ _ _ _ _ _ rfl rfl rfl) ?_
    obtain ⟨hc4, h⟩ := guardO h
    refine AOps_q 22 _ rfl rfl rfl (QOp_indexAddr_sl _ _ _ _ _ _ _ _ rfl Tryz.underlying27 Tryz.sizeOf2 hc4.1 (by rw [intsD_length]; exact hc4.2) rfl rfl) ?_
    refine AOps_q 23 _ rfl rfl rfl (QOp_load_pv _ _ _ _ _ rfl Tryz.isAgg2 rfl (intsD_get _ _ 0 (by omega))) ?_
    refine AOps_q 24 _ rfl rfl rfl (QOp_add _ _ _ _ _ _ _ rfl rfl rfl) ?_
    refine kN 1 rfl ?_
    cases h
    exact Weak_keep 1 hm [0, 1, 2, 3, 9] [] _ _ rfl rfl rfl
   refine ACode_skip ?_
   cases h
   exact Weak_keep 1 hm [0, 1, 2, 3, 9] [] _ _ rfl rfl rfl
  refine kO (fun s21 => []) (fun s21 => [.box [.sl none (intsD s21)]]) h (fun os21 h hks21 => ?_) (fun s21 h => ?_)
  ·refine kR ?_
   refine kN 2 rfl ?_
   refine ACode_block ?_
   refine ACode_loopW (fun k0 E H => ∃ (x6 : Int) (x7 : List Int), E = [(0, .d (.pv (colD p0) 0)), (1, iV p1), (2, .d (.sl none (intsD p2))), (3, .clo 176 [.ptr 0 0]), (10, iV x6)] ∧ H = [.box [.sl none (intsD x7)]] ∧ impl_Colouring_cliques_on_greatest_c1_l0 k self p0 p1 p2 k0 x6 x7 = some os21) k _ _ (Weak_keep 1 hm [0, 1, 2, 3, 10] [] _ _ rfl rfl rfl) ⟨_, _, rfl, rfl, h⟩ ?_
   clear h
   rintro k0 E H ⟨x6, x7, rfl, rfl, h⟩
   cases k0 with
   | zero => cases (show (none : Option (Sum (List Int) (Bool × List Int))) = some _ from h)
   | succ k0 =>
    rw [impl_Colouring_cliques_on_greatest_c1_l0] at h
    refine ACode_seq ?_
    refine kR ?_
    refine kM 2 rfl ?_
    refine AOps_q 28 _ rfl rfl rfl (QOp_nilCheck_pv _ _ _ rfl rfl) ?_
    refine AOps_q 29 _ rfl rfl rfl (QOp_fieldAddr_pv _ _ _ _ _ 0 _ _ rfl Tryz.underlying34 rfl _ Tryz.sizeOf2 rfl rfl) ?_
    refine AOps_q 30 _ rfl rfl rfl (QOp_load_pv _ _ _ _ _ rfl Tryz.isAgg2 rfl rfl) ?_
    refine AOps_q 31 _ rfl rfl rfl (QOp_lss _ _ _ _ _ _ _ rfl rfl rfl) ?_
    refine AOps_nil ?_
    refine kI h rfl (fun h _ => ?_) (fun h _ => ?_)
    ·refine ACode_skip ?_
     refine kO (fun s20 => [(0, .d (.pv (colD p0) 0)), (1, iV p1), (2, .d (.sl none (intsD p2))), (3, .clo 176 [.ptr 0 0]), (10, iV x6)]) (fun s20 => [.box [.sl none (intsD s20)]]) h (fun os20 h hks20 => ?_) (fun s20 h => ?_)
     ·refine ACode_block ?_
      refine kB (fun s18 => [(0, .d (.pv (colD p0) 0)), (1, iV p1), (2, .d (.sl none (intsD p2))), (3, .clo 176 [.ptr 0 0]), (10, iV x6), (50, bV s18.1)]) (fun s18 => [.box [.sl none (intsD s18.2)]]) h (fun s18 h => ?_) (fun s18 h => ?_)
      ·refine (ACode_region ?_)
       refine kM 4 rfl ?_
       obtain ⟨r9, hr9, h⟩ := bindO h
       refine kC [] 38 (bV r9) [.box [.sl none (intsD x7)]] rfl Tryz.call147 rfl rfl (impl_Colouring_goesWith_ac k p0 p1 p2 x6 _ hr9) rfl ?_
       refine kM 1 rfl ?_
       refine AOps_case 39 _ rfl (fun hb10 => ?_) (fun hb10 => ?_)
       ·have h := iteT hb10 h
        refine kM 3 rfl ?_
        refine bsplit (p2.isEmpty) (fun hb11 => ?_) (fun hb11 => ?_)
        ·have h := iteT hb11 h
         refine kC [] 43 (.d (.se none)) [.box [.sl none (intsD x7)]] rfl Tryz.call109 rfl rfl (cloneB_ac p2 hb11) rfl ?_
         refine kM 1 rfl ?_
         refine AOps_buildSlice 45 _ _ _ [_] (intsD ([x6])) _ rfl rfl rfl rfl rfl (by decide) Tryz.underlying27 Tryz.sizeOf2 (zero_of Tryz.typeInfo2 rfl) rfl rfl (intsD_one _) ?_
         obtain ⟨hc13, h⟩ := guardO h
         refine AOps_append0 46 _ _ _ _ _ _ _ _ _ _ rfl rfl rfl rfl rfl rfl rfl Tryz.underlying27 Tryz.type2 rfl rfl rfl (by decide) rfl rfl rfl (intsD_one _) (by rw [intsD_length]; exact hc13.1) (by rw [intsD_length]; exact hc13.2) ?_
         refine kM 1 rfl ?_
         refine AOps_freezeL [46] 2 0 _ (allc (rfl) (fun _ h => nomatch h)) rfl ?_
         obtain ⟨r14, hr14, h⟩ := bindO h
         refine kC [0] 48 (bV r14.1) [.box [.sl none (intsD r14.2)], .vec 0 (intsD ([x6])), .gone] rfl Tryz.call141 rfl rfl (hself p0 p1 ([x6]) x7 _ hr14) rfl ?_
         refine AOps_q 49 _ rfl rfl rfl (QOp_not _ _ _ rfl rfl) ?_
         refine kN 1 rfl ?_
         cases h
         exact Weak_keep 1 hm [0, 1, 2, 3, 10, 50] [] _ _ rfl rfl rfl
        have h := iteF hb11 h
        obtain ⟨r15, hr15, h⟩ := bindO h
        refine kC [] 43 (.vec 1 0) [.box [.sl none (intsD x7)], .vec 0 (intsD r15)] rfl Tryz.call109 rfl rfl (cloneA_ac p2 _ hb11 hr15) rfl ?_
        refine kM 1 rfl ?_
        refine AOps_buildSlice 45 _ _ _ [_] (intsD ([x6])) _ rfl rfl rfl rfl rfl (by decide) Tryz.underlying27 Tryz.sizeOf2 (zero_of Tryz.typeInfo2 rfl) rfl rfl (intsD_one _) ?_
        obtain ⟨hc16, h⟩ := guardO h
        refine AOps_append 46 _ _ _ _ _ _ _ _ _ _ _ _ rfl rfl rfl rfl rfl rfl rfl Tryz.underlying27 Tryz.type2 rfl rfl rfl (by decide) rfl rfl rfl rfl (intsD_one _) (by rw [intsD_length, intsD_length]; exact hc16) ?_
        rw [intsD_app]
        refine kM 1 rfl ?_
        refine AOps_freezeL [46] 1 1 _ (allc (rfl) (fun _ h => nomatch h)) rfl ?_
        obtain ⟨r17, hr17, h⟩ := bindO h
        refine kC [0] 48 (bV r17.1) [.box [.sl none (intsD r17.2)], .gone, .vec 0 (intsD ([x6]))] rfl Tryz.call141 rfl rfl (hself p0 p1 (r15 ++ ([x6])) x7 _ hr17) rfl ?_
        refine AOps_q 49 _ rfl rfl rfl (QOp_not _ _ _ rfl rfl) ?_
        refine kN 1 rfl ?_
        cases h
        exact Weak_keep 1 hm [0, 1, 2, 3, 10, 50] [] _ _ rfl rfl rfl
       have h := iteF hb10 h
       refine AOps_skip 40 rfl rfl rfl ?_
       refine AOps_skip 41 rfl rfl rfl ?_
       refine AOps_skip 42 rfl rfl rfl ?_
       refine AOps_skip 43 rfl rfl rfl ?_
       refine AOps_skip 44 rfl rfl rfl ?_
       refine AOps_skip 45 rfl rfl rfl ?_
       refine AOps_skip 46 rfl rfl rfl ?_
       refine AOps_skip 47 rfl rfl rfl ?_
       refine AOps_skip 48 rfl rfl rfl ?_
       refine AOps_skip 49 rfl rfl rfl ?_
       refine kN 1 rfl ?_
       cases h
       exact Weak_keep 1 hm [0, 1, 2, 3, 10, 50] [] _ _ rfl rfl rfl
      refine kI h rfl (fun h _ => ?_) (fun h _ => ?_)
      ·refine kR ?_
       refine kN 1 rfl ?_
       refine ACode_ret ?_
       obtain ⟨rr, hz22, h2⟩ := bindO h
       obtain rfl := Option.some.inj h2
       obtain rfl := Option.some.inj (show some rr = some _ from hks20)
       have h := hz22
       cases h
       have h := hks21
       cases h
       exact ⟨_, _, fun r a w h => ⟨r, h⟩, _, _, [], _, (.cons (ResV_tmp _ _ rfl) .nil), rfl, rfl, rfl, rfl, rfl⟩
      refine ACode_skip ?_
      cases h
      exact ⟨_, rfl, Weak_keep 1 hm [0, 1, 2, 3, 10] [] _ _ rfl rfl rfl⟩
     refine (ACode_region ?_)
     refine kM 1 rfl ?_
     refine AOps_q 33 _ rfl rfl rfl (QOp_add _ _ _ _ _ _ _ rfl rfl rfl) ?_
     refine kN 1 rfl ?_
     exact ⟨k0, _, _, Nat.lt_succ_self _, Weak_keep 1 hm [0, 1, 2, 3, 10] [] _ _ rfl rfl rfl, _, _, rfl, rfl, h⟩
    refine ACode_exit ?_
    cases h
    exact ⟨_, rfl, Weak_keep 1 hm [] [] _ _ rfl rfl rfl⟩
  refine kR ?_
  refine kN 1 rfl ?_
  refine ACode_ret ?_
  cases h
  exact ⟨_, _, fun r a w h => ⟨r, h⟩, _, _, [], _, (.cons (ResV_tmp _ _ rfl) .nil), rfl, rfl, rfl, rfl, rfl⟩

-- (*loop.example/g01362/impl.Colouring).greatest
def impl_Colouring_greatest (k : Nat) (p0 : Col) (p1 : Int) : Option (List Int) :=
 (impl_Colouring_cliques_on_greatest_c1 k p0 p1 ([]) ([] : List Int)).bind fun r1 => some r1.2
set_option maxRecDepth 100000 in
theorem impl_Colouring_greatest_ac (k : Nat) (p0 : Col) (p1 : Int) (r : List Int) (h : impl_Colouring_greatest k p0 p1 = some r) : AC Tryz.prog 138 [.d (.pv (colD p0) 0), iV p1] [] (fun res H' => res = [.d (.sl none (intsD r))] ∧ H' = []) := by
 refine AC_of_body true Tryz.func138 rfl Tryz.ntmps138 (rvs := [.tmp 4]) rfl rfl (fun G hG => ?_)
 have hm : G.H.length = 0 := by rw [hG]; rfl
 have hz : zeroG G.H = true := by rw [hG]; rfl
 unfold impl_Colouring_greatest at h
 refine kR ?_
 refine kN 1 rfl ?_
 refine kR ?_
 refine AOps_buildSlice 6 _ _ _ [] (intsD ([] : List Int)) _ rfl rfl rfl rfl rfl (by decide) Tryz.underlying27 Tryz.sizeOf2 (zero_of Tryz.typeInfo2 rfl) rfl rfl (intsD_one _) ?_
 refine AOps_alloc 5 _ _ ([.sl (some true) []]) (zero_of Tryz.typeInfo27 rfl) (by rfl) rfl rfl rfl rfl ?_
 refine AOps_freeze 6 0 0 _ rfl rfl ?_
 refine AOps_store1 _ _ _ _ _ _ _ _ rfl rfl rfl rfl rfl rfl rfl Tryz.sizeOf27 (Nat.le_of_ble_eq_true rfl) rfl ?_
 refine AOps_nil ?_
 refine kR ?_
 refine kM 2 rfl ?_
 refine AOps_q 9 _ rfl rfl rfl (QOp_makeFunc _ _ _ rfl rfl) ?_
 obtain ⟨r1, hr1, h⟩ := bindO h
 refine kC [1] 10 (bV r1.1) [.gone, .box [.sl none (intsD r1.2)]] rfl Tryz.call141 rfl rfl (impl_Colouring_cliques_on_greatest_c1_ac k p0 p1 ([]) ([] : List Int) _ hr1) rfl ?_
 refine AOps_nil ?_
 refine kR ?_
 refine AOps_q 11 _ rfl rfl rfl (QOp_load_ptr _ _ _ _ _ _ rfl Tryz.isAgg27 rfl rfl rfl) ?_
 refine kN 1 rfl ?_
 refine ACode_ret ?_
 cases h
 exact ⟨_, _, fun r a w h => ⟨r, h⟩, _, _, [], _, (.cons (ResV_tmp _ _ rfl) .nil), rfl, rfl, rfl, rfl, rfl⟩

-- (*loop.example/g01362/impl.Colouring).cliqueNumbers
def impl_Colouring_cliqueNumbers_l0 (k : Nat) (p0 : Col) : Nat → Int → (List Int) → Option (List Int)
 | 0, _, _ => none
 | k0 + 1, x1, x2 => (if decide (x1 < p0.k) then (impl_Colouring_greatest k p0 x1).bind fun r4 => (if x2.length + ([(impl_size r4)]).length ≤ 1099511627776 then impl_Colouring_cliqueNumbers_l0 k p0 k0 (w64 (x1 + 1)) (x2 ++ ([(impl_size r4)])) else none) else some x2)
def impl_Colouring_cliqueNumbers (k : Nat) (p0 : Col) : Option (List Int) :=
 (impl_Colouring_cliqueNumbers_l0 k p0 k 0 ([] : List Int) : Option (List Int)).bind fun s7 => some s7
set_option maxRecDepth 100000 in
theorem impl_Colouring_cliqueNumbers_ac (k : Nat) (p0 : Col) (r : List Int) (h : impl_Colouring_cliqueNumbers k p0 = some r) : AC Tryz.prog 82 [.d (.pv (colD p0) 0)] [] (fun res H' => res = [.vec 0 0] ∧ H' = [.vec 0 (intsD r)]) := by
 refine AC_of_body true Tryz.func82 rfl Tryz.ntmps82 (rvs := [.tmp 2]) rfl rfl (fun G hG => ?_)
 have hm : G.H.length = 0 := by rw [hG]; rfl
 have hz : zeroG G.H = true := by rw [hG]; rfl
 unfold impl_Colouring_cliqueNumbers at h
 refine kR ?_
 refine kN 1 rfl ?_
 refine kR ?_
 refine AOps_buildSlice 5 _ _ _ [] (intsD ([] : List Int)) _ rfl rfl rfl rfl rfl (by decide) Tryz.underlying27 Tryz.sizeOf2 (zero_of Tryz.typeInfo2 rfl) rfl rfl (intsD_one _) ?_
 refine kN 1 rfl ?_
 refine kB (fun s7 => [(3, .vec 0 0)]) (fun s7 => [.vec 0 (intsD s7)]) h (fun s7 h => ?_) (fun s7 h => ?_)
 ·refine kR ?_
  refine kM 1 rfl ?_
  refine AOps_q 7 _ rfl rfl rfl (QOp_nilCheck_pv _ _ _ rfl rfl) ?_
  refine AOps_q 8 _ rfl rfl rfl (QOp_fieldAddr_pv _ _ _ _ _ 1 _ _ rfl Tryz.underlying34 rfl _ Tryz.sizeOf2 rfl rfl) ?_
  refine AOps_q 9 _ rfl rfl rfl (QOp_load_pv _ _ _ _ _ rfl Tryz.isAgg2 rfl rfl) ?_
  refine kN 1 rfl ?_
  refine ACode_block ?_
  refine ACode_loopW (fun k0 E H => ∃ (x1 : Int) (x2 : List Int), E = [(0, .d (.pv (colD p0) 0)), (3, .vec 0 0), (9, iV p0.k), (10, iV x1)] ∧ H = [.vec 0 (intsD x2)] ∧ impl_Colouring_cliqueNumbers_l0 k p0 k0 x1 x2 = some s7) k _ _ (Weak_keep 0 hm [0, 3, 9, 10] [0] _ _ rfl rfl rfl) ⟨_, _, rfl, rfl, h⟩ ?_
  clear h
  rintro k0 E H ⟨x1, x2, rfl, rfl, h⟩
  cases k0 with
  | zero => cases (show (none : Option (List Int)) = some _ from h)
  | succ k0 =>
   rw [impl_Colouring_cliqueNumbers_l0] at h
   refine kR ?_
   refine AOps_q 11 _ rfl rfl rfl (QOp_lss _ _ _ _ _ _ _ rfl rfl rfl) ?_
   refine AOps_nil ?_
   refine ACode_seq ?_
   refine kI h rfl (fun h _ => ?_) (fun h _ => ?_)
   ·refine ACode_skip ?_
    refine ACode_seq ?_
    refine ACode_block ?_
    refine kR ?_
    refine kN 2 rfl ?_
    refine (ACode_region ?_)
    refine kM 3 rfl ?_
    obtain ⟨r4, hr4, h⟩ := bindO h
    refine kC [] 16 (.d (.sl none (intsD r4))) [.vec 0 (intsD x2)] rfl Tryz.call138 rfl rfl (impl_Colouring_greatest_ac k p0 x1 _ hr4) rfl ?_
    refine kC [] 17 (iV (impl_size r4)) [.vec 0 (intsD x2)] rfl Tryz.call63 rfl rfl (impl_size_ac r4) rfl ?_
    refine AOps_buildSlice 18 _ _ _ [_] (intsD ([(impl_size r4)])) _ rfl rfl rfl rfl rfl (by decide) Tryz.underlying27 Tryz.sizeOf2 (zero_of Tryz.typeInfo2 rfl) rfl rfl (intsD_one _) ?_
    obtain ⟨hc6, h⟩ := guardO h
    refine AOps_append 19 _ _ _ _ _ _ _ _ _ _ _ _ rfl rfl rfl rfl rfl rfl rfl Tryz.underlying27 Tryz.type2 rfl rfl rfl (by decide) rfl rfl rfl rfl (intsD_one _) (by rw [intsD_length, intsD_length]; exact hc6) ?_
    rw [intsD_app]
    refine kN 1 rfl ?_
    refine (ACode_region ?_)
    refine AOps_q 20 _ rfl rfl rfl (QOp_add _ _ _ _ _ _ _ rfl rfl rfl) ?_
    refine kN 1 rfl ?_
    exact ⟨k0, _, _, Nat.lt_succ_self _, Weak_trans (Weak_keep 0 hm [0, 3, 9, 10] [0] _ _ rfl rfl rfl) (Weak_reset 0 hm hz [0, 3, 9, 10] _ _ rfl rfl), _, _, rfl, rfl, h⟩
   refine ACode_exit ?_
   cases h
   exact Weak_keep 0 hm [3] [0] _ _ rfl rfl rfl
 refine kR ?_
 refine kN 2 rfl ?_
 refine ACode_ret ?_
 cases h
 exact ⟨_, _, Weak_reset 0 hm hz [2] _ _ rfl rfl, _, _, [0], _, (.cons (ResV_tmp _ _ rfl) .nil), rfl, rfl, rfl, rfl, rfl⟩

-- loop.example/g01362/impl.CliqueNumbers
def impl_CliqueNumbers (k : Nat) (p0 : Col) : Option (Option (List Int) × Int) :=
 (impl_Colouring_code k p0 (some (impl_always))).bind fun r1 => (if !decide (r1 = 0) then some (none, r1) else (impl_Colouring_cliqueNumbers k p0).bind fun r3 => some (some r3, 0))
set_option maxRecDepth 100000 in
theorem impl_CliqueNumbers_ac (k : Nat) (p0 : Col) (r : Option (List Int) × Int) (h : impl_CliqueNumbers k p0 = some r) : AC Tryz.prog 31 [.d (.agg (colD p0))] [] (fun res H' => res = [ownA 0 (r.1.map intsD), iV r.2] ∧ H' = [] ++ ownH (r.1.map intsD)) := by
 refine AC_of_body false Tryz.func31 rfl Tryz.ntmps31 (rvs := [.tmp 2, .tmp 3]) rfl rfl (fun G hG => ?_)
 have hm : G.H.length = 0 := by rw [hG]; rfl
 have hz : zeroG G.H = true := by rw [hG]; rfl
 unfold impl_CliqueNumbers at h
 refine kR ?_
 refine AOps_boxI 1 _ _ (.agg (colD p0)) (colD p0) rfl (colD_one _) rfl rfl rfl rfl rfl ?_
 refine kN 2 rfl ?_
 refine ACode_seq ?_
 refine kR ?_
 obtain ⟨r1, hr1, h⟩ := bindO h
 refine kC [] 5 (iV r1) [] rfl Tryz.call80 rfl rfl (impl_Colouring_code_ac k p0 (some (impl_always)) 81 ([]) Tryz.call81 (fun r h => by cases h; exact impl_always_ac) _ hr1) rfl ?_
 refine kN 1 rfl ?_
 refine kR ?_
 refine kM 1 rfl ?_
 refine AOps_q 7 _ rfl rfl rfl (QOp_neq _ _ _ _ _ _ _ rfl rfl rfl) ?_
 refine AOps_nil ?_
 refine kI h rfl (fun h _ => ?_) (fun h _ => ?_)
 ·refine kR ?_
  refine kN 3 rfl ?_
  refine ACode_ret ?_
  cases h
  exact ⟨_, _, fun r a w h => ⟨r, h⟩, _, _, [], _, (.cons (ResV_tmp _ _ rfl) (.cons (ResV_tmp _ _ rfl) .nil)), rfl, rfl, rfl, rfl, rfl⟩
 refine ACode_skip ?_
 refine kR ?_
 obtain ⟨r3, hr3, h⟩ := bindO h
 refine kC [] 9 (.vec 0 0) [.vec 0 (intsD r3)] rfl Tryz.call82 rfl rfl (impl_Colouring_cliqueNumbers_ac k p0 _ hr3) rfl ?_
 refine kN 2 rfl ?_
 refine ACode_ret ?_
 cases h
 exact ⟨_, _, Weak_reset 0 hm hz [2, 3] _ _ rfl rfl, _, _, [0], _, (.cons (ResV_tmp _ _ rfl) (.cons (ResV_tmp _ _ rfl) .nil)), rfl, rfl, rfl, rfl, rfl⟩

-- (*loop.example/g01362/impl.Colouring).hasColour
def impl_Colouring_hasColour (p0 : Col) (p1 : Int) : Bool :=
 (impl_in p1 0 (w64 (p0.k - 1)))
set_option maxRecDepth 100000 in
theorem impl_Colouring_hasColour_ac (p0 : Col) (p1 : Int) : AC Tryz.prog 93 [.d (.pv (colD p0) 0), iV p1] [] (fun res H' => res = [bV (impl_Colouring_hasColour p0 p1)] ∧ H' = []) := by
 refine AC_of_body true Tryz.func93 rfl Tryz.ntmps93 (rvs := [.tmp 4]) rfl rfl (fun G hG => ?_)
 have hm : G.H.length = 0 := by rw [hG]; rfl
 have hz : zeroG G.H = true := by rw [hG]; rfl
 obtain ⟨r, h⟩ : ∃ r, impl_Colouring_hasColour p0 p1 = r := ⟨_, rfl⟩
 rw [h]
 unfold impl_Colouring_hasColour at h
 refine kR ?_
 refine kN 1 rfl ?_
 refine kR ?_
 refine kM 2 rfl ?_
 refine AOps_q 7 _ rfl rfl rfl (QOp_nilCheck_pv _ _ _ rfl rfl) ?_
 refine AOps_q 8 _ rfl rfl rfl (QOp_fieldAddr_pv _ _ _ _ _ 1 _ _ rfl Tryz.underlying34 rfl _ Tryz.sizeOf2 rfl rfl) ?_
 refine AOps_q 9 _ rfl rfl rfl (QOp_load_pv _ _ _ _ _ rfl Tryz.isAgg2 rfl rfl) ?_
 refine AOps_q 10 _ rfl rfl rfl (QOp_sub _ _ _ _ _ _ _ rfl rfl rfl) ?_
 refine kC [] 11 (bV (impl_in p1 0 (w64 (p0.k - 1)))) [] rfl Tryz.call60 rfl rfl (impl_in_ac p1 0 (w64 (p0.k - 1))) rfl ?_
 refine kN 1 rfl ?_
 refine ACode_ret ?_
 cases h
 exact ⟨_, _, fun r a w h => ⟨r, h⟩, _, _, [], _, (.cons (ResV_tmp _ _ rfl) .nil), rfl, rfl, rfl, rfl, rfl⟩

-- (*loop.example/g01362/impl.Colouring).has
def impl_Colouring_has (p0 : Col) (p1 : Int) : Bool :=
 (impl_in p1 0 (w64 (p0.p - 1)))
set_option maxRecDepth 100000 in
theorem impl_Colouring_has_ac (p0 : Col) (p1 : Int) : AC Tryz.prog 146 [.d (.pv (colD p0) 0), iV p1] [] (fun res H' => res = [bV (impl_Colouring_has p0 p1)] ∧ H' = []) := by
 refine AC_of_body true Tryz.func146 rfl Tryz.ntmps146 (rvs := [.tmp 4]) rfl rfl (fun G hG => ?_)
 have hm : G.H.length = 0 := by rw [hG]; rfl
 have hz : zeroG G.H = true := by rw [hG]; rfl
 obtain ⟨r, h⟩ : ∃ r, impl_Colouring_has p0 p1 = r := ⟨_, rfl⟩
 rw [h]
 unfold impl_Colouring_has at h
 refine kR ?_
 refine kN 1 rfl ?_
 refine kR ?_
 refine kM 2 rfl ?_
 refine AOps_q 7 _ rfl rfl rfl (QOp_nilCheck_pv _ _ _ rfl rfl) ?_
 refine AOps_q 8 _ rfl rfl rfl (QOp_fieldAddr_pv _ _ _ _ _ 0 _ _ rfl Tryz.underlying34 rfl _ Tryz.sizeOf2 rfl rfl) ?_
 refine AOps_q 9 _ rfl rfl rfl (QOp_load_pv _ _ _ _ _ rfl Tryz.isAgg2 rfl rfl) ?_
 refine AOps_q 10 _ rfl rfl rfl (QOp_sub _ _ _ _ _ _ _ rfl rfl rfl) ?_
 refine kC [] 11 (bV (impl_in p1 0 (w64 (p0.p - 1)))) [] rfl Tryz.call60 rfl rfl (impl_in_ac p1 0 (w64 (p0.p - 1))) rfl ?_
 refine kN 1 rfl ?_
 refine ACode_ret ?_
 cases h
 exact ⟨_, _, fun r a w h => ⟨r, h⟩, _, _, [], _, (.cons (ResV_tmp _ _ rfl) .nil), rfl, rfl, rfl, rfl, rfl⟩

-- (*loop.example/g01362/impl.Colouring).isSet
def impl_Colouring_isSet_l0 (p0 : Col) (p1 : List Int) : Nat → Int → Option (Sum (Unit) (Bool))
 | 0, _ => none
 | k0 + 1, x1 => (if decide (x1 < (p1.length : Int)) then ((if 0 ≤ x1 ∧ x1 < (p1.length : Int) then ((if !(impl_Colouring_has p0 (p1.getD x1.toNat 0)) then some true else (if decide (0 < x1) then (if 0 ≤ w64 (x1 - 1) ∧ w64 (x1 - 1) < (p1.length : Int) then some (decide ((p1.getD x1.toNat 0) ≤ (p1.getD (w64 (x1 - 1)).toNat 0))) else none) else some false)) : Option (Bool)).bind fun s8 => (if s8 then (some (.inr false)).bind fun rr => some (.inr rr) else some (.inl ())) else none) : Option (Sum (Unit) (Sum (Unit) (Bool)))).bind fun os10 => (match os10 with | .inl s10 => impl_Colouring_isSet_l0 p0 p1 k0 (w64 (x1 + 1)) | .inr rr => some rr) else some (.inl ()))
def impl_Colouring_isSet (k : Nat) (p0 : Col) (p1 : List Int) : Option (Bool) :=
 (impl_Colouring_isSet_l0 p0 p1 k 0 : Option (Sum (Unit) (Bool))).bind fun os11 => (match os11 with | .inl s11 => some true | .inr rr => some rr)
set_option maxRecDepth 100000 in
theorem impl_Colouring_isSet_ac (k : Nat) (p0 : Col) (p1 : List Int) (r : Bool) (h : impl_Colouring_isSet k p0 p1 = some r) : AC Tryz.prog 94 [.d (.pv (colD p0) 0), .d (.sl none (intsD p1))] [] (fun res H' => res = [bV r] ∧ H' = []) := by
 refine AC_of_body true Tryz.func94 rfl Tryz.ntmps94 (rvs := [.tmp 4]) rfl rfl (fun G hG => ?_)
 have hm : G.H.length = 0 := by rw [hG]; rfl
 have hz : zeroG G.H = true := by rw [hG]; rfl
 unfold impl_Colouring_isSet at h
 refine kR ?_
 refine kN 1 rfl ?_
 refine kO (fun s11 => []) (fun s11 => []) h (fun os11 h hks11 => ?_) (fun s11 h => ?_)
 ·refine kR ?_
  refine kM 1 rfl ?_
  refine AOps_q 8 _ rfl rfl rfl (QOp_len_sl _ _ _ _ _ _ _ (intsD_length _) rfl rfl rfl rfl Tryz.underlying27 rfl) ?_
  refine kN 1 rfl ?_
  refine ACode_block ?_
  refine ACode_loopW (fun k0 E H => ∃ (x1 : Int), E = [(0, .d (.pv (colD p0) 0)), (1, .d (.sl none (intsD p1))), (7, .d (.sl none (intsD p1))), (8, iV (p1.length : Int)), (9, iV x1)] ∧ H = [] ∧ impl_Colouring_isSet_l0 p0 p1 k0 x1 = some os11) k _ _ (Weak_keep 0 hm [0, 1, 7, 8, 9] [] _ _ rfl rfl rfl) ⟨_, rfl, rfl, h⟩ ?_
  clear h
  rintro k0 E H ⟨x1, rfl, rfl, h⟩
  cases k0 with
  | zero => cases (show (none : Option (Sum (Unit) (Bool))) = some _ from h)
  | succ k0 =>
   rw [impl_Colouring_isSet_l0] at h
   refine kR ?_
   refine AOps_q 10 _ rfl rfl rfl (QOp_lss _ _ _ _ _ _ _ rfl rfl rfl) ?_
   refine AOps_nil ?_
   refine ACode_seq ?_
   refine kI h rfl (fun h _ => ?_) (fun h _ => ?_)
   ·refine ACode_skip ?_
    refine kO (fun s10 => [(0, .d (.pv (colD p0) 0)), (1, .d (.sl none (intsD p1))), (7, .d (.sl none (intsD p1))), (8, iV (p1.length : Int)), (9, iV x1)]) (fun s10 => []) h (fun os10 h hks10 => ?_) (fun s10 h => ?_)
    ·refine ACode_block ?_
     refine kR ?_
     refine kM 1 rfl ?_
     obtain ⟨hc3, h⟩ := guardO h
     refine AOps_q 12 _ rfl rfl rfl (QOp_indexAddr_sl _ _ _ _ _ _ _ _ rfl Tryz.underlying27 Tryz.sizeOf2 hc3.1 (by rw [intsD_length]; exact hc3.2) rfl rfl) ?_
     refine AOps_q 13 _ rfl rfl rfl (QOp_load_pv _ _ _ _ _ rfl Tryz.isAgg2 rfl (intsD_get _ _ 0 (by omega))) ?_
     refine kN 2 rfl ?_
     refine kB (fun s8 => [(0, .d (.pv (colD p0) 0)), (1, .d (.sl none (intsD p1))), (7, .d (.sl none (intsD p1))), (8, iV (p1.length : Int)), (9, iV x1), (30, bV s8)]) (fun s8 => []) h (fun s8 h => ?_) (fun s8 h => ?_)
     ·refine (ACode_region ?_)
      refine kM 2 rfl ?_
      refine kC [] 16 (bV (impl_Colouring_has p0 (p1.getD x1.toNat 0))) [] rfl Tryz.call146 rfl rfl (impl_Colouring_has_ac p0 (p1.getD x1.toNat 0)) rfl ?_
      refine AOps_q 17 _ rfl rfl rfl (QOp_not _ _ _ rfl rfl) ?_
      refine kM 1 rfl ?_
      refine AOps_case 18 _ rfl (fun hb5 => ?_) (fun hb5 => ?_)
      ·have h := iteT hb5 h
       refine AOps_skip 19 rfl rfl rfl ?_
       refine AOps_skip 20 rfl rfl rfl ?_
       refine AOps_skip 21 rfl rfl rfl ?_
       refine AOps_skip 22 rfl rfl rfl ?_
       refine AOps_skip 23 rfl rfl rfl ?_
       refine AOps_skip 24 rfl rfl rfl ?_
       refine AOps_skip 25 rfl rfl rfl ?_
       refine AOps_skip 26 rfl rfl rfl ?_
       refine AOps_skip 27 rfl rfl rfl ?_
       refine AOps_skip 28 rfl rfl rfl ?_
       refine AOps_skip 29 rfl rfl rfl ?_
       refine kN 1 rfl ?_
       cases h
       exact Weak_keep 0 hm [0, 1, 7, 8, 9, 30] [] _ _ rfl rfl rfl
      have h := iteF hb5 h
      refine kM 1 rfl ?_
      refine AOps_q 20 _ rfl rfl rfl (QOp_gtr _ _ _ _ _ _ _ rfl rfl rfl) ?_
      refine kM 1 rfl ?_
      refine AOps_case 21 _ rfl (fun hb6 => ?_) (fun hb6 => ?_)
      ·have h := iteT hb6 h
       refine kM 2 rfl ?_
       refine AOps_q 24 _ rfl rfl rfl (QOp_sub _ _ _ _ _ _ _ rfl rfl rfl) ?_
       obtain ⟨hc7, h⟩ := guardO h
       refine AOps_q 25 _ rfl rfl rfl (QOp_indexAddr_sl _ _ _ _ _ _ _ _ rfl Tryz.underlying27 Tryz.sizeOf2 hc7.1 (by rw [intsD_length]; exact hc7.2) rfl rfl) ?_
       refine AOps_q 26 _ rfl rfl rfl (QOp_load_pv _ _ _ _ _ rfl Tryz.isAgg2 rfl (intsD_get _ _ 0 (by omega))) ?_
       refine kM 1 rfl ?_
       refine AOps_q 28 _ rfl rfl rfl (QOp_geq _ _ _ _ _ _ _ rfl rfl rfl) ?_
       refine kN 2 rfl ?_
       cases h
       exact Weak_keep 0 hm [0, 1, 7, 8, 9, 30] [] _ _ rfl rfl rfl
      have h := iteF hb6 h
      refine AOps_skip 22 rfl rfl rfl ?_
      refine AOps_skip 23 rfl rfl rfl ?_
      refine AOps_skip 24 rfl rfl rfl ?_
      refine AOps_skip 25 rfl rfl rfl ?_
      refine AOps_skip 26 rfl rfl rfl ?_
      refine AOps_skip 27 rfl rfl rfl ?_
      refine AOps_skip 28 rfl rfl rfl ?_
      refine kN 2 rfl ?_
      cases h
      exact Weak_keep 0 hm [0, 1, 7, 8, 9, 30] [] _ _ rfl rfl rfl
     refine kI h rfl (fun h _ => ?_) (fun h _ => ?_)
     ·refine kR ?_
      refine kN 1 rfl ?_
      refine ACode_ret ?_
      obtain ⟨rr, hz12, h2⟩ := bindO h
      obtain rfl := Option.some.inj h2
      obtain rfl := Option.some.inj (show some rr = some _ from hks10)
      have h := hz12
      cases h
      have h := hks11
      cases h
      exact ⟨_, _, fun r a w h => ⟨r, h⟩, _, _, [], _, (.cons (ResV_tmp _ _ rfl) .nil), rfl, rfl, rfl, rfl, rfl⟩
     refine ACode_skip ?_
     cases h
     exact ⟨_, rfl, Weak_keep 0 hm [0, 1, 7, 8, 9] [] _ _ rfl rfl rfl⟩
    refine (ACode_region ?_)
    refine AOps_q 31 _ rfl rfl rfl (QOp_add _ _ _ _ _ _ _ rfl rfl rfl) ?_
    refine kN 1 rfl ?_
    exact ⟨k0, _, _, Nat.lt_succ_self _, Weak_keep 0 hm [0, 1, 7, 8, 9] [] _ _ rfl rfl rfl, _, rfl, rfl, h⟩
   refine ACode_exit ?_
   cases h
   exact ⟨_, rfl, Weak_keep 0 hm [] [] _ _ rfl rfl rfl⟩
 refine kR ?_
 refine kN 1 rfl ?_
 refine ACode_ret ?_
 cases h
 exact ⟨_, _, fun r a w h => ⟨r, h⟩, _, _, [], _, (.cons (ResV_tmp _ _ rfl) .nil), rfl, rfl, rfl, rfl, rfl⟩

-- loop.example/g01362/impl.IsClique$1
def impl_IsClique_c1 (k : Nat) (p0 : Col) (p1 : Int) (p2 : List Int) : Option (Bool) :=
 ((if (impl_Colouring_hasColour p0 p1) then (impl_Colouring_isSet k p0 p2).bind fun r3 => some r3 else some false) : Option (Bool)).bind fun s4 => some s4
set_option maxRecDepth 100000 in
theorem impl_IsClique_c1_ac (k : Nat) (p0 : Col) (p1 : Int) (p2 : List Int) (r : Bool) (h : impl_IsClique_c1 k p0 p1 p2 = some r) : AC Tryz.prog 92 [.d (.pv (colD p0) 0), .d (.pv ([iD p1]) 0), .d (.pv ([.sl none (intsD p2)]) 0)] [] (fun res H' => res = [bV r] ∧ H' = []) := by
 refine AC_of_body true Tryz.func92 rfl Tryz.ntmps92 (rvs := [.tmp 3]) rfl rfl (fun G hG => ?_)
 have hm : G.H.length = 0 := by rw [hG]; rfl
 have hz : zeroG G.H = true := by rw [hG]; rfl
 unfold impl_IsClique_c1 at h
 refine kR ?_
 refine kN 1 rfl ?_
 refine kB (fun s4 => [(3, bV s4)]) (fun s4 => []) h (fun s4 h => ?_) (fun s4 h => ?_)
 ·refine (ACode_region ?_)
  refine AOps_q 4 _ rfl rfl rfl (QOp_load_pv _ _ _ _ _ rfl Tryz.isAgg2 rfl rfl) ?_
  refine kC [] 5 (bV (impl_Colouring_hasColour p0 p1)) [] rfl Tryz.call93 rfl rfl (impl_Colouring_hasColour_ac p0 p1) rfl ?_
  refine kM 1 rfl ?_
  refine AOps_case 6 _ rfl (fun hb2 => ?_) (fun hb2 => ?_)
  ·have h := iteT hb2 h
   refine AOps_q 7 _ rfl rfl rfl (QOp_load_pv _ _ _ _ _ rfl Tryz.isAgg27 rfl rfl) ?_
   obtain ⟨r3, hr3, h⟩ := bindO h
   refine kC [] 8 (bV r3) [] rfl Tryz.call94 rfl rfl (impl_Colouring_isSet_ac k p0 p2 _ hr3) rfl ?_
   refine kN 2 rfl ?_
   cases h
   exact Weak_keep 0 hm [3] [] _ _ rfl rfl rfl
  have h := iteF hb2 h
  refine AOps_skip 7 rfl rfl rfl ?_
  refine AOps_skip 8 rfl rfl rfl ?_
  refine kN 2 rfl ?_
  cases h
  exact Weak_keep 0 hm [3] [] _ _ rfl rfl rfl
 refine ACode_ret ?_
 cases h
 exact ⟨_, _, fun r a w h => ⟨r, h⟩, _, _, [], _, (.cons (ResV_tmp _ _ rfl) .nil), rfl, rfl, rfl, rfl, rfl⟩

-- (*loop.example/g01362/impl.Colouring).isClique
def impl_Colouring_isClique_l0 (k : Nat) (p0 : Col) (p1 : Int) (p2 : List Int) : Nat → Int → Option (Sum (Unit) (Bool))
 | 0, _ => none
 | k0 + 1, x1 => (if decide (x1 < (p2.length : Int)) then (if 0 ≤ x1 ∧ x1 < (p2.length : Int) then (if 0 ≤ 0 ∧ 0 ≤ x1 ∧ x1 ≤ (p2.length : Int) then (impl_Colouring_goesWith k p0 p1 ((p2.take x1.toNat).drop 0) (p2.getD x1.toNat 0)).bind fun r5 => (if !r5 then some (.inr false) else impl_Colouring_isClique_l0 k p0 p1 p2 k0 (w64 (x1 + 1))) else none) else none) else some (.inl ()))
def impl_Colouring_isClique (k : Nat) (p0 : Col) (p1 : Int) (p2 : List Int) : Option (Bool) :=
 (impl_Colouring_isClique_l0 k p0 p1 p2 k 0 : Option (Sum (Unit) (Bool))).bind fun os7 => (match os7 with | .inl s7 => some true | .inr rr => some rr)
set_option maxRecDepth 100000 in
theorem impl_Colouring_isClique_ac (k : Nat) (p0 : Col) (p1 : Int) (p2 : List Int) (r : Bool) (h : impl_Colouring_isClique k p0 p1 p2 = some r) : AC Tryz.prog 95 [.d (.pv (colD p0) 0), iV p1, .d (.sl none (intsD p2))] [] (fun res H' => res = [bV r] ∧ H' = []) := by
 refine AC_of_body true Tryz.func95 rfl Tryz.ntmps95 (rvs := [.tmp 6]) rfl rfl (fun G hG => ?_)
 have hm : G.H.length = 0 := by rw [hG]; rfl
 have hz : zeroG G.H = true := by rw [hG]; rfl
 unfold impl_Colouring_isClique at h
 refine kR ?_
 refine kN 1 rfl ?_
 refine kO (fun s7 => []) (fun s7 => []) h (fun os7 h hks7 => ?_) (fun s7 h => ?_)
 ·refine kR ?_
  refine kM 1 rfl ?_
  refine AOps_q 10 _ rfl rfl rfl (QOp_len_sl _ _ _ _ _ _ _ (intsD_length _) rfl rfl rfl rfl Tryz.underlying27 rfl) ?_
  refine kN 1 rfl ?_
  refine ACode_block ?_
  refine ACode_loopW (fun k0 E H => ∃ (x1 : Int), E = [(0, .d (.pv (colD p0) 0)), (1, iV p1), (2, .d (.sl none (intsD p2))), (9, .d (.sl none (intsD p2))), (10, iV (p2.length : Int)), (11, iV x1)] ∧ H = [] ∧ impl_Colouring_isClique_l0 k p0 p1 p2 k0 x1 = some os7) k _ _ (Weak_keep 0 hm [0, 1, 2, 9, 10, 11] [] _ _ rfl rfl rfl) ⟨_, rfl, rfl, h⟩ ?_
  clear h
  rintro k0 E H ⟨x1, rfl, rfl, h⟩
  cases k0 with
  | zero => cases (show (none : Option (Sum (Unit) (Bool))) = some _ from h)
  | succ k0 =>
   rw [impl_Colouring_isClique_l0] at h
   refine kR ?_
   refine AOps_q 12 _ rfl rfl rfl (QOp_lss _ _ _ _ _ _ _ rfl rfl rfl) ?_
   refine AOps_nil ?_
   refine ACode_seq ?_
   refine kI h rfl (fun h _ => ?_) (fun h _ => ?_)
   ·refine ACode_skip ?_
    refine ACode_seq ?_
    refine ACode_block ?_
    refine kR ?_
    refine kM 1 rfl ?_
    obtain ⟨hc3, h⟩ := guardO h
    refine AOps_q 14 _ rfl rfl rfl (QOp_indexAddr_sl _ _ _ _ _ _ _ _ rfl Tryz.underlying27 Tryz.sizeOf2 hc3.1 (by rw [intsD_length]; exact hc3.2) rfl rfl) ?_
    refine AOps_q 15 _ rfl rfl rfl (QOp_load_pv _ _ _ _ _ rfl Tryz.isAgg2 rfl (intsD_get _ _ 0 (by omega))) ?_
    refine kN 2 rfl ?_
    refine kR ?_
    refine kM 4 rfl ?_
    obtain ⟨hc4, h⟩ := guardO h
    refine AOps_q 20 _ rfl rfl rfl (QOp_slice_sl _ _ _ _ _ _ _ _ (0) (x1.toNat) rfl Tryz.underlying27 Tryz.sizeOf2 rfl rfl ⟨_, by rw [Int.toNat_of_nonneg (by omega)]; rfl⟩ (by omega) (by rw [intsD_length]; omega) (intsD_part _ _ _)) ?_
    refine kM 1 rfl ?_
    obtain ⟨r5, hr5, h⟩ := bindO h
    refine kC [] 22 (bV r5) [] rfl Tryz.call147 rfl rfl (impl_Colouring_goesWith_ac k p0 p1 ((p2.take x1.toNat).drop 0) (p2.getD x1.toNat 0) _ hr5) rfl ?_
    refine AOps_q 23 _ rfl rfl rfl (QOp_not _ _ _ rfl rfl) ?_
    refine AOps_nil ?_
    refine kI h rfl (fun h _ => ?_) (fun h _ => ?_)
    ·refine kR ?_
     refine kN 1 rfl ?_
     refine ACode_ret ?_
     cases h
     have h := hks7
     cases h
     exact ⟨_, _, fun r a w h => ⟨r, h⟩, _, _, [], _, (.cons (ResV_tmp _ _ rfl) .nil), rfl, rfl, rfl, rfl, rfl⟩
    refine ACode_skip ?_
    refine (ACode_region ?_)
    refine AOps_q 24 _ rfl rfl rfl (QOp_add _ _ _ _ _ _ _ rfl rfl rfl) ?_
    refine kN 1 rfl ?_
    exact ⟨k0, _, _, Nat.lt_succ_self _, Weak_keep 0 hm [0, 1, 2, 9, 10, 11] [] _ _ rfl rfl rfl, _, rfl, rfl, h⟩
   refine ACode_exit ?_
   cases h
   exact ⟨_, rfl, Weak_keep 0 hm [] [] _ _ rfl rfl rfl⟩
 refine kR ?_
 refine kN 1 rfl ?_
 refine ACode_ret ?_
 cases h
 exact ⟨_, _, fun r a w h => ⟨r, h⟩, _, _, [], _, (.cons (ResV_tmp _ _ rfl) .nil), rfl, rfl, rfl, rfl, rfl⟩

-- loop.example/g01362/impl.IsClique
def impl_IsClique (k : Nat) (p0 : Col) (p1 : Int) (p2 : List Int) : Option (Bool × Int) :=
 (impl_Colouring_code k p0 (impl_IsClique_c1 k p0 p1 p2)).bind fun r1 => (if !decide (r1 = 0) then some (false, r1) else (impl_Colouring_isClique k p0 p1 p2).bind fun r3 => some (r3, 0))
set_option maxRecDepth 100000 in
theorem impl_IsClique_ac (k : Nat) (p0 : Col) (p1 : Int) (p2 : List Int) (r : Bool × Int) (h : impl_IsClique k p0 p1 p2 = some r) : AC Tryz.prog 41 [.d (.agg (colD p0)), iV p1, .d (.sl none (intsD p2))] [] (fun res H' => res = [bV r.1, iV r.2] ∧ H' = []) := by
 refine AC_of_body true Tryz.func41 rfl Tryz.ntmps41 (rvs := [.tmp 6, .tmp 7]) rfl rfl (fun G hG => ?_)
 have hm : G.H.length = 0 := by rw [hG]; rfl
 have hz : zeroG G.H = true := by rw [hG]; rfl
 unfold impl_IsClique at h
 refine kR ?_
 refine AOps_boxI 3 _ _ (.agg (colD p0)) (colD p0) rfl (colD_one _) rfl rfl rfl rfl rfl ?_
 refine AOps_boxI 4 _ _ (iD p1) _ rfl (fun c hc => by cases hc with | head => rfl | tail _ h => cases h) rfl rfl rfl rfl rfl ?_
 refine AOps_boxI 5 _ _ (.sl none (intsD p2)) _ rfl (fun c hc => by cases hc with | head => rfl | tail _ h => cases h) rfl rfl rfl rfl rfl ?_
 refine kN 2 rfl ?_
 refine ACode_seq ?_
 refine kR ?_
 refine AOps_q 9 _ rfl rfl rfl (QOp_makeFuncD _ _ _ _ rfl rfl rfl) ?_
 obtain ⟨r1, hr1, h⟩ := bindO h
 refine kC [] 10 (iV r1) [] rfl Tryz.call80 rfl rfl (impl_Colouring_code_ac k p0 (impl_IsClique_c1 k p0 p1 p2) 92 ([.pv (colD p0) 0, .pv ([iD p1]) 0, .pv ([.sl none (intsD p2)]) 0]) Tryz.call92 (fun r h => impl_IsClique_c1_ac k p0 p1 p2 r h) _ hr1) rfl ?_
 refine kN 1 rfl ?_
 refine kR ?_
 refine kM 1 rfl ?_
 refine AOps_q 12 _ rfl rfl rfl (QOp_neq _ _ _ _ _ _ _ rfl rfl rfl) ?_
 refine AOps_nil ?_
 refine kI h rfl (fun h _ => ?_) (fun h _ => ?_)
 ·refine kR ?_
  refine kN 3 rfl ?_
  refine ACode_ret ?_
  cases h
  exact ⟨_, _, fun r a w h => ⟨r, h⟩, _, _, [], _, (.cons (ResV_tmp _ _ rfl) (.cons (ResV_tmp _ _ rfl) .nil)), rfl, rfl, rfl, rfl, rfl⟩
 refine ACode_skip ?_
 refine kR ?_
 refine AOps_q 14 _ rfl rfl rfl (QOp_load_pv _ _ _ _ _ rfl Tryz.isAgg2 rfl rfl) ?_
 refine AOps_q 15 _ rfl rfl rfl (QOp_load_pv _ _ _ _ _ rfl Tryz.isAgg27 rfl rfl) ?_
 obtain ⟨r3, hr3, h⟩ := bindO h
 refine kC [] 16 (bV r3) [] rfl Tryz.call95 rfl rfl (impl_Colouring_isClique_ac k p0 p1 p2 _ hr3) rfl ?_
 refine kN 2 rfl ?_
 refine ACode_ret ?_
 cases h
 exact ⟨_, _, fun r a w h => ⟨r, h⟩, _, _, [], _, (.cons (ResV_tmp _ _ rfl) (.cons (ResV_tmp _ _ rfl) .nil)), rfl, rfl, rfl, rfl, rfl⟩

-- loop.example/g01362/laws.FnAvoided
def laws_FnAvoided_l0 (r3 : Col × List Int) (r36 : Option (List Int) × Int) : Nat → Bool → Int → Option (Bool)
 | 0, _, _ => none
 | k0 + 1, x38, x39 => (if decide (x39 < ((r36.1.getD []).length : Int)) then ((if x38 then (if 0 ≤ x39 ∧ x39 < ((r36.1.getD []).length : Int) then (if 0 ≤ x39 ∧ x39 < (r3.2.length : Int) then some (decide (((r36.1.getD []).getD x39.toNat 0) < (r3.2.getD x39.toNat 0))) else none) else none) else some false) : Option (Bool)).bind fun s44 => laws_FnAvoided_l0 r3 r36 k0 s44 (w64 (x39 + 1)) else some x38)
def laws_FnAvoided (k : Nat) (p0 : List UInt8) : Option (Bool) :=
 (if (laws_big p0) then some true else (spec_DrawAvoidsSizes k p0).bind fun r3 => (impl_AvoidsSizes k r3.1 r3.2).bind fun r4 => ((spec_AvoidsSizes k r3.1 r3.2).bind fun r5 => letO (if !decide (r4.2 = r5.2) then true else !(r4.1 == r5.1)) fun (s7 : Bool) => (if s7 then some (.inr false) else some (.inl ())) : Option (Sum (Unit) (Bool))).bind fun os9 => (match os9 with | .inl s9 => (impl_FirstOfSizes k r3.1 r3.2).bind fun r10 => ((spec_FirstOfSizes k r3.1 r3.2).bind fun r11 => ((if !decide (r10.2.2 = r11.2.2) then some true else (if !decide (r10.1 = r11.1) then some true else (laws_likeInts k r10.2.1 r11.2.1).bind fun r14 => some (!r14))) : Option (Bool)).bind fun s15 => (if s15 then some (.inr false) else some (.inl ())) : Option (Sum (Unit) (Bool))).bind fun os17 => (match os17 with | .inl s17 => (spec_DrawLowerBound k p0).bind fun r18 => (impl_LowerBound k r18.1 r18.2).bind fun r19 => ((spec_LowerBound k r18.1 r18.2).bind fun r20 => letO (if !decide (r19.2 = r20.2) then true else !decide (r19.1 = r20.1)) fun (s22 : Bool) => (if s22 then some (.inr false) else some (.inl ())) : Option (Sum (Unit) (Bool))).bind fun os24 => (match os24 with | .inl s24 => ((if decide (r19.2 = 0) then (impl_NeighbourBound k r18.2).bind fun r26 => letO (if !decide (r19.1 = w64 (r18.1.p + 1)) then true else (if decide (r26.2 = 0) then decide (r26.1 < r19.1) else false)) fun (s29 : Bool) => (if s29 then some (.inr false) else some (.inl ())) else some (.inl ())) : Option (Sum (Unit) (Bool))).bind fun os31 => (match os31 with | .inl s31 => (if !decide (r4.2 = 0) then letO (if !r4.1 then decide (r10.2.2 = r4.2) else false) fun (s34 : Bool) => some s34 else (if !(r4.1 == decide (r10.2.2 = 4)) then some false else (impl_CliqueNumbers k r3.1).bind fun r36 => (if !decide (r36.2 = 0) then some false else (laws_FnAvoided_l0 r3 r36 k true 0 : Option (Bool)).bind fun s45 => ((if decide (r10.2.2 = 0) then (impl_IsClique k r3.1 r10.1 r10.2.1).bind fun r47 => ((if !decide (r47.2 = 0) then some true else (if !r47.1 then some true else (if 0 ≤ r10.1 ∧ r10.1 < (r3.2.length : Int) then some (!decide ((r10.2.1.length : Int) = (r3.2.getD r10.1.toNat 0))) else none))) : Option (Bool)).bind fun s51 => (if s51 then some (.inr false) else some (.inl ())) else some (.inl ())) : Option (Sum (Unit) (Bool))).bind fun os53 => (match os53 with | .inl s53 => some (r4.1 == s45) | .inr rr => some rr)))) | .inr rr => some rr) | .inr rr => some rr) | .inr rr => some rr) | .inr rr => some rr))
set_option maxHeartbeats 2000000 in
set_option maxRecDepth 100000 in
theorem laws_FnAvoided_ac (k : Nat) (p0 : List UInt8) (r : Bool) (h : laws_FnAvoided k p0 = some r) : AC Tryz.prog 4 [.d (.sl none (bysD p0))] [] (fun res H' => res = [bV r] ∧ H' = []) := by
 refine AC_of_body true Tryz.func4 rfl Tryz.ntmps4 (rvs := [.tmp 2]) rfl rfl (fun G hG => ?_)
 have hm : G.H.length = 0 := by rw [hG]; rfl
 have hz : zeroG G.H = true := by rw [hG]; rfl
 unfold laws_FnAvoided at h
 refine kR ?_
 refine kN 1 rfl ?_
 refine ACode_seq ?_
 refine kR ?_
 refine kM 1 rfl ?_
 refine kC [] 30 (bV (laws_big p0)) [] rfl Tryz.call6 rfl rfl (laws_big_ac p0) rfl ?_
 refine AOps_nil ?_
 refine kI h rfl (fun h _ => ?_) (fun h _ => ?_)
 ·refine kR ?_
  refine kN 1 rfl ?_
  refine ACode_ret ?_
  cases h
  exact ⟨_, _, fun r a w h => ⟨r, h⟩, _, _, [], _, (.cons (ResV_tmp _ _ rfl) .nil), rfl, rfl, rfl, rfl, rfl⟩
 refine ACode_skip ?_
 refine kR ?_
 refine kM 1 rfl ?_
 obtain ⟨r3, hr3, h⟩ := bindO h
 refine kC [] 33 (.tup [.d (.agg (colD r3.1)), .vec 0 0]) [.vec 0 (intsD r3.2)] rfl Tryz.call33 rfl rfl (spec_DrawAvoidsSizes_ac k p0 _ hr3) rfl ?_
 refine kM 3 rfl ?_
 refine AOps_alloc 3 _ _ (colD Col.zero) (zero_of Tryz.typeInfo34 rfl) (by rfl) rfl rfl rfl rfl ?_
 refine AOps_store _ _ _ _ _ _ (colD _) _ _ rfl rfl rfl rfl rfl rfl rfl (colD_one _) (by rw [colD_length]; exact Tryz.sizeOf34) (by rw [colD_length, colD_length]; decide) (colD_whole _ _) ?_
 refine kN 1 rfl ?_
 refine kR ?_
 refine AOps_q 37 _ rfl rfl rfl (QOp_loadN_ptr _ _ _ _ _ _ _ rfl Tryz.isAgg34 Tryz.sizeOf34 rfl rfl (colD_all _) (colD_length _)) ?_
 refine kM 1 rfl ?_
 obtain ⟨r4, hr4, h⟩ := bindO h
 refine AOps_callL [] 39 _ _ _ _ _ _ _ _ _ _ rfl rfl rfl rfl rfl rfl rfl Tryz.call34 rfl (nodupB_sound _ rfl) rfl rfl rfl (impl_AvoidsSizes_ac k r3.1 r3.2 _ hr4) ?_
 rintro _ _ ⟨rfl, rfl⟩
 refine ⟨(fun _ h => nomatch h), (allc (flat_s _) (allc (flat_s _) (fun _ h => nomatch h))), AOps_as 39 (v' := .tup [bV r4.1, iV r4.2]) (H' := [.vec 0 (intsD r3.2), .box (colD r3.1)]) rfl rfl ?_⟩
 refine kN 5 rfl ?_
 refine kO (fun s9 => [(0, .d (.sl none (bysD p0))), (3, .ptr 0 0), (4, .vec 1 0), (5, bV r4.1), (6, iV r4.2)]) (fun s9 => [.box (colD r3.1), .vec 0 (intsD r3.2)]) h (fun os9 h hks9 => ?_) (fun s9 h => ?_)
 ·refine kR ?_
  refine AOps_q 43 _ rfl rfl rfl (QOp_loadN_ptr _ _ _ _ _ _ _ rfl Tryz.isAgg34 Tryz.sizeOf34 rfl rfl (colD_all _) (colD_length _)) ?_
  refine kM 1 rfl ?_
  obtain ⟨r5, hr5, h⟩ := bindO h
  refine AOps_callL [] 45 _ _ _ _ _ _ _ _ _ _ rfl rfl rfl rfl rfl rfl rfl Tryz.call35 rfl (nodupB_sound _ rfl) rfl rfl rfl (spec_AvoidsSizes_ac k r3.1 r3.2 _ hr5) ?_
  rintro _ _ ⟨rfl, rfl⟩
  refine ⟨(fun _ h => nomatch h), (allc (flat_s _) (allc (flat_s _) (fun _ h => nomatch h))), AOps_as 45 (v' := .tup [bV r5.1, iV r5.2]) (H' := [.vec 0 (intsD r3.2), .box (colD r3.1)]) rfl rfl ?_⟩
  refine kN 5 rfl ?_
  refine kL (fun s7 => [(0, .d (.sl none (bysD p0))), (3, .ptr 0 0), (4, .vec 1 0), (5, bV r4.1), (6, iV r4.2), (55, bV s7)]) (fun s7 => [.box (colD r3.1), .vec 0 (intsD r3.2)]) h (fun s7 h => ?_) (fun s7 h => ?_)
  ·refine (ACode_region ?_)
   refine kM 2 rfl ?_
   refine AOps_q 50 _ rfl rfl rfl (QOp_neq _ _ _ _ _ _ _ rfl rfl rfl) ?_
   refine kM 1 rfl ?_
   refine AOps_case 51 _ rfl (fun hb6 => ?_) (fun hb6 => ?_)
   ·have h := iteT hb6 h
    refine AOps_skip 52 rfl rfl rfl ?_
    refine AOps_skip 53 rfl rfl rfl ?_
    refine AOps_skip 54 rfl rfl rfl ?_
    refine kN 1 rfl ?_
    cases h
    exact Weak_keep 0 hm [0, 3, 4, 5, 6, 55] [1, 0] _ _ rfl rfl rfl
   have h := iteF hb6 h
   refine kM 2 rfl ?_
   refine AOps_q 54 _ rfl rfl rfl (QOp_bneq _ _ _ _ _ _ rfl rfl rfl Tryz.underlying4) ?_
   refine kN 1 rfl ?_
   cases h
   exact Weak_keep 0 hm [0, 3, 4, 5, 6, 55] [1, 0] _ _ rfl rfl rfl
  refine kI h rfl (fun h _ => ?_) (fun h _ => ?_)
  ·refine kR ?_
   refine kN 1 rfl ?_
   refine ACode_ret ?_
   cases h
   have h := hks9
   cases h
   exact ⟨_, _, fun r a w h => ⟨r, h⟩, _, _, [], _, (.cons (ResV_tmp _ _ rfl) .nil), rfl, rfl, rfl, rfl, rfl⟩
  refine ACode_skip ?_
  cases h
  exact ⟨_, rfl, Weak_keep 0 hm [0, 3, 4, 5, 6] [0, 1] _ _ rfl rfl rfl⟩
 refine kR ?_
 refine AOps_q 57 _ rfl rfl rfl (QOp_loadN_ptr _ _ _ _ _ _ _ rfl Tryz.isAgg34 Tryz.sizeOf34 rfl rfl (colD_all _) (colD_length _)) ?_
 refine kM 1 rfl ?_
 refine AOps_freezeL [4, 58] 1 0 _ (allc (rfl) (allc (rfl) (fun _ h => nomatch h))) rfl ?_
 obtain ⟨r10, hr10, h⟩ := bindO h
 refine kC [] 59 (.tup [iV r10.1, .d (.sl none (intsD r10.2.1)), iV r10.2.2]) [.box (colD r3.1), .gone] rfl Tryz.call36 rfl rfl (impl_FirstOfSizes_ac k r3.1 r3.2 _ hr10) rfl ?_
 refine kN 7 rfl ?_
 refine kO (fun s17 => [(0, .d (.sl none (bysD p0))), (3, .ptr 0 0), (4, .d (.sl none (intsD r3.2))), (5, bV r4.1), (6, iV r4.2), (9, iV r10.1), (10, .d (.sl none (intsD r10.2.1))), (11, iV r10.2.2)]) (fun s17 => [.box (colD r3.1)]) h (fun os17 h hks17 => ?_) (fun s17 h => ?_)
 ·refine kR ?_
  refine AOps_q 64 _ rfl rfl rfl (QOp_loadN_ptr _ _ _ _ _ _ _ rfl Tryz.isAgg34 Tryz.sizeOf34 rfl rfl (colD_all _) (colD_length _)) ?_
  refine kM 1 rfl ?_
  obtain ⟨r11, hr11, h⟩ := bindO h
  refine kC [] 66 (.tup [iV r11.1, .d (.sl none (intsD r11.2.1)), iV r11.2.2]) [.box (colD r3.1), .gone] rfl Tryz.call37 rfl rfl (spec_FirstOfSizes_ac k r3.1 r3.2 _ hr11) rfl ?_
  refine kN 7 rfl ?_
  refine kB (fun s15 => [(0, .d (.sl none (bysD p0))), (3, .ptr 0 0), (4, .d (.sl none (intsD r3.2))), (5, bV r4.1), (6, iV r4.2), (9, iV r10.1), (10, .d (.sl none (intsD r10.2.1))), (11, iV r10.2.2), (83, bV s15)]) (fun s15 => [.box (colD r3.1)]) h (fun s15 h => ?_) (fun s15 h => ?_)
  ·refine (ACode_region ?_)
   refine kM 2 rfl ?_
   refine AOps_q 72 _ rfl rfl rfl (QOp_neq _ _ _ _ _ _ _ rfl rfl rfl) ?_
   refine kM 1 rfl ?_
   refine AOps_case 73 _ rfl (fun hb12 => ?_) (fun hb12 => ?_)
   ·have h := iteT hb12 h
    refine AOps_skip 74 rfl rfl rfl ?_
    refine AOps_skip 75 rfl rfl rfl ?_
    refine AOps_skip 76 rfl rfl rfl ?_
    refine kM 2 rfl ?_
    refine AOps_skip 79 rfl rfl rfl ?_
    refine AOps_skip 80 rfl rfl rfl ?_
    refine AOps_skip 81 rfl rfl rfl ?_
    refine AOps_skip 82 rfl rfl rfl ?_
    refine kN 1 rfl ?_
    cases h
    exact Weak_keep 0 hm [0, 3, 4, 5, 6, 9, 10, 11, 83] [0] _ _ rfl rfl rfl
   have h := iteF hb12 h
   refine kM 2 rfl ?_
   refine AOps_q 76 _ rfl rfl rfl (QOp_neq _ _ _ _ _ _ _ rfl rfl rfl) ?_
   refine kM 2 rfl ?_
   refine AOps_case 78 _ rfl (fun hb13 => ?_) (fun hb13 => ?_)
   ·have h := iteT hb13 h
    refine AOps_skip 79 rfl rfl rfl ?_
    refine AOps_skip 80 rfl rfl rfl ?_
    refine AOps_skip 81 rfl rfl rfl ?_
    refine AOps_skip 82 rfl rfl rfl ?_
    refine kN 1 rfl ?_
    cases h
    exact Weak_keep 0 hm [0, 3, 4, 5, 6, 9, 10, 11, 83] [0] _ _ rfl rfl rfl
   have h := iteF hb13 h
   refine kM 2 rfl ?_
   obtain ⟨r14, hr14, h⟩ := bindO h
   refine kC [] 81 (bV r14) [.box (colD r3.1), .gone] rfl Tryz.call32 rfl rfl (laws_likeInts_ac k r10.2.1 r11.2.1 _ hr14) rfl ?_
   refine AOps_q 82 _ rfl rfl rfl (QOp_not _ _ _ rfl rfl) ?_
   refine kN 1 rfl ?_
   cases h
   exact Weak_keep 0 hm [0, 3, 4, 5, 6, 9, 10, 11, 83] [0] _ _ rfl rfl rfl
  refine kI h rfl (fun h _ => ?_) (fun h _ => ?_)
  ·refine kR ?_
   refine kN 1 rfl ?_
   refine ACode_ret ?_
   cases h
   have h := hks17
   cases h
   exact ⟨_, _, fun r a w h => ⟨r, h⟩, _, _, [], _, (.cons (ResV_tmp _ _ rfl) .nil), rfl, rfl, rfl, rfl, rfl⟩
  refine ACode_skip ?_
  cases h
  exact ⟨_, rfl, Weak_keep 0 hm [0, 3, 4, 5, 6, 9, 10, 11] [0] _ _ rfl rfl rfl⟩
 refine kR ?_
 refine kM 1 rfl ?_
 obtain ⟨r18, hr18, h⟩ := bindO h
 refine kC [] 86 (.tup [.d (.agg (colD r18.1)), .vec 1 0]) [.box (colD r3.1), .vec 0 (intsD r18.2)] rfl Tryz.call38 rfl rfl (spec_DrawLowerBound_ac k p0 _ hr18) rfl ?_
 refine kM 3 rfl ?_
 refine AOps_alloc 15 _ _ (colD Col.zero) (zero_of Tryz.typeInfo34 rfl) (by rfl) rfl rfl rfl rfl ?_
 refine AOps_store _ _ _ _ _ _ (colD _) _ _ rfl rfl rfl rfl rfl rfl rfl (colD_one _) (by rw [colD_length]; exact Tryz.sizeOf34) (by rw [colD_length, colD_length]; decide) (colD_whole _ _) ?_
 refine kN 1 rfl ?_
 refine kR ?_
 refine AOps_q 90 _ rfl rfl rfl (QOp_loadN_ptr _ _ _ _ _ _ _ rfl Tryz.isAgg34 Tryz.sizeOf34 rfl rfl (colD_all _) (colD_length _)) ?_
 refine kM 1 rfl ?_
 obtain ⟨r19, hr19, h⟩ := bindO h
 refine AOps_callL [] 92 _ _ _ _ _ _ _ _ _ _ rfl rfl rfl rfl rfl rfl rfl Tryz.call39 rfl (nodupB_sound _ rfl) rfl rfl rfl (impl_LowerBound_ac k r18.1 r18.2 _ hr19) ?_
 rintro _ _ ⟨rfl, rfl⟩
 refine ⟨(fun _ h => nomatch h), (allc (flat_s _) (allc (flat_s _) (fun _ h => nomatch h))), AOps_as 92 (v' := .tup [iV r19.1, iV r19.2]) (H' := [.box (colD r3.1), .vec 0 (intsD r18.2), .box (colD r18.1)]) rfl rfl ?_⟩
 refine kN 5 rfl ?_
 refine kO (fun s24 => [(3, .ptr 0 0), (4, .d (.sl none (intsD r3.2))), (5, bV r4.1), (6, iV r4.2), (9, iV r10.1), (10, .d (.sl none (intsD r10.2.1))), (11, iV r10.2.2), (15, .ptr 1 0), (16, .vec 2 0), (17, iV r19.1), (18, iV r19.2)]) (fun s24 => [.box (colD r3.1), .box (colD r18.1), .vec 0 (intsD r18.2)]) h (fun os24 h hks24 => ?_) (fun s24 h => ?_)
 ·refine kR ?_
  refine AOps_q 96 _ rfl rfl rfl (QOp_loadN_ptr _ _ _ _ _ _ _ rfl Tryz.isAgg34 Tryz.sizeOf34 rfl rfl (colD_all _) (colD_length _)) ?_
  refine kM 1 rfl ?_
  obtain ⟨r20, hr20, h⟩ := bindO h
  refine AOps_callL [] 98 _ _ _ _ _ _ _ _ _ _ rfl rfl rfl rfl rfl rfl rfl Tryz.call40 rfl (nodupB_sound _ rfl) rfl rfl rfl (spec_LowerBound_ac k r18.1 r18.2 _ hr20) ?_
  rintro _ _ ⟨rfl, rfl⟩
  refine ⟨(fun _ h => nomatch h), (allc (flat_s _) (allc (flat_s _) (fun _ h => nomatch h))), AOps_as 98 (v' := .tup [iV r20.1, iV r20.2]) (H' := [.box (colD r3.1), .vec 0 (intsD r18.2), .box (colD r18.1)]) rfl rfl ?_⟩
  refine kN 5 rfl ?_
  refine kL (fun s22 => [(3, .ptr 0 0), (4, .d (.sl none (intsD r3.2))), (5, bV r4.1), (6, iV r4.2), (9, iV r10.1), (10, .d (.sl none (intsD r10.2.1))), (11, iV r10.2.2), (15, .ptr 1 0), (16, .vec 2 0), (17, iV r19.1), (18, iV r19.2), (108, bV s22)]) (fun s22 => [.box (colD r3.1), .box (colD r18.1), .vec 0 (intsD r18.2)]) h (fun s22 h => ?_) (fun s22 h => ?_)
  ·refine (ACode_region ?_)
   refine kM 2 rfl ?_
   refine AOps_q 103 _ rfl rfl rfl (QOp_neq _ _ _ _ _ _ _ rfl rfl rfl) ?_
   refine kM 1 rfl ?_
   refine AOps_case 104 _ rfl (fun hb21 => ?_) (fun hb21 => ?_)
   ·have h := iteT hb21 h
    refine AOps_skip 105 rfl rfl rfl ?_
    refine AOps_skip 106 rfl rfl rfl ?_
    refine AOps_skip 107 rfl rfl rfl ?_
    refine kN 1 rfl ?_
    cases h
    exact Weak_keep 0 hm [3, 4, 5, 6, 9, 10, 11, 15, 16, 17, 18, 108] [0, 2, 1] _ _ rfl rfl rfl
   have h := iteF hb21 h
   refine kM 2 rfl ?_
   refine AOps_q 107 _ rfl rfl rfl (QOp_neq _ _ _ _ _ _ _ rfl rfl rfl) ?_
   refine kN 1 rfl ?_
   cases h
   exact Weak_keep 0 hm [3, 4, 5, 6, 9, 10, 11, 15, 16, 17, 18, 108] [0, 2, 1] _ _ rfl rfl rfl
  refine kI h rfl (fun h _ => ?_) (fun h _ => ?_)
  ·refine kR ?_
   refine kN 1 rfl ?_
   refine ACode_ret ?_
   cases h
   have h := hks24
   cases h
   exact ⟨_, _, fun r a w h => ⟨r, h⟩, _, _, [], _, (.cons (ResV_tmp _ _ rfl) .nil), rfl, rfl, rfl, rfl, rfl⟩
  refine ACode_skip ?_
  cases h
  exact ⟨_, rfl, Weak_keep 0 hm [3, 4, 5, 6, 9, 10, 11, 15, 16, 17, 18] [0, 1, 2] _ _ rfl rfl rfl⟩
 refine kO (fun s31 => [(3, .ptr 0 0), (4, .d (.sl none (intsD r3.2))), (5, bV r4.1), (6, iV r4.2), (9, iV r10.1), (10, .d (.sl none (intsD r10.2.1))), (11, iV r10.2.2)]) (fun s31 => [.box (colD r3.1)]) h (fun os31 h hks31 => ?_) (fun s31 h => ?_)
 ·refine kR ?_
  refine kM 1 rfl ?_
  refine AOps_q 110 _ rfl rfl rfl (QOp_eql _ _ _ _ _ _ _ rfl rfl rfl) ?_
  refine AOps_nil ?_
  refine kI h rfl (fun h _ => ?_) (fun h _ => ?_)
  ·refine kR ?_
   refine kM 1 rfl ?_
   obtain ⟨r26, hr26, h⟩ := bindO h
   refine AOps_callL [] 113 _ _ _ _ _ _ _ _ _ _ rfl rfl rfl rfl rfl rfl rfl Tryz.call11 rfl (nodupB_sound _ rfl) rfl rfl rfl (impl_NeighbourBound_ac k r18.2 _ hr26) ?_
   rintro _ _ ⟨rfl, rfl⟩
   refine ⟨(fun _ h => nomatch h), (allc (flat_s _) (allc (flat_s _) (fun _ h => nomatch h))), AOps_as 113 (v' := .tup [iV r26.1, iV r26.2]) (H' := [.box (colD r3.1), .box (colD r18.1), .vec 0 (intsD r18.2)]) rfl rfl ?_⟩
   refine kN 5 rfl ?_
   refine kL (fun s29 => [(3, .ptr 0 0), (4, .d (.sl none (intsD r3.2))), (5, bV r4.1), (6, iV r4.2), (9, iV r10.1), (10, .d (.sl none (intsD r10.2.1))), (11, iV r10.2.2), (129, bV s29)]) (fun s29 => [.box (colD r3.1)]) h (fun s29 h => ?_) (fun s29 h => ?_)
   ·refine (ACode_region ?_)
    refine kM 1 rfl ?_
    refine AOps_q 117 _ rfl rfl rfl (QOp_fieldAddr_ptr _ _ _ _ _ _ 0 _ _ rfl Tryz.underlying34 rfl _ Tryz.sizeOf2 rfl rfl rfl rfl) ?_
    refine AOps_q 118 _ rfl rfl rfl (QOp_load_ptr _ _ _ _ _ _ rfl Tryz.isAgg2 rfl rfl rfl) ?_
    refine AOps_q 119 _ rfl rfl rfl (QOp_add _ _ _ _ _ _ _ rfl rfl rfl) ?_
    refine AOps_q 120 _ rfl rfl rfl (QOp_neq _ _ _ _ _ _ _ rfl rfl rfl) ?_
    refine kM 1 rfl ?_
    refine AOps_case 121 _ rfl (fun hb27 => ?_) (fun hb27 => ?_)
    ·have h := iteT hb27 h
     refine AOps_skip 122 rfl rfl rfl ?_
     refine AOps_skip 123 rfl rfl rfl ?_
     refine AOps_skip 124 rfl rfl rfl ?_
     refine AOps_skip 125 rfl rfl rfl ?_
     refine AOps_skip 126 rfl rfl rfl ?_
     refine AOps_skip 127 rfl rfl rfl ?_
     refine AOps_skip 128 rfl rfl rfl ?_
     refine kN 1 rfl ?_
     cases h
     exact Weak_keep 0 hm [3, 4, 5, 6, 9, 10, 11, 129] [0] _ _ rfl rfl rfl
    have h := iteF hb27 h
    refine kM 1 rfl ?_
    refine AOps_q 123 _ rfl rfl rfl (QOp_eql _ _ _ _ _ _ _ rfl rfl rfl) ?_
    refine kM 1 rfl ?_
    refine AOps_case 124 _ rfl (fun hb28 => ?_) (fun hb28 => ?_)
    ·have h := iteT hb28 h
     refine kM 2 rfl ?_
     refine AOps_q 127 _ rfl rfl rfl (QOp_gtr _ _ _ _ _ _ _ rfl rfl rfl) ?_
     refine kN 2 rfl ?_
     cases h
     exact Weak_keep 0 hm [3, 4, 5, 6, 9, 10, 11, 129] [0] _ _ rfl rfl rfl
    have h := iteF hb28 h
    refine AOps_skip 125 rfl rfl rfl ?_
    refine AOps_skip 126 rfl rfl rfl ?_
    refine AOps_skip 127 rfl rfl rfl ?_
    refine kN 2 rfl ?_
    cases h
    exact Weak_keep 0 hm [3, 4, 5, 6, 9, 10, 11, 129] [0] _ _ rfl rfl rfl
   refine kI h rfl (fun h _ => ?_) (fun h _ => ?_)
   ·refine kR ?_
    refine kN 1 rfl ?_
    refine ACode_ret ?_
    cases h
    have h := hks31
    cases h
    exact ⟨_, _, fun r a w h => ⟨r, h⟩, _, _, [], _, (.cons (ResV_tmp _ _ rfl) .nil), rfl, rfl, rfl, rfl, rfl⟩
   refine ACode_skip ?_
   cases h
   exact ⟨_, rfl, Weak_keep 0 hm [3, 4, 5, 6, 9, 10, 11] [0] _ _ rfl rfl rfl⟩
  refine ACode_skip ?_
  cases h
  exact ⟨_, rfl, Weak_keep 0 hm [3, 4, 5, 6, 9, 10, 11] [0] _ _ rfl rfl rfl⟩
 refine ACode_seq ?_
 refine kR ?_
 refine kM 1 rfl ?_
 refine AOps_q 131 _ rfl rfl rfl (QOp_neq _ _ _ _ _ _ _ rfl rfl rfl) ?_
 refine AOps_nil ?_
 refine kI h rfl (fun h _ => ?_) (fun h _ => ?_)
 ·refine kL (fun s34 => [(2, bV s34)]) (fun s34 => []) h (fun s34 h => ?_) (fun s34 h => ?_)
  ·refine (ACode_region ?_)
   refine kM 1 rfl ?_
   refine AOps_q 133 _ rfl rfl rfl (QOp_not _ _ _ rfl rfl) ?_
   refine kM 1 rfl ?_
   refine AOps_case 134 _ rfl (fun hb33 => ?_) (fun hb33 => ?_)
   ·have h := iteT hb33 h
    refine kM 2 rfl ?_
    refine AOps_q 137 _ rfl rfl rfl (QOp_eql _ _ _ _ _ _ _ rfl rfl rfl) ?_
    refine kN 2 rfl ?_
    cases h
    exact Weak_keep 0 hm [2] [] _ _ rfl rfl rfl
   have h := iteF hb33 h
   refine AOps_skip 135 rfl rfl rfl ?_
   refine AOps_skip 136 rfl rfl rfl ?_
   refine AOps_skip 137 rfl rfl rfl ?_
   refine kN 2 rfl ?_
   cases h
   exact Weak_keep 0 hm [2] [] _ _ rfl rfl rfl
  refine ACode_ret ?_
  cases h
  exact ⟨_, _, fun r a w h => ⟨r, h⟩, _, _, [], _, (.cons (ResV_tmp _ _ rfl) .nil), rfl, rfl, rfl, rfl, rfl⟩
 refine ACode_skip ?_
 refine ACode_seq ?_
 refine kR ?_
 refine kM 2 rfl ?_
 refine AOps_q 141 _ rfl rfl rfl (QOp_eql _ _ _ _ _ _ _ rfl rfl rfl) ?_
 refine AOps_q 142 _ rfl rfl rfl (QOp_bneq _ _ _ _ _ _ rfl rfl rfl Tryz.underlying4) ?_
 refine AOps_nil ?_
 refine kI h rfl (fun h _ => ?_) (fun h _ => ?_)
 ·refine kR ?_
  refine kN 1 rfl ?_
  refine ACode_ret ?_
  cases h
  exact ⟨_, _, fun r a w h => ⟨r, h⟩, _, _, [], _, (.cons (ResV_tmp _ _ rfl) .nil), rfl, rfl, rfl, rfl, rfl⟩
 refine ACode_skip ?_
 refine kR ?_
 refine AOps_q 144 _ rfl rfl rfl (QOp_loadN_ptr _ _ _ _ _ _ _ rfl Tryz.isAgg34 Tryz.sizeOf34 rfl rfl (colD_all _) (colD_length _)) ?_
 obtain ⟨r36, hr36, h⟩ := bindO h
 refine kC [] 145 (.tup [.d (.sl none (intsD (r36.1.getD []))), iV r36.2]) [.box (colD r3.1)] rfl Tryz.call31 rfl rfl (AC_frz rfl (frz_cons frz_nil) (impl_CliqueNumbers_ac k r3.1 _ hr36)) rfl ?_
 refine kN 5 rfl ?_
 refine ACode_seq ?_
 refine kR ?_
 refine kM 1 rfl ?_
 refine AOps_q 149 _ rfl rfl rfl (QOp_neq _ _ _ _ _ _ _ rfl rfl rfl) ?_
 refine AOps_nil ?_
 refine kI h rfl (fun h _ => ?_) (fun h _ => ?_)
 ·refine kR ?_
  refine kN 1 rfl ?_
  refine ACode_ret ?_
  cases h
  exact ⟨_, _, fun r a w h => ⟨r, h⟩, _, _, [], _, (.cons (ResV_tmp _ _ rfl) .nil), rfl, rfl, rfl, rfl, rfl⟩
 refine ACode_skip ?_
 refine kR ?_
 refine kN 1 rfl ?_
 refine kB (fun s45 => [(3, .ptr 0 0), (4, .d (.sl none (intsD r3.2))), (5, bV r4.1), (9, iV r10.1), (10, .d (.sl none (intsD r10.2.1))), (11, iV r10.2.2), (25, bV s45)]) (fun s45 => [.box (colD r3.1)]) h (fun s45 h => ?_) (fun s45 h => ?_)
 ·refine kR ?_
  refine kN 1 rfl ?_
  refine ACode_block ?_
  refine ACode_loopW (fun k0 E H => ∃ (x38 : Bool) (x39 : Int), E = [(3, .ptr 0 0), (4, .d (.sl none (intsD r3.2))), (5, bV r4.1), (9, iV r10.1), (10, .d (.sl none (intsD r10.2.1))), (11, iV r10.2.2), (23, .d (.sl none (intsD (r36.1.getD [])))), (25, bV x38), (26, iV x39)] ∧ H = [.box (colD r3.1)] ∧ laws_FnAvoided_l0 r3 r36 k0 x38 x39 = some s45) k _ _ (Weak_keep 0 hm [3, 4, 5, 9, 10, 11, 23, 25, 26] [0] _ _ rfl rfl rfl) ⟨_, _, rfl, rfl, h⟩ ?_
  clear h
  rintro k0 E H ⟨x38, x39, rfl, rfl, h⟩
  cases k0 with
  | zero => cases (show (none : Option (Bool)) = some _ from h)
  | succ k0 =>
   rw [laws_FnAvoided_l0] at h
   refine ACode_seq ?_
   refine kR ?_
   refine kM 2 rfl ?_
   refine AOps_q 152 _ rfl rfl rfl (QOp_len_sl _ _ _ _ _ _ _ (intsD_length _) rfl rfl rfl rfl Tryz.underlying27 rfl) ?_
   refine AOps_q 153 _ rfl rfl rfl (QOp_lss _ _ _ _ _ _ _ rfl rfl rfl) ?_
   refine AOps_nil ?_
   refine kI h rfl (fun h _ => ?_) (fun h _ => ?_)
   ·refine ACode_skip ?_
    refine kB (fun s44 => [(3, .ptr 0 0), (4, .d (.sl none (intsD r3.2))), (5, bV r4.1), (9, iV r10.1), (10, .d (.sl none (intsD r10.2.1))), (11, iV r10.2.2), (23, .d (.sl none (intsD (r36.1.getD [])))), (25, bV s44), (26, iV x39)]) (fun s44 => [.box (colD r3.1)]) h (fun s44 h => ?_) (fun s44 h => ?_)
    ·refine ACode_block ?_
     refine (ACode_quiet mixed (by kernel_rfl) ?_)
     refine kQ 2 rfl ?_
     refine AQ_case 157 _ rfl (fun hb41 => ?_) (fun hb41 => ?_)
     ·have h := iteT hb41 h
      refine kQ 2 rfl ?_
      obtain ⟨hc42, h⟩ := guardO h
      refine AQ_q 160 _ rfl rfl rfl (QOp_indexAddr_sl _ _ _ _ _ _ _ _ rfl Tryz.underlying27 Tryz.sizeOf2 hc42.1 (by rw [intsD_length]; exact hc42.2) rfl rfl) ?_
      refine AQ_q 161 _ rfl rfl rfl (QOp_load_pv _ _ _ _ _ rfl Tryz.isAgg2 rfl (intsD_get _ _ 0 (by omega))) ?_
      refine kQ 2 rfl ?_
      obtain ⟨hc43, h⟩ := guardO h
      refine AQ_q 164 _ rfl rfl rfl (QOp_indexAddr_sl _ _ _ _ _ _ _ _ rfl Tryz.underlying27 Tryz.sizeOf2 hc43.1 (by rw [intsD_length]; exact hc43.2) rfl rfl) ?_
      refine AQ_q 165 _ rfl rfl rfl (QOp_load_pv _ _ _ _ _ rfl Tryz.isAgg2 rfl (intsD_get _ _ 0 (by omega))) ?_
      refine AQ_q 166 _ rfl rfl rfl (QOp_lss _ _ _ _ _ _ _ rfl rfl rfl) ?_
      refine kQ 2 rfl ?_
      refine AQ_nil ?_
      cases h
      exact Weak_keep 0 hm [3, 4, 5, 9, 10, 11, 23, 25, 26] [0] _ _ rfl rfl rfl
     have h := iteF hb41 h
     refine AQ_skip 158 rfl rfl rfl ?_
     refine AQ_skip 159 rfl rfl rfl ?_
     refine AQ_skip 160 rfl rfl rfl ?_
     refine AQ_skip 161 rfl rfl rfl ?_
     refine AQ_skip 162 rfl rfl rfl ?_
     refine AQ_skip 163 rfl rfl rfl ?_
     refine AQ_skip 164 rfl rfl rfl ?_
     refine AQ_skip 165 rfl rfl rfl ?_
     refine AQ_skip 166 rfl rfl rfl ?_
     refine kQ 2 rfl ?_
     refine AQ_nil ?_
     cases h
     exact Weak_keep 0 hm [3, 4, 5, 9, 10, 11, 23, 25, 26] [0] _ _ rfl rfl rfl
    refine (ACode_region ?_)
    refine kM 1 rfl ?_
    refine AOps_q 155 _ rfl rfl rfl (QOp_add _ _ _ _ _ _ _ rfl rfl rfl) ?_
    refine kN 1 rfl ?_
    exact ⟨k0, _, _, Nat.lt_succ_self _, Weak_keep 0 hm [3, 4, 5, 9, 10, 11, 23, 25, 26] [0] _ _ rfl rfl rfl, _, _, rfl, rfl, h⟩
   refine ACode_exit ?_
   cases h
   exact Weak_keep 0 hm [3, 4, 5, 9, 10, 11, 25] [0] _ _ rfl rfl rfl
 refine kO (fun s53 => [(5, bV r4.1), (25, bV s45)]) (fun s53 => []) h (fun os53 h hks53 => ?_) (fun s53 h => ?_)
 ·refine kR ?_
  refine kM 1 rfl ?_
  refine AOps_q 169 _ rfl rfl rfl (QOp_eql _ _ _ _ _ _ _ rfl rfl rfl) ?_
  refine AOps_nil ?_
  refine kI h rfl (fun h _ => ?_) (fun h _ => ?_)
  ·refine kR ?_
   refine AOps_q 171 _ rfl rfl rfl (QOp_loadN_ptr _ _ _ _ _ _ _ rfl Tryz.isAgg34 Tryz.sizeOf34 rfl rfl (colD_all _) (colD_length _)) ?_
   refine kM 2 rfl ?_
   obtain ⟨r47, hr47, h⟩ := bindO h
   refine kC [] 174 (.tup [bV r47.1, iV r47.2]) [.box (colD r3.1)] rfl Tryz.call41 rfl rfl (impl_IsClique_ac k r3.1 r10.1 r10.2.1 _ hr47) rfl ?_
   refine kN 5 rfl ?_
   refine kB (fun s51 => [(5, bV r4.1), (25, bV s45), (191, bV s51)]) (fun s51 => []) h (fun s51 h => ?_) (fun s51 h => ?_)
   ·refine (ACode_region ?_)
    refine kM 1 rfl ?_
    refine AOps_q 178 _ rfl rfl rfl (QOp_neq _ _ _ _ _ _ _ rfl rfl rfl) ?_
    refine kM 1 rfl ?_
    refine AOps_case 179 _ rfl (fun hb48 => ?_) (fun hb48 => ?_)
    ·have h := iteT hb48 h
     refine AOps_skip 180 rfl rfl rfl ?_
     refine AOps_skip 181 rfl rfl rfl ?_
     refine kM 2 rfl ?_
     refine AOps_skip 184 rfl rfl rfl ?_
     refine AOps_skip 185 rfl rfl rfl ?_
     refine AOps_skip 186 rfl rfl rfl ?_
     refine AOps_skip 187 rfl rfl rfl ?_
     refine AOps_skip 188 rfl rfl rfl ?_
     refine AOps_skip 189 rfl rfl rfl ?_
     refine AOps_skip 190 rfl rfl rfl ?_
     refine kN 1 rfl ?_
     cases h
     exact Weak_keep 0 hm [5, 25, 191] [] _ _ rfl rfl rfl
    have h := iteF hb48 h
    refine kM 1 rfl ?_
    refine AOps_q 181 _ rfl rfl rfl (QOp_not _ _ _ rfl rfl) ?_
    refine kM 2 rfl ?_
    refine AOps_case 183 _ rfl (fun hb49 => ?_) (fun hb49 => ?_)
    ·have h := iteT hb49 h
     refine AOps_skip 184 rfl rfl rfl ?_
     refine AOps_skip 185 rfl rfl rfl ?_
     refine AOps_skip 186 rfl rfl rfl ?_
     refine AOps_skip 187 rfl rfl rfl ?_
     refine AOps_skip 188 rfl rfl rfl ?_
     refine AOps_skip 189 rfl rfl rfl ?_
     refine AOps_skip 190 rfl rfl rfl ?_
     refine kN 1 rfl ?_
     cases h
     exact Weak_keep 0 hm [5, 25, 191] [] _ _ rfl rfl rfl
    have h := iteF hb49 h
    refine kM 1 rfl ?_
    refine AOps_q 185 _ rfl rfl rfl (QOp_len_sl _ _ _ _ _ _ _ (intsD_length _) rfl rfl rfl rfl Tryz.underlying27 rfl) ?_
    refine kM 2 rfl ?_
    obtain ⟨hc50, h⟩ := guardO h
    refine AOps_q 188 _ rfl rfl rfl (QOp_indexAddr_sl _ _ _ _ _ _ _ _ rfl Tryz.underlying27 Tryz.sizeOf2 hc50.1 (by rw [intsD_length]; exact hc50.2) rfl rfl) ?_
    refine AOps_q 189 _ rfl rfl rfl (QOp_load_pv _ _ _ _ _ rfl Tryz.isAgg2 rfl (intsD_get _ _ 0 (by omega))) ?_
    refine AOps_q 190 _ rfl rfl rfl (QOp_neq _ _ _ _ _ _ _ rfl rfl rfl) ?_
    refine kN 1 rfl ?_
    cases h
    exact Weak_keep 0 hm [5, 25, 191] [] _ _ rfl rfl rfl
   refine kI h rfl (fun h _ => ?_) (fun h _ => ?_)
   ·refine kR ?_
    refine kN 1 rfl ?_
    refine ACode_ret ?_
    cases h
    have h := hks53
    cases h
    exact ⟨_, _, fun r a w h => ⟨r, h⟩, _, _, [], _, (.cons (ResV_tmp _ _ rfl) .nil), rfl, rfl, rfl, rfl, rfl⟩
   refine ACode_skip ?_
   cases h
   exact ⟨_, rfl, Weak_keep 0 hm [5, 25] [] _ _ rfl rfl rfl⟩
  refine ACode_skip ?_
  cases h
  exact ⟨_, rfl, Weak_keep 0 hm [5, 25] [] _ _ rfl rfl rfl⟩
 refine kR ?_
 refine kM 2 rfl ?_
 refine AOps_q 194 _ rfl rfl rfl (QOp_beq _ _ _ _ _ _ rfl rfl rfl Tryz.underlying4) ?_
 refine kN 1 rfl ?_
 refine ACode_ret ?_
 cases h
 exact ⟨_, _, fun r a w h => ⟨r, h⟩, _, _, [], _, (.cons (ResV_tmp _ _ rfl) .nil), rfl, rfl, rfl, rfl, rfl⟩

end Go.Proofs.YtghhnpdhehjlaaaGreat
