/- Plain functions of the program and that the program computes them: printed by the own tool gen.py. No conditions. -/
import Derived.Test.YtfnbhfobgimnjaaGreatGen30c
set_option linter.unusedVariables false
set_option linter.unusedSimpArgs false
namespace Go.Proofs.YtfnbhfobgimnjaaGreat
open Go Go.RowKit Ab

-- (*loop.example/g01362/impl.Colouring).cliques
def impl_Colouring_cliques_on_greatest_c1_l0 (k : Nat) (self : Col → Int → (List Int) → (List Int) → Option (Bool × List Int)) (p0 : Col) (p1 : Int) (p2 : List Int) : Nat → Int → (List Int) → Option (Sum (List Int) (Bool × List Int))
 | 0, _, _ => none
 | k0 + 1, x6, x7 => (if decide (x6 < p0.p) then (((impl_Colouring_goesWith k p0 p1 p2 x6).bind fun r9 => (if r9 then (if p2.isEmpty then (if ([x6]).length ≤ 1099511627776 ∧ ([x6]).length ≠ 0 then (self p0 p1 ([x6]) x7).bind fun r14 => some (!r14.1, r14.2) else none) else (cloneA p2).bind fun r15 => (if r15.length + ([x6]).length ≤ 1099511627776 then (self p0 p1 (r15 ++ ([x6])) x7).bind fun r17 => some (!r17.1, r17.2) else none)) else some (false, x7)) : Option (Bool × List Int)).bind fun s18 => (if s18.1 then (some (.inr (false, s18.2))).bind fun rr => some (.inr rr) else some (.inl s18.2)) : Option (Sum (List Int) (Sum (List Int) (Bool × List Int)))).bind fun os20 => (match os20 with | .inl s20 => impl_Colouring_cliques_on_greatest_c1_l0 k self p0 p1 p2 k0 (w64 (x6 + 1)) s20 | .inr rr => some rr) else some (.inl x7))
def impl_Colouring_cliques_on_greatest_c1_body (self : Col → Int → (List Int) → (List Int) → Option (Bool × List Int)) (k : Nat) (p0 : Col) (p1 : Int) (p2 : List Int) (p3_0 : List Int) : Option (Bool × List Int) :=
 (if !((impl_Colouring_greatest_c1 p2 p3_0).1) then some (false, (impl_Colouring_greatest_c1 p2 p3_0).2) else ((if decide (0 < (p2.length : Int)) then (if 0 ≤ w64 ((p2.length : Int) - 1) ∧ w64 ((p2.length : Int) - 1) < (p2.length : Int) then some (w64 ((p2.getD (w64 ((p2.length : Int) - 1)).toNat 0) + 1)) else none) else some 0) : Option (Int)).bind fun s5 => (impl_Colouring_cliques_on_greatest_c1_l0 k self p0 p1 p2 k s5 ((impl_Colouring_greatest_c1 p2 p3_0).2) : Option (Sum (List Int) (Bool × List Int))).bind fun os21 => (match os21 with | .inl s21 => some (true, s21) | .inr rr => some rr))
def impl_Colouring_cliques_on_greatest_c1 : Nat → Col → Int → (List Int) → (List Int) → Option (Bool × List Int)
 | 0, _, _, _, _ => none
 | k + 1, p0, p1, p2, p3_0 => impl_Colouring_cliques_on_greatest_c1_body (impl_Colouring_cliques_on_greatest_c1 k) k p0 p1 p2 p3_0
set_option maxRecDepth 100000 in
theorem impl_Colouring_cliques_on_greatest_c1_ac (k : Nat) (p0 : Col) (p1 : Int) (p2 : List Int) (p3_0 : List Int) (r : Bool × List Int) (h : impl_Colouring_cliques_on_greatest_c1 k p0 p1 p2 p3_0 = some r) : AC Tryz.prog 116 [.d (.pv (colD p0) 0), iV p1, .d (.sl none (intsD p2)), .clo 117 [.ptr 0 0]] [.box [.sl none (intsD p3_0)]] (fun res H' => res = [bV r.1] ∧ H' = [.box [.sl none (intsD r.2)]]) := by
 induction k generalizing p0 p1 p2 p3_0 r with
 | zero => simp [impl_Colouring_cliques_on_greatest_c1] at h
 | succ k ih =>
  rw [impl_Colouring_cliques_on_greatest_c1] at h
  obtain ⟨self, hself, hk⟩ : ∃ self : Col → Int → (List Int) → (List Int) → Option (Bool × List Int), (∀ (p0 : Col) (p1 : Int) (p2 : List Int) (p3_0 : List Int) (r : Bool × List Int), self p0 p1 p2 p3_0 = some r → AC Tryz.prog 116 [.d (.pv (colD p0) 0), iV p1, .d (.sl none (intsD p2)), .clo 117 [.ptr 0 0]] [.box [.sl none (intsD p3_0)]] (fun res H' => res = [bV r.1] ∧ H' = [.box [.sl none (intsD r.2)]])) ∧ impl_Colouring_cliques_on_greatest_c1 k = self := ⟨impl_Colouring_cliques_on_greatest_c1 k, fun p0 p1 p2 p3_0 r h => ih p0 p1 p2 p3_0 r h, rfl⟩
  rw [hk] at h
  clear ih hk
  refine AC_of_body true Tryz.func116 rfl Tryz.ntmps116 (rvs := [.tmp 8]) rfl rfl (fun G hG => ?_)
  have hm : G.H.length = 1 := by rw [hG]; rfl
  have hz : zeroG G.H = true := by rw [hG]; rfl
  unfold impl_Colouring_cliques_on_greatest_c1_body at h
  refine kR ?_
  refine kN 1 rfl ?_
  refine ACode_seq ?_
  refine kR ?_
  refine kM 2 rfl ?_
  refine kC [0] 13 (bV ((impl_Colouring_greatest_c1 p2 p3_0).1)) [.box [.sl none (intsD ((impl_Colouring_greatest_c1 p2 p3_0).2))]] rfl Tryz.call117 rfl rfl (impl_Colouring_greatest_c1_ac p2 p3_0) rfl ?_
  refine AOps_q 14 _ rfl rfl rfl (QOp_not _ _ _ rfl rfl) ?_
  refine AOps_nil ?_
  refine kI h rfl (fun h _ => ?_) (fun h _ => ?_)
  ·refine kR ?_
   refine kN 1 rfl ?_
   refine ACode_ret ?_
   cases h
   exact ⟨_, _, fun r a w h => ⟨r, h⟩, _, _, [], _, (.cons (ResV_tmp _ _ rfl) .nil), rfl, rfl, rfl, rfl, rfl⟩
  refine ACode_skip ?_
  refine kR ?_
  refine kN 1 rfl ?_
  refine kB (fun s5 => [(0, .d (.pv (colD p0) 0)), (1, iV p1), (2, .d (.sl none (intsD p2))), (3, .clo 117 [.ptr 0 0]), (9, iV s5)]) (fun s5 => [.box [.sl none (intsD ((impl_Colouring_greatest_c1 p2 p3_0).2))]]) h (fun s5 h => ?_) (fun s5 h => ?_)
  ·refine kR ?_
   refine kM 1 rfl ?_
   refine AOps_q 16 _ rfl rfl rfl (QOp_len_sl _ _ _ _ _ _ _ (intsD_length _) rfl rfl rfl rfl Tryz.underlying29 rfl) ?_
   refine AOps_q 17 _ rfl rfl rfl (QOp_gtr _ _ _ _ _ _ _ rfl rfl rfl) ?_
   refine AOps_nil ?_
   refine kI h rfl (fun h _ => ?_) (fun h _ => ?_)
   ·refine (ACode_region ?_)
    refine kM 2 rfl ?_
    refine AOps_q 20 _ rfl rfl rfl (QOp_len_sl _ _ _ _ _ _ _ (intsD_length _) rfl rfl rfl rfl Tryz.underlying29 rfl) ?_
    refine AOps_q 21 _ rfl rfl rfl (QOp_sub _ _ _ _ _ _ _ rfl rfl rfl) ?_
    obtain ⟨hc4, h⟩ := guardO h
    refine AOps_q 22 _ rfl rfl rfl (QOp_indexAddr_sl _ _ _ _ _ _ _ _ rfl Tryz.underlying29 Tryz.sizeOf2 hc4.1 (by rw [intsD_length]; exact hc4.2) rfl rfl) ?_
    refine AOps_q 23 _ rfl rfl rfl (QOp_load_pv _ _ _ _ _ rfl Tryz.isAgg2 rfl (intsD_get _ _ 0 (by omega))) ?_
    refine AOps_q 24 _ rfl rfl rfl (QOp_add _ _ _ _ _ _ _ rfl rfl rfl) ?_
    refine kN 1 rfl ?_
    cases h
    exact Weak_keep 1 hm [0, 1, 2, 3, 9] [] _ _ rfl rfl rfl
   refine ACode_skip ?_
   cases h
   exact Weak_keep 1 hm [0, 1, 2, 3, 9] [] _ _ rfl rfl rfl
  refine kO (fun s21 => []) (fun s21 => [.box [.sl none (intsD s21)]]) h (fun os21 h hks21 => ?_) (fun s21 h => ?_)
  ·refine kR ?_
   refine kN 2 rfl ?_
   refine ACode_block ?_
   refine ACode_loopW (fun k0 E H => ∃ (x6 : Int) (x7 : List Int), E = [(0, .d (.pv (colD p0) 0)), (1, iV p1), (2, .d (.sl none (intsD p2))), (3, .clo 117 [.ptr 0 0]), (10, iV x6)] ∧ H = [.box [.sl none (intsD x7)]] ∧ impl_Colouring_cliques_on_greatest_c1_l0 k self p0 p1 p2 k0 x6 x7 = some os21) k _ _ (Weak_keep 1 hm [0, 1, 2, 3, 10] [] _ _ rfl rfl rfl) ⟨_, _, rfl, rfl, h⟩ ?_
   clear h
   rintro k0 E H ⟨x6, x7, rfl, rfl, h⟩
   cases k0 with
   | zero => cases (show (none : Option (Sum (List Int) (Bool × List Int))) = some _ from h)
   | succ k0 =>
    rw [impl_Colouring_cliques_on_greatest_c1_l0] at h
    refine ACode_seq ?_
    refine kR ?_
    refine kM 2 rfl ?_
    refine AOps_q 28 _ rfl rfl rfl (QOp_nilCheck_pv _ _ _ rfl rfl) ?_
    refine AOps_q 29 _ rfl rfl rfl (QOp_fieldAddr_pv _ _ _ _ _ 0 _ _ rfl Tryz.underlying26 rfl _ Tryz.sizeOf2 rfl rfl) ?_
    refine AOps_q 30 _ rfl rfl rfl (QOp_load_pv _ _ _ _ _ rfl Tryz.isAgg2 rfl rfl) ?_
    refine AOps_q 31 _ rfl rfl rfl (QOp_lss _ _ _ _ _ _ _ rfl rfl rfl) ?_
    refine AOps_nil ?_
    refine kI h rfl (fun h _ => ?_) (fun h _ => ?_)
    ·refine ACode_skip ?_
     refine kO (fun s20 => [(0, .d (.pv (colD p0) 0)), (1, iV p1), (2, .d (.sl none (intsD p2))), (3, .clo 117 [.ptr 0 0]), (10, iV x6)]) (fun s20 => [.box [.sl none (intsD s20)]]) h (fun os20 h hks20 => ?_) (fun s20 h => ?_)
     ·refine ACode_block ?_
      refine kB (fun s18 => [(0, .d (.pv (colD p0) 0)), (1, iV p1), (2, .d (.sl none (intsD p2))), (3, .clo 117 [.ptr 0 0]), (10, iV x6), (50, bV s18.1)]) (fun s18 => [.box [.sl none (intsD s18.2)]]) h (fun s18 h => ?_) (fun s18 h => ?_)
      ·refine (ACode_region ?_)
       refine kM 4 rfl ?_
       obtain ⟨r9, hr9, h⟩ := bindO h
       refine kC [] 38 (bV r9) [.box [.sl none (intsD x7)]] rfl Tryz.call126 rfl rfl (impl_Colouring_goesWith_ac k p0 p1 p2 x6 _ hr9) rfl ?_
       refine kM 1 rfl ?_
       refine AOps_case 39 _ rfl (fun hb10 => ?_) (fun hb10 => ?_)
       ·have h := iteT hb10 h
        refine kM 3 rfl ?_
        refine bsplit (p2.isEmpty) (fun hb11 => ?_) (fun hb11 => ?_)
        ·have h := iteT hb11 h
         refine kC [] 43 (.d (.se none)) [.box [.sl none (intsD x7)]] rfl Tryz.call82 rfl rfl (cloneB_ac p2 hb11) rfl ?_
         refine kM 1 rfl ?_
         refine AOps_buildSlice 45 _ _ _ [_] (intsD ([x6])) _ rfl rfl rfl rfl rfl (by decide) Tryz.underlying29 Tryz.sizeOf2 (zero_of Tryz.typeInfo2 rfl) rfl rfl (intsD_one _) ?_
         obtain ⟨hc13, h⟩ := guardO h
         refine AOps_append0 46 _ _ _ _ _ _ _ _ _ _ rfl rfl rfl rfl rfl rfl rfl Tryz.underlying29 Tryz.type2 rfl rfl rfl (by decide) rfl rfl rfl (intsD_one _) (by rw [intsD_length]; exact hc13.1) (by rw [intsD_length]; exact hc13.2) ?_
         refine kM 1 rfl ?_
         refine AOps_freezeL [46] 2 0 _ (allc (rfl) (fun _ h => nomatch h)) rfl ?_
         obtain ⟨r14, hr14, h⟩ := bindO h
         refine kC [0] 48 (bV r14.1) [.box [.sl none (intsD r14.2)], .vec 0 (intsD ([x6])), .gone] rfl Tryz.call116 rfl rfl (hself p0 p1 ([x6]) x7 _ hr14) rfl ?_
         refine AOps_q 49 _ rfl rfl rfl (QOp_not _ _ _ rfl rfl) ?_
         refine kN 1 rfl ?_
         cases h
         exact Weak_keep 1 hm [0, 1, 2, 3, 10, 50] [] _ _ rfl rfl rfl
        have h := iteF hb11 h
        obtain ⟨r15, hr15, h⟩ := bindO h
        refine kC [] 43 (.vec 1 0) [.box [.sl none (intsD x7)], .vec 0 (intsD r15)] rfl Tryz.call82 rfl rfl (cloneA_ac p2 _ hb11 hr15) rfl ?_
        refine kM 1 rfl ?_
        refine AOps_buildSlice 45 _ _ _ [_] (intsD ([x6])) _ rfl rfl rfl rfl rfl (by decide) Tryz.underlying29 Tryz.sizeOf2 (zero_of Tryz.typeInfo2 rfl) rfl rfl (intsD_one _) ?_
        obtain ⟨hc16, h⟩ := guardO h
        refine AOps_append 46 _ _ _ _ _ _ _ _ _ _ _ _ rfl rfl rfl rfl rfl rfl rfl Tryz.underlying29 Tryz.type2 rfl rfl rfl (by decide) rfl rfl rfl rfl (intsD_one _) (by rw [intsD_length, intsD_length]; exact hc16) ?_
        rw [intsD_app]
        refine kM 1 rfl ?_
        refine AOps_freezeL [46] 1 1 _ (allc (rfl) (fun _ h => nomatch h)) rfl ?_
        obtain ⟨r17, hr17, h⟩ := bindO h
        refine kC [0] 48 (bV r17.1) [.box [.sl none (intsD r17.2)], .gone, .vec 0 (intsD ([x6]))] rfl Tryz.call116 rfl rfl (hself p0 p1 (r15 ++ ([x6])) x7 _ hr17) rfl ?_
        refine AOps_q 49 _ rfl rfl rfl (QOp_not _ _ _ rfl rfl) ?_
        refine kN 1 rfl ?_
        cases h
        exact Weak_keep 1 hm [0, 1, 2, 3, 10, 50] [] _ _ rfl rfl rfl
       have h := iteF hb10 h
       refine AOps_skip 40 rfl rfl rfl ?_
       refine AOps_skip 41 rfl rfl rfl ?_
       refine AOps_skip 42 rfl rfl rfl ?_
       refine AOps_skip 43 rfl rfl rfl ?_
       refine AOps_skip 44 rfl rfl rfl ?_
       refine AOps_skip 45 rfl rfl rfl ?_
       refine AOps_skip 46 rfl rfl rfl ?_
       refine AOps_skip 47 rfl rfl rfl ?_
       refine AOps_skip 48 rfl rfl rfl ?_
       refine AOps_skip 49 rfl rfl rfl ?_
       refine kN 1 rfl ?_
       cases h
       exact Weak_keep 1 hm [0, 1, 2, 3, 10, 50] [] _ _ rfl rfl rfl
      refine kI h rfl (fun h _ => ?_) (fun h _ => ?_)
      ·refine kR ?_
       refine kN 1 rfl ?_
       refine ACode_ret ?_
       obtain ⟨rr, hz22, h2⟩ := bindO h
       obtain rfl := Option.some.inj h2
       obtain rfl := Option.some.inj (show some rr = some _ from hks20)
       have h := hz22
       cases h
       have h := hks21
       cases h
       exact ⟨_, _, fun r a w h => ⟨r, h⟩, _, _, [], _, (.cons (ResV_tmp _ _ rfl) .nil), rfl, rfl, rfl, rfl, rfl⟩
      refine ACode_skip ?_
      cases h
      exact ⟨_, rfl, Weak_keep 1 hm [0, 1, 2, 3, 10] [] _ _ rfl rfl rfl⟩
     refine (ACode_region ?_)
     refine kM 1 rfl ?_
     refine AOps_q 33 _ rfl rfl rfl (QOp_add _ _ _ _ _ _ _ rfl rfl rfl) ?_
     refine kN 1 rfl ?_
     exact ⟨k0, _, _, Nat.lt_succ_self _, Weak_keep 1 hm [0, 1, 2, 3, 10] [] _ _ rfl rfl rfl, _, _, rfl, rfl, h⟩
    refine ACode_exit ?_
    cases h
    exact ⟨_, rfl, Weak_keep 1 hm [] [] _ _ rfl rfl rfl⟩
  refine kR ?_
  refine kN 1 rfl ?_
  refine ACode_ret ?_
  cases h
  exact ⟨_, _, fun r a w h => ⟨r, h⟩, _, _, [], _, (.cons (ResV_tmp _ _ rfl) .nil), rfl, rfl, rfl, rfl, rfl⟩

-- (*loop.example/g01362/impl.Colouring).greatest
def impl_Colouring_greatest (k : Nat) (p0 : Col) (p1 : Int) : Option (List Int) :=
 (impl_Colouring_cliques_on_greatest_c1 k p0 p1 ([]) ([] : List Int)).bind fun r1 => some r1.2
set_option maxRecDepth 100000 in
theorem impl_Colouring_greatest_ac (k : Nat) (p0 : Col) (p1 : Int) (r : List Int) (h : impl_Colouring_greatest k p0 p1 = some r) : AC Tryz.prog 98 [.d (.pv (colD p0) 0), iV p1] [] (fun res H' => res = [.d (.sl none (intsD r))] ∧ H' = []) := by
 refine AC_of_body true Tryz.func98 rfl Tryz.ntmps98 (rvs := [.tmp 4]) rfl rfl (fun G hG => ?_)
 have hm : G.H.length = 0 := by rw [hG]; rfl
 have hz : zeroG G.H = true := by rw [hG]; rfl
 unfold impl_Colouring_greatest at h
 refine kR ?_
 refine kN 1 rfl ?_
 refine kR ?_
 refine AOps_buildSlice 6 _ _ _ [] (intsD ([] : List Int)) _ rfl rfl rfl rfl rfl (by decide) Tryz.underlying29 Tryz.sizeOf2 (zero_of Tryz.typeInfo2 rfl) rfl rfl (intsD_one _) ?_
 refine AOps_alloc 5 _ _ ([.sl (some true) []]) (zero_of Tryz.typeInfo29 rfl) (by rfl) rfl rfl rfl rfl ?_
 refine AOps_freeze 6 0 0 _ rfl rfl ?_
 refine AOps_store1 _ _ _ _ _ _ _ _ rfl rfl rfl rfl rfl rfl rfl Tryz.sizeOf29 (Nat.le_of_ble_eq_true rfl) rfl ?_
 refine AOps_nil ?_
 refine kR ?_
 refine kM 2 rfl ?_
 refine AOps_q 9 _ rfl rfl rfl (QOp_makeFunc _ _ _ rfl rfl) ?_
 obtain ⟨r1, hr1, h⟩ := bindO h
 refine kC [1] 10 (bV r1.1) [.gone, .box [.sl none (intsD r1.2)]] rfl Tryz.call116 rfl rfl (impl_Colouring_cliques_on_greatest_c1_ac k p0 p1 ([]) ([] : List Int) _ hr1) rfl ?_
 refine AOps_nil ?_
 refine kR ?_
 refine AOps_q 11 _ rfl rfl rfl (QOp_load_ptr _ _ _ _ _ _ rfl Tryz.isAgg29 rfl rfl rfl) ?_
 refine kN 1 rfl ?_
 refine ACode_ret ?_
 cases h
 exact ⟨_, _, fun r a w h => ⟨r, h⟩, _, _, [], _, (.cons (ResV_tmp _ _ rfl) .nil), rfl, rfl, rfl, rfl, rfl⟩

-- (*loop.example/g01362/impl.Colouring).cliqueNumbers
def impl_Colouring_cliqueNumbers_l0 (k : Nat) (p0 : Col) : Nat → Int → (List Int) → Option (List Int)
 | 0, _, _ => none
 | k0 + 1, x1, x2 => (if decide (x1 < p0.k) then (impl_Colouring_greatest k p0 x1).bind fun r4 => (if x2.length + ([(impl_size r4)]).length ≤ 1099511627776 then impl_Colouring_cliqueNumbers_l0 k p0 k0 (w64 (x1 + 1)) (x2 ++ ([(impl_size r4)])) else none) else some x2)
def impl_Colouring_cliqueNumbers (k : Nat) (p0 : Col) : Option (List Int) :=
 (impl_Colouring_cliqueNumbers_l0 k p0 k 0 ([] : List Int) : Option (List Int)).bind fun s7 => some s7
set_option maxRecDepth 100000 in
theorem impl_Colouring_cliqueNumbers_ac (k : Nat) (p0 : Col) (r : List Int) (h : impl_Colouring_cliqueNumbers k p0 = some r) : AC Tryz.prog 58 [.d (.pv (colD p0) 0)] [] (fun res H' => res = [.vec 0 0] ∧ H' = [.vec 0 (intsD r)]) := by
 refine AC_of_body true Tryz.func58 rfl Tryz.ntmps58 (rvs := [.tmp 2]) rfl rfl (fun G hG => ?_)
 have hm : G.H.length = 0 := by rw [hG]; rfl
 have hz : zeroG G.H = true := by rw [hG]; rfl
 unfold impl_Colouring_cliqueNumbers at h
 refine kR ?_
 refine kN 1 rfl ?_
 refine kR ?_
 refine AOps_buildSlice 5 _ _ _ [] (intsD ([] : List Int)) _ rfl rfl rfl rfl rfl (by decide) Tryz.underlying29 Tryz.sizeOf2 (zero_of Tryz.typeInfo2 rfl) rfl rfl (intsD_one _) ?_
 refine kN 1 rfl ?_
 refine kB (fun s7 => [(3, .vec 0 0)]) (fun s7 => [.vec 0 (intsD s7)]) h (fun s7 h => ?_) (fun s7 h => ?_)
 ·refine kR ?_
  refine kM 1 rfl ?_
  refine AOps_q 7 _ rfl rfl rfl (QOp_nilCheck_pv _ _ _ rfl rfl) ?_
  refine AOps_q 8 _ rfl rfl rfl (QOp_fieldAddr_pv _ _ _ _ _ 1 _ _ rfl Tryz.underlying26 rfl _ Tryz.sizeOf2 rfl rfl) ?_
  refine AOps_q 9 _ rfl rfl rfl (QOp_load_pv _ _ _ _ _ rfl Tryz.isAgg2 rfl rfl) ?_
  refine kN 1 rfl ?_
  refine ACode_block ?_
  refine ACode_loopW (fun k0 E H => ∃ (x1 : Int) (x2 : List Int), E = [(0, .d (.pv (colD p0) 0)), (3, .vec 0 0), (9, iV p0.k), (10, iV x1)] ∧ H = [.vec 0 (intsD x2)] ∧ impl_Colouring_cliqueNumbers_l0 k p0 k0 x1 x2 = some s7) k _ _ (Weak_keep 0 hm [0, 3, 9, 10] [0] _ _ rfl rfl rfl) ⟨_, _, rfl, rfl, h⟩ ?_
  clear h
  rintro k0 E H ⟨x1, x2, rfl, rfl, h⟩
  cases k0 with
  | zero => cases (show (none : Option (List Int)) = some _ from h)
  | succ k0 =>
   rw [impl_Colouring_cliqueNumbers_l0] at h
   refine kR ?_
   refine AOps_q 11 _ rfl rfl rfl (QOp_lss _ _ _ _ _ _ _ rfl rfl rfl) ?_
   refine AOps_nil ?_
   refine ACode_seq ?_
   refine kI h rfl (fun h _ => ?_) (fun h _ => ?_)
   ·refine ACode_skip ?_
    refine ACode_seq ?_
    refine ACode_block ?_
    refine kR ?_
    refine kN 2 rfl ?_
    refine (ACode_region ?_)
    refine kM 3 rfl ?_
    obtain ⟨r4, hr4, h⟩ := bindO h
    refine kC [] 16 (.d (.sl none (intsD r4))) [.vec 0 (intsD x2)] rfl Tryz.call98 rfl rfl (impl_Colouring_greatest_ac k p0 x1 _ hr4) rfl ?_
    refine kC [] 17 (iV (impl_size r4)) [.vec 0 (intsD x2)] rfl Tryz.call93 rfl rfl (impl_size_ac r4) rfl ?_
    refine AOps_buildSlice 18 _ _ _ [_] (intsD ([(impl_size r4)])) _ rfl rfl rfl rfl rfl (by decide) Tryz.underlying29 Tryz.sizeOf2 (zero_of Tryz.typeInfo2 rfl) rfl rfl (intsD_one _) ?_
    obtain ⟨hc6, h⟩ := guardO h
    refine AOps_append 19 _ _ _ _ _ _ _ _ _ _ _ _ rfl rfl rfl rfl rfl rfl rfl Tryz.underlying29 Tryz.type2 rfl rfl rfl (by decide) rfl rfl rfl rfl (intsD_one _) (by rw [intsD_length, intsD_length]; exact hc6) ?_
    rw [intsD_app]
    refine kN 1 rfl ?_
    refine (ACode_region ?_)
    refine AOps_q 20 _ rfl rfl rfl (QOp_add _ _ _ _ _ _ _ rfl rfl rfl) ?_
    refine kN 1 rfl ?_
    exact ⟨k0, _, _, Nat.lt_succ_self _, Weak_trans (Weak_keep 0 hm [0, 3, 9, 10] [0] _ _ rfl rfl rfl) (Weak_reset 0 hm hz [0, 3, 9, 10] _ _ rfl rfl), _, _, rfl, rfl, h⟩
   refine ACode_exit ?_
   cases h
   exact Weak_keep 0 hm [3] [0] _ _ rfl rfl rfl
 refine kR ?_
 refine kN 2 rfl ?_
 refine ACode_ret ?_
 cases h
 exact ⟨_, _, Weak_reset 0 hm hz [2] _ _ rfl rfl, _, _, [0], _, (.cons (ResV_tmp _ _ rfl) .nil), rfl, rfl, rfl, rfl, rfl⟩

-- loop.example/g01362/impl.CliqueNumbers
def impl_CliqueNumbers (k : Nat) (p0 : Col) : Option (Option (List Int) × Int) :=
 (impl_Colouring_code k p0 (some (impl_always))).bind fun r1 => (if !decide (r1 = 0) then some (none, r1) else (impl_Colouring_cliqueNumbers k p0).bind fun r3 => some (some r3, 0))
set_option maxRecDepth 100000 in
theorem impl_CliqueNumbers_ac (k : Nat) (p0 : Col) (r : Option (List Int) × Int) (h : impl_CliqueNumbers k p0 = some r) : AC Tryz.prog 19 [.d (.agg (colD p0))] [] (fun res H' => res = [ownA 0 (r.1.map intsD), iV r.2] ∧ H' = [] ++ ownH (r.1.map intsD)) := by
 refine AC_of_body false Tryz.func19 rfl Tryz.ntmps19 (rvs := [.tmp 2, .tmp 3]) rfl rfl (fun G hG => ?_)
 have hm : G.H.length = 0 := by rw [hG]; rfl
 have hz : zeroG G.H = true := by rw [hG]; rfl
 unfold impl_CliqueNumbers at h
 refine kR ?_
 refine AOps_boxI 1 _ _ (.agg (colD p0)) (colD p0) rfl (colD_one _) rfl rfl rfl rfl rfl ?_
 refine kN 2 rfl ?_
 refine ACode_seq ?_
 refine kR ?_
 obtain ⟨r1, hr1, h⟩ := bindO h
 refine kC [] 5 (iV r1) [] rfl Tryz.call52 rfl rfl (impl_Colouring_code_ac k p0 (some (impl_always)) 57 ([]) Tryz.call57 (fun r h => by cases h; exact impl_always_ac) _ hr1) rfl ?_
 refine kN 1 rfl ?_
 refine kR ?_
 refine kM 1 rfl ?_
 refine AOps_q 7 _ rfl rfl rfl (QOp_neq _ _ _ _ _ _ _ rfl rfl rfl) ?_
 refine AOps_nil ?_
 refine kI h rfl (fun h _ => ?_) (fun h _ => ?_)
 ·refine kR ?_
  refine kN 3 rfl ?_
  refine ACode_ret ?_
  cases h
  exact ⟨_, _, fun r a w h => ⟨r, h⟩, _, _, [], _, (.cons (ResV_tmp _ _ rfl) (.cons (ResV_tmp _ _ rfl) .nil)), rfl, rfl, rfl, rfl, rfl⟩
 refine ACode_skip ?_
 refine kR ?_
 obtain ⟨r3, hr3, h⟩ := bindO h
 refine kC [] 9 (.vec 0 0) [.vec 0 (intsD r3)] rfl Tryz.call58 rfl rfl (impl_Colouring_cliqueNumbers_ac k p0 _ hr3) rfl ?_
 refine kN 2 rfl ?_
 refine ACode_ret ?_
 cases h
 exact ⟨_, _, Weak_reset 0 hm hz [2, 3] _ _ rfl rfl, _, _, [0], _, (.cons (ResV_tmp _ _ rfl) (.cons (ResV_tmp _ _ rfl) .nil)), rfl, rfl, rfl, rfl, rfl⟩

-- loop.example/g01362/laws.FnRenumbered
def laws_FnRenumbered (k : Nat) (p0 : List UInt8) : Option (Bool) :=
 (if (laws_big p0) then some true else (spec_DrawFindRenumbering k p0).bind fun r3 => (impl_FindRenumbering k r3.1 r3.2).bind fun r4 => ((spec_FindRenumbering k r3.1 r3.2).bind fun r5 => ((if !decide (r4.2 = r5.2) then some true else (laws_likeInts k (r4.1.getD []) r5.1).bind fun r7 => some (!r7)) : Option (Bool)).bind fun s8 => (if s8 then some (.inr false) else some (.inl ())) : Option (Sum (Unit) (Bool))).bind fun os10 => (match os10 with | .inl s10 => (impl_AreIsomorphic k r3.1 r3.2).bind fun r11 => ((spec_AreIsomorphic k r3.1 r3.2).bind fun r12 => letO (if !decide (r11.2 = r12.2) then true else !(r11.1 == r12.1)) fun (s14 : Bool) => (if s14 then some (.inr false) else some (.inl ())) : Option (Sum (Unit) (Bool))).bind fun os16 => (match os16 with | .inl s16 => (impl_FindAlike k r3.1 r3.2).bind fun r17 => (match r17.2.1 with | none => ((spec_FindAlike k r3.1 r3.2).bind fun r20 => ((if !decide (r17.2.2 = r20.2.2) then some true else (laws_likeInts k r17.1 r20.1).bind fun r22 => (if !r22 then some true else (laws_likeInts k ([]) r20.2.1).bind fun r24 => some (!r24))) : Option (Bool)).bind fun s25 => (if s25 then some (.inr false) else some (.inl ())) : Option (Sum (Unit) (Bool))).bind fun os27 => (match os27 with | .inl s27 => (spec_DrawLeadsTo k p0).bind fun r28 => (impl_LeadsTo k r28.1 r28.2.1 r28.2.2).bind fun r29 => ((spec_LeadsTo k r28.1 r28.2.1 r28.2.2).bind fun r30 => letO (if !decide (r29.2 = r30.2) then true else !(r29.1 == r30.1)) fun (s32 : Bool) => (if s32 then some (.inr false) else some (.inl ())) : Option (Sum (Unit) (Bool))).bind fun os34 => (match os34 with | .inl s34 => ((if decide (r29.2 = 0) then (impl_RenumberPoints k r28.1 r28.2.2).bind fun r36 => letO (if !decide (r36.2 = 0) then true else !(r29.1 == (r36.1.eqb r28.2.1))) fun (s38 : Bool) => (if s38 then some (.inr false) else some (.inl ())) else some (.inl ())) : Option (Sum (Unit) (Bool))).bind fun os40 => (match os40 with | .inl s40 => ((if decide (r17.2.2 = 0) then (impl_ExchangeColours k r3.1 r17.1).bind fun r42 => (impl_LeadsTo k r42.1 r3.2 ([])).bind fun r43 => letO (if !decide (r42.2 = 0) then true else (if !decide (r43.2 = 0) then true else !r43.1)) fun (s46 : Bool) => (if s46 then some (.inr false) else some (.inl ())) else some (.inl ())) : Option (Sum (Unit) (Bool))).bind fun os48 => (match os48 with | .inl s48 => (letO (if decide (r11.2 = 0) then !(r11.1 == decide (r4.2 = 0)) else false) fun (s50 : Bool) => (if s50 then some (.inr false) else some (.inl ())) : Option (Sum (Unit) (Bool))).bind fun os52 => (match os52 with | .inl s52 => (if !decide (r4.2 = 0) then some (decide (((r4.1.getD []).length : Int) = 0)) else (impl_LeadsTo k r3.1 r3.2 (r4.1.getD [])).bind fun r54 => (impl_CliqueNumbers k r3.1).bind fun r55 => (impl_CliqueNumbers k r3.2).bind fun r56 => ((if decide (r54.2 = 0) then (if r54.1 then (if decide (r17.2.2 = 0) then (if decide (r55.2 = 0) then (if decide (r56.2 = 0) then (laws_likeInts k (r55.1.getD []) (r56.1.getD [])).bind fun r62 => some r62 else some false) else some false) else some false) else some false) else some false) : Option (Bool)).bind fun s63 => some s63) | .inr rr => some rr) | .inr rr => some rr) | .inr rr => some rr) | .inr rr => some rr) | .inr rr => some rr) | some l18 => ((spec_FindAlike k r3.1 r3.2).bind fun r64 => ((if !decide (r17.2.2 = r64.2.2) then some true else (laws_likeInts k r17.1 r64.1).bind fun r66 => (if !r66 then some true else (laws_likeInts k l18 r64.2.1).bind fun r68 => some (!r68))) : Option (Bool)).bind fun s69 => (if s69 then some (.inr false) else some (.inl ())) : Option (Sum (Unit) (Bool))).bind fun os71 => (match os71 with | .inl s71 => (spec_DrawLeadsTo k p0).bind fun r72 => (impl_LeadsTo k r72.1 r72.2.1 r72.2.2).bind fun r73 => ((spec_LeadsTo k r72.1 r72.2.1 r72.2.2).bind fun r74 => letO (if !decide (r73.2 = r74.2) then true else !(r73.1 == r74.1)) fun (s76 : Bool) => (if s76 then some (.inr false) else some (.inl ())) : Option (Sum (Unit) (Bool))).bind fun os78 => (match os78 with | .inl s78 => ((if decide (r73.2 = 0) then (impl_RenumberPoints k r72.1 r72.2.2).bind fun r80 => letO (if !decide (r80.2 = 0) then true else !(r73.1 == (r80.1.eqb r72.2.1))) fun (s82 : Bool) => (if s82 then some (.inr false) else some (.inl ())) else some (.inl ())) : Option (Sum (Unit) (Bool))).bind fun os84 => (match os84 with | .inl s84 => ((if decide (r17.2.2 = 0) then (impl_ExchangeColours k r3.1 r17.1).bind fun r86 => (impl_LeadsTo k r86.1 r3.2 l18).bind fun r87 => letO (if !decide (r86.2 = 0) then true else (if !decide (r87.2 = 0) then true else !r87.1)) fun (s90 : Bool) => (if s90 then some (.inr false) else some (.inl ())) else some (.inl ())) : Option (Sum (Unit) (Bool))).bind fun os92 => (match os92 with | .inl s92 => (letO (if decide (r11.2 = 0) then !(r11.1 == decide (r4.2 = 0)) else false) fun (s94 : Bool) => (if s94 then some (.inr false) else some (.inl ())) : Option (Sum (Unit) (Bool))).bind fun os96 => (match os96 with | .inl s96 => (if !decide (r4.2 = 0) then some (decide (((r4.1.getD []).length : Int) = 0)) else (impl_LeadsTo k r3.1 r3.2 (r4.1.getD [])).bind fun r98 => (impl_CliqueNumbers k r3.1).bind fun r99 => (impl_CliqueNumbers k r3.2).bind fun r100 => ((if decide (r98.2 = 0) then (if r98.1 then (if decide (r17.2.2 = 0) then (if decide (r99.2 = 0) then (if decide (r100.2 = 0) then (laws_likeInts k (r99.1.getD []) (r100.1.getD [])).bind fun r106 => some r106 else some false) else some false) else some false) else some false) else some false) : Option (Bool)).bind fun s107 => some s107) | .inr rr => some rr) | .inr rr => some rr) | .inr rr => some rr) | .inr rr => some rr) | .inr rr => some rr)) | .inr rr => some rr) | .inr rr => some rr))
set_option maxHeartbeats 2000000 in
set_option maxRecDepth 100000 in
theorem laws_FnRenumbered_ac (k : Nat) (p0 : List UInt8) (r : Bool) (h : laws_FnRenumbered k p0 = some r) : AC Tryz.prog 3 [.d (.sl none (bysD p0))] [] (fun res H' => res = [bV r] ∧ H' = []) := by
 refine AC_of_body true Tryz.func3 rfl Tryz.ntmps3 (rvs := [.tmp 2]) rfl rfl (fun G hG => ?_)
 have hm : G.H.length = 0 := by rw [hG]; rfl
 have hz : zeroG G.H = true := by rw [hG]; rfl
 unfold laws_FnRenumbered at h
 refine kR ?_
 refine kN 1 rfl ?_
 refine ACode_seq ?_
 refine kR ?_
 refine kM 1 rfl ?_
 refine kC [] 39 (bV (laws_big p0)) [] rfl Tryz.call5 rfl rfl (laws_big_ac p0) rfl ?_
 refine AOps_nil ?_
 refine kI h rfl (fun h _ => ?_) (fun h _ => ?_)
 ·refine kR ?_
  refine kN 1 rfl ?_
  refine ACode_ret ?_
  cases h
  exact ⟨_, _, fun r a w h => ⟨r, h⟩, _, _, [], _, (.cons (ResV_tmp _ _ rfl) .nil), rfl, rfl, rfl, rfl, rfl⟩
 refine ACode_skip ?_
 refine kR ?_
 refine kM 1 rfl ?_
 obtain ⟨r3, hr3, h⟩ := bindO h
 refine kC [] 42 (.tup [.d (.agg (colD r3.1)), .d (.agg (colD r3.2))]) [] rfl Tryz.call6 rfl rfl (spec_DrawFindRenumbering_ac k p0 _ hr3) rfl ?_
 refine kM 3 rfl ?_
 refine AOps_alloc 3 _ _ (colD Col.zero) (zero_of Tryz.typeInfo26 rfl) (by rfl) rfl rfl rfl rfl ?_
 refine AOps_alloc 4 _ _ (colD Col.zero) (zero_of Tryz.typeInfo26 rfl) (by rfl) rfl rfl rfl rfl ?_
 refine AOps_store _ _ _ _ _ _ (colD _) _ _ rfl rfl rfl rfl rfl rfl rfl (colD_one _) (by rw [colD_length]; exact Tryz.sizeOf26) (by rw [colD_length, colD_length]; decide) (colD_whole _ _) ?_
 refine AOps_store _ _ _ _ _ _ (colD _) _ _ rfl rfl rfl rfl rfl rfl rfl (colD_one _) (by rw [colD_length]; exact Tryz.sizeOf26) (by rw [colD_length, colD_length]; decide) (colD_whole _ _) ?_
 refine AOps_nil ?_
 refine kR ?_
 refine AOps_q 46 _ rfl rfl rfl (QOp_loadN_ptr _ _ _ _ _ _ _ rfl Tryz.isAgg26 Tryz.sizeOf26 rfl rfl (colD_all _) (colD_length _)) ?_
 refine AOps_q 47 _ rfl rfl rfl (QOp_loadN_ptr _ _ _ _ _ _ _ rfl Tryz.isAgg26 Tryz.sizeOf26 rfl rfl (colD_all _) (colD_length _)) ?_
 obtain ⟨r4, hr4, h⟩ := bindO h
 refine kC [] 48 (.tup [.d (.sl none (intsD (r4.1.getD []))), iV r4.2]) [.box (colD r3.1), .box (colD r3.2)] rfl Tryz.call7 rfl rfl (AC_frz rfl (frz_cons frz_nil) (impl_FindRenumbering_ac k r3.1 r3.2 _ hr4)) rfl ?_
 refine kN 5 rfl ?_
 refine kO (fun s10 => [(0, .d (.sl none (bysD p0))), (3, .ptr 0 0), (4, .ptr 1 0), (5, .d (.sl none (intsD (r4.1.getD [])))), (6, iV r4.2)]) (fun s10 => [.box (colD r3.1), .box (colD r3.2)]) h (fun os10 h hks10 => ?_) (fun s10 h => ?_)
 ·refine kR ?_
  refine AOps_q 52 _ rfl rfl rfl (QOp_loadN_ptr _ _ _ _ _ _ _ rfl Tryz.isAgg26 Tryz.sizeOf26 rfl rfl (colD_all _) (colD_length _)) ?_
  refine AOps_q 53 _ rfl rfl rfl (QOp_loadN_ptr _ _ _ _ _ _ _ rfl Tryz.isAgg26 Tryz.sizeOf26 rfl rfl (colD_all _) (colD_length _)) ?_
  obtain ⟨r5, hr5, h⟩ := bindO h
  refine kC [] 54 (.tup [.d (.sl none (intsD r5.1)), iV r5.2]) [.box (colD r3.1), .box (colD r3.2)] rfl Tryz.call8 rfl rfl (spec_FindRenumbering_ac k r3.1 r3.2 _ hr5) rfl ?_
  refine kN 5 rfl ?_
  refine kB (fun s8 => [(0, .d (.sl none (bysD p0))), (3, .ptr 0 0), (4, .ptr 1 0), (5, .d (.sl none (intsD (r4.1.getD [])))), (6, iV r4.2), (65, bV s8)]) (fun s8 => [.box (colD r3.1), .box (colD r3.2)]) h (fun s8 h => ?_) (fun s8 h => ?_)
  ·refine (ACode_region ?_)
   refine kM 2 rfl ?_
   refine AOps_q 59 _ rfl rfl rfl (QOp_neq _ _ _ _ _ _ _ rfl rfl rfl) ?_
   refine kM 1 rfl ?_
   refine AOps_case 60 _ rfl (fun hb6 => ?_) (fun hb6 => ?_)
   ·have h := iteT hb6 h
    refine AOps_skip 61 rfl rfl rfl ?_
    refine AOps_skip 62 rfl rfl rfl ?_
    refine AOps_skip 63 rfl rfl rfl ?_
    refine AOps_skip 64 rfl rfl rfl ?_
    refine kN 1 rfl ?_
    cases h
    exact Weak_keep 0 hm [0, 3, 4, 5, 6, 65] [0, 1] _ _ rfl rfl rfl
   have h := iteF hb6 h
   refine kM 2 rfl ?_
   obtain ⟨r7, hr7, h⟩ := bindO h
   refine kC [] 63 (bV r7) [.box (colD r3.1), .box (colD r3.2)] rfl Tryz.call9 rfl rfl (laws_likeInts_ac k (r4.1.getD []) r5.1 _ hr7) rfl ?_
   refine AOps_q 64 _ rfl rfl rfl (QOp_not _ _ _ rfl rfl) ?_
   refine kN 1 rfl ?_
   cases h
   exact Weak_keep 0 hm [0, 3, 4, 5, 6, 65] [0, 1] _ _ rfl rfl rfl
  refine kI h rfl (fun h _ => ?_) (fun h _ => ?_)
  ·refine kR ?_
   refine kN 1 rfl ?_
   refine ACode_ret ?_
   cases h
   have h := hks10
   cases h
   exact ⟨_, _, fun r a w h => ⟨r, h⟩, _, _, [], _, (.cons (ResV_tmp _ _ rfl) .nil), rfl, rfl, rfl, rfl, rfl⟩
  refine ACode_skip ?_
  cases h
  exact ⟨_, rfl, Weak_keep 0 hm [0, 3, 4, 5, 6] [0, 1] _ _ rfl rfl rfl⟩
 refine kR ?_
 refine AOps_q 67 _ rfl rfl rfl (QOp_loadN_ptr _ _ _ _ _ _ _ rfl Tryz.isAgg26 Tryz.sizeOf26 rfl rfl (colD_all _) (colD_length _)) ?_
 refine AOps_q 68 _ rfl rfl rfl (QOp_loadN_ptr _ _ _ _ _ _ _ rfl Tryz.isAgg26 Tryz.sizeOf26 rfl rfl (colD_all _) (colD_length _)) ?_
 obtain ⟨r11, hr11, h⟩ := bindO h
 refine kC [] 69 (.tup [bV r11.1, iV r11.2]) [.box (colD r3.1), .box (colD r3.2)] rfl Tryz.call10 rfl rfl (impl_AreIsomorphic_ac k r3.1 r3.2 _ hr11) rfl ?_
 refine kN 5 rfl ?_
 refine kO (fun s16 => [(0, .d (.sl none (bysD p0))), (3, .ptr 0 0), (4, .ptr 1 0), (5, .d (.sl none (intsD (r4.1.getD [])))), (6, iV r4.2), (9, bV r11.1), (10, iV r11.2)]) (fun s16 => [.box (colD r3.1), .box (colD r3.2)]) h (fun os16 h hks16 => ?_) (fun s16 h => ?_)
 ·refine kR ?_
  refine AOps_q 73 _ rfl rfl rfl (QOp_loadN_ptr _ _ _ _ _ _ _ rfl Tryz.isAgg26 Tryz.sizeOf26 rfl rfl (colD_all _) (colD_length _)) ?_
  refine AOps_q 74 _ rfl rfl rfl (QOp_loadN_ptr _ _ _ _ _ _ _ rfl Tryz.isAgg26 Tryz.sizeOf26 rfl rfl (colD_all _) (colD_length _)) ?_
  obtain ⟨r12, hr12, h⟩ := bindO h
  refine kC [] 75 (.tup [bV r12.1, iV r12.2]) [.box (colD r3.1), .box (colD r3.2)] rfl Tryz.call11 rfl rfl (spec_AreIsomorphic_ac k r3.1 r3.2 _ hr12) rfl ?_
  refine kN 5 rfl ?_
  refine kL (fun s14 => [(0, .d (.sl none (bysD p0))), (3, .ptr 0 0), (4, .ptr 1 0), (5, .d (.sl none (intsD (r4.1.getD [])))), (6, iV r4.2), (9, bV r11.1), (10, iV r11.2), (85, bV s14)]) (fun s14 => [.box (colD r3.1), .box (colD r3.2)]) h (fun s14 h => ?_) (fun s14 h => ?_)
  ·refine (ACode_region ?_)
   refine kM 2 rfl ?_
   refine AOps_q 80 _ rfl rfl rfl (QOp_neq _ _ _ _ _ _ _ rfl rfl rfl) ?_
   refine kM 1 rfl ?_
   refine AOps_case 81 _ rfl (fun hb13 => ?_) (fun hb13 => ?_)
   ·have h := iteT hb13 h
    refine AOps_skip 82 rfl rfl rfl ?_
    refine AOps_skip 83 rfl rfl rfl ?_
    refine AOps_skip 84 rfl rfl rfl ?_
    refine kN 1 rfl ?_
    cases h
    exact Weak_keep 0 hm [0, 3, 4, 5, 6, 9, 10, 85] [0, 1] _ _ rfl rfl rfl
   have h := iteF hb13 h
   refine kM 2 rfl ?_
   refine AOps_q 84 _ rfl rfl rfl (QOp_bneq _ _ _ _ _ _ rfl rfl rfl Tryz.underlying4) ?_
   refine kN 1 rfl ?_
   cases h
   exact Weak_keep 0 hm [0, 3, 4, 5, 6, 9, 10, 85] [0, 1] _ _ rfl rfl rfl
  refine kI h rfl (fun h _ => ?_) (fun h _ => ?_)
  ·refine kR ?_
   refine kN 1 rfl ?_
   refine ACode_ret ?_
   cases h
   have h := hks16
   cases h
   exact ⟨_, _, fun r a w h => ⟨r, h⟩, _, _, [], _, (.cons (ResV_tmp _ _ rfl) .nil), rfl, rfl, rfl, rfl, rfl⟩
  refine ACode_skip ?_
  cases h
  exact ⟨_, rfl, Weak_keep 0 hm [0, 3, 4, 5, 6, 9, 10] [0, 1] _ _ rfl rfl rfl⟩
 refine kR ?_
 refine AOps_q 87 _ rfl rfl rfl (QOp_loadN_ptr _ _ _ _ _ _ _ rfl Tryz.isAgg26 Tryz.sizeOf26 rfl rfl (colD_all _) (colD_length _)) ?_
 refine AOps_q 88 _ rfl rfl rfl (QOp_loadN_ptr _ _ _ _ _ _ _ rfl Tryz.isAgg26 Tryz.sizeOf26 rfl rfl (colD_all _) (colD_length _)) ?_
 obtain ⟨r17, hr17, h⟩ := bindO h
 refine AOps_call [] 89 _ _ _ _ _ _ _ _ _ _ rfl rfl rfl rfl rfl rfl rfl Tryz.call12 rfl (nodupB_sound _ rfl) rfl rfl rfl (impl_FindAlike_ac k r3.1 r3.2 _ hr17) ?_
 revert h
 cases hx19 : r17.2.1 with
 | none =>
  intro h
  rintro _ _ ⟨rfl, rfl⟩
  refine ⟨(fun _ h => nomatch h), (allc (trivial) (allc (trivial) (allc (trivial) (fun _ h => nomatch h)))), AOps_as 89 (v' := .tup [.d (.sl none (intsD r17.1)), .d (.sl (some true) []), iV r17.2.2]) (H' := [.box (colD r3.1), .box (colD r3.2)]) rfl rfl ?_⟩
  refine kN 7 rfl ?_
  refine kO (fun s27 => [(0, .d (.sl none (bysD p0))), (3, .ptr 0 0), (4, .ptr 1 0), (5, .d (.sl none (intsD (r4.1.getD [])))), (6, iV r4.2), (9, bV r11.1), (10, iV r11.2), (13, .d (.sl none (intsD r17.1))), (14, .d (.sl (some true) [])), (15, iV r17.2.2)]) (fun s27 => [.box (colD r3.1), .box (colD r3.2)]) h (fun os27 h hks27 => ?_) (fun s27 h => ?_)
  ·refine kR ?_
   refine AOps_q 94 _ rfl rfl rfl (QOp_loadN_ptr _ _ _ _ _ _ _ rfl Tryz.isAgg26 Tryz.sizeOf26 rfl rfl (colD_all _) (colD_length _)) ?_
   refine AOps_q 95 _ rfl rfl rfl (QOp_loadN_ptr _ _ _ _ _ _ _ rfl Tryz.isAgg26 Tryz.sizeOf26 rfl rfl (colD_all _) (colD_length _)) ?_
   obtain ⟨r20, hr20, h⟩ := bindO h
   refine kC [] 96 (.tup [.d (.sl none (intsD r20.1)), .d (.sl none (intsD r20.2.1)), iV r20.2.2]) [.box (colD r3.1), .box (colD r3.2)] rfl Tryz.call13 rfl rfl (spec_FindAlike_ac k r3.1 r3.2 _ hr20) rfl ?_
   refine kN 7 rfl ?_
   refine kB (fun s25 => [(0, .d (.sl none (bysD p0))), (3, .ptr 0 0), (4, .ptr 1 0), (5, .d (.sl none (intsD (r4.1.getD [])))), (6, iV r4.2), (9, bV r11.1), (10, iV r11.2), (13, .d (.sl none (intsD r17.1))), (14, .d (.sl (some true) [])), (15, iV r17.2.2), (114, bV s25)]) (fun s25 => [.box (colD r3.1), .box (colD r3.2)]) h (fun s25 h => ?_) (fun s25 h => ?_)
   ·refine (ACode_region ?_)
    refine kM 2 rfl ?_
    refine AOps_q 102 _ rfl rfl rfl (QOp_neq _ _ _ _ _ _ _ rfl rfl rfl) ?_
    refine kM 1 rfl ?_
    refine AOps_case 103 _ rfl (fun hb21 => ?_) (fun hb21 => ?_)
    ·have h := iteT hb21 h
     refine AOps_skip 104 rfl rfl rfl ?_
     refine AOps_skip 105 rfl rfl rfl ?_
     refine AOps_skip 106 rfl rfl rfl ?_
     refine AOps_skip 107 rfl rfl rfl ?_
     refine kM 2 rfl ?_
     refine AOps_skip 110 rfl rfl rfl ?_
     refine AOps_skip 111 rfl rfl rfl ?_
     refine AOps_skip 112 rfl rfl rfl ?_
     refine AOps_skip 113 rfl rfl rfl ?_
     refine kN 1 rfl ?_
     cases h
     exact Weak_keep 0 hm [0, 3, 4, 5, 6, 9, 10, 13, 14, 15, 114] [0, 1] _ _ rfl rfl rfl
    have h := iteF hb21 h
    refine kM 2 rfl ?_
    obtain ⟨r22, hr22, h⟩ := bindO h
    refine kC [] 106 (bV r22) [.box (colD r3.1), .box (colD r3.2)] rfl Tryz.call9 rfl rfl (laws_likeInts_ac k r17.1 r20.1 _ hr22) rfl ?_
    refine AOps_q 107 _ rfl rfl rfl (QOp_not _ _ _ rfl rfl) ?_
    refine kM 2 rfl ?_
    refine AOps_case 109 _ rfl (fun hb23 => ?_) (fun hb23 => ?_)
    ·have h := iteT hb23 h
     refine AOps_skip 110 rfl rfl rfl ?_
     refine AOps_skip 111 rfl rfl rfl ?_
     refine AOps_skip 112 rfl rfl rfl ?_
     refine AOps_skip 113 rfl rfl rfl ?_
     refine kN 1 rfl ?_
     cases h
     exact Weak_keep 0 hm [0, 3, 4, 5, 6, 9, 10, 13, 14, 15, 114] [0, 1] _ _ rfl rfl rfl
    have h := iteF hb23 h
    refine kM 2 rfl ?_
    obtain ⟨r24, hr24, h⟩ := bindO h
    refine kC [] 112 (bV r24) [.box (colD r3.1), .box (colD r3.2)] rfl Tryz.call9 rfl rfl (laws_likeInts_ac k ([]) r20.2.1 _ hr24) rfl ?_
    refine AOps_q 113 _ rfl rfl rfl (QOp_not _ _ _ rfl rfl) ?_
    refine kN 1 rfl ?_
    cases h
    exact Weak_keep 0 hm [0, 3, 4, 5, 6, 9, 10, 13, 14, 15, 114] [0, 1] _ _ rfl rfl rfl
   refine kI h rfl (fun h _ => ?_) (fun h _ => ?_)
   ·refine kR ?_
    refine kN 1 rfl ?_
    refine ACode_ret ?_
    cases h
    have h := hks27
    cases h
    exact ⟨_, _, fun r a w h => ⟨r, h⟩, _, _, [], _, (.cons (ResV_tmp _ _ rfl) .nil), rfl, rfl, rfl, rfl, rfl⟩
   refine ACode_skip ?_
   cases h
   exact ⟨_, rfl, Weak_keep 0 hm [0, 3, 4, 5, 6, 9, 10, 13, 14, 15] [0, 1] _ _ rfl rfl rfl⟩
  refine kR ?_
  refine kM 1 rfl ?_
  obtain ⟨r28, hr28, h⟩ := bindO h
  refine kC [] 117 (.tup [.d (.agg (colD r28.1)), .d (.agg (colD r28.2.1)), .vec 2 0]) [.box (colD r3.1), .box (colD r3.2), .vec 0 (intsD r28.2.2)] rfl Tryz.call14 rfl rfl (spec_DrawLeadsTo_ac k p0 _ hr28) rfl ?_
  refine kM 4 rfl ?_
  refine AOps_alloc 19 _ _ (colD Col.zero) (zero_of Tryz.typeInfo26 rfl) (by rfl) rfl rfl rfl rfl ?_
  refine AOps_alloc 20 _ _ (colD Col.zero) (zero_of Tryz.typeInfo26 rfl) (by rfl) rfl rfl rfl rfl ?_
  refine AOps_store _ _ _ _ _ _ (colD _) _ _ rfl rfl rfl rfl rfl rfl rfl (colD_one _) (by rw [colD_length]; exact Tryz.sizeOf26) (by rw [colD_length, colD_length]; decide) (colD_whole _ _) ?_
  refine AOps_store _ _ _ _ _ _ (colD _) _ _ rfl rfl rfl rfl rfl rfl rfl (colD_one _) (by rw [colD_length]; exact Tryz.sizeOf26) (by rw [colD_length, colD_length]; decide) (colD_whole _ _) ?_
  refine kN 1 rfl ?_
  refine kR ?_
  refine AOps_q 122 _ rfl rfl rfl (QOp_loadN_ptr _ _ _ _ _ _ _ rfl Tryz.isAgg26 Tryz.sizeOf26 rfl rfl (colD_all _) (colD_length _)) ?_
  refine AOps_q 123 _ rfl rfl rfl (QOp_loadN_ptr _ _ _ _ _ _ _ rfl Tryz.isAgg26 Tryz.sizeOf26 rfl rfl (colD_all _) (colD_length _)) ?_
  refine kM 1 rfl ?_
  obtain ⟨r29, hr29, h⟩ := bindO h
  refine AOps_callL [] 125 _ _ _ _ _ _ _ _ _ _ rfl rfl rfl rfl rfl rfl rfl Tryz.call15 rfl (nodupB_sound _ rfl) rfl rfl rfl (impl_LeadsTo_ac k r28.1 r28.2.1 r28.2.2 _ hr29) ?_
  rintro _ _ ⟨rfl, rfl⟩
  refine ⟨(fun _ h => nomatch h), (allc (flat_s _) (allc (flat_s _) (fun _ h => nomatch h))), AOps_as 125 (v' := .tup [bV r29.1, iV r29.2]) (H' := [.box (colD r3.1), .box (colD r3.2), .vec 0 (intsD r28.2.2), .box (colD r28.1), .box (colD r28.2.1)]) rfl rfl ?_⟩
  refine kN 5 rfl ?_
  refine kO (fun s34 => [(3, .ptr 0 0), (4, .ptr 1 0), (5, .d (.sl none (intsD (r4.1.getD [])))), (6, iV r4.2), (9, bV r11.1), (10, iV r11.2), (13, .d (.sl none (intsD r17.1))), (14, .d (.sl (some true) [])), (15, iV r17.2.2), (19, .ptr 2 0), (20, .ptr 3 0), (21, .vec 4 0), (22, bV r29.1), (23, iV r29.2)]) (fun s34 => [.box (colD r3.1), .box (colD r3.2), .box (colD r28.1), .box (colD r28.2.1), .vec 0 (intsD r28.2.2)]) h (fun os34 h hks34 => ?_) (fun s34 h => ?_)
  ·refine kR ?_
   refine AOps_q 129 _ rfl rfl rfl (QOp_loadN_ptr _ _ _ _ _ _ _ rfl Tryz.isAgg26 Tryz.sizeOf26 rfl rfl (colD_all _) (colD_length _)) ?_
   refine AOps_q 130 _ rfl rfl rfl (QOp_loadN_ptr _ _ _ _ _ _ _ rfl Tryz.isAgg26 Tryz.sizeOf26 rfl rfl (colD_all _) (colD_length _)) ?_
   refine kM 1 rfl ?_
   obtain ⟨r30, hr30, h⟩ := bindO h
   refine AOps_callL [] 132 _ _ _ _ _ _ _ _ _ _ rfl rfl rfl rfl rfl rfl rfl Tryz.call16 rfl (nodupB_sound _ rfl) rfl rfl rfl (spec_LeadsTo_ac k r28.1 r28.2.1 r28.2.2 _ hr30) ?_
   rintro _ _ ⟨rfl, rfl⟩
   refine ⟨(fun _ h => nomatch h), (allc (flat_s _) (allc (flat_s _) (fun _ h => nomatch h))), AOps_as 132 (v' := .tup [bV r30.1, iV r30.2]) (H' := [.box (colD r3.1), .box (colD r3.2), .vec 0 (intsD r28.2.2), .box (colD r28.1), .box (colD r28.2.1)]) rfl rfl ?_⟩
   refine kN 5 rfl ?_
   refine kL (fun s32 => [(3, .ptr 0 0), (4, .ptr 1 0), (5, .d (.sl none (intsD (r4.1.getD [])))), (6, iV r4.2), (9, bV r11.1), (10, iV r11.2), (13, .d (.sl none (intsD r17.1))), (14, .d (.sl (some true) [])), (15, iV r17.2.2), (19, .ptr 2 0), (20, .ptr 3 0), (21, .vec 4 0), (22, bV r29.1), (23, iV r29.2), (142, bV s32)]) (fun s32 => [.box (colD r3.1), .box (colD r3.2), .box (colD r28.1), .box (colD r28.2.1), .vec 0 (intsD r28.2.2)]) h (fun s32 h => ?_) (fun s32 h => ?_)
   ·refine (ACode_region ?_)
    refine kM 2 rfl ?_
    refine AOps_q 137 _ rfl rfl rfl (QOp_neq _ _ _ _ _ _ _ rfl rfl rfl) ?_
    refine kM 1 rfl ?_
    refine AOps_case 138 _ rfl (fun hb31 => ?_) (fun hb31 => ?_)
    ·have h := iteT hb31 h
     refine AOps_skip 139 rfl rfl rfl ?_
     refine AOps_skip 140 rfl rfl rfl ?_
     refine AOps_skip 141 rfl rfl rfl ?_
     refine kN 1 rfl ?_
     cases h
     exact Weak_keep 0 hm [3, 4, 5, 6, 9, 10, 13, 14, 15, 19, 20, 21, 22, 23, 142] [0, 1, 3, 4, 2] _ _ rfl rfl rfl
    have h := iteF hb31 h
    refine kM 2 rfl ?_
    refine AOps_q 141 _ rfl rfl rfl (QOp_bneq _ _ _ _ _ _ rfl rfl rfl Tryz.underlying4) ?_
    refine kN 1 rfl ?_
    cases h
    exact Weak_keep 0 hm [3, 4, 5, 6, 9, 10, 13, 14, 15, 19, 20, 21, 22, 23, 142] [0, 1, 3, 4, 2] _ _ rfl rfl rfl
   refine kI h rfl (fun h _ => ?_) (fun h _ => ?_)
   ·refine kR ?_
    refine kN 1 rfl ?_
    refine ACode_ret ?_
    cases h
    have h := hks34
    cases h
    exact ⟨_, _, fun r a w h => ⟨r, h⟩, _, _, [], _, (.cons (ResV_tmp _ _ rfl) .nil), rfl, rfl, rfl, rfl, rfl⟩
   refine ACode_skip ?_
   cases h
   exact ⟨_, rfl, Weak_keep 0 hm [3, 4, 5, 6, 9, 10, 13, 14, 15, 19, 20, 21, 22, 23] [0, 1, 2, 3, 4] _ _ rfl rfl rfl⟩
  refine kO (fun s40 => [(3, .ptr 0 0), (4, .ptr 1 0), (5, .d (.sl none (intsD (r4.1.getD [])))), (6, iV r4.2), (9, bV r11.1), (10, iV r11.2), (13, .d (.sl none (intsD r17.1))), (14, .d (.sl (some true) [])), (15, iV r17.2.2)]) (fun s40 => [.box (colD r3.1), .box (colD r3.2)]) h (fun os40 h hks40 => ?_) (fun s40 h => ?_)
  ·refine kR ?_
   refine kM 1 rfl ?_
   refine AOps_q 144 _ rfl rfl rfl (QOp_eql _ _ _ _ _ _ _ rfl rfl rfl) ?_
   refine AOps_nil ?_
   refine kI h rfl (fun h _ => ?_) (fun h _ => ?_)
   ·refine kR ?_
    refine AOps_q 146 _ rfl rfl rfl (QOp_loadN_ptr _ _ _ _ _ _ _ rfl Tryz.isAgg26 Tryz.sizeOf26 rfl rfl (colD_all _) (colD_length _)) ?_
    refine kM 1 rfl ?_
    obtain ⟨r36, hr36, h⟩ := bindO h
    refine AOps_callL [] 148 _ _ _ _ _ _ _ _ _ _ rfl rfl rfl rfl rfl rfl rfl Tryz.call17 rfl (nodupB_sound _ rfl) rfl rfl rfl (impl_RenumberPoints_ac k r28.1 r28.2.2 _ hr36) ?_
    rintro _ _ ⟨rfl, rfl⟩
    refine ⟨(fun _ h => nomatch h), (allc (flat_agg (colD_flat _)) (allc (flat_s _) (fun _ h => nomatch h))), AOps_as 148 (v' := .tup [.d (.agg (colD r36.1)), iV r36.2]) (H' := [.box (colD r3.1), .box (colD r3.2), .box (colD r28.1), .box (colD r28.2.1), .vec 0 (intsD r28.2.2)]) rfl rfl ?_⟩
    refine kM 3 rfl ?_
    refine AOps_alloc 26 _ _ (colD Col.zero) (zero_of Tryz.typeInfo26 rfl) (by rfl) rfl rfl rfl rfl ?_
    refine AOps_store _ _ _ _ _ _ (colD _) _ _ rfl rfl rfl rfl rfl rfl rfl (colD_one _) (by rw [colD_length]; exact Tryz.sizeOf26) (by rw [colD_length, colD_length]; decide) (colD_whole _ _) ?_
    refine kN 1 rfl ?_
    refine kL (fun s38 => [(3, .ptr 0 0), (4, .ptr 1 0), (5, .d (.sl none (intsD (r4.1.getD [])))), (6, iV r4.2), (9, bV r11.1), (10, iV r11.2), (13, .d (.sl none (intsD r17.1))), (14, .d (.sl (some true) [])), (15, iV r17.2.2), (159, bV s38)]) (fun s38 => [.box (colD r3.1), .box (colD r3.2)]) h (fun s38 h => ?_) (fun s38 h => ?_)
    ·refine (ACode_region ?_)
     refine kM 1 rfl ?_
     refine AOps_q 152 _ rfl rfl rfl (QOp_neq _ _ _ _ _ _ _ rfl rfl rfl) ?_
     refine kM 1 rfl ?_
     refine AOps_case 153 _ rfl (fun hb37 => ?_) (fun hb37 => ?_)
     ·have h := iteT hb37 h
      refine AOps_skip 154 rfl rfl rfl ?_
      refine AOps_skip 155 rfl rfl rfl ?_
      refine AOps_skip 156 rfl rfl rfl ?_
      refine AOps_skip 157 rfl rfl rfl ?_
      refine AOps_skip 158 rfl rfl rfl ?_
      refine kN 1 rfl ?_
      cases h
      exact Weak_keep 0 hm [3, 4, 5, 6, 9, 10, 13, 14, 15, 159] [0, 1] _ _ rfl rfl rfl
     have h := iteF hb37 h
     refine kM 1 rfl ?_
     refine AOps_q 155 _ rfl rfl rfl (QOp_loadN_ptr _ _ _ _ _ _ _ rfl Tryz.isAgg26 Tryz.sizeOf26 rfl rfl (colD_all _) (colD_length _)) ?_
     refine AOps_q 156 _ rfl rfl rfl (QOp_loadN_ptr _ _ _ _ _ _ _ rfl Tryz.isAgg26 Tryz.sizeOf26 rfl rfl (colD_all _) (colD_length _)) ?_
     refine AOps_q 157 _ rfl rfl rfl (QOp_eqCol _ _ _ _ _ _ _ _ _ _ _ _ rfl rfl rfl Tryz.underlying26 (by kernel_rfl) (by kernel_rfl) (by decide) (by decide) (by decide) rfl rfl rfl rfl rfl rfl Tryz.underlying2 Tryz.underlying24 Tryz.underlying5 Tryz.sizeOf5 Tryz.sizeOf24) ?_
     refine AOps_q 158 _ rfl rfl rfl (QOp_bneq _ _ _ _ _ _ rfl rfl rfl Tryz.underlying4) ?_
     refine kN 1 rfl ?_
     cases h
     exact Weak_keep 0 hm [3, 4, 5, 6, 9, 10, 13, 14, 15, 159] [0, 1] _ _ rfl rfl rfl
    refine kI h rfl (fun h _ => ?_) (fun h _ => ?_)
    ·refine kR ?_
     refine kN 1 rfl ?_
     refine ACode_ret ?_
     cases h
     have h := hks40
     cases h
     exact ⟨_, _, fun r a w h => ⟨r, h⟩, _, _, [], _, (.cons (ResV_tmp _ _ rfl) .nil), rfl, rfl, rfl, rfl, rfl⟩
    refine ACode_skip ?_
    cases h
    exact ⟨_, rfl, Weak_keep 0 hm [3, 4, 5, 6, 9, 10, 13, 14, 15] [0, 1] _ _ rfl rfl rfl⟩
   refine ACode_skip ?_
   cases h
   exact ⟨_, rfl, Weak_keep 0 hm [3, 4, 5, 6, 9, 10, 13, 14, 15] [0, 1] _ _ rfl rfl rfl⟩
  refine kO (fun s48 => [(3, .ptr 0 0), (4, .ptr 1 0), (5, .d (.sl none (intsD (r4.1.getD [])))), (6, iV r4.2), (9, bV r11.1), (10, iV r11.2), (15, iV r17.2.2)]) (fun s48 => [.box (colD r3.1), .box (colD r3.2)]) h (fun os48 h hks48 => ?_) (fun s48 h => ?_)
  ·refine kR ?_
   refine kM 1 rfl ?_
   refine AOps_q 161 _ rfl rfl rfl (QOp_eql _ _ _ _ _ _ _ rfl rfl rfl) ?_
   refine AOps_nil ?_
   refine kI h rfl (fun h _ => ?_) (fun h _ => ?_)
   ·refine kR ?_
    refine AOps_q 163 _ rfl rfl rfl (QOp_loadN_ptr _ _ _ _ _ _ _ rfl Tryz.isAgg26 Tryz.sizeOf26 rfl rfl (colD_all _) (colD_length _)) ?_
    refine kM 1 rfl ?_
    obtain ⟨r42, hr42, h⟩ := bindO h
    refine kC [] 165 (.tup [.d (.agg (colD r42.1)), iV r42.2]) [.box (colD r3.1), .box (colD r3.2)] rfl Tryz.call18 rfl rfl (impl_ExchangeColours_ac k r3.1 r17.1 _ hr42) rfl ?_
    refine kM 3 rfl ?_
    refine AOps_alloc 28 _ _ (colD Col.zero) (zero_of Tryz.typeInfo26 rfl) (by rfl) rfl rfl rfl rfl ?_
    refine AOps_store _ _ _ _ _ _ (colD _) _ _ rfl rfl rfl rfl rfl rfl rfl (colD_one _) (by rw [colD_length]; exact Tryz.sizeOf26) (by rw [colD_length, colD_length]; decide) (colD_whole _ _) ?_
    refine kN 1 rfl ?_
    refine kR ?_
    refine AOps_q 169 _ rfl rfl rfl (QOp_loadN_ptr _ _ _ _ _ _ _ rfl Tryz.isAgg26 Tryz.sizeOf26 rfl rfl (colD_all _) (colD_length _)) ?_
    refine AOps_q 170 _ rfl rfl rfl (QOp_loadN_ptr _ _ _ _ _ _ _ rfl Tryz.isAgg26 Tryz.sizeOf26 rfl rfl (colD_all _) (colD_length _)) ?_
    refine kM 1 rfl ?_
    obtain ⟨r43, hr43, h⟩ := bindO h
    refine kC [] 172 (.tup [bV r43.1, iV r43.2]) [.box (colD r3.1), .box (colD r3.2), .box (colD r42.1)] rfl Tryz.call15 rfl rfl (impl_LeadsTo_ac k r42.1 r3.2 ([]) _ hr43) rfl ?_
    refine kN 5 rfl ?_
    refine kL (fun s46 => [(3, .ptr 0 0), (4, .ptr 1 0), (5, .d (.sl none (intsD (r4.1.getD [])))), (6, iV r4.2), (9, bV r11.1), (10, iV r11.2), (15, iV r17.2.2), (184, bV s46)]) (fun s46 => [.box (colD r3.1), .box (colD r3.2)]) h (fun s46 h => ?_) (fun s46 h => ?_)
    ·refine (ACode_region ?_)
     refine kM 1 rfl ?_
     refine AOps_q 176 _ rfl rfl rfl (QOp_neq _ _ _ _ _ _ _ rfl rfl rfl) ?_
     refine kM 1 rfl ?_
     refine AOps_case 177 _ rfl (fun hb44 => ?_) (fun hb44 => ?_)
     ·have h := iteT hb44 h
      refine AOps_skip 178 rfl rfl rfl ?_
      refine AOps_skip 179 rfl rfl rfl ?_
      refine kM 2 rfl ?_
      refine AOps_skip 182 rfl rfl rfl ?_
      refine AOps_skip 183 rfl rfl rfl ?_
      refine kN 1 rfl ?_
      cases h
      exact Weak_keep 0 hm [3, 4, 5, 6, 9, 10, 15, 184] [0, 1] _ _ rfl rfl rfl
     have h := iteF hb44 h
     refine kM 1 rfl ?_
     refine AOps_q 179 _ rfl rfl rfl (QOp_neq _ _ _ _ _ _ _ rfl rfl rfl) ?_
     refine kM 2 rfl ?_
     refine AOps_case 181 _ rfl (fun hb45 => ?_) (fun hb45 => ?_)
     ·have h := iteT hb45 h
      refine AOps_skip 182 rfl rfl rfl ?_
      refine AOps_skip 183 rfl rfl rfl ?_
      refine kN 1 rfl ?_
      cases h
      exact Weak_keep 0 hm [3, 4, 5, 6, 9, 10, 15, 184] [0, 1] _ _ rfl rfl rfl
     have h := iteF hb45 h
     refine kM 1 rfl ?_
     refine AOps_q 183 _ rfl rfl rfl (QOp_not _ _ _ rfl rfl) ?_
     refine kN 1 rfl ?_
     cases h
     exact Weak_keep 0 hm [3, 4, 5, 6, 9, 10, 15, 184] [0, 1] _ _ rfl rfl rfl
    refine kI h rfl (fun h _ => ?_) (fun h _ => ?_)
    ·refine kR ?_
     refine kN 1 rfl ?_
     refine ACode_ret ?_
     cases h
     have h := hks48
     cases h
     exact ⟨_, _, fun r a w h => ⟨r, h⟩, _, _, [], _, (.cons (ResV_tmp _ _ rfl) .nil), rfl, rfl, rfl, rfl, rfl⟩
    refine ACode_skip ?_
    cases h
    exact ⟨_, rfl, Weak_keep 0 hm [3, 4, 5, 6, 9, 10, 15] [0, 1] _ _ rfl rfl rfl⟩
   refine ACode_skip ?_
   cases h
   exact ⟨_, rfl, Weak_keep 0 hm [3, 4, 5, 6, 9, 10, 15] [0, 1] _ _ rfl rfl rfl⟩
  refine kO (fun s52 => [(3, .ptr 0 0), (4, .ptr 1 0), (5, .d (.sl none (intsD (r4.1.getD [])))), (6, iV r4.2), (15, iV r17.2.2)]) (fun s52 => [.box (colD r3.1), .box (colD r3.2)]) h (fun os52 h hks52 => ?_) (fun s52 h => ?_)
  ·refine kL (fun s50 => [(3, .ptr 0 0), (4, .ptr 1 0), (5, .d (.sl none (intsD (r4.1.getD [])))), (6, iV r4.2), (15, iV r17.2.2), (192, bV s50)]) (fun s50 => [.box (colD r3.1), .box (colD r3.2)]) h (fun s50 h => ?_) (fun s50 h => ?_)
   ·refine (ACode_region ?_)
    refine kM 1 rfl ?_
    refine AOps_q 186 _ rfl rfl rfl (QOp_eql _ _ _ _ _ _ _ rfl rfl rfl) ?_
    refine kM 1 rfl ?_
    refine AOps_case 187 _ rfl (fun hb49 => ?_) (fun hb49 => ?_)
    ·have h := iteT hb49 h
     refine kM 2 rfl ?_
     refine AOps_q 190 _ rfl rfl rfl (QOp_eql _ _ _ _ _ _ _ rfl rfl rfl) ?_
     refine AOps_q 191 _ rfl rfl rfl (QOp_bneq _ _ _ _ _ _ rfl rfl rfl Tryz.underlying4) ?_
     refine kN 1 rfl ?_
     cases h
     exact Weak_keep 0 hm [3, 4, 5, 6, 15, 192] [0, 1] _ _ rfl rfl rfl
    have h := iteF hb49 h
    refine AOps_skip 188 rfl rfl rfl ?_
    refine AOps_skip 189 rfl rfl rfl ?_
    refine AOps_skip 190 rfl rfl rfl ?_
    refine AOps_skip 191 rfl rfl rfl ?_
    refine kN 1 rfl ?_
    cases h
    exact Weak_keep 0 hm [3, 4, 5, 6, 15, 192] [0, 1] _ _ rfl rfl rfl
   refine kI h rfl (fun h _ => ?_) (fun h _ => ?_)
   ·refine kR ?_
    refine kN 1 rfl ?_
    refine ACode_ret ?_
    cases h
    have h := hks52
    cases h
    exact ⟨_, _, fun r a w h => ⟨r, h⟩, _, _, [], _, (.cons (ResV_tmp _ _ rfl) .nil), rfl, rfl, rfl, rfl, rfl⟩
   refine ACode_skip ?_
   cases h
   exact ⟨_, rfl, Weak_keep 0 hm [3, 4, 5, 6, 15] [0, 1] _ _ rfl rfl rfl⟩
  refine ACode_seq ?_
  refine kR ?_
  refine kM 1 rfl ?_
  refine AOps_q 194 _ rfl rfl rfl (QOp_neq _ _ _ _ _ _ _ rfl rfl rfl) ?_
  refine AOps_nil ?_
  refine kI h rfl (fun h _ => ?_) (fun h _ => ?_)
  ·refine kR ?_
   refine kM 1 rfl ?_
   refine AOps_q 196 _ rfl rfl rfl (QOp_len_sl _ _ _ _ _ _ _ (intsD_length _) rfl rfl rfl rfl Tryz.underlying29 rfl) ?_
   refine AOps_q 197 _ rfl rfl rfl (QOp_eql _ _ _ _ _ _ _ rfl rfl rfl) ?_
   refine kN 1 rfl ?_
   refine ACode_ret ?_
   cases h
   exact ⟨_, _, fun r a w h => ⟨r, h⟩, _, _, [], _, (.cons (ResV_tmp _ _ rfl) .nil), rfl, rfl, rfl, rfl, rfl⟩
  refine ACode_skip ?_
  refine kR ?_
  refine AOps_q 199 _ rfl rfl rfl (QOp_loadN_ptr _ _ _ _ _ _ _ rfl Tryz.isAgg26 Tryz.sizeOf26 rfl rfl (colD_all _) (colD_length _)) ?_
  refine AOps_q 200 _ rfl rfl rfl (QOp_loadN_ptr _ _ _ _ _ _ _ rfl Tryz.isAgg26 Tryz.sizeOf26 rfl rfl (colD_all _) (colD_length _)) ?_
  refine kM 1 rfl ?_
  obtain ⟨r54, hr54, h⟩ := bindO h
  refine kC [] 202 (.tup [bV r54.1, iV r54.2]) [.box (colD r3.1), .box (colD r3.2)] rfl Tryz.call15 rfl rfl (impl_LeadsTo_ac k r3.1 r3.2 (r4.1.getD []) _ hr54) rfl ?_
  refine kN 5 rfl ?_
  refine kR ?_
  refine AOps_q 206 _ rfl rfl rfl (QOp_loadN_ptr _ _ _ _ _ _ _ rfl Tryz.isAgg26 Tryz.sizeOf26 rfl rfl (colD_all _) (colD_length _)) ?_
  obtain ⟨r55, hr55, h⟩ := bindO h
  refine kC [] 207 (.tup [.d (.sl none (intsD (r55.1.getD []))), iV r55.2]) [.box (colD r3.1), .box (colD r3.2)] rfl Tryz.call19 rfl rfl (AC_frz rfl (frz_cons frz_nil) (impl_CliqueNumbers_ac k r3.1 _ hr55)) rfl ?_
  refine kN 5 rfl ?_
  refine kR ?_
  refine AOps_q 211 _ rfl rfl rfl (QOp_loadN_ptr _ _ _ _ _ _ _ rfl Tryz.isAgg26 Tryz.sizeOf26 rfl rfl (colD_all _) (colD_length _)) ?_
  obtain ⟨r56, hr56, h⟩ := bindO h
  refine kC [] 212 (.tup [.d (.sl none (intsD (r56.1.getD []))), iV r56.2]) [.box (colD r3.1), .box (colD r3.2)] rfl Tryz.call19 rfl rfl (AC_frz rfl (frz_cons frz_nil) (impl_CliqueNumbers_ac k r3.2 _ hr56)) rfl ?_
  refine kN 5 rfl ?_
  refine kB (fun s63 => [(2, bV s63)]) (fun s63 => []) h (fun s63 h => ?_) (fun s63 h => ?_)
  ·refine (ACode_region ?_)
   refine kM 1 rfl ?_
   refine AOps_q 216 _ rfl rfl rfl (QOp_eql _ _ _ _ _ _ _ rfl rfl rfl) ?_
   refine kM 1 rfl ?_
   refine AOps_case 217 _ rfl (fun hb57 => ?_) (fun hb57 => ?_)
   ·have h := iteT hb57 h
    refine kM 3 rfl ?_
    refine AOps_case 220 _ rfl (fun hb58 => ?_) (fun hb58 => ?_)
    ·have h := iteT hb58 h
     refine kM 1 rfl ?_
     refine AOps_q 222 _ rfl rfl rfl (QOp_eql _ _ _ _ _ _ _ rfl rfl rfl) ?_
     refine kM 2 rfl ?_
     refine AOps_case 224 _ rfl (fun hb59 => ?_) (fun hb59 => ?_)
     ·have h := iteT hb59 h
      refine kM 1 rfl ?_
      refine AOps_q 226 _ rfl rfl rfl (QOp_eql _ _ _ _ _ _ _ rfl rfl rfl) ?_
      refine kM 2 rfl ?_
      refine AOps_case 228 _ rfl (fun hb60 => ?_) (fun hb60 => ?_)
      ·have h := iteT hb60 h
       refine kM 1 rfl ?_
       refine AOps_q 230 _ rfl rfl rfl (QOp_eql _ _ _ _ _ _ _ rfl rfl rfl) ?_
       refine kM 2 rfl ?_
       refine AOps_case 232 _ rfl (fun hb61 => ?_) (fun hb61 => ?_)
       ·have h := iteT hb61 h
        refine kM 2 rfl ?_
        obtain ⟨r62, hr62, h⟩ := bindO h
        refine kC [] 235 (bV r62) [.box (colD r3.1), .box (colD r3.2)] rfl Tryz.call9 rfl rfl (laws_likeInts_ac k (r55.1.getD []) (r56.1.getD []) _ hr62) rfl ?_
        refine kN 2 rfl ?_
        cases h
        exact Weak_keep 0 hm [2] [] _ _ rfl rfl rfl
       have h := iteF hb61 h
       refine AOps_skip 233 rfl rfl rfl ?_
       refine AOps_skip 234 rfl rfl rfl ?_
       refine AOps_skip 235 rfl rfl rfl ?_
       refine kN 2 rfl ?_
       cases h
       exact Weak_keep 0 hm [2] [] _ _ rfl rfl rfl
      have h := iteF hb60 h
      refine AOps_skip 229 rfl rfl rfl ?_
      refine AOps_skip 230 rfl rfl rfl ?_
      refine kM 2 rfl ?_
      refine AOps_skip 233 rfl rfl rfl ?_
      refine AOps_skip 234 rfl rfl rfl ?_
      refine AOps_skip 235 rfl rfl rfl ?_
      refine kN 2 rfl ?_
      cases h
      exact Weak_keep 0 hm [2] [] _ _ rfl rfl rfl
     have h := iteF hb59 h
     refine AOps_skip 225 rfl rfl rfl ?_
     refine AOps_skip 226 rfl rfl rfl ?_
     refine kM 2 rfl ?_
     refine AOps_skip 229 rfl rfl rfl ?_
     refine AOps_skip 230 rfl rfl rfl ?_
     refine kM 2 rfl ?_
     refine AOps_skip 233 rfl rfl rfl ?_
     refine AOps_skip 234 rfl rfl rfl ?_
     refine AOps_skip 235 rfl rfl rfl ?_
     refine kN 2 rfl ?_
     cases h
     exact Weak_keep 0 hm [2] [] _ _ rfl rfl rfl
    have h := iteF hb58 h
    refine AOps_skip 221 rfl rfl rfl ?_
    refine AOps_skip 222 rfl rfl rfl ?_
    refine kM 2 rfl ?_
    refine AOps_skip 225 rfl rfl rfl ?_
    refine AOps_skip 226 rfl rfl rfl ?_
    refine kM 2 rfl ?_
    refine AOps_skip 229 rfl rfl rfl ?_
    refine AOps_skip 230 rfl rfl rfl ?_
    refine kM 2 rfl ?_
    refine AOps_skip 233 rfl rfl rfl ?_
    refine AOps_skip 234 rfl rfl rfl ?_
    refine AOps_skip 235 rfl rfl rfl ?_
    refine kN 2 rfl ?_
    cases h
    exact Weak_keep 0 hm [2] [] _ _ rfl rfl rfl
   have h := iteF hb57 h
   refine AOps_skip 218 rfl rfl rfl ?_
   refine kM 2 rfl ?_
   refine AOps_skip 221 rfl rfl rfl ?_
   refine AOps_skip 222 rfl rfl rfl ?_
   refine kM 2 rfl ?_
   refine AOps_skip 225 rfl rfl rfl ?_
   refine AOps_skip 226 rfl rfl rfl ?_
   refine kM 2 rfl ?_
   refine AOps_skip 229 rfl rfl rfl ?_
   refine AOps_skip 230 rfl rfl rfl ?_
   refine kM 2 rfl ?_
   refine AOps_skip 233 rfl rfl rfl ?_
   refine AOps_skip 234 rfl rfl rfl ?_
   refine AOps_skip 235 rfl rfl rfl ?_
   refine kN 2 rfl ?_
   cases h
   exact Weak_keep 0 hm [2] [] _ _ rfl rfl rfl
  refine ACode_ret ?_
  cases h
  exact ⟨_, _, fun r a w h => ⟨r, h⟩, _, _, [], _, (.cons (ResV_tmp _ _ rfl) .nil), rfl, rfl, rfl, rfl, rfl⟩
 | some l18 =>
  intro h
  rintro _ _ ⟨rfl, rfl⟩
  refine ⟨(allc (fun _ _ => trivial) (fun _ h => nomatch h)), (allc (trivial) (allc (trivial) (allc (trivial) (fun _ h => nomatch h)))), AOps_as 89 (v' := .tup [.d (.sl none (intsD r17.1)), .vec 2 0, iV r17.2.2]) (H' := [.box (colD r3.1), .box (colD r3.2), .vec 0 (intsD l18)]) rfl rfl ?_⟩
  refine kN 7 rfl ?_
  refine kO (fun s71 => [(0, .d (.sl none (bysD p0))), (3, .ptr 0 0), (4, .ptr 1 0), (5, .d (.sl none (intsD (r4.1.getD [])))), (6, iV r4.2), (9, bV r11.1), (10, iV r11.2), (13, .d (.sl none (intsD r17.1))), (14, .vec 2 0), (15, iV r17.2.2)]) (fun s71 => [.box (colD r3.1), .box (colD r3.2), .vec 0 (intsD l18)]) h (fun os71 h hks71 => ?_) (fun s71 h => ?_)
  ·refine kR ?_
   refine AOps_q 94 _ rfl rfl rfl (QOp_loadN_ptr _ _ _ _ _ _ _ rfl Tryz.isAgg26 Tryz.sizeOf26 rfl rfl (colD_all _) (colD_length _)) ?_
   refine AOps_q 95 _ rfl rfl rfl (QOp_loadN_ptr _ _ _ _ _ _ _ rfl Tryz.isAgg26 Tryz.sizeOf26 rfl rfl (colD_all _) (colD_length _)) ?_
   obtain ⟨r64, hr64, h⟩ := bindO h
   refine kC [] 96 (.tup [.d (.sl none (intsD r64.1)), .d (.sl none (intsD r64.2.1)), iV r64.2.2]) [.box (colD r3.1), .box (colD r3.2), .vec 0 (intsD l18)] rfl Tryz.call13 rfl rfl (spec_FindAlike_ac k r3.1 r3.2 _ hr64) rfl ?_
   refine kN 7 rfl ?_
   refine kB (fun s69 => [(0, .d (.sl none (bysD p0))), (3, .ptr 0 0), (4, .ptr 1 0), (5, .d (.sl none (intsD (r4.1.getD [])))), (6, iV r4.2), (9, bV r11.1), (10, iV r11.2), (13, .d (.sl none (intsD r17.1))), (14, .vec 2 0), (15, iV r17.2.2), (114, bV s69)]) (fun s69 => [.box (colD r3.1), .box (colD r3.2), .vec 0 (intsD l18)]) h (fun s69 h => ?_) (fun s69 h => ?_)
   ·refine (ACode_region ?_)
    refine kM 2 rfl ?_
    refine AOps_q 102 _ rfl rfl rfl (QOp_neq _ _ _ _ _ _ _ rfl rfl rfl) ?_
    refine kM 1 rfl ?_
    refine AOps_case 103 _ rfl (fun hb65 => ?_) (fun hb65 => ?_)
    ·have h := iteT hb65 h
     refine AOps_skip 104 rfl rfl rfl ?_
     refine AOps_skip 105 rfl rfl rfl ?_
     refine AOps_skip 106 rfl rfl rfl ?_
     refine AOps_skip 107 rfl rfl rfl ?_
     refine kM 2 rfl ?_
     refine AOps_skip 110 rfl rfl rfl ?_
     refine AOps_skip 111 rfl rfl rfl ?_
     refine AOps_skip 112 rfl rfl rfl ?_
     refine AOps_skip 113 rfl rfl rfl ?_
     refine kN 1 rfl ?_
     cases h
     exact Weak_keep 0 hm [0, 3, 4, 5, 6, 9, 10, 13, 14, 15, 114] [0, 1, 2] _ _ rfl rfl rfl
    have h := iteF hb65 h
    refine kM 2 rfl ?_
    obtain ⟨r66, hr66, h⟩ := bindO h
    refine kC [] 106 (bV r66) [.box (colD r3.1), .box (colD r3.2), .vec 0 (intsD l18)] rfl Tryz.call9 rfl rfl (laws_likeInts_ac k r17.1 r64.1 _ hr66) rfl ?_
    refine AOps_q 107 _ rfl rfl rfl (QOp_not _ _ _ rfl rfl) ?_
    refine kM 2 rfl ?_
    refine AOps_case 109 _ rfl (fun hb67 => ?_) (fun hb67 => ?_)
    ·have h := iteT hb67 h
     refine AOps_skip 110 rfl rfl rfl ?_
     refine AOps_skip 111 rfl rfl rfl ?_
     refine AOps_skip 112 rfl rfl rfl ?_
     refine AOps_skip 113 rfl rfl rfl ?_
     refine kN 1 rfl ?_
     cases h
     exact Weak_keep 0 hm [0, 3, 4, 5, 6, 9, 10, 13, 14, 15, 114] [0, 1, 2] _ _ rfl rfl rfl
    have h := iteF hb67 h
    refine kM 2 rfl ?_
    obtain ⟨r68, hr68, h⟩ := bindO h
    refine AOps_callL [] 112 _ _ _ _ _ _ _ _ _ _ rfl rfl rfl rfl rfl rfl rfl Tryz.call9 rfl (nodupB_sound _ rfl) rfl rfl rfl (laws_likeInts_ac k l18 r64.2.1 _ hr68) ?_
    rintro _ _ ⟨rfl, rfl⟩
    refine ⟨(fun _ h => nomatch h), (allc (flat_s _) (fun _ h => nomatch h)), AOps_as 112 (v' := bV r68) (H' := [.box (colD r3.1), .box (colD r3.2), .vec 0 (intsD l18)]) rfl rfl ?_⟩
    refine AOps_q 113 _ rfl rfl rfl (QOp_not _ _ _ rfl rfl) ?_
    refine kN 1 rfl ?_
    cases h
    exact Weak_keep 0 hm [0, 3, 4, 5, 6, 9, 10, 13, 14, 15, 114] [0, 1, 2] _ _ rfl rfl rfl
   refine kI h rfl (fun h _ => ?_) (fun h _ => ?_)
   ·refine kR ?_
    refine kN 1 rfl ?_
    refine ACode_ret ?_
    cases h
    have h := hks71
    cases h
    exact ⟨_, _, fun r a w h => ⟨r, h⟩, _, _, [], _, (.cons (ResV_tmp _ _ rfl) .nil), rfl, rfl, rfl, rfl, rfl⟩
   refine ACode_skip ?_
   cases h
   exact ⟨_, rfl, Weak_keep 0 hm [0, 3, 4, 5, 6, 9, 10, 13, 14, 15] [0, 1, 2] _ _ rfl rfl rfl⟩
  refine kR ?_
  refine kM 1 rfl ?_
  obtain ⟨r72, hr72, h⟩ := bindO h
  refine kC [] 117 (.tup [.d (.agg (colD r72.1)), .d (.agg (colD r72.2.1)), .vec 3 0]) [.box (colD r3.1), .box (colD r3.2), .vec 0 (intsD l18), .vec 0 (intsD r72.2.2)] rfl Tryz.call14 rfl rfl (spec_DrawLeadsTo_ac k p0 _ hr72) rfl ?_
  refine kM 4 rfl ?_
  refine AOps_alloc 19 _ _ (colD Col.zero) (zero_of Tryz.typeInfo26 rfl) (by rfl) rfl rfl rfl rfl ?_
  refine AOps_alloc 20 _ _ (colD Col.zero) (zero_of Tryz.typeInfo26 rfl) (by rfl) rfl rfl rfl rfl ?_
  refine AOps_store _ _ _ _ _ _ (colD _) _ _ rfl rfl rfl rfl rfl rfl rfl (colD_one _) (by rw [colD_length]; exact Tryz.sizeOf26) (by rw [colD_length, colD_length]; decide) (colD_whole _ _) ?_
  refine AOps_store _ _ _ _ _ _ (colD _) _ _ rfl rfl rfl rfl rfl rfl rfl (colD_one _) (by rw [colD_length]; exact Tryz.sizeOf26) (by rw [colD_length, colD_length]; decide) (colD_whole _ _) ?_
  refine kN 1 rfl ?_
  refine kR ?_
  refine AOps_q 122 _ rfl rfl rfl (QOp_loadN_ptr _ _ _ _ _ _ _ rfl Tryz.isAgg26 Tryz.sizeOf26 rfl rfl (colD_all _) (colD_length _)) ?_
  refine AOps_q 123 _ rfl rfl rfl (QOp_loadN_ptr _ _ _ _ _ _ _ rfl Tryz.isAgg26 Tryz.sizeOf26 rfl rfl (colD_all _) (colD_length _)) ?_
  refine kM 1 rfl ?_
  obtain ⟨r73, hr73, h⟩ := bindO h
  refine AOps_callL [] 125 _ _ _ _ _ _ _ _ _ _ rfl rfl rfl rfl rfl rfl rfl Tryz.call15 rfl (nodupB_sound _ rfl) rfl rfl rfl (impl_LeadsTo_ac k r72.1 r72.2.1 r72.2.2 _ hr73) ?_
  rintro _ _ ⟨rfl, rfl⟩
  refine ⟨(fun _ h => nomatch h), (allc (flat_s _) (allc (flat_s _) (fun _ h => nomatch h))), AOps_as 125 (v' := .tup [bV r73.1, iV r73.2]) (H' := [.box (colD r3.1), .box (colD r3.2), .vec 0 (intsD l18), .vec 0 (intsD r72.2.2), .box (colD r72.1), .box (colD r72.2.1)]) rfl rfl ?_⟩
  refine kN 5 rfl ?_
  refine kO (fun s78 => [(3, .ptr 0 0), (4, .ptr 1 0), (5, .d (.sl none (intsD (r4.1.getD [])))), (6, iV r4.2), (9, bV r11.1), (10, iV r11.2), (13, .d (.sl none (intsD r17.1))), (14, .vec 2 0), (15, iV r17.2.2), (19, .ptr 3 0), (20, .ptr 4 0), (21, .vec 5 0), (22, bV r73.1), (23, iV r73.2)]) (fun s78 => [.box (colD r3.1), .box (colD r3.2), .vec 0 (intsD l18), .box (colD r72.1), .box (colD r72.2.1), .vec 0 (intsD r72.2.2)]) h (fun os78 h hks78 => ?_) (fun s78 h => ?_)
  ·refine kR ?_
   refine AOps_q 129 _ rfl rfl rfl (QOp_loadN_ptr _ _ _ _ _ _ _ rfl Tryz.isAgg26 Tryz.sizeOf26 rfl rfl (colD_all _) (colD_length _)) ?_
   refine AOps_q 130 _ rfl rfl rfl (QOp_loadN_ptr _ _ _ _ _ _ _ rfl Tryz.isAgg26 Tryz.sizeOf26 rfl rfl (colD_all _) (colD_length _)) ?_
   refine kM 1 rfl ?_
   obtain ⟨r74, hr74, h⟩ := bindO h
   refine AOps_callL [] 132 _ _ _ _ _ _ _ _ _ _ rfl rfl rfl rfl rfl rfl rfl Tryz.call16 rfl (nodupB_sound _ rfl) rfl rfl rfl (spec_LeadsTo_ac k r72.1 r72.2.1 r72.2.2 _ hr74) ?_
   rintro _ _ ⟨rfl, rfl⟩
   refine ⟨(fun _ h => nomatch h), (allc (flat_s _) (allc (flat_s _) (fun _ h => nomatch h))), AOps_as 132 (v' := .tup [bV r74.1, iV r74.2]) (H' := [.box (colD r3.1), .box (colD r3.2), .vec 0 (intsD l18), .vec 0 (intsD r72.2.2), .box (colD r72.1), .box (colD r72.2.1)]) rfl rfl ?_⟩
   refine kN 5 rfl ?_
   refine kL (fun s76 => [(3, .ptr 0 0), (4, .ptr 1 0), (5, .d (.sl none (intsD (r4.1.getD [])))), (6, iV r4.2), (9, bV r11.1), (10, iV r11.2), (13, .d (.sl none (intsD r17.1))), (14, .vec 2 0), (15, iV r17.2.2), (19, .ptr 3 0), (20, .ptr 4 0), (21, .vec 5 0), (22, bV r73.1), (23, iV r73.2), (142, bV s76)]) (fun s76 => [.box (colD r3.1), .box (colD r3.2), .vec 0 (intsD l18), .box (colD r72.1), .box (colD r72.2.1), .vec 0 (intsD r72.2.2)]) h (fun s76 h => ?_) (fun s76 h => ?_)
   ·refine (ACode_region ?_)
    refine kM 2 rfl ?_
    refine AOps_q 137 _ rfl rfl rfl (QOp_neq _ _ _ _ _ _ _ rfl rfl rfl) ?_
    refine kM 1 rfl ?_
    refine AOps_case 138 _ rfl (fun hb75 => ?_) (fun hb75 => ?_)
    ·have h := iteT hb75 h
     refine AOps_skip 139 rfl rfl rfl ?_
     refine AOps_skip 140 rfl rfl rfl ?_
     refine AOps_skip 141 rfl rfl rfl ?_
     refine kN 1 rfl ?_
     cases h
     exact Weak_keep 0 hm [3, 4, 5, 6, 9, 10, 13, 14, 15, 19, 20, 21, 22, 23, 142] [0, 1, 2, 4, 5, 3] _ _ rfl rfl rfl
    have h := iteF hb75 h
    refine kM 2 rfl ?_
    refine AOps_q 141 _ rfl rfl rfl (QOp_bneq _ _ _ _ _ _ rfl rfl rfl Tryz.underlying4) ?_
    refine kN 1 rfl ?_
    cases h
    exact Weak_keep 0 hm [3, 4, 5, 6, 9, 10, 13, 14, 15, 19, 20, 21, 22, 23, 142] [0, 1, 2, 4, 5, 3] _ _ rfl rfl rfl
   refine kI h rfl (fun h _ => ?_) (fun h _ => ?_)
   ·refine kR ?_
    refine kN 1 rfl ?_
    refine ACode_ret ?_
    cases h
    have h := hks78
    cases h
    exact ⟨_, _, fun r a w h => ⟨r, h⟩, _, _, [], _, (.cons (ResV_tmp _ _ rfl) .nil), rfl, rfl, rfl, rfl, rfl⟩
   refine ACode_skip ?_
   cases h
   exact ⟨_, rfl, Weak_keep 0 hm [3, 4, 5, 6, 9, 10, 13, 14, 15, 19, 20, 21, 22, 23] [0, 1, 2, 3, 4, 5] _ _ rfl rfl rfl⟩
  refine kO (fun s84 => [(3, .ptr 0 0), (4, .ptr 1 0), (5, .d (.sl none (intsD (r4.1.getD [])))), (6, iV r4.2), (9, bV r11.1), (10, iV r11.2), (13, .d (.sl none (intsD r17.1))), (14, .vec 2 0), (15, iV r17.2.2)]) (fun s84 => [.box (colD r3.1), .box (colD r3.2), .vec 0 (intsD l18)]) h (fun os84 h hks84 => ?_) (fun s84 h => ?_)
  ·refine kR ?_
   refine kM 1 rfl ?_
   refine AOps_q 144 _ rfl rfl rfl (QOp_eql _ _ _ _ _ _ _ rfl rfl rfl) ?_
   refine AOps_nil ?_
   refine kI h rfl (fun h _ => ?_) (fun h _ => ?_)
   ·refine kR ?_
    refine AOps_q 146 _ rfl rfl rfl (QOp_loadN_ptr _ _ _ _ _ _ _ rfl Tryz.isAgg26 Tryz.sizeOf26 rfl rfl (colD_all _) (colD_length _)) ?_
    refine kM 1 rfl ?_
    obtain ⟨r80, hr80, h⟩ := bindO h
    refine AOps_callL [] 148 _ _ _ _ _ _ _ _ _ _ rfl rfl rfl rfl rfl rfl rfl Tryz.call17 rfl (nodupB_sound _ rfl) rfl rfl rfl (impl_RenumberPoints_ac k r72.1 r72.2.2 _ hr80) ?_
    rintro _ _ ⟨rfl, rfl⟩
    refine ⟨(fun _ h => nomatch h), (allc (flat_agg (colD_flat _)) (allc (flat_s _) (fun _ h => nomatch h))), AOps_as 148 (v' := .tup [.d (.agg (colD r80.1)), iV r80.2]) (H' := [.box (colD r3.1), .box (colD r3.2), .vec 0 (intsD l18), .box (colD r72.1), .box (colD r72.2.1), .vec 0 (intsD r72.2.2)]) rfl rfl ?_⟩
    refine kM 3 rfl ?_
    refine AOps_alloc 26 _ _ (colD Col.zero) (zero_of Tryz.typeInfo26 rfl) (by rfl) rfl rfl rfl rfl ?_
    refine AOps_store _ _ _ _ _ _ (colD _) _ _ rfl rfl rfl rfl rfl rfl rfl (colD_one _) (by rw [colD_length]; exact Tryz.sizeOf26) (by rw [colD_length, colD_length]; decide) (colD_whole _ _) ?_
    refine kN 1 rfl ?_
    refine kL (fun s82 => [(3, .ptr 0 0), (4, .ptr 1 0), (5, .d (.sl none (intsD (r4.1.getD [])))), (6, iV r4.2), (9, bV r11.1), (10, iV r11.2), (13, .d (.sl none (intsD r17.1))), (14, .vec 2 0), (15, iV r17.2.2), (159, bV s82)]) (fun s82 => [.box (colD r3.1), .box (colD r3.2), .vec 0 (intsD l18)]) h (fun s82 h => ?_) (fun s82 h => ?_)
    ·refine (ACode_region ?_)
     refine kM 1 rfl ?_
     refine AOps_q 152 _ rfl rfl rfl (QOp_neq _ _ _ _ _ _ _ rfl rfl rfl) ?_
     refine kM 1 rfl ?_
     refine AOps_case 153 _ rfl (fun hb81 => ?_) (fun hb81 => ?_)
     ·have h := iteT hb81 h
      refine AOps_skip 154 rfl rfl rfl ?_
      refine AOps_skip 155 rfl rfl rfl ?_
      refine AOps_skip 156 rfl rfl rfl ?_
      refine AOps_skip 157 rfl rfl rfl ?_
      refine AOps_skip 158 rfl rfl rfl ?_
      refine kN 1 rfl ?_
      cases h
      exact Weak_keep 0 hm [3, 4, 5, 6, 9, 10, 13, 14, 15, 159] [0, 1, 2] _ _ rfl rfl rfl
     have h := iteF hb81 h
     refine kM 1 rfl ?_
     refine AOps_q 155 _ rfl rfl rfl (QOp_loadN_ptr _ _ _ _ _ _ _ rfl Tryz.isAgg26 Tryz.sizeOf26 rfl rfl (colD_all _) (colD_length _)) ?_
     refine AOps_q 156 _ rfl rfl rfl (QOp_loadN_ptr _ _ _ _ _ _ _ rfl Tryz.isAgg26 Tryz.sizeOf26 rfl rfl (colD_all _) (colD_length _)) ?_
     refine AOps_q 157 _ rfl rfl rfl (QOp_eqCol _ _ _ _ _ _ _ _ _ _ _ _ rfl rfl rfl Tryz.underlying26 (by kernel_rfl) (by kernel_rfl) (by decide) (by decide) (by decide) rfl rfl rfl rfl rfl rfl Tryz.underlying2 Tryz.underlying24 Tryz.underlying5 Tryz.sizeOf5 Tryz.sizeOf24) ?_
     refine AOps_q 158 _ rfl rfl rfl (QOp_bneq _ _ _ _ _ _ rfl rfl rfl Tryz.underlying4) ?_
     refine kN 1 rfl ?_
     cases h
     exact Weak_keep 0 hm [3, 4, 5, 6, 9, 10, 13, 14, 15, 159] [0, 1, 2] _ _ rfl rfl rfl
    refine kI h rfl (fun h _ => ?_) (fun h _ => ?_)
    ·refine kR ?_
     refine kN 1 rfl ?_
     refine ACode_ret ?_
     cases h
     have h := hks84
     cases h
     exact ⟨_, _, fun r a w h => ⟨r, h⟩, _, _, [], _, (.cons (ResV_tmp _ _ rfl) .nil), rfl, rfl, rfl, rfl, rfl⟩
    refine ACode_skip ?_
    cases h
    exact ⟨_, rfl, Weak_keep 0 hm [3, 4, 5, 6, 9, 10, 13, 14, 15] [0, 1, 2] _ _ rfl rfl rfl⟩
   refine ACode_skip ?_
   cases h
   exact ⟨_, rfl, Weak_keep 0 hm [3, 4, 5, 6, 9, 10, 13, 14, 15] [0, 1, 2] _ _ rfl rfl rfl⟩
  refine kO (fun s92 => [(3, .ptr 0 0), (4, .ptr 1 0), (5, .d (.sl none (intsD (r4.1.getD [])))), (6, iV r4.2), (9, bV r11.1), (10, iV r11.2), (15, iV r17.2.2)]) (fun s92 => [.box (colD r3.1), .box (colD r3.2)]) h (fun os92 h hks92 => ?_) (fun s92 h => ?_)
  ·refine kR ?_
   refine kM 1 rfl ?_
   refine AOps_q 161 _ rfl rfl rfl (QOp_eql _ _ _ _ _ _ _ rfl rfl rfl) ?_
   refine AOps_nil ?_
   refine kI h rfl (fun h _ => ?_) (fun h _ => ?_)
   ·refine kR ?_
    refine AOps_q 163 _ rfl rfl rfl (QOp_loadN_ptr _ _ _ _ _ _ _ rfl Tryz.isAgg26 Tryz.sizeOf26 rfl rfl (colD_all _) (colD_length _)) ?_
    refine kM 1 rfl ?_
    obtain ⟨r86, hr86, h⟩ := bindO h
    refine kC [] 165 (.tup [.d (.agg (colD r86.1)), iV r86.2]) [.box (colD r3.1), .box (colD r3.2), .vec 0 (intsD l18)] rfl Tryz.call18 rfl rfl (impl_ExchangeColours_ac k r3.1 r17.1 _ hr86) rfl ?_
    refine kM 3 rfl ?_
    refine AOps_alloc 28 _ _ (colD Col.zero) (zero_of Tryz.typeInfo26 rfl) (by rfl) rfl rfl rfl rfl ?_
    refine AOps_store _ _ _ _ _ _ (colD _) _ _ rfl rfl rfl rfl rfl rfl rfl (colD_one _) (by rw [colD_length]; exact Tryz.sizeOf26) (by rw [colD_length, colD_length]; decide) (colD_whole _ _) ?_
    refine kN 1 rfl ?_
    refine kR ?_
    refine AOps_q 169 _ rfl rfl rfl (QOp_loadN_ptr _ _ _ _ _ _ _ rfl Tryz.isAgg26 Tryz.sizeOf26 rfl rfl (colD_all _) (colD_length _)) ?_
    refine AOps_q 170 _ rfl rfl rfl (QOp_loadN_ptr _ _ _ _ _ _ _ rfl Tryz.isAgg26 Tryz.sizeOf26 rfl rfl (colD_all _) (colD_length _)) ?_
    refine kM 1 rfl ?_
    obtain ⟨r87, hr87, h⟩ := bindO h
    refine AOps_callL [] 172 _ _ _ _ _ _ _ _ _ _ rfl rfl rfl rfl rfl rfl rfl Tryz.call15 rfl (nodupB_sound _ rfl) rfl rfl rfl (impl_LeadsTo_ac k r86.1 r3.2 l18 _ hr87) ?_
    rintro _ _ ⟨rfl, rfl⟩
    refine ⟨(fun _ h => nomatch h), (allc (flat_s _) (allc (flat_s _) (fun _ h => nomatch h))), AOps_as 172 (v' := .tup [bV r87.1, iV r87.2]) (H' := [.box (colD r3.1), .box (colD r3.2), .vec 0 (intsD l18), .box (colD r86.1)]) rfl rfl ?_⟩
    refine kN 5 rfl ?_
    refine kL (fun s90 => [(3, .ptr 0 0), (4, .ptr 1 0), (5, .d (.sl none (intsD (r4.1.getD [])))), (6, iV r4.2), (9, bV r11.1), (10, iV r11.2), (15, iV r17.2.2), (184, bV s90)]) (fun s90 => [.box (colD r3.1), .box (colD r3.2)]) h (fun s90 h => ?_) (fun s90 h => ?_)
    ·refine (ACode_region ?_)
     refine kM 1 rfl ?_
     refine AOps_q 176 _ rfl rfl rfl (QOp_neq _ _ _ _ _ _ _ rfl rfl rfl) ?_
     refine kM 1 rfl ?_
     refine AOps_case 177 _ rfl (fun hb88 => ?_) (fun hb88 => ?_)
     ·have h := iteT hb88 h
      refine AOps_skip 178 rfl rfl rfl ?_
      refine AOps_skip 179 rfl rfl rfl ?_
      refine kM 2 rfl ?_
      refine AOps_skip 182 rfl rfl rfl ?_
      refine AOps_skip 183 rfl rfl rfl ?_
      refine kN 1 rfl ?_
      cases h
      exact Weak_keep 0 hm [3, 4, 5, 6, 9, 10, 15, 184] [0, 1] _ _ rfl rfl rfl
     have h := iteF hb88 h
     refine kM 1 rfl ?_
     refine AOps_q 179 _ rfl rfl rfl (QOp_neq _ _ _ _ _ _ _ rfl rfl rfl) ?_
     refine kM 2 rfl ?_
     refine AOps_case 181 _ rfl (fun hb89 => ?_) (fun hb89 => ?_)
     ·have h := iteT hb89 h
      refine AOps_skip 182 rfl rfl rfl ?_
      refine AOps_skip 183 rfl rfl rfl ?_
      refine kN 1 rfl ?_
      cases h
      exact Weak_keep 0 hm [3, 4, 5, 6, 9, 10, 15, 184] [0, 1] _ _ rfl rfl rfl
     have h := iteF hb89 h
     refine kM 1 rfl ?_
     refine AOps_q 183 _ rfl rfl rfl (QOp_not _ _ _ rfl rfl) ?_
     refine kN 1 rfl ?_
     cases h
     exact Weak_keep 0 hm [3, 4, 5, 6, 9, 10, 15, 184] [0, 1] _ _ rfl rfl rfl
    refine kI h rfl (fun h _ => ?_) (fun h _ => ?_)
    ·refine kR ?_
     refine kN 1 rfl ?_
     refine ACode_ret ?_
     cases h
     have h := hks92
     cases h
     exact ⟨_, _, fun r a w h => ⟨r, h⟩, _, _, [], _, (.cons (ResV_tmp _ _ rfl) .nil), rfl, rfl, rfl, rfl, rfl⟩
    refine ACode_skip ?_
    cases h
    exact ⟨_, rfl, Weak_keep 0 hm [3, 4, 5, 6, 9, 10, 15] [0, 1] _ _ rfl rfl rfl⟩
   refine ACode_skip ?_
   cases h
   exact ⟨_, rfl, Weak_keep 0 hm [3, 4, 5, 6, 9, 10, 15] [0, 1] _ _ rfl rfl rfl⟩
  refine kO (fun s96 => [(3, .ptr 0 0), (4, .ptr 1 0), (5, .d (.sl none (intsD (r4.1.getD [])))), (6, iV r4.2), (15, iV r17.2.2)]) (fun s96 => [.box (colD r3.1), .box (colD r3.2)]) h (fun os96 h hks96 => ?_) (fun s96 h => ?_)
  ·refine kL (fun s94 => [(3, .ptr 0 0), (4, .ptr 1 0), (5, .d (.sl none (intsD (r4.1.getD [])))), (6, iV r4.2), (15, iV r17.2.2), (192, bV s94)]) (fun s94 => [.box (colD r3.1), .box (colD r3.2)]) h (fun s94 h => ?_) (fun s94 h => ?_)
   ·refine (ACode_region ?_)
    refine kM 1 rfl ?_
    refine AOps_q 186 _ rfl rfl rfl (QOp_eql _ _ _ _ _ _ _ rfl rfl rfl) ?_
    refine kM 1 rfl ?_
    refine AOps_case 187 _ rfl (fun hb93 => ?_) (fun hb93 => ?_)
    ·have h := iteT hb93 h
     refine kM 2 rfl ?_
     refine AOps_q 190 _ rfl rfl rfl (QOp_eql _ _ _ _ _ _ _ rfl rfl rfl) ?_
     refine AOps_q 191 _ rfl rfl rfl (QOp_bneq _ _ _ _ _ _ rfl rfl rfl Tryz.underlying4) ?_
     refine kN 1 rfl ?_
     cases h
     exact Weak_keep 0 hm [3, 4, 5, 6, 15, 192] [0, 1] _ _ rfl rfl rfl
    have h := iteF hb93 h
    refine AOps_skip 188 rfl rfl rfl ?_
    refine AOps_skip 189 rfl rfl rfl ?_
    refine AOps_skip 190 rfl rfl rfl ?_
    refine AOps_skip 191 rfl rfl rfl ?_
    refine kN 1 rfl ?_
    cases h
    exact Weak_keep 0 hm [3, 4, 5, 6, 15, 192] [0, 1] _ _ rfl rfl rfl
   refine kI h rfl (fun h _ => ?_) (fun h _ => ?_)
   ·refine kR ?_
    refine kN 1 rfl ?_
    refine ACode_ret ?_
    cases h
    have h := hks96
    cases h
    exact ⟨_, _, fun r a w h => ⟨r, h⟩, _, _, [], _, (.cons (ResV_tmp _ _ rfl) .nil), rfl, rfl, rfl, rfl, rfl⟩
   refine ACode_skip ?_
   cases h
   exact ⟨_, rfl, Weak_keep 0 hm [3, 4, 5, 6, 15] [0, 1] _ _ rfl rfl rfl⟩
  refine ACode_seq ?_
  refine kR ?_
  refine kM 1 rfl ?_
  refine AOps_q 194 _ rfl rfl rfl (QOp_neq _ _ _ _ _ _ _ rfl rfl rfl) ?_
  refine AOps_nil ?_
  refine kI h rfl (fun h _ => ?_) (fun h _ => ?_)
  ·refine kR ?_
   refine kM 1 rfl ?_
   refine AOps_q 196 _ rfl rfl rfl (QOp_len_sl _ _ _ _ _ _ _ (intsD_length _) rfl rfl rfl rfl Tryz.underlying29 rfl) ?_
   refine AOps_q 197 _ rfl rfl rfl (QOp_eql _ _ _ _ _ _ _ rfl rfl rfl) ?_
   refine kN 1 rfl ?_
   refine ACode_ret ?_
   cases h
   exact ⟨_, _, fun r a w h => ⟨r, h⟩, _, _, [], _, (.cons (ResV_tmp _ _ rfl) .nil), rfl, rfl, rfl, rfl, rfl⟩
  refine ACode_skip ?_
  refine kR ?_
  refine AOps_q 199 _ rfl rfl rfl (QOp_loadN_ptr _ _ _ _ _ _ _ rfl Tryz.isAgg26 Tryz.sizeOf26 rfl rfl (colD_all _) (colD_length _)) ?_
  refine AOps_q 200 _ rfl rfl rfl (QOp_loadN_ptr _ _ _ _ _ _ _ rfl Tryz.isAgg26 Tryz.sizeOf26 rfl rfl (colD_all _) (colD_length _)) ?_
  refine kM 1 rfl ?_
  obtain ⟨r98, hr98, h⟩ := bindO h
  refine kC [] 202 (.tup [bV r98.1, iV r98.2]) [.box (colD r3.1), .box (colD r3.2)] rfl Tryz.call15 rfl rfl (impl_LeadsTo_ac k r3.1 r3.2 (r4.1.getD []) _ hr98) rfl ?_
  refine kN 5 rfl ?_
  refine kR ?_
  refine AOps_q 206 _ rfl rfl rfl (QOp_loadN_ptr _ _ _ _ _ _ _ rfl Tryz.isAgg26 Tryz.sizeOf26 rfl rfl (colD_all _) (colD_length _)) ?_
  obtain ⟨r99, hr99, h⟩ := bindO h
  refine kC [] 207 (.tup [.d (.sl none (intsD (r99.1.getD []))), iV r99.2]) [.box (colD r3.1), .box (colD r3.2)] rfl Tryz.call19 rfl rfl (AC_frz rfl (frz_cons frz_nil) (impl_CliqueNumbers_ac k r3.1 _ hr99)) rfl ?_
  refine kN 5 rfl ?_
  refine kR ?_
  refine AOps_q 211 _ rfl rfl rfl (QOp_loadN_ptr _ _ _ _ _ _ _ rfl Tryz.isAgg26 Tryz.sizeOf26 rfl rfl (colD_all _) (colD_length _)) ?_
  obtain ⟨r100, hr100, h⟩ := bindO h
  refine kC [] 212 (.tup [.d (.sl none (intsD (r100.1.getD []))), iV r100.2]) [.box (colD r3.1), .box (colD r3.2)] rfl Tryz.call19 rfl rfl (AC_frz rfl (frz_cons frz_nil) (impl_CliqueNumbers_ac k r3.2 _ hr100)) rfl ?_
  refine kN 5 rfl ?_
  refine kB (fun s107 => [(2, bV s107)]) (fun s107 => []) h (fun s107 h => ?_) (fun s107 h => ?_)
  ·refine (ACode_region ?_)
   refine kM 1 rfl ?_
   refine AOps_q 216 _ rfl rfl rfl (QOp_eql _ _ _ _ _ _ _ rfl rfl rfl) ?_
   refine kM 1 rfl ?_
   refine AOps_case 217 _ rfl (fun hb101 => ?_) (fun hb101 => ?_)
   ·have h := iteT hb101 h
    refine kM 3 rfl ?_
    refine AOps_case 220 _ rfl (fun hb102 => ?_) (fun hb102 => ?_)
    ·have h := iteT hb102 h
     refine kM 1 rfl ?_
     refine AOps_q 222 _ rfl rfl rfl (QOp_eql _ _ _ _ _ _ _ rfl rfl rfl) ?_
     refine kM 2 rfl ?_
     refine AOps_case 224 _ rfl (fun hb103 => ?_) (fun hb103 => ?_)
     ·have h := iteT hb103 h
      refine kM 1 rfl ?_
      refine AOps_q 226 _ rfl rfl rfl (QOp_eql _ _ _ _ _ _ _ rfl rfl rfl) ?_
      refine kM 2 rfl ?_
      refine AOps_case 228 _ rfl (fun hb104 => ?_) (fun hb104 => ?_)
      ·have h := iteT hb104 h
       refine kM 1 rfl ?_
       refine AOps_q 230 _ rfl rfl rfl (QOp_eql _ _ _ _ _ _ _ rfl rfl rfl) ?_
       refine kM 2 rfl ?_
       refine AOps_case 232 _ rfl (fun hb105 => ?_) (fun hb105 => ?_)
       ·have h := iteT hb105 h
        refine kM 2 rfl ?_
        obtain ⟨r106, hr106, h⟩ := bindO h
        refine kC [] 235 (bV r106) [.box (colD r3.1), .box (colD r3.2)] rfl Tryz.call9 rfl rfl (laws_likeInts_ac k (r99.1.getD []) (r100.1.getD []) _ hr106) rfl ?_
        refine kN 2 rfl ?_
        cases h
        exact Weak_keep 0 hm [2] [] _ _ rfl rfl rfl
       have h := iteF hb105 h
       refine AOps_skip 233 rfl rfl rfl ?_
       refine AOps_skip 234 rfl rfl rfl ?_
       refine AOps_skip 235 rfl rfl rfl ?_
       refine kN 2 rfl ?_
       cases h
       exact Weak_keep 0 hm [2] [] _ _ rfl rfl rfl
      have h := iteF hb104 h
      refine AOps_skip 229 rfl rfl rfl ?_
      refine AOps_skip 230 rfl rfl rfl ?_
      refine kM 2 rfl ?_
      refine AOps_skip 233 rfl rfl rfl ?_
      refine AOps_skip 234 rfl rfl rfl ?_
      refine AOps_skip 235 rfl rfl rfl ?_
      refine kN 2 rfl ?_
      cases h
      exact Weak_keep 0 hm [2] [] _ _ rfl rfl rfl
     have h := iteF hb103 h
     refine AOps_skip 225 rfl rfl rfl ?_
     refine AOps_skip 226 rfl rfl rfl ?_
     refine kM 2 rfl ?_
     refine AOps_skip 229 rfl rfl rfl ?_
     refine AOps_skip 230 rfl rfl rfl ?_
     refine kM 2 rfl ?_
     refine AOps_skip 233 rfl rfl rfl ?_
     refine AOps_skip 234 rfl rfl rfl ?_
     refine AOps_skip 235 rfl rfl rfl ?_
     refine kN 2 rfl ?_
     cases h
     exact Weak_keep 0 hm [2] [] _ _ rfl rfl rfl
    have h := iteF hb102 h
    refine AOps_skip 221 rfl rfl rfl ?_
    refine AOps_skip 222 rfl rfl rfl ?_
    refine kM 2 rfl ?_
    refine AOps_skip 225 rfl rfl rfl ?_
    refine AOps_skip 226 rfl rfl rfl ?_
    refine kM 2 rfl ?_
    refine AOps_skip 229 rfl rfl rfl ?_
    refine AOps_skip 230 rfl rfl rfl ?_
    refine kM 2 rfl ?_
    refine AOps_skip 233 rfl rfl rfl ?_
    refine AOps_skip 234 rfl rfl rfl ?_
    refine AOps_skip 235 rfl rfl rfl ?_
    refine kN 2 rfl ?_
    cases h
    exact Weak_keep 0 hm [2] [] _ _ rfl rfl rfl
   have h := iteF hb101 h
   refine AOps_skip 218 rfl rfl rfl ?_
   refine kM 2 rfl ?_
   refine AOps_skip 221 rfl rfl rfl ?_
   refine AOps_skip 222 rfl rfl rfl ?_
   refine kM 2 rfl ?_
   refine AOps_skip 225 rfl rfl rfl ?_
   refine AOps_skip 226 rfl rfl rfl ?_
   refine kM 2 rfl ?_
   refine AOps_skip 229 rfl rfl rfl ?_
   refine AOps_skip 230 rfl rfl rfl ?_
   refine kM 2 rfl ?_
   refine AOps_skip 233 rfl rfl rfl ?_
   refine AOps_skip 234 rfl rfl rfl ?_
   refine AOps_skip 235 rfl rfl rfl ?_
   refine kN 2 rfl ?_
   cases h
   exact Weak_keep 0 hm [2] [] _ _ rfl rfl rfl
  refine ACode_ret ?_
  cases h
  exact ⟨_, _, fun r a w h => ⟨r, h⟩, _, _, [], _, (.cons (ResV_tmp _ _ rfl) .nil), rfl, rfl, rfl, rfl, rfl⟩

end Go.Proofs.YtfnbhfobgimnjaaGreat
