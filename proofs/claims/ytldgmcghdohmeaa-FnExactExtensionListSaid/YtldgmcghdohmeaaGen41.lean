/- Plain functions of the program and that the program computes them: printed by the own tool gen.py. No conditions. -/
import Derived.Test.YtldgmcghdohmeaaGen41a
set_option linter.unusedVariables false
set_option linter.unusedSimpArgs false
namespace Go.Proofs.Ytldgmcghdohmeaa
open Go Go.RowKit Ab

-- (*loop.example/g01362/impl.Colouring).joins
def impl_Colouring_joins (p0 : Col) (p1 : Int) (p2 : Int) (p3 : Int) : Option (Bool) :=
 ((if !decide (p1 = p2) then (impl_Colouring_at p0 p1 p2).bind fun r2 => some (decide (r2 = p3)) else some false) : Option (Bool)).bind fun s3 => some s3
set_option maxRecDepth 100000 in
theorem impl_Colouring_joins_ac (p0 : Col) (p1 : Int) (p2 : Int) (p3 : Int) (r : Bool) (h : impl_Colouring_joins p0 p1 p2 p3 = some r) : AC Try.prog 37 [.d (.pv (colD p0) 0), iV p1, iV p2, iV p3] [] (fun res H' => res = [bV r] ∧ H' = []) := by
 refine AC_of_body true Try.func37 rfl Try.ntmps37 (rvs := [.tmp 8]) rfl rfl (fun G hG => ?_)
 have hm : G.H.length = 0 := by rw [hG]; rfl
 have hz : zeroG G.H = true := by rw [hG]; rfl
 unfold impl_Colouring_joins at h
 refine kR ?_
 refine kN 1 rfl ?_
 refine kB (fun s3 => [(8, bV s3)]) (fun s3 => []) h (fun s3 h => ?_) (fun s3 h => ?_)
 ·refine (ACode_region ?_)
  refine kM 2 rfl ?_
  refine AOps_q 11 _ rfl rfl rfl (QOp_neq _ _ _ _ _ _ _ rfl rfl rfl) ?_
  refine kM 1 rfl ?_
  refine AOps_case 12 _ rfl (fun hb1 => ?_) (fun hb1 => ?_)
  ·have h := iteT hb1 h
   refine kM 3 rfl ?_
   obtain ⟨r2, hr2, h⟩ := bindO h
   refine kC [] 16 (iV r2) [] rfl Try.call47 rfl rfl (impl_Colouring_at_ac p0 p1 p2 _ hr2) rfl ?_
   refine kM 1 rfl ?_
   refine AOps_q 18 _ rfl rfl rfl (QOp_eql _ _ _ _ _ _ _ rfl rfl rfl) ?_
   refine kN 2 rfl ?_
   cases h
   exact Weak_keep 0 hm [8] [] _ _ rfl rfl rfl
  have h := iteF hb1 h
  refine AOps_skip 13 rfl rfl rfl ?_
  refine AOps_skip 14 rfl rfl rfl ?_
  refine AOps_skip 15 rfl rfl rfl ?_
  refine AOps_skip 16 rfl rfl rfl ?_
  refine AOps_skip 17 rfl rfl rfl ?_
  refine AOps_skip 18 rfl rfl rfl ?_
  refine kN 2 rfl ?_
  cases h
  exact Weak_keep 0 hm [8] [] _ _ rfl rfl rfl
 refine ACode_ret ?_
 cases h
 exact ⟨_, _, fun r a w h => ⟨r, h⟩, _, _, [], _, (.cons (ResV_tmp _ _ rfl) .nil), rfl, rfl, rfl, rfl, rfl⟩

-- (*loop.example/g01362/impl.Colouring).goesWith$1
def impl_Colouring_goesWith_c1 (p0 : Int) (p1 : Col) (p2 : Int) (p3 : Int) : Option (Bool) :=
 (impl_Colouring_joins p1 p0 p2 p3).bind fun r1 => some (!r1)
set_option maxRecDepth 100000 in
theorem impl_Colouring_goesWith_c1_ac (p0 : Int) (p1 : Col) (p2 : Int) (p3 : Int) (r : Bool) (h : impl_Colouring_goesWith_c1 p0 p1 p2 p3 = some r) : AC Try.prog 57 [iV p0, .d (.pv ([.pv (colD p1) 0]) 0), .d (.pv ([iD p2]) 0), .d (.pv ([iD p3]) 0)] [] (fun res H' => res = [bV r] ∧ H' = []) := by
 refine AC_of_body true Try.func57 rfl Try.ntmps57 (rvs := [.tmp 5]) rfl rfl (fun G hG => ?_)
 have hm : G.H.length = 0 := by rw [hG]; rfl
 have hz : zeroG G.H = true := by rw [hG]; rfl
 unfold impl_Colouring_goesWith_c1 at h
 refine kR ?_
 refine kN 1 rfl ?_
 refine kR ?_
 refine AOps_q 6 _ rfl rfl rfl (QOp_load_pv _ _ _ _ _ rfl Try.isAgg45 rfl rfl) ?_
 refine kM 1 rfl ?_
 refine AOps_q 8 _ rfl rfl rfl (QOp_load_pv _ _ _ _ _ rfl Try.isAgg2 rfl rfl) ?_
 refine AOps_q 9 _ rfl rfl rfl (QOp_load_pv _ _ _ _ _ rfl Try.isAgg2 rfl rfl) ?_
 obtain ⟨r1, hr1, h⟩ := bindO h
 refine kC [] 10 (bV r1) [] rfl Try.call37 rfl rfl (impl_Colouring_joins_ac p1 p0 p2 p3 _ hr1) rfl ?_
 refine AOps_q 11 _ rfl rfl rfl (QOp_not _ _ _ rfl rfl) ?_
 refine kN 1 rfl ?_
 refine ACode_ret ?_
 cases h
 exact ⟨_, _, fun r a w h => ⟨r, h⟩, _, _, [], _, (.cons (ResV_tmp _ _ rfl) .nil), rfl, rfl, rfl, rfl, rfl⟩

-- (*loop.example/g01362/impl.Colouring).goesWith
def impl_Colouring_goesWith (k : Nat) (p0 : Col) (p1 : Int) (p2 : List Int) (p3 : Int) : Option (Bool) :=
 (slices_ContainsFunc k p2 (fun a0 => impl_Colouring_goesWith_c1 a0 p0 p3 p1)).bind fun r1 => some (!r1)
set_option maxRecDepth 100000 in
theorem impl_Colouring_goesWith_ac (k : Nat) (p0 : Col) (p1 : Int) (p2 : List Int) (p3 : Int) (r : Bool) (h : impl_Colouring_goesWith k p0 p1 p2 p3 = some r) : AC Try.prog 54 [.d (.pv (colD p0) 0), iV p1, .d (.sl none (intsD p2)), iV p3] [] (fun res H' => res = [bV r] ∧ H' = []) := by
 refine AC_of_body true Try.func54 rfl Try.ntmps54 (rvs := [.tmp 8]) rfl rfl (fun G hG => ?_)
 have hm : G.H.length = 0 := by rw [hG]; rfl
 have hz : zeroG G.H = true := by rw [hG]; rfl
 unfold impl_Colouring_goesWith at h
 refine kR ?_
 refine AOps_boxI 4 _ _ (.pv (colD p0) 0) _ rfl (fun c hc => by cases hc with | head => rfl | tail _ h => cases h) rfl rfl rfl rfl rfl ?_
 refine AOps_boxI 5 _ _ (iD p1) _ rfl (fun c hc => by cases hc with | head => rfl | tail _ h => cases h) rfl rfl rfl rfl rfl ?_
 refine AOps_boxI 7 _ _ (iD p3) _ rfl (fun c hc => by cases hc with | head => rfl | tail _ h => cases h) rfl rfl rfl rfl rfl ?_
 refine kN 1 rfl ?_
 refine kR ?_
 refine kM 1 rfl ?_
 refine AOps_q 10 _ rfl rfl rfl (QOp_makeFuncD _ _ _ _ rfl rfl rfl) ?_
 obtain ⟨r1, hr1, h⟩ := bindO h
 refine kC [] 11 (bV r1) [] rfl Try.call52 rfl rfl (slices_ContainsFunc_ac k p2 (fun a0 => impl_Colouring_goesWith_c1 a0 p0 p3 p1) 57 ([.pv ([.pv (colD p0) 0]) 0, .pv ([iD p3]) 0, .pv ([iD p1]) 0]) Try.call57 (fun a0 r h => impl_Colouring_goesWith_c1_ac a0 p0 p3 p1 r h) _ hr1) rfl ?_
 refine AOps_q 12 _ rfl rfl rfl (QOp_not _ _ _ rfl rfl) ?_
 refine kN 1 rfl ?_
 refine ACode_ret ?_
 cases h
 exact ⟨_, _, fun r a w h => ⟨r, h⟩, _, _, [], _, (.cons (ResV_tmp _ _ rfl) .nil), rfl, rfl, rfl, rfl, rfl⟩

-- (*loop.example/g01362/impl.Colouring).cliques
def impl_Colouring_cliques_on_firstOf_c1_l0 (k : Nat) (self : Col → Int → (List Int) → Int → (List Int) → Option (Bool × List Int)) (p0 : Col) (p1 : Int) (p2 : List Int) (p3_0 : Int) : Nat → Int → (List Int) → Option (Sum (List Int) (Bool × List Int))
 | 0, _, _ => none
 | k0 + 1, x6, x7 => (if decide (x6 < p0.p) then (((impl_Colouring_goesWith k p0 p1 p2 x6).bind fun r9 => (if r9 then (if p2.isEmpty then (if ([x6]).length ≤ 1099511627776 ∧ ([x6]).length ≠ 0 then (self p0 p1 ([x6]) p3_0 x7).bind fun r14 => some (!r14.1, r14.2) else none) else (cloneA p2).bind fun r15 => (if r15.length + ([x6]).length ≤ 1099511627776 then (self p0 p1 (r15 ++ ([x6])) p3_0 x7).bind fun r17 => some (!r17.1, r17.2) else none)) else some (false, x7)) : Option (Bool × List Int)).bind fun s18 => (if s18.1 then (some (.inr (false, s18.2))).bind fun rr => some (.inr rr) else some (.inl s18.2)) : Option (Sum (List Int) (Sum (List Int) (Bool × List Int)))).bind fun os20 => (match os20 with | .inl s20 => impl_Colouring_cliques_on_firstOf_c1_l0 k self p0 p1 p2 p3_0 k0 (w64 (x6 + 1)) s20 | .inr rr => some rr) else some (.inl x7))
def impl_Colouring_cliques_on_firstOf_c1_body (self : Col → Int → (List Int) → Int → (List Int) → Option (Bool × List Int)) (k : Nat) (p0 : Col) (p1 : Int) (p2 : List Int) (p3_0 : Int) (p3_1 : List Int) : Option (Bool × List Int) :=
 (if !((impl_Colouring_firstOf_c1 p2 p3_0 p3_1).1) then some (false, (impl_Colouring_firstOf_c1 p2 p3_0 p3_1).2) else ((if decide (0 < (p2.length : Int)) then (if 0 ≤ w64 ((p2.length : Int) - 1) ∧ w64 ((p2.length : Int) - 1) < (p2.length : Int) then some (w64 ((p2.getD (w64 ((p2.length : Int) - 1)).toNat 0) + 1)) else none) else some 0) : Option (Int)).bind fun s5 => (impl_Colouring_cliques_on_firstOf_c1_l0 k self p0 p1 p2 p3_0 k s5 ((impl_Colouring_firstOf_c1 p2 p3_0 p3_1).2) : Option (Sum (List Int) (Bool × List Int))).bind fun os21 => (match os21 with | .inl s21 => some (true, s21) | .inr rr => some rr))
def impl_Colouring_cliques_on_firstOf_c1 : Nat → Col → Int → (List Int) → Int → (List Int) → Option (Bool × List Int)
 | 0, _, _, _, _, _ => none
 | k + 1, p0, p1, p2, p3_0, p3_1 => impl_Colouring_cliques_on_firstOf_c1_body (impl_Colouring_cliques_on_firstOf_c1 k) k p0 p1 p2 p3_0 p3_1
set_option maxRecDepth 100000 in
theorem impl_Colouring_cliques_on_firstOf_c1_ac (k : Nat) (p0 : Col) (p1 : Int) (p2 : List Int) (p3_0 : Int) (p3_1 : List Int) (r : Bool × List Int) (h : impl_Colouring_cliques_on_firstOf_c1 k p0 p1 p2 p3_0 p3_1 = some r) : AC Try.prog 45 [.d (.pv (colD p0) 0), iV p1, .d (.sl none (intsD p2)), .clo 46 [.d (.pv ([iD p3_0]) 0), .ptr 0 0]] [.box [.sl none (intsD p3_1)]] (fun res H' => res = [bV r.1] ∧ H' = [.box [.sl none (intsD r.2)]]) := by
 induction k generalizing p0 p1 p2 p3_0 p3_1 r with
 | zero => simp [impl_Colouring_cliques_on_firstOf_c1] at h
 | succ k ih =>
  rw [impl_Colouring_cliques_on_firstOf_c1] at h
  obtain ⟨self, hself, hk⟩ : ∃ self : Col → Int → (List Int) → Int → (List Int) → Option (Bool × List Int), (∀ (p0 : Col) (p1 : Int) (p2 : List Int) (p3_0 : Int) (p3_1 : List Int) (r : Bool × List Int), self p0 p1 p2 p3_0 p3_1 = some r → AC Try.prog 45 [.d (.pv (colD p0) 0), iV p1, .d (.sl none (intsD p2)), .clo 46 [.d (.pv ([iD p3_0]) 0), .ptr 0 0]] [.box [.sl none (intsD p3_1)]] (fun res H' => res = [bV r.1] ∧ H' = [.box [.sl none (intsD r.2)]])) ∧ impl_Colouring_cliques_on_firstOf_c1 k = self := ⟨impl_Colouring_cliques_on_firstOf_c1 k, fun p0 p1 p2 p3_0 p3_1 r h => ih p0 p1 p2 p3_0 p3_1 r h, rfl⟩
  rw [hk] at h
  clear ih hk
  refine AC_of_body true Try.func45 rfl Try.ntmps45 (rvs := [.tmp 8]) rfl rfl (fun G hG => ?_)
  have hm : G.H.length = 1 := by rw [hG]; rfl
  have hz : zeroG G.H = true := by rw [hG]; rfl
  unfold impl_Colouring_cliques_on_firstOf_c1_body at h
  refine kR ?_
  refine kN 1 rfl ?_
  refine ACode_seq ?_
  refine kR ?_
  refine kM 2 rfl ?_
  refine kC [0] 13 (bV ((impl_Colouring_firstOf_c1 p2 p3_0 p3_1).1)) [.box [.sl none (intsD ((impl_Colouring_firstOf_c1 p2 p3_0 p3_1).2))]] rfl Try.call46 rfl rfl (impl_Colouring_firstOf_c1_ac p2 p3_0 p3_1) rfl ?_
  refine AOps_q 14 _ rfl rfl rfl (QOp_not _ _ _ rfl rfl) ?_
  refine AOps_nil ?_
  refine kI h rfl (fun h _ => ?_) (fun h _ => ?_)
  ·refine kR ?_
   refine kN 1 rfl ?_
   refine ACode_ret ?_
   cases h
   exact ⟨_, _, fun r a w h => ⟨r, h⟩, _, _, [], _, (.cons (ResV_tmp _ _ rfl) .nil), rfl, rfl, rfl, rfl, rfl⟩
  refine ACode_skip ?_
  refine kR ?_
  refine kN 1 rfl ?_
  refine kB (fun s5 => [(0, .d (.pv (colD p0) 0)), (1, iV p1), (2, .d (.sl none (intsD p2))), (3, .clo 46 [.d (.pv ([iD p3_0]) 0), .ptr 0 0]), (9, iV s5)]) (fun s5 => [.box [.sl none (intsD ((impl_Colouring_firstOf_c1 p2 p3_0 p3_1).2))]]) h (fun s5 h => ?_) (fun s5 h => ?_)
  ·refine kR ?_
   refine kM 1 rfl ?_
   refine AOps_q 16 _ rfl rfl rfl (QOp_len_sl _ _ _ _ _ _ _ (intsD_length _) rfl rfl rfl rfl Try.underlying25 rfl) ?_
   refine AOps_q 17 _ rfl rfl rfl (QOp_gtr _ _ _ _ _ _ _ rfl rfl rfl) ?_
   refine AOps_nil ?_
   refine kI h rfl (fun h _ => ?_) (fun h _ => ?_)
   ·refine (ACode_region ?_)
    refine kM 2 rfl ?_
    refine AOps_q 20 _ rfl rfl rfl (QOp_len_sl _ _ _ _ _ _ _ (intsD_length _) rfl rfl rfl rfl Try.underlying25 rfl) ?_
    refine AOps_q 21 _ rfl rfl rfl (QOp_sub _ _ _ _ _ _ _ rfl rfl rfl) ?_
    obtain ⟨hc4, h⟩ := guardO h
    refine AOps_q 22 _ rfl rfl rfl (QOp_indexAddr_sl _ _ _ _ _ _ _ _ rfl Try.underlying25 Try.sizeOf2 hc4.1 (by rw [intsD_length]; exact hc4.2) rfl rfl) ?_
    refine AOps_q 23 _ rfl rfl rfl (QOp_load_pv _ _ _ _ _ rfl Try.isAgg2 rfl (intsD_get _ _ 0 (by omega))) ?_
    refine AOps_q 24 _ rfl rfl rfl (QOp_add _ _ _ _ _ _ _ rfl rfl rfl) ?_
    refine kN 1 rfl ?_
    cases h
    exact Weak_keep 1 hm [0, 1, 2, 3, 9] [] _ _ rfl rfl rfl
   refine ACode_skip ?_
   cases h
   exact Weak_keep 1 hm [0, 1, 2, 3, 9] [] _ _ rfl rfl rfl
  refine kO (fun s21 => []) (fun s21 => [.box [.sl none (intsD s21)]]) h (fun os21 h hks21 => ?_) (fun s21 h => ?_)
  ·refine kR ?_
   refine kN 2 rfl ?_
   refine ACode_block ?_
   refine ACode_loopW (fun k0 E H => ∃ (x6 : Int) (x7 : List Int), E = [(0, .d (.pv (colD p0) 0)), (1, iV p1), (2, .d (.sl none (intsD p2))), (3, .clo 46 [.d (.pv ([iD p3_0]) 0), .ptr 0 0]), (10, iV x6)] ∧ H = [.box [.sl none (intsD x7)]] ∧ impl_Colouring_cliques_on_firstOf_c1_l0 k self p0 p1 p2 p3_0 k0 x6 x7 = some os21) k _ _ (Weak_keep 1 hm [0, 1, 2, 3, 10] [] _ _ rfl rfl rfl) ⟨_, _, rfl, rfl, h⟩ ?_
   clear h
   rintro k0 E H ⟨x6, x7, rfl, rfl, h⟩
   cases k0 with
   | zero => cases (show (none : Option (Sum (List Int) (Bool × List Int))) = some _ from h)
   | succ k0 =>
    rw [impl_Colouring_cliques_on_firstOf_c1_l0] at h
    refine ACode_seq ?_
    refine kR ?_
    refine kM 2 rfl ?_
    refine AOps_q 28 _ rfl rfl rfl (QOp_nilCheck_pv _ _ _ rfl rfl) ?_
    refine AOps_q 29 _ rfl rfl rfl (QOp_fieldAddr_pv _ _ _ _ _ 0 _ _ rfl Try.underlying29 rfl _ Try.sizeOf2 rfl rfl) ?_
    refine AOps_q 30 _ rfl rfl rfl (QOp_load_pv _ _ _ _ _ rfl Try.isAgg2 rfl rfl) ?_
    refine AOps_q 31 _ rfl rfl rfl (QOp_lss _ _ _ _ _ _ _ rfl rfl rfl) ?_
    refine AOps_nil ?_
    refine kI h rfl (fun h _ => ?_) (fun h _ => ?_)
    ·refine ACode_skip ?_
     refine kO (fun s20 => [(0, .d (.pv (colD p0) 0)), (1, iV p1), (2, .d (.sl none (intsD p2))), (3, .clo 46 [.d (.pv ([iD p3_0]) 0), .ptr 0 0]), (10, iV x6)]) (fun s20 => [.box [.sl none (intsD s20)]]) h (fun os20 h hks20 => ?_) (fun s20 h => ?_)
     ·refine ACode_block ?_
      refine kB (fun s18 => [(0, .d (.pv (colD p0) 0)), (1, iV p1), (2, .d (.sl none (intsD p2))), (3, .clo 46 [.d (.pv ([iD p3_0]) 0), .ptr 0 0]), (10, iV x6), (50, bV s18.1)]) (fun s18 => [.box [.sl none (intsD s18.2)]]) h (fun s18 h => ?_) (fun s18 h => ?_)
      ·refine (ACode_region ?_)
       refine kM 4 rfl ?_
       obtain ⟨r9, hr9, h⟩ := bindO h
       refine kC [] 38 (bV r9) [.box [.sl none (intsD x7)]] rfl Try.call54 rfl rfl (impl_Colouring_goesWith_ac k p0 p1 p2 x6 _ hr9) rfl ?_
       refine kM 1 rfl ?_
       refine AOps_case 39 _ rfl (fun hb10 => ?_) (fun hb10 => ?_)
       ·have h := iteT hb10 h
        refine kM 3 rfl ?_
        refine bsplit (p2.isEmpty) (fun hb11 => ?_) (fun hb11 => ?_)
        ·have h := iteT hb11 h
         refine kC [] 43 (.d (.se none)) [.box [.sl none (intsD x7)]] rfl Try.call20 rfl rfl (cloneB_ac p2 hb11) rfl ?_
         refine kM 1 rfl ?_
         refine AOps_buildSlice 45 _ _ _ [_] (intsD ([x6])) _ rfl rfl rfl rfl rfl (by decide) Try.underlying25 Try.sizeOf2 (zero_of Try.typeInfo2 rfl) rfl rfl (intsD_one _) ?_
         obtain ⟨hc13, h⟩ := guardO h
         refine AOps_append0 46 _ _ _ _ _ _ _ _ _ _ rfl rfl rfl rfl rfl rfl rfl Try.underlying25 Try.type2 rfl rfl rfl (by decide) rfl rfl rfl (intsD_one _) (by rw [intsD_length]; exact hc13.1) (by rw [intsD_length]; exact hc13.2) ?_
         refine kM 1 rfl ?_
         refine AOps_freezeL [46] 2 0 _ (allc (rfl) (fun _ h => nomatch h)) rfl ?_
         obtain ⟨r14, hr14, h⟩ := bindO h
         refine kC [0] 48 (bV r14.1) [.box [.sl none (intsD r14.2)], .vec 0 (intsD ([x6])), .gone] rfl Try.call45 rfl rfl (hself p0 p1 ([x6]) p3_0 x7 _ hr14) rfl ?_
         refine AOps_q 49 _ rfl rfl rfl (QOp_not _ _ _ rfl rfl) ?_
         refine kN 1 rfl ?_
         cases h
         exact Weak_keep 1 hm [0, 1, 2, 3, 10, 50] [] _ _ rfl rfl rfl
        have h := iteF hb11 h
        obtain ⟨r15, hr15, h⟩ := bindO h
        refine kC [] 43 (.vec 1 0) [.box [.sl none (intsD x7)], .vec 0 (intsD r15)] rfl Try.call20 rfl rfl (cloneA_ac p2 _ hb11 hr15) rfl ?_
        refine kM 1 rfl ?_
        refine AOps_buildSlice 45 _ _ _ [_] (intsD ([x6])) _ rfl rfl rfl rfl rfl (by decide) Try.underlying25 Try.sizeOf2 (zero_of Try.typeInfo2 rfl) rfl rfl (intsD_one _) ?_
        obtain ⟨hc16, h⟩ := guardO h
        refine AOps_append 46 _ _ _ _ _ _ _ _ _ _ _ _ rfl rfl rfl rfl rfl rfl rfl Try.underlying25 Try.type2 rfl rfl rfl (by decide) rfl rfl rfl rfl (intsD_one _) (by rw [intsD_length, intsD_length]; exact hc16) ?_
        rw [intsD_app]
        refine kM 1 rfl ?_
        refine AOps_freezeL [46] 1 1 _ (allc (rfl) (fun _ h => nomatch h)) rfl ?_
        obtain ⟨r17, hr17, h⟩ := bindO h
        refine kC [0] 48 (bV r17.1) [.box [.sl none (intsD r17.2)], .gone, .vec 0 (intsD ([x6]))] rfl Try.call45 rfl rfl (hself p0 p1 (r15 ++ ([x6])) p3_0 x7 _ hr17) rfl ?_
        refine AOps_q 49 _ rfl rfl rfl (QOp_not _ _ _ rfl rfl) ?_
        refine kN 1 rfl ?_
        cases h
        exact Weak_keep 1 hm [0, 1, 2, 3, 10, 50] [] _ _ rfl rfl rfl
       have h := iteF hb10 h
       refine AOps_skip 40 rfl rfl rfl ?_
       refine AOps_skip 41 rfl rfl rfl ?_
       refine AOps_skip 42 rfl rfl rfl ?_
       refine AOps_skip 43 rfl rfl rfl ?_
       refine AOps_skip 44 rfl rfl rfl ?_
       refine AOps_skip 45 rfl rfl rfl ?_
       refine AOps_skip 46 rfl rfl rfl ?_
       refine AOps_skip 47 rfl rfl rfl ?_
       refine AOps_skip 48 rfl rfl rfl ?_
       refine AOps_skip 49 rfl rfl rfl ?_
       refine kN 1 rfl ?_
       cases h
       exact Weak_keep 1 hm [0, 1, 2, 3, 10, 50] [] _ _ rfl rfl rfl
      refine kI h rfl (fun h _ => ?_) (fun h _ => ?_)
      ·refine kR ?_
       refine kN 1 rfl ?_
       refine ACode_ret ?_
       obtain ⟨rr, hz22, h2⟩ := bindO h
       obtain rfl := Option.some.inj h2
       obtain rfl := Option.some.inj (show some rr = some _ from hks20)
       have h := hz22
       cases h
       have h := hks21
       cases h
       exact ⟨_, _, fun r a w h => ⟨r, h⟩, _, _, [], _, (.cons (ResV_tmp _ _ rfl) .nil), rfl, rfl, rfl, rfl, rfl⟩
      refine ACode_skip ?_
      cases h
      exact ⟨_, rfl, Weak_keep 1 hm [0, 1, 2, 3, 10] [] _ _ rfl rfl rfl⟩
     refine (ACode_region ?_)
     refine kM 1 rfl ?_
     refine AOps_q 33 _ rfl rfl rfl (QOp_add _ _ _ _ _ _ _ rfl rfl rfl) ?_
     refine kN 1 rfl ?_
     exact ⟨k0, _, _, Nat.lt_succ_self _, Weak_keep 1 hm [0, 1, 2, 3, 10] [] _ _ rfl rfl rfl, _, _, rfl, rfl, h⟩
    refine ACode_exit ?_
    cases h
    exact ⟨_, rfl, Weak_keep 1 hm [] [] _ _ rfl rfl rfl⟩
  refine kR ?_
  refine kN 1 rfl ?_
  refine ACode_ret ?_
  cases h
  exact ⟨_, _, fun r a w h => ⟨r, h⟩, _, _, [], _, (.cons (ResV_tmp _ _ rfl) .nil), rfl, rfl, rfl, rfl, rfl⟩

-- (*loop.example/g01362/impl.Colouring).firstOf
def impl_Colouring_firstOf (k : Nat) (p0 : Col) (p1 : Int) (p2 : Int) : Option (List Int × Bool) :=
 (impl_Colouring_cliques_on_firstOf_c1 k p0 p1 ([]) p2 ([] : List Int)).bind fun r1 => some (r1.2, !r1.1)
set_option maxRecDepth 100000 in
theorem impl_Colouring_firstOf_ac (k : Nat) (p0 : Col) (p1 : Int) (p2 : Int) (r : List Int × Bool) (h : impl_Colouring_firstOf k p0 p1 p2 = some r) : AC Try.prog 35 [.d (.pv (colD p0) 0), iV p1, iV p2] [] (fun res H' => res = [.d (.sl none (intsD r.1)), bV r.2] ∧ H' = []) := by
 refine AC_of_body true Try.func35 rfl Try.ntmps35 (rvs := [.tmp 6, .tmp 7]) rfl rfl (fun G hG => ?_)
 have hm : G.H.length = 0 := by rw [hG]; rfl
 have hz : zeroG G.H = true := by rw [hG]; rfl
 unfold impl_Colouring_firstOf at h
 refine kR ?_
 refine AOps_boxI 5 _ _ (iD p2) _ rfl (fun c hc => by cases hc with | head => rfl | tail _ h => cases h) rfl rfl rfl rfl rfl ?_
 refine kN 2 rfl ?_
 refine kR ?_
 refine AOps_buildSlice 10 _ _ _ [] (intsD ([] : List Int)) _ rfl rfl rfl rfl rfl (by decide) Try.underlying25 Try.sizeOf2 (zero_of Try.typeInfo2 rfl) rfl rfl (intsD_one _) ?_
 refine AOps_alloc 8 _ _ ([.sl (some true) []]) (zero_of Try.typeInfo25 rfl) (by rfl) rfl rfl rfl rfl ?_
 refine AOps_freeze 10 0 0 _ rfl rfl ?_
 refine AOps_store1 _ _ _ _ _ _ _ _ rfl rfl rfl rfl rfl rfl rfl Try.sizeOf25 (Nat.le_of_ble_eq_true rfl) rfl ?_
 refine AOps_nil ?_
 refine kR ?_
 refine kM 2 rfl ?_
 refine AOps_q 13 _ rfl rfl rfl (QOp_makeFunc _ _ _ rfl rfl) ?_
 obtain ⟨r1, hr1, h⟩ := bindO h
 refine kC [1] 14 (bV r1.1) [.gone, .box [.sl none (intsD r1.2)]] rfl Try.call45 rfl rfl (impl_Colouring_cliques_on_firstOf_c1_ac k p0 p1 ([]) p2 ([] : List Int) _ hr1) rfl ?_
 refine kN 1 rfl ?_
 refine kR ?_
 refine AOps_q 15 _ rfl rfl rfl (QOp_load_ptr _ _ _ _ _ _ rfl Try.isAgg25 rfl rfl rfl) ?_
 refine kM 1 rfl ?_
 refine AOps_q 17 _ rfl rfl rfl (QOp_not _ _ _ rfl rfl) ?_
 refine kN 2 rfl ?_
 refine ACode_ret ?_
 cases h
 exact ⟨_, _, fun r a w h => ⟨r, h⟩, _, _, [], _, (.cons (ResV_tmp _ _ rfl) (.cons (ResV_tmp _ _ rfl) .nil)), rfl, rfl, rfl, rfl, rfl⟩

-- (*loop.example/g01362/impl.Colouring).avoids
def impl_Colouring_avoids_l0 (k : Nat) (p0 : Col) (p1 : List Int) : Nat → Int → Option (Sum (Unit) (Bool))
 | 0, _ => none
 | k0 + 1, x1 => (if decide (x1 < (p1.length : Int)) then (if 0 ≤ x1 ∧ x1 < (p1.length : Int) then (impl_Colouring_firstOf k p0 x1 (p1.getD x1.toNat 0)).bind fun r4 => (if r4.2 then some (.inr false) else impl_Colouring_avoids_l0 k p0 p1 k0 (w64 (x1 + 1))) else none) else some (.inl ()))
def impl_Colouring_avoids (k : Nat) (p0 : Col) (p1 : List Int) : Option (Bool) :=
 (impl_Colouring_avoids_l0 k p0 p1 k 0 : Option (Sum (Unit) (Bool))).bind fun os6 => (match os6 with | .inl s6 => some true | .inr rr => some rr)
set_option maxRecDepth 100000 in
theorem impl_Colouring_avoids_ac (k : Nat) (p0 : Col) (p1 : List Int) (r : Bool) (h : impl_Colouring_avoids k p0 p1 = some r) : AC Try.prog 25 [.d (.pv (colD p0) 0), .d (.sl none (intsD p1))] [] (fun res H' => res = [bV r] ∧ H' = []) := by
 refine AC_of_body true Try.func25 rfl Try.ntmps25 (rvs := [.tmp 4]) rfl rfl (fun G hG => ?_)
 have hm : G.H.length = 0 := by rw [hG]; rfl
 have hz : zeroG G.H = true := by rw [hG]; rfl
 unfold impl_Colouring_avoids at h
 refine kR ?_
 refine kN 1 rfl ?_
 refine kO (fun s6 => []) (fun s6 => []) h (fun os6 h hks6 => ?_) (fun s6 h => ?_)
 ·refine kR ?_
  refine kM 1 rfl ?_
  refine AOps_q 10 _ rfl rfl rfl (QOp_len_sl _ _ _ _ _ _ _ (intsD_length _) rfl rfl rfl rfl Try.underlying25 rfl) ?_
  refine kN 1 rfl ?_
  refine ACode_block ?_
  refine ACode_loopW (fun k0 E H => ∃ (x1 : Int), E = [(0, .d (.pv (colD p0) 0)), (9, .d (.sl none (intsD p1))), (10, iV (p1.length : Int)), (11, iV x1)] ∧ H = [] ∧ impl_Colouring_avoids_l0 k p0 p1 k0 x1 = some os6) k _ _ (Weak_keep 0 hm [0, 9, 10, 11] [] _ _ rfl rfl rfl) ⟨_, rfl, rfl, h⟩ ?_
  clear h
  rintro k0 E H ⟨x1, rfl, rfl, h⟩
  cases k0 with
  | zero => cases (show (none : Option (Sum (Unit) (Bool))) = some _ from h)
  | succ k0 =>
   rw [impl_Colouring_avoids_l0] at h
   refine kR ?_
   refine AOps_q 12 _ rfl rfl rfl (QOp_lss _ _ _ _ _ _ _ rfl rfl rfl) ?_
   refine AOps_nil ?_
   refine ACode_seq ?_
   refine kI h rfl (fun h _ => ?_) (fun h _ => ?_)
   ·refine ACode_skip ?_
    refine ACode_seq ?_
    refine ACode_block ?_
    refine kR ?_
    refine kM 1 rfl ?_
    obtain ⟨hc3, h⟩ := guardO h
    refine AOps_q 14 _ rfl rfl rfl (QOp_indexAddr_sl _ _ _ _ _ _ _ _ rfl Try.underlying25 Try.sizeOf2 hc3.1 (by rw [intsD_length]; exact hc3.2) rfl rfl) ?_
    refine AOps_q 15 _ rfl rfl rfl (QOp_load_pv _ _ _ _ _ rfl Try.isAgg2 rfl (intsD_get _ _ 0 (by omega))) ?_
    refine kN 2 rfl ?_
    refine kR ?_
    refine kM 3 rfl ?_
    obtain ⟨r4, hr4, h⟩ := bindO h
    refine kC [] 20 (.tup [.d (.sl none (intsD r4.1)), bV r4.2]) [] rfl Try.call35 rfl rfl (impl_Colouring_firstOf_ac k p0 x1 (p1.getD x1.toNat 0) _ hr4) rfl ?_
    refine kN 5 rfl ?_
    refine kR ?_
    refine kN 1 rfl ?_
    refine kI h rfl (fun h _ => ?_) (fun h _ => ?_)
    ·refine kR ?_
     refine kN 1 rfl ?_
     refine ACode_ret ?_
     cases h
     have h := hks6
     cases h
     exact ⟨_, _, fun r a w h => ⟨r, h⟩, _, _, [], _, (.cons (ResV_tmp _ _ rfl) .nil), rfl, rfl, rfl, rfl, rfl⟩
    refine ACode_skip ?_
    refine (ACode_region ?_)
    refine AOps_q 24 _ rfl rfl rfl (QOp_add _ _ _ _ _ _ _ rfl rfl rfl) ?_
    refine kN 1 rfl ?_
    exact ⟨k0, _, _, Nat.lt_succ_self _, Weak_keep 0 hm [0, 9, 10, 11] [] _ _ rfl rfl rfl, _, rfl, rfl, h⟩
   refine ACode_exit ?_
   cases h
   exact ⟨_, rfl, Weak_keep 0 hm [] [] _ _ rfl rfl rfl⟩
 refine kR ?_
 refine kN 1 rfl ?_
 refine ACode_ret ?_
 cases h
 exact ⟨_, _, fun r a w h => ⟨r, h⟩, _, _, [], _, (.cons (ResV_tmp _ _ rfl) .nil), rfl, rfl, rfl, rfl, rfl⟩

-- (*loop.example/g01362/impl.Colouring).extendingCode
def impl_Colouring_extendingCode (k : Nat) (p0 : Col) (p1 : List Int) (p2 : Option (Bool)) (p3 : Int) : Option (Int) :=
 (impl_Colouring_sizesCode k p0 p1 p2).bind fun r1 => (if !decide (r1 = 0) then some r1 else (impl_Colouring_avoids k p0 p1).bind fun r3 => (if !r3 then some 5 else (if decide (p3 < p0.p) then some 3 else some 0)))
set_option maxRecDepth 100000 in
theorem impl_Colouring_extendingCode_ac (k : Nat) (p0 : Col) (p1 : List Int) (p2 : Option (Bool)) (p3 : Int) (g_p2 : FuncId) (c_p2 : List D) (hg_p2 : ∀ args w, (callFunc g_p2 args).run Try.prog w = .ok (.enter g_p2 args) w) (hf_p2 : ∀ (r : Bool), p2 = some r → AC Try.prog g_p2 ([] ++ c_p2.map AV.d) [] (fun res H' => res = [bV r] ∧ H' = [])) (r : Int) (h : impl_Colouring_extendingCode k p0 p1 p2 p3 = some r) : AC Try.prog 16 [.d (.pv (colD p0) 0), .d (.sl none (intsD p1)), .d (.clo g_p2 c_p2), iV p3] [] (fun res H' => res = [iV r] ∧ H' = []) := by
 refine AC_of_body true Try.func16 rfl Try.ntmps16 (rvs := [.tmp 8]) rfl rfl (fun G hG => ?_)
 have hm : G.H.length = 0 := by rw [hG]; rfl
 have hz : zeroG G.H = true := by rw [hG]; rfl
 unfold impl_Colouring_extendingCode at h
 refine kR ?_
 refine kN 1 rfl ?_
 refine kR ?_
 refine kM 3 rfl ?_
 obtain ⟨r1, hr1, h⟩ := bindO h
 refine kC [] 13 (iV r1) [] rfl Try.call24 rfl rfl (impl_Colouring_sizesCode_ac k p0 p1 p2 g_p2 c_p2 hg_p2 hf_p2 _ hr1) rfl ?_
 refine kN 1 rfl ?_
 refine ACode_seq ?_
 refine ACode_block ?_
 refine kR ?_
 refine kM 1 rfl ?_
 refine AOps_q 16 _ rfl rfl rfl (QOp_neq _ _ _ _ _ _ _ rfl rfl rfl) ?_
 refine kN 1 rfl ?_
 refine kI h rfl (fun h _ => ?_) (fun h _ => ?_)
 ·refine kR ?_
  refine kN 2 rfl ?_
  refine ACode_ret ?_
  cases h
  exact ⟨_, _, fun r a w h => ⟨r, h⟩, _, _, [], _, (.cons (ResV_tmp _ _ rfl) .nil), rfl, rfl, rfl, rfl, rfl⟩
 refine kR ?_
 refine kM 2 rfl ?_
 obtain ⟨r3, hr3, h⟩ := bindO h
 refine kC [] 21 (bV r3) [] rfl Try.call25 rfl rfl (impl_Colouring_avoids_ac k p0 p1 _ hr3) rfl ?_
 refine AOps_q 22 _ rfl rfl rfl (QOp_not _ _ _ rfl rfl) ?_
 refine kN 1 rfl ?_
 refine kI h rfl (fun h _ => ?_) (fun h _ => ?_)
 ·refine kR ?_
  refine kN 1 rfl ?_
  refine ACode_ret ?_
  cases h
  exact ⟨_, _, fun r a w h => ⟨r, h⟩, _, _, [], _, (.cons (ResV_tmp _ _ rfl) .nil), rfl, rfl, rfl, rfl, rfl⟩
 refine kR ?_
 refine kM 1 rfl ?_
 refine AOps_q 25 _ rfl rfl rfl (QOp_nilCheck_pv _ _ _ rfl rfl) ?_
 refine AOps_q 26 _ rfl rfl rfl (QOp_fieldAddr_pv _ _ _ _ _ 0 _ _ rfl Try.underlying29 rfl _ Try.sizeOf2 rfl rfl) ?_
 refine AOps_q 27 _ rfl rfl rfl (QOp_load_pv _ _ _ _ _ rfl Try.isAgg2 rfl rfl) ?_
 refine kM 1 rfl ?_
 refine AOps_q 29 _ rfl rfl rfl (QOp_gtr _ _ _ _ _ _ _ rfl rfl rfl) ?_
 refine kN 1 rfl ?_
 refine kI h rfl (fun h _ => ?_) (fun h _ => ?_)
 ·refine kR ?_
  refine kN 1 rfl ?_
  refine ACode_ret ?_
  cases h
  exact ⟨_, _, fun r a w h => ⟨r, h⟩, _, _, [], _, (.cons (ResV_tmp _ _ rfl) .nil), rfl, rfl, rfl, rfl, rfl⟩
 refine ACode_skip ?_
 refine kR ?_
 refine kN 1 rfl ?_
 refine ACode_ret ?_
 cases h
 exact ⟨_, _, fun r a w h => ⟨r, h⟩, _, _, [], _, (.cons (ResV_tmp _ _ rfl) .nil), rfl, rfl, rfl, rfl, rfl⟩

-- loop.example/g01362/impl.always
def impl_always : Bool :=
 true
set_option maxRecDepth 100000 in
theorem impl_always_ac : AC Try.prog 17 [] [] (fun res H' => res = [bV (impl_always)] ∧ H' = []) := by
 refine AC_of_body true Try.func17 rfl Try.ntmps17 (rvs := [.tmp 0]) rfl rfl (fun G hG => ?_)
 have hm : G.H.length = 0 := by rw [hG]; rfl
 have hz : zeroG G.H = true := by rw [hG]; rfl
 obtain ⟨r, h⟩ : ∃ r, impl_always = r := ⟨_, rfl⟩
 rw [h]
 unfold impl_always at h
 refine kR ?_
 refine kN 1 rfl ?_
 refine kR ?_
 refine kN 1 rfl ?_
 refine ACode_ret ?_
 cases h
 exact ⟨_, _, fun r a w h => ⟨r, h⟩, _, _, [], _, (.cons (ResV_tmp _ _ rfl) .nil), rfl, rfl, rfl, rfl, rfl⟩

-- loop.example/g01362/impl.ExtensionList$1
def impl_ExtensionList_c1 (p0 : List Int) (p0n : Nat) (p1 : List (List Int)) : Option (Bool × List Int × List (List Int)) :=
 (if ((p0.drop 0).take p0n).isEmpty then none else (cloneA ((p0.drop 0).take p0n)).bind fun r2 => (if p1.length + ([r2]).length ≤ 1099511627776 then some (decide (((p1 ++ ([r2])).length : Int) ≤ 200), p0, (p1 ++ ([r2]))) else none))
set_option maxRecDepth 100000 in
theorem impl_ExtensionList_c1_ac (p0 : List Int) (p0n : Nat) (p1 : List (List Int)) (r : Bool × List Int × List (List Int)) (h : impl_ExtensionList_c1 p0 p0n p1 = some r) : AC Try.prog 19 [.part 0 0 0 p0n, .ptr 1 0] [.vec 0 (intsD p0), .ref (.vec 2 0), .vec 0 (rowsD p1)] (fun res H' => res = [bV r.1] ∧ H' = [.vec 0 (intsD r.2.1), .ref (.vec 2 1), .vec 1 (rowsD r.2.2)]) := by
 refine AC_of_body true Try.func19 rfl Try.ntmps19 (rvs := [.tmp 3]) rfl rfl (fun G hG => ?_)
 have hm : G.H.length = 3 := by rw [hG]; rfl
 have hz : zeroG G.H = true := by rw [hG]; rfl
 refine ACode_weak (Weak_bump 1 2 _ rfl rfl _ rfl) ?_
 unfold impl_ExtensionList_c1 at h
 refine kR ?_
 refine kN 1 rfl ?_
 refine bsplit (((p0.drop 0).take p0n).isEmpty) (fun hb1 => ?_) (fun hb1 => ?_)
 ·have h := iteT hb1 h
  cases h
 have h := iteF hb1 h
 obtain ⟨r2, hr2, h⟩ := bindO h
 obtain ⟨hc3, h⟩ := guardO h
 refine ACode_seq (ACode_reg [(1, .ptr 1 0)] [.vec 0 (intsD p0), .ref (.vec 2 1), .vec 1 (rowsD (p1 ++ ([r2])))] ?_ ?_)
 ·refine ACode_anyU mixed ?_
  refine AU_cut 2 #[true, true, true, true, false, false] [(1, .ptr 1 0), (4, .vec 2 1), (7, .vec 3 0)] [.vec 0 (intsD p0), .ref (.vec 2 1), .vec 1 (rowsD p1), .vec 0 (rowsD ([r2]))] ?_ (fun hS0 => ?_)
  ·refine AU_one 4 (by kernel_rfl) rfl rfl ?_
   refine AOps_append 8 _ _ _ _ _ _ _ _ _ _ _ _ rfl rfl rfl rfl rfl rfl rfl Try.underlying26 Try.type25 rfl rfl rfl (by decide) rfl rfl rfl rfl (rowsD_one _) (by rw [rowsD_length, rowsD_length]; exact hc3) ?_
   rw [rowsD_app]
   refine AOps_nil ?_
   refine AU_one 5 (by kernel_rfl) rfl rfl ?_
   refine AOps_storeR 1 _ _ _ _ _ rfl rfl rfl rfl rfl rfl rfl rfl Try.sizeOf26 (fun r a w hr => vec_one hr rfl rfl rfl) ?_
   refine AOps_nil ?_
   refine AU_done (by kernel_rfl) ?_
   exact ⟨rfl, Weak_trans (Weak_keep 3 hm [1] [] _ _ rfl rfl rfl) (Weak_reset 3 hm hz [1] _ _ rfl rfl)⟩
  refine AU_cut 3 #[true, true, true, false, false, false] [(1, .ptr 1 0), (4, .vec 2 1), (6, .vec 3 0)] [.vec 0 (intsD p0), .ref (.vec 2 1), .vec 1 (rowsD p1), .vec 0 (intsD r2)] ?_ (fun hS1 => ?_)
  ·refine AU_one 3 (by kernel_rfl) rfl rfl ?_
   refine AOps_freeze 6 3 0 _ rfl rfl ?_
   refine AOps_buildSlice 7 _ _ _ [_] (rowsD ([r2])) _ rfl rfl rfl rfl rfl (by decide) Try.underlying26 Try.sizeOf25 (zero_of Try.typeInfo25 rfl) rfl rfl (rowsD_one _) ?_
   refine AOps_nil ?_
   exact AU_to (by kernel_rfl) hS0 (Weak_keep 3 hm [1, 4, 7] [4] _ _ rfl rfl rfl)
  refine AU_u 1 5 _ rfl (by kernel_rfl) rfl rfl rfl (UOp_move _ _ rfl rfl) ?_
  refine AU_all [0, 2] (by kernel_rfl) rfl (allc ?_ (allc ?_ (fun _ h => nomatch h)))
  ·refine US_of 0 rfl rfl ?_
   refine AOps_q 4 _ rfl rfl rfl (QOp_load_ref _ _ _ _ rfl Try.isAgg26 rfl rfl) ?_
   refine AOps_nil ?_
   refine AU_one 2 (by kernel_rfl) rfl rfl ?_
   refine AOps_callL [] 6 _ _ _ _ _ _ _ _ _ _ rfl rfl rfl rfl rfl rfl rfl Try.call20 rfl (nodupB_sound _ rfl) rfl rfl rfl (by have q := cloneA_ac ((p0.drop 0).take p0n) _ hb1 hr2; simp only [intsD_dt] at q; exact q) ?_
   rintro _ _ ⟨rfl, rfl⟩
   refine ⟨(allc (intsD_flat _) (fun _ h => nomatch h)), (allc (trivial) (fun _ h => nomatch h)), AOps_as 6 (v' := .vec 3 0) (H' := [.vec 0 (intsD p0), .ref (.vec 2 1), .vec 1 (rowsD p1), .vec 0 (intsD r2)]) rfl rfl ?_⟩
   refine AOps_nil ?_
   exact AU_to (by kernel_rfl) hS1 (Weak_keep 3 hm [1, 4, 6] [3] _ _ rfl rfl rfl)
  refine US_of 2 rfl rfl ?_
  refine AOps_callL [] 6 _ _ _ _ _ _ _ _ _ _ rfl rfl rfl rfl rfl rfl rfl Try.call20 rfl (nodupB_sound _ rfl) rfl rfl rfl (by have q := cloneA_ac ((p0.drop 0).take p0n) _ hb1 hr2; simp only [intsD_dt] at q; exact q) ?_
  rintro _ _ ⟨rfl, rfl⟩
  refine ⟨(allc (intsD_flat _) (fun _ h => nomatch h)), (allc (trivial) (fun _ h => nomatch h)), AOps_as 6 (v' := .vec 3 0) (H' := [.vec 0 (intsD p0), .ref (.vec 2 1), .vec 1 (rowsD p1), .vec 0 (intsD r2)]) rfl rfl ?_⟩
  refine AOps_nil ?_
  refine AU_all [0, 3] (by kernel_rfl) rfl (allc ?_ (allc ?_ (fun _ h => nomatch h)))
  ·refine US_of 0 rfl rfl ?_
   refine AOps_q 4 _ rfl rfl rfl (QOp_load_ref _ _ _ _ rfl Try.isAgg26 rfl rfl) ?_
   refine AOps_nil ?_
   exact AU_to (by kernel_rfl) hS1 (Weak_keep 3 hm [1, 4, 6] [3] _ _ rfl rfl rfl)
  refine US_of 3 rfl rfl ?_
  refine AOps_freeze 6 3 0 _ rfl rfl ?_
  refine AOps_buildSlice 7 _ _ _ [_] (rowsD ([r2])) _ rfl rfl rfl rfl rfl (by decide) Try.underlying26 Try.sizeOf25 (zero_of Try.typeInfo25 rfl) rfl rfl (rowsD_one _) ?_
  refine AOps_nil ?_
  refine AU_one 0 (by kernel_rfl) rfl rfl ?_
  refine AOps_q 4 _ rfl rfl rfl (QOp_load_ref _ _ _ _ rfl Try.isAgg26 rfl rfl) ?_
  refine AOps_nil ?_
  exact AU_to (by kernel_rfl) hS0 (Weak_keep 3 hm [1, 4, 7] [4] _ _ rfl rfl rfl)
 refine kR ?_
 refine AOps_q 9 _ rfl rfl rfl (QOp_load_ref _ _ _ _ rfl Try.isAgg26 rfl rfl) ?_
 refine AOps_q 10 _ rfl rfl rfl (QOp_len_vec _ _ _ _ _ _ _ _ (rowsD_length _) rfl rfl rfl rfl Try.underlying26 rfl rfl) ?_
 refine AOps_q 11 _ rfl rfl rfl (QOp_leq _ _ _ _ _ _ _ rfl rfl rfl) ?_
 refine kN 1 rfl ?_
 refine ACode_ret ?_
 cases h
 exact ⟨_, _, fun r a w h => ⟨r, h⟩, _, _, [], _, (.cons (ResV_tmp _ _ rfl) .nil), rfl, rfl, rfl, rfl, rfl⟩

-- (*loop.example/g01362/impl.Colouring).hasClique
def impl_Colouring_hasClique_l1 (p0 : Col) (p1 : Int) (p3 : List Int) (x4 : Int) : Nat → Int → (List Int) → Option (List Int)
 | 0, _, _ => none
 | k1 + 1, x8, x9 => (if decide (x8 < (((p3.take p3.length).drop (w64 (x4 + 1)).toNat).length : Int)) then ((if 0 ≤ x8 ∧ x8 < (((p3.take p3.length).drop (w64 (x4 + 1)).toNat).length : Int) then (impl_Colouring_joins p0 (p3.getD x4.toNat 0) (((p3.take p3.length).drop (w64 (x4 + 1)).toNat).getD x8.toNat 0) p1).bind fun r12 => (if r12 then (if x9.length + ([(((p3.take p3.length).drop (w64 (x4 + 1)).toNat).getD x8.toNat 0)]).length ≤ 1099511627776 then some (x9 ++ ([(((p3.take p3.length).drop (w64 (x4 + 1)).toNat).getD x8.toNat 0)])) else none) else some x9) else none) : Option (List Int)).bind fun s15 => impl_Colouring_hasClique_l1 p0 p1 p3 x4 k1 (w64 (x8 + 1)) s15 else some x9)
def impl_Colouring_hasClique_l0 (k : Nat) (self : Col → Int → Int → (List Int) → Option (Bool)) (p0 : Col) (p1 : Int) (p2 : Int) (p3 : List Int) : Nat → Int → Option (Sum (Unit) (Bool))
 | 0, _ => none
 | k0 + 1, x4 => (if decide (x4 < (p3.length : Int)) then ((if 0 ≤ x4 ∧ x4 < (p3.length : Int) then ((if 0 ≤ w64 (x4 + 1) ∧ w64 (x4 + 1) ≤ (p3.length : Int) ∧ (p3.length : Int) ≤ (p3.length : Int) then impl_Colouring_hasClique_l1 p0 p1 p3 x4 k 0 ([] : List Int) else none) : Option (List Int)).bind fun s16 => (self p0 p1 (w64 (p2 - 1)) s16).bind fun r17 => (if r17 then (some (.inr true)).bind fun rr => some (.inr rr) else some (.inl ())) else none) : Option (Sum (Unit) (Sum (Unit) (Bool)))).bind fun os19 => (match os19 with | .inl s19 => impl_Colouring_hasClique_l0 k self p0 p1 p2 p3 k0 (w64 (x4 + 1)) | .inr rr => some rr) else some (.inl ()))
def impl_Colouring_hasClique_body (self : Col → Int → Int → (List Int) → Option (Bool)) (k : Nat) (p0 : Col) (p1 : Int) (p2 : Int) (p3 : List Int) : Option (Bool) :=
 (if decide (p2 ≤ 0) then some true else (if decide ((impl_size p3) < p2) then some false else (impl_Colouring_hasClique_l0 k self p0 p1 p2 p3 k 0 : Option (Sum (Unit) (Bool))).bind fun os20 => (match os20 with | .inl s20 => some false | .inr rr => some rr)))
def impl_Colouring_hasClique : Nat → Col → Int → Int → (List Int) → Option (Bool)
 | 0, _, _, _, _ => none
 | k + 1, p0, p1, p2, p3 => impl_Colouring_hasClique_body (impl_Colouring_hasClique k) k p0 p1 p2 p3
set_option maxRecDepth 100000 in
theorem impl_Colouring_hasClique_ac (k : Nat) (p0 : Col) (p1 : Int) (p2 : Int) (p3 : List Int) (r : Bool) (h : impl_Colouring_hasClique k p0 p1 p2 p3 = some r) : AC Try.prog 38 [.d (.pv (colD p0) 0), iV p1, iV p2, .d (.sl none (intsD p3))] [] (fun res H' => res = [bV r] ∧ H' = []) := by
 induction k generalizing p0 p1 p2 p3 r with
 | zero => simp [impl_Colouring_hasClique] at h
 | succ k ih =>
  rw [impl_Colouring_hasClique] at h
  obtain ⟨self, hself, hk⟩ : ∃ self : Col → Int → Int → (List Int) → Option (Bool), (∀ (p0 : Col) (p1 : Int) (p2 : Int) (p3 : List Int) (r : Bool), self p0 p1 p2 p3 = some r → AC Try.prog 38 [.d (.pv (colD p0) 0), iV p1, iV p2, .d (.sl none (intsD p3))] [] (fun res H' => res = [bV r] ∧ H' = [])) ∧ impl_Colouring_hasClique k = self := ⟨impl_Colouring_hasClique k, fun p0 p1 p2 p3 r h => ih p0 p1 p2 p3 r h, rfl⟩
  rw [hk] at h
  clear ih hk
  refine AC_of_body true Try.func38 rfl Try.ntmps38 (rvs := [.tmp 8]) rfl rfl (fun G hG => ?_)
  have hm : G.H.length = 0 := by rw [hG]; rfl
  have hz : zeroG G.H = true := by rw [hG]; rfl
  unfold impl_Colouring_hasClique_body at h
  refine kR ?_
  refine kN 1 rfl ?_
  refine ACode_seq ?_
  refine kR ?_
  refine kM 1 rfl ?_
  refine AOps_q 15 _ rfl rfl rfl (QOp_leq _ _ _ _ _ _ _ rfl rfl rfl) ?_
  refine AOps_nil ?_
  refine kI h rfl (fun h _ => ?_) (fun h _ => ?_)
  ·refine kR ?_
   refine kN 1 rfl ?_
   refine ACode_ret ?_
   cases h
   exact ⟨_, _, fun r a w h => ⟨r, h⟩, _, _, [], _, (.cons (ResV_tmp _ _ rfl) .nil), rfl, rfl, rfl, rfl, rfl⟩
  refine ACode_skip ?_
  refine ACode_seq ?_
  refine kR ?_
  refine kM 1 rfl ?_
  refine kC [] 17 (iV (impl_size p3)) [] rfl Try.call36 rfl rfl (impl_size_ac p3) rfl ?_
  refine kM 1 rfl ?_
  refine AOps_q 19 _ rfl rfl rfl (QOp_lss _ _ _ _ _ _ _ rfl rfl rfl) ?_
  refine AOps_nil ?_
  refine kI h rfl (fun h _ => ?_) (fun h _ => ?_)
  ·refine kR ?_
   refine kN 1 rfl ?_
   refine ACode_ret ?_
   cases h
   exact ⟨_, _, fun r a w h => ⟨r, h⟩, _, _, [], _, (.cons (ResV_tmp _ _ rfl) .nil), rfl, rfl, rfl, rfl, rfl⟩
  refine ACode_skip ?_
  refine kO (fun s20 => []) (fun s20 => []) h (fun os20 h hks20 => ?_) (fun s20 h => ?_)
  ·refine kR ?_
   refine kM 1 rfl ?_
   refine AOps_q 21 _ rfl rfl rfl (QOp_len_sl _ _ _ _ _ _ _ (intsD_length _) rfl rfl rfl rfl Try.underlying25 rfl) ?_
   refine kN 1 rfl ?_
   refine ACode_block ?_
   refine ACode_loopW (fun k0 E H => ∃ (x4 : Int), E = [(0, .d (.pv (colD p0) 0)), (1, iV p1), (2, iV p2), (3, .d (.sl none (intsD p3))), (20, .d (.sl none (intsD p3))), (21, iV (p3.length : Int)), (22, iV x4)] ∧ H = [] ∧ impl_Colouring_hasClique_l0 k self p0 p1 p2 p3 k0 x4 = some os20) k _ _ (Weak_keep 0 hm [0, 1, 2, 3, 20, 21, 22] [] _ _ rfl rfl rfl) ⟨_, rfl, rfl, h⟩ ?_
   clear h
   rintro k0 E H ⟨x4, rfl, rfl, h⟩
   cases k0 with
   | zero => cases (show (none : Option (Sum (Unit) (Bool))) = some _ from h)
   | succ k0 =>
    rw [impl_Colouring_hasClique_l0] at h
    refine kR ?_
    refine AOps_q 23 _ rfl rfl rfl (QOp_lss _ _ _ _ _ _ _ rfl rfl rfl) ?_
    refine AOps_nil ?_
    refine ACode_seq ?_
    refine kI h rfl (fun h _ => ?_) (fun h _ => ?_)
    ·refine ACode_skip ?_
     refine kO (fun s19 => [(0, .d (.pv (colD p0) 0)), (1, iV p1), (2, iV p2), (3, .d (.sl none (intsD p3))), (20, .d (.sl none (intsD p3))), (21, iV (p3.length : Int)), (22, iV x4)]) (fun s19 => []) h (fun os19 h hks19 => ?_) (fun s19 h => ?_)
     ·refine ACode_block ?_
      refine kR ?_
      refine kM 1 rfl ?_
      obtain ⟨hc6, h⟩ := guardO h
      refine AOps_q 25 _ rfl rfl rfl (QOp_indexAddr_sl _ _ _ _ _ _ _ _ rfl Try.underlying25 Try.sizeOf2 hc6.1 (by rw [intsD_length]; exact hc6.2) rfl rfl) ?_
      refine AOps_q 26 _ rfl rfl rfl (QOp_load_pv _ _ _ _ _ rfl Try.isAgg2 rfl (intsD_get _ _ 0 (by omega))) ?_
      refine kN 2 rfl ?_
      refine kR ?_
      refine AOps_buildSlice 27 _ _ _ [] (intsD ([] : List Int)) _ rfl rfl rfl rfl rfl (by decide) Try.underlying25 Try.sizeOf2 (zero_of Try.typeInfo2 rfl) rfl rfl (intsD_one _) ?_
      refine kN 1 rfl ?_
      refine kB (fun s16 => [(0, .d (.pv (colD p0) 0)), (1, iV p1), (2, iV p2), (3, .d (.sl none (intsD p3))), (11, .vec 0 0), (20, .d (.sl none (intsD p3))), (21, iV (p3.length : Int)), (22, iV x4)]) (fun s16 => [.vec 0 (intsD s16)]) h (fun s16 h => ?_) (fun s16 h => ?_)
      ·refine kR ?_
       refine kM 2 rfl ?_
       refine AOps_q 30 _ rfl rfl rfl (QOp_add _ _ _ _ _ _ _ rfl rfl rfl) ?_
       obtain ⟨hc7, h⟩ := guardO h
       refine AOps_q 31 _ rfl rfl rfl (QOp_slice_sl _ _ _ _ _ _ _ _ ((w64 (x4 + 1)).toNat) (p3.length) rfl Try.underlying25 Try.sizeOf2 rfl ⟨_, by rw [Int.toNat_of_nonneg (by omega)]; rfl⟩ (by rw [intsD_length]) (by omega) (by rw [intsD_length]; omega) (intsD_part _ _ _)) ?_
       refine AOps_q 32 _ rfl rfl rfl (QOp_len_sl _ _ _ _ _ _ _ (intsD_length _) rfl rfl rfl rfl Try.underlying25 rfl) ?_
       refine kN 1 rfl ?_
       refine ACode_block ?_
       refine ACode_loopW (fun k1 E H => ∃ (x8 : Int) (x9 : List Int), E = [(0, .d (.pv (colD p0) 0)), (1, iV p1), (2, iV p2), (3, .d (.sl none (intsD p3))), (10, iV (p3.getD x4.toNat 0)), (11, .vec 0 0), (20, .d (.sl none (intsD p3))), (21, iV (p3.length : Int)), (22, iV x4), (31, .d (.sl none (intsD ((p3.take p3.length).drop (w64 (x4 + 1)).toNat)))), (32, iV (((p3.take p3.length).drop (w64 (x4 + 1)).toNat).length : Int)), (33, iV x8)] ∧ H = [.vec 0 (intsD x9)] ∧ impl_Colouring_hasClique_l1 p0 p1 p3 x4 k1 x8 x9 = some s16) k _ _ (Weak_keep 0 hm [0, 1, 2, 3, 10, 11, 20, 21, 22, 31, 32, 33] [0] _ _ rfl rfl rfl) ⟨_, _, rfl, rfl, h⟩ ?_
       clear h
       rintro k1 E H ⟨x8, x9, rfl, rfl, h⟩
       cases k1 with
       | zero => cases (show (none : Option (List Int)) = some _ from h)
       | succ k1 =>
        rw [impl_Colouring_hasClique_l1] at h
        refine kR ?_
        refine AOps_q 34 _ rfl rfl rfl (QOp_lss _ _ _ _ _ _ _ rfl rfl rfl) ?_
        refine AOps_nil ?_
        refine ACode_seq ?_
        refine kI h rfl (fun h _ => ?_) (fun h _ => ?_)
        ·refine ACode_skip ?_
         refine kB (fun s15 => [(0, .d (.pv (colD p0) 0)), (1, iV p1), (2, iV p2), (3, .d (.sl none (intsD p3))), (10, iV (p3.getD x4.toNat 0)), (11, .vec 0 0), (20, .d (.sl none (intsD p3))), (21, iV (p3.length : Int)), (22, iV x4), (31, .d (.sl none (intsD ((p3.take p3.length).drop (w64 (x4 + 1)).toNat)))), (32, iV (((p3.take p3.length).drop (w64 (x4 + 1)).toNat).length : Int)), (33, iV x8)]) (fun s15 => [.vec 0 (intsD s15)]) h (fun s15 h => ?_) (fun s15 h => ?_)
         ·refine ACode_block ?_
          refine kR ?_
          obtain ⟨hc11, h⟩ := guardO h
          refine AOps_q 35 _ rfl rfl rfl (QOp_indexAddr_sl _ _ _ _ _ _ _ _ rfl Try.underlying25 Try.sizeOf2 hc11.1 (by rw [intsD_length]; exact hc11.2) rfl rfl) ?_
          refine AOps_q 36 _ rfl rfl rfl (QOp_load_pv _ _ _ _ _ rfl Try.isAgg2 rfl (intsD_get _ _ 0 (by omega))) ?_
          refine kN 1 rfl ?_
          refine kR ?_
          refine kM 4 rfl ?_
          obtain ⟨r12, hr12, h⟩ := bindO h
          refine kC [] 41 (bV r12) [.vec 0 (intsD x9)] rfl Try.call37 rfl rfl (impl_Colouring_joins_ac p0 (p3.getD x4.toNat 0) (((p3.take p3.length).drop (w64 (x4 + 1)).toNat).getD x8.toNat 0) p1 _ hr12) rfl ?_
          refine AOps_nil ?_
          refine kI h rfl (fun h _ => ?_) (fun h _ => ?_)
          ·refine (ACode_region ?_)
           refine kM 2 rfl ?_
           refine AOps_buildSlice 44 _ _ _ [_] (intsD ([(((p3.take p3.length).drop (w64 (x4 + 1)).toNat).getD x8.toNat 0)])) _ rfl rfl rfl rfl rfl (by decide) Try.underlying25 Try.sizeOf2 (zero_of Try.typeInfo2 rfl) rfl rfl (intsD_one _) ?_
           obtain ⟨hc14, h⟩ := guardO h
           refine AOps_append 45 _ _ _ _ _ _ _ _ _ _ _ _ rfl rfl rfl rfl rfl rfl rfl Try.underlying25 Try.type2 rfl rfl rfl (by decide) rfl rfl rfl rfl (intsD_one _) (by rw [intsD_length, intsD_length]; exact hc14) ?_
           rw [intsD_app]
           refine kN 1 rfl ?_
           cases h
           exact Weak_trans (Weak_keep 0 hm [0, 1, 2, 3, 10, 11, 20, 21, 22, 31, 32, 33] [0] _ _ rfl rfl rfl) (Weak_reset 0 hm hz [0, 1, 2, 3, 10, 11, 20, 21, 22, 31, 32, 33] _ _ rfl rfl)
          refine ACode_skip ?_
          cases h
          exact Weak_keep 0 hm [0, 1, 2, 3, 10, 11, 20, 21, 22, 31, 32, 33] [0] _ _ rfl rfl rfl
         refine (ACode_region ?_)
         refine AOps_q 46 _ rfl rfl rfl (QOp_add _ _ _ _ _ _ _ rfl rfl rfl) ?_
         refine kN 1 rfl ?_
         exact ⟨k1, _, _, Nat.lt_succ_self _, Weak_keep 0 hm [0, 1, 2, 3, 10, 11, 20, 21, 22, 31, 32, 33] [0] _ _ rfl rfl rfl, _, _, rfl, rfl, h⟩
        refine ACode_exit ?_
        cases h
        exact Weak_keep 0 hm [0, 1, 2, 3, 11, 20, 21, 22] [0] _ _ rfl rfl rfl
      refine kR ?_
      refine kM 3 rfl ?_
      refine AOps_q 50 _ rfl rfl rfl (QOp_sub _ _ _ _ _ _ _ rfl rfl rfl) ?_
      refine kM 1 rfl ?_
      obtain ⟨r17, hr17, h⟩ := bindO h
      refine AOps_callL [] 52 _ _ _ _ _ _ _ _ _ _ rfl rfl rfl rfl rfl rfl rfl Try.call38 rfl (nodupB_sound _ rfl) rfl rfl rfl (hself p0 p1 (w64 (p2 - 1)) s16 _ hr17) ?_
      rintro _ _ ⟨rfl, rfl⟩
      refine ⟨(fun _ h => nomatch h), (allc (flat_s _) (fun _ h => nomatch h)), AOps_as 52 (v' := bV r17) (H' := [.vec 0 (intsD s16)]) rfl rfl ?_⟩
      refine AOps_nil ?_
      refine kI h rfl (fun h _ => ?_) (fun h _ => ?_)
      ·refine kR ?_
       refine kN 1 rfl ?_
       refine ACode_ret ?_
       obtain ⟨rr, hz21, h2⟩ := bindO h
       obtain rfl := Option.some.inj h2
       obtain rfl := Option.some.inj (show some rr = some _ from hks19)
       have h := hz21
       cases h
       have h := hks20
       cases h
       exact ⟨_, _, fun r a w h => ⟨r, h⟩, _, _, [], _, (.cons (ResV_tmp _ _ rfl) .nil), rfl, rfl, rfl, rfl, rfl⟩
      refine ACode_skip ?_
      cases h
      exact ⟨_, rfl, Weak_keep 0 hm [0, 1, 2, 3, 20, 21, 22] [] _ _ rfl rfl rfl⟩
     refine (ACode_region ?_)
     refine AOps_q 53 _ rfl rfl rfl (QOp_add _ _ _ _ _ _ _ rfl rfl rfl) ?_
     refine kN 1 rfl ?_
     exact ⟨k0, _, _, Nat.lt_succ_self _, Weak_keep 0 hm [0, 1, 2, 3, 20, 21, 22] [] _ _ rfl rfl rfl, _, rfl, rfl, h⟩
    refine ACode_exit ?_
    cases h
    exact ⟨_, rfl, Weak_keep 0 hm [] [] _ _ rfl rfl rfl⟩
  refine kR ?_
  refine kN 1 rfl ?_
  refine ACode_ret ?_
  cases h
  exact ⟨_, _, fun r a w h => ⟨r, h⟩, _, _, [], _, (.cons (ResV_tmp _ _ rfl) .nil), rfl, rfl, rfl, rfl, rfl⟩

-- (*loop.example/g01362/impl.Colouring).extensions
def impl_Colouring_extensions_on_ExtensionList_c1_l1 (p0 : Col) (p2 : List Int) (p2n : Nat) (x4 : Int) (x5 : List Int) : Nat → Int → (List Int) → Option (List Int)
 | 0, _, _ => none
 | k1 + 1, x8, x9 => (if decide (x8 < ((p2n : Nat) : Int)) then ((if 0 ≤ x8 ∧ x8 < ((p2n : Nat) : Int) ∧ 0 + p2n ≤ x5.length then ((if decide ((x5.getD (0 + x8.toNat) 0) = x4) then (impl_Colouring_joins p0 x8 (impl_size ((p2.drop 0).take p2n)) x4).bind fun r13 => some r13 else some false) : Option (Bool)).bind fun s14 => (if s14 then (if x9.length + ([x8]).length ≤ 1099511627776 then some (x9 ++ ([x8])) else none) else some x9) else none) : Option (List Int)).bind fun s17 => impl_Colouring_extensions_on_ExtensionList_c1_l1 p0 p2 p2n x4 x5 k1 (w64 (x8 + 1)) s17 else some x9)
def impl_Colouring_extensions_on_ExtensionList_c1_l0 (k : Nat) (self : Col → (List Int) → (List Int) → Nat → (List (List Int)) → Option (Bool × List Int × List (List Int))) (p0 : Col) (p1 : List Int) (p2 : List Int) (p2n : Nat) : Nat → Int → (List Int) → (List (List Int)) → Option (Sum (List Int × List (List Int)) (Bool × List Int × List (List Int)))
 | 0, _, _, _ => none
 | k0 + 1, x4, x5, x6 => (if decide (x4 < p0.k) then ((impl_Colouring_extensions_on_ExtensionList_c1_l1 p0 p2 p2n x4 x5 k 0 ([] : List Int) : Option (List Int)).bind fun s18 => ((if 0 ≤ x4 ∧ x4 < (p1.length : Int) then (impl_Colouring_hasClique k p0 x4 (w64 ((p1.getD x4.toNat 0) - 2)) s18).bind fun r20 => (if !r20 then (if 0 + p2n + ([x4]).length ≤ x5.length ∧ 1 ≤ ([x4]).length then (self p0 p1 (splicedL x5 (0 + p2n) (([x4]).length) ([x4])) (p2n + ([x4]).length) x6).bind fun r23 => some (!r23.1, r23.2.1, r23.2.2) else none) else some (false, x5, x6)) else none) : Option (Bool × List Int × List (List Int))).bind fun s24 => (if s24.1 then (some (.inr (false, s24.2.1, s24.2.2))).bind fun rr => some (.inr rr) else some (.inl (s24.2.1, s24.2.2))) : Option (Sum (List Int × List (List Int)) (Sum (List Int × List (List Int)) (Bool × List Int × List (List Int))))).bind fun os26 => (match os26 with | .inl s26 => impl_Colouring_extensions_on_ExtensionList_c1_l0 k self p0 p1 p2 p2n k0 (w64 (x4 + 1)) s26.1 s26.2 | .inr rr => some rr) else some (.inl (x5, x6)))
def impl_Colouring_extensions_on_ExtensionList_c1_body (self : Col → (List Int) → (List Int) → Nat → (List (List Int)) → Option (Bool × List Int × List (List Int))) (k : Nat) (p0 : Col) (p1 : List Int) (p2 : List Int) (p2n : Nat) (p3_0 : List (List Int)) : Option (Bool × List Int × List (List Int)) :=
 (if decide ((impl_size ((p2.drop 0).take p2n)) = p0.p) then (impl_ExtensionList_c1 p2 p2n p3_0).bind fun r3 => some (r3.1, r3.2.1, r3.2.2) else (impl_Colouring_extensions_on_ExtensionList_c1_l0 k self p0 p1 p2 p2n k 0 p2 p3_0 : Option (Sum (List Int × List (List Int)) (Bool × List Int × List (List Int)))).bind fun os27 => (match os27 with | .inl s27 => some (true, s27.1, s27.2) | .inr rr => some rr))
def impl_Colouring_extensions_on_ExtensionList_c1 : Nat → Col → (List Int) → (List Int) → Nat → (List (List Int)) → Option (Bool × List Int × List (List Int))
 | 0, _, _, _, _, _ => none
 | k + 1, p0, p1, p2, p2n, p3_0 => impl_Colouring_extensions_on_ExtensionList_c1_body (impl_Colouring_extensions_on_ExtensionList_c1 k) k p0 p1 p2 p2n p3_0
-- (*loop.example/g01362/impl.Colouring).extend
def impl_Colouring_extend_on_ExtensionList_c1 (k : Nat) (p0 : Col) (p1 : List Int) (p2_0 : List (List Int)) : Option (Bool × List (List Int)) :=
 (impl_Colouring_extensions_on_ExtensionList_c1 k p0 p1 (List.replicate 17 (0 : Int)) 0 p2_0).bind fun r2 => some (r2.1, r2.2.2)
-- loop.example/g01362/impl.ExtensionList
def impl_ExtensionList (k : Nat) (p0 : Col) (p1 : List Int) : Option (Option (List (List Int)) × Int) :=
 (impl_Colouring_extendingCode k p0 p1 (some (impl_always)) 12).bind fun r1 => (if !decide (r1 = 0) then some (none, r1) else (impl_Colouring_extend_on_ExtensionList_c1 k p0 p1 ([] : List (List Int))).bind fun r3 => (if !r3.1 then some (none, 3) else some (some r3.2, 0)))
-- (*loop.example/g01362/impl.Colouring).extensions
def impl_Colouring_extensions_o1_on_ExtensionList_c1_l1 (p0 : Col) (p2 : List Int) (p2n : Nat) (x4 : Int) (x5 : List Int) : Nat → Int → (List Int) → Option (List Int)
 | 0, _, _ => none
 | k1 + 1, x8, x9 => (if decide (x8 < ((p2n : Nat) : Int)) then ((if 0 ≤ x8 ∧ x8 < ((p2n : Nat) : Int) ∧ 0 + p2n ≤ x5.length then ((if decide ((x5.getD (0 + x8.toNat) 0) = x4) then (impl_Colouring_joins p0 x8 (impl_size ((p2.drop 0).take p2n)) x4).bind fun r13 => some r13 else some false) : Option (Bool)).bind fun s14 => (if s14 then (if x9.length + ([x8]).length ≤ 1099511627776 then some (x9 ++ ([x8])) else none) else some x9) else none) : Option (List Int)).bind fun s17 => impl_Colouring_extensions_o1_on_ExtensionList_c1_l1 p0 p2 p2n x4 x5 k1 (w64 (x8 + 1)) s17 else some x9)
def impl_Colouring_extensions_o1_on_ExtensionList_c1_l0 (k : Nat) (self : Col → (List Int) → (List Int) → Nat → (List (List Int)) → Option (Bool × List Int × List (List Int))) (p0 : Col) (p1 : List Int) (p2 : List Int) (p2n : Nat) : Nat → Int → (List Int) → (List (List Int)) → Option (Sum (List Int × List (List Int)) (Bool × List Int × List (List Int)))
 | 0, _, _, _ => none
 | k0 + 1, x4, x5, x6 => (if decide (x4 < p0.k) then ((impl_Colouring_extensions_o1_on_ExtensionList_c1_l1 p0 p2 p2n x4 x5 k 0 ([] : List Int) : Option (List Int)).bind fun s18 => ((if 0 ≤ x4 ∧ x4 < (p1.length : Int) then (impl_Colouring_hasClique k p0 x4 (w64 ((p1.getD x4.toNat 0) - 2)) s18).bind fun r20 => (if !r20 then (if 0 + p2n + ([x4]).length ≤ x5.length ∧ 1 ≤ ([x4]).length then (self p0 p1 (splicedL x5 (0 + p2n) (([x4]).length) ([x4])) (p2n + ([x4]).length) x6).bind fun r23 => some (!r23.1, r23.2.1, r23.2.2) else none) else some (false, x5, x6)) else none) : Option (Bool × List Int × List (List Int))).bind fun s24 => (if s24.1 then (some (.inr (false, s24.2.1, s24.2.2))).bind fun rr => some (.inr rr) else some (.inl (s24.2.1, s24.2.2))) : Option (Sum (List Int × List (List Int)) (Sum (List Int × List (List Int)) (Bool × List Int × List (List Int))))).bind fun os26 => (match os26 with | .inl s26 => impl_Colouring_extensions_o1_on_ExtensionList_c1_l0 k self p0 p1 p2 p2n k0 (w64 (x4 + 1)) s26.1 s26.2 | .inr rr => some rr) else some (.inl (x5, x6)))
def impl_Colouring_extensions_o1_on_ExtensionList_c1_body (self : Col → (List Int) → (List Int) → Nat → (List (List Int)) → Option (Bool × List Int × List (List Int))) (k : Nat) (p0 : Col) (p1 : List Int) (p2 : List Int) (p2n : Nat) (p3_0 : List (List Int)) : Option (Bool × List Int × List (List Int)) :=
 (if decide ((impl_size ((p2.drop 0).take p2n)) = p0.p) then (impl_ExtensionList_c1 p2 p2n p3_0).bind fun r3 => some (r3.1, r3.2.1, r3.2.2) else (impl_Colouring_extensions_o1_on_ExtensionList_c1_l0 k self p0 p1 p2 p2n k 0 p2 p3_0 : Option (Sum (List Int × List (List Int)) (Bool × List Int × List (List Int)))).bind fun os27 => (match os27 with | .inl s27 => some (true, s27.1, s27.2) | .inr rr => some rr))
def impl_Colouring_extensions_o1_on_ExtensionList_c1 : Nat → Col → (List Int) → (List Int) → Nat → (List (List Int)) → Option (Bool × List Int × List (List Int))
 | 0, _, _, _, _, _ => none
 | k + 1, p0, p1, p2, p2n, p3_0 => impl_Colouring_extensions_o1_on_ExtensionList_c1_body (impl_Colouring_extensions_o1_on_ExtensionList_c1 k) k p0 p1 p2 p2n p3_0
set_option maxRecDepth 100000 in
theorem impl_Colouring_extensions_o1_on_ExtensionList_c1_ac (k : Nat) (p0 : Col) (p1 : List Int) (p2 : List Int) (p2n : Nat) (p3_0 : List (List Int)) (r : Bool × List Int × List (List Int)) (h : impl_Colouring_extensions_o1_on_ExtensionList_c1 k p0 p1 p2 p2n p3_0 = some r) : AC Try.prog 26 [.d (.pv (colD p0) 0), .vec 0 0, .part 1 0 0 p2n, .clo 19 [.ptr 2 0]] [.vec 0 (intsD p1), .vec 0 (intsD p2), .ref (.vec 3 0), .vec 0 (rowsD p3_0)] (fun res H' => res = [bV r.1] ∧ H' = [.vec 0 (intsD p1), .vec 0 (intsD r.2.1), .ref (.vec 3 1), .vec 1 (rowsD r.2.2)]) := by
 induction k generalizing p0 p1 p2 p2n p3_0 r with
 | zero => simp [impl_Colouring_extensions_o1_on_ExtensionList_c1] at h
 | succ k ih =>
  rw [impl_Colouring_extensions_o1_on_ExtensionList_c1] at h
  obtain ⟨self, hself, hk⟩ : ∃ self : Col → (List Int) → (List Int) → Nat → (List (List Int)) → Option (Bool × List Int × List (List Int)), (∀ (p0 : Col) (p1 : List Int) (p2 : List Int) (p2n : Nat) (p3_0 : List (List Int)) (r : Bool × List Int × List (List Int)), self p0 p1 p2 p2n p3_0 = some r → AC Try.prog 26 [.d (.pv (colD p0) 0), .vec 0 0, .part 1 0 0 p2n, .clo 19 [.ptr 2 0]] [.vec 0 (intsD p1), .vec 0 (intsD p2), .ref (.vec 3 0), .vec 0 (rowsD p3_0)] (fun res H' => res = [bV r.1] ∧ H' = [.vec 0 (intsD p1), .vec 0 (intsD r.2.1), .ref (.vec 3 1), .vec 1 (rowsD r.2.2)])) ∧ impl_Colouring_extensions_o1_on_ExtensionList_c1 k = self := ⟨impl_Colouring_extensions_o1_on_ExtensionList_c1 k, fun p0 p1 p2 p2n p3_0 r h => ih p0 p1 p2 p2n p3_0 r h, rfl⟩
  rw [hk] at h
  clear ih hk
  refine AC_of_body true Try.func26 rfl Try.ntmps26 (rvs := [.tmp 8]) rfl rfl (fun G hG => ?_)
  have hm : G.H.length = 4 := by rw [hG]; rfl
  have hz : zeroG G.H = true := by rw [hG]; rfl
  refine ACode_weak (Weak_bump 2 3 _ rfl rfl _ rfl) ?_
  unfold impl_Colouring_extensions_o1_on_ExtensionList_c1_body at h
  refine kR ?_
  refine kN 1 rfl ?_
  refine kR ?_
  refine kM 1 rfl ?_
  refine AOps_callL [] 15 _ _ _ _ _ _ _ _ _ _ rfl rfl rfl rfl rfl rfl rfl Try.call36 rfl (nodupB_sound _ rfl) rfl rfl rfl (by have q := impl_size_ac ((p2.drop 0).take p2n); simp only [intsD_dt] at q; exact q) ?_
  rintro _ _ ⟨rfl, rfl⟩
  refine ⟨(fun _ h => nomatch h), (allc (flat_s _) (fun _ h => nomatch h)), AOps_as 15 (v' := iV (impl_size ((p2.drop 0).take p2n))) (H' := [.vec 0 (intsD p1), .vec 0 (intsD p2), .ref (.vec 3 1), .vec 1 (rowsD p3_0)]) rfl rfl ?_⟩
  refine kN 1 rfl ?_
  refine ACode_seq ?_
  refine kR ?_
  refine kM 2 rfl ?_
  refine AOps_q 18 _ rfl rfl rfl (QOp_nilCheck_pv _ _ _ rfl rfl) ?_
  refine AOps_q 19 _ rfl rfl rfl (QOp_fieldAddr_pv _ _ _ _ _ 0 _ _ rfl Try.underlying29 rfl _ Try.sizeOf2 rfl rfl) ?_
  refine AOps_q 20 _ rfl rfl rfl (QOp_load_pv _ _ _ _ _ rfl Try.isAgg2 rfl rfl) ?_
  refine AOps_q 21 _ rfl rfl rfl (QOp_eql _ _ _ _ _ _ _ rfl rfl rfl) ?_
  refine AOps_nil ?_
  refine kI h rfl (fun h _ => ?_) (fun h _ => ?_)
  ·refine kR ?_
   refine kM 2 rfl ?_
   obtain ⟨r3, hr3, h⟩ := bindO h
   refine kC [1, 2, 3] 24 (bV r3.1) [.vec 0 (intsD p1), .vec 0 (intsD r3.2.1), .ref (.vec 3 2), .vec 2 (rowsD r3.2.2)] rfl Try.call19 rfl rfl (impl_ExtensionList_c1_ac p2 p2n p3_0 _ hr3) rfl ?_
   refine kN 1 rfl ?_
   refine ACode_ret ?_
   cases h
   exact ⟨_, _, Weak_reset 4 hm hz [8] _ _ rfl rfl, _, _, [], _, (.cons (ResV_tmp _ _ rfl) .nil), rfl, rfl, rfl, rfl, rfl⟩
  refine ACode_skip ?_
  refine kO (fun s27 => []) (fun s27 => [.vec 0 (intsD p1), .vec 0 (intsD s27.1), .ref (.vec 3 1), .vec 1 (rowsD s27.2)]) h (fun os27 h hks27 => ?_) (fun s27 h => ?_)
  ·refine kR ?_
   refine kM 1 rfl ?_
   refine AOps_q 26 _ rfl rfl rfl (QOp_nilCheck_pv _ _ _ rfl rfl) ?_
   refine AOps_q 27 _ rfl rfl rfl (QOp_fieldAddr_pv _ _ _ _ _ 1 _ _ rfl Try.underlying29 rfl _ Try.sizeOf2 rfl rfl) ?_
   refine AOps_q 28 _ rfl rfl rfl (QOp_load_pv _ _ _ _ _ rfl Try.isAgg2 rfl rfl) ?_
   refine kN 1 rfl ?_
   refine ACode_block ?_
   refine ACode_loopW (fun k0 E H => ∃ (x4 : Int) (x5 : List Int) (x6 : List (List Int)), E = [(0, .d (.pv (colD p0) 0)), (1, .vec 0 0), (2, .part 1 0 0 p2n), (3, .clo 19 [.ptr 2 0]), (9, iV (impl_size ((p2.drop 0).take p2n))), (28, iV p0.k), (29, iV x4)] ∧ H = [.vec 0 (intsD p1), .vec 0 (intsD x5), .ref (.vec 3 1), .vec 1 (rowsD x6)] ∧ impl_Colouring_extensions_o1_on_ExtensionList_c1_l0 k self p0 p1 p2 p2n k0 x4 x5 x6 = some os27) k _ _ (Weak_keep 4 hm [0, 1, 2, 3, 9, 28, 29] [] _ _ rfl rfl rfl) ⟨_, _, _, rfl, rfl, h⟩ ?_
   clear h
   rintro k0 E H ⟨x4, x5, x6, rfl, rfl, h⟩
   cases k0 with
   | zero => cases (show (none : Option (Sum (List Int × List (List Int)) (Bool × List Int × List (List Int)))) = some _ from h)
   | succ k0 =>
    rw [impl_Colouring_extensions_o1_on_ExtensionList_c1_l0] at h
    refine kR ?_
    refine AOps_q 30 _ rfl rfl rfl (QOp_lss _ _ _ _ _ _ _ rfl rfl rfl) ?_
    refine AOps_nil ?_
    refine ACode_seq ?_
    refine kI h rfl (fun h _ => ?_) (fun h _ => ?_)
    ·refine ACode_skip ?_
     refine kO (fun s26 => [(0, .d (.pv (colD p0) 0)), (1, .vec 0 0), (2, .part 1 0 0 p2n), (3, .clo 19 [.ptr 2 0]), (9, iV (impl_size ((p2.drop 0).take p2n))), (28, iV p0.k), (29, iV x4)]) (fun s26 => [.vec 0 (intsD p1), .vec 0 (intsD s26.1), .ref (.vec 3 1), .vec 1 (rowsD s26.2)]) h (fun os26 h hks26 => ?_) (fun s26 h => ?_)
     ·refine ACode_block ?_
      refine kR ?_
      refine kN 2 rfl ?_
      refine kR ?_
      refine AOps_buildSlice 32 _ _ _ [] (intsD ([] : List Int)) _ rfl rfl rfl rfl rfl (by decide) Try.underlying25 Try.sizeOf2 (zero_of Try.typeInfo2 rfl) rfl rfl (intsD_one _) ?_
      refine kN 1 rfl ?_
      refine kB (fun s18 => [(0, .d (.pv (colD p0) 0)), (1, .vec 0 0), (2, .part 1 0 0 p2n), (3, .clo 19 [.ptr 2 0]), (9, iV (impl_size ((p2.drop 0).take p2n))), (10, iV x4), (11, .vec 4 0), (28, iV p0.k), (29, iV x4)]) (fun s18 => [.vec 0 (intsD p1), .vec 0 (intsD x5), .ref (.vec 3 1), .vec 1 (rowsD x6), .vec 0 (intsD s18)]) h (fun s18 h => ?_) (fun s18 h => ?_)
      ·refine kR ?_
       refine kM 1 rfl ?_
       refine AOps_q 34 _ rfl rfl rfl (QOp_len_part _ _ _ _ _ _ _ _ _ _ rfl rfl rfl rfl Try.underlying25 rfl rfl rfl) ?_
       refine kN 1 rfl ?_
       refine ACode_block ?_
       refine ACode_loopW (fun k1 E H => ∃ (x8 : Int) (x9 : List Int), E = [(0, .d (.pv (colD p0) 0)), (1, .vec 0 0), (2, .part 1 0 0 p2n), (3, .clo 19 [.ptr 2 0]), (9, iV (impl_size ((p2.drop 0).take p2n))), (10, iV x4), (11, .vec 4 0), (28, iV p0.k), (29, iV x4), (33, .part 1 0 0 p2n), (34, iV ((p2n : Nat) : Int)), (35, iV x8)] ∧ H = [.vec 0 (intsD p1), .vec 0 (intsD x5), .ref (.vec 3 1), .vec 1 (rowsD x6), .vec 0 (intsD x9)] ∧ impl_Colouring_extensions_o1_on_ExtensionList_c1_l1 p0 p2 p2n x4 x5 k1 x8 x9 = some s18) k _ _ (Weak_keep 4 hm [0, 1, 2, 3, 9, 10, 11, 28, 29, 33, 34, 35] [4] _ _ rfl rfl rfl) ⟨_, _, rfl, rfl, h⟩ ?_
       clear h
       rintro k1 E H ⟨x8, x9, rfl, rfl, h⟩
       cases k1 with
       | zero => cases (show (none : Option (List Int)) = some _ from h)
       | succ k1 =>
        rw [impl_Colouring_extensions_o1_on_ExtensionList_c1_l1] at h
        refine kR ?_
        refine AOps_q 36 _ rfl rfl rfl (QOp_lss _ _ _ _ _ _ _ rfl rfl rfl) ?_
        refine AOps_nil ?_
        refine ACode_seq ?_
        refine kI h rfl (fun h _ => ?_) (fun h _ => ?_)
        ·refine ACode_skip ?_
         refine kB (fun s17 => [(0, .d (.pv (colD p0) 0)), (1, .vec 0 0), (2, .part 1 0 0 p2n), (3, .clo 19 [.ptr 2 0]), (9, iV (impl_size ((p2.drop 0).take p2n))), (10, iV x4), (11, .vec 4 0), (28, iV p0.k), (29, iV x4), (33, .part 1 0 0 p2n), (34, iV ((p2n : Nat) : Int)), (35, iV x8)]) (fun s17 => [.vec 0 (intsD p1), .vec 0 (intsD x5), .ref (.vec 3 1), .vec 1 (rowsD x6), .vec 0 (intsD s17)]) h (fun s17 h => ?_) (fun s17 h => ?_)
         ·refine ACode_block ?_
          refine kR ?_
          refine kM 1 rfl ?_
          obtain ⟨hc11, h⟩ := guardO h
          refine AOps_q 38 _ rfl rfl rfl (QOp_indexAddr_part _ _ _ _ _ _ _ _ _ _ _ _ rfl Try.underlying25 Try.sizeOf2 hc11.1 hc11.2.1 rfl rfl rfl rfl) ?_
          refine AOps_q 39 _ rfl rfl rfl (QOp_load_eptr _ _ _ _ _ _ _ rfl Try.isAgg2 rfl rfl (intsD_get _ _ 0 (by omega))) ?_
          refine kN 2 rfl ?_
          refine kB (fun s14 => [(0, .d (.pv (colD p0) 0)), (1, .vec 0 0), (2, .part 1 0 0 p2n), (3, .clo 19 [.ptr 2 0]), (9, iV (impl_size ((p2.drop 0).take p2n))), (10, iV x4), (11, .vec 4 0), (12, iV x8), (28, iV p0.k), (29, iV x4), (33, .part 1 0 0 p2n), (34, iV ((p2n : Nat) : Int)), (35, iV x8), (49, bV s14)]) (fun s14 => [.vec 0 (intsD p1), .vec 0 (intsD x5), .ref (.vec 3 1), .vec 1 (rowsD x6), .vec 0 (intsD x9)]) h (fun s14 h => ?_) (fun s14 h => ?_)
          ·refine (ACode_region ?_)
           refine kM 2 rfl ?_
           refine AOps_q 42 _ rfl rfl rfl (QOp_eql _ _ _ _ _ _ _ rfl rfl rfl) ?_
           refine kM 1 rfl ?_
           refine AOps_case 43 _ rfl (fun hb12 => ?_) (fun hb12 => ?_)
           ·have h := iteT hb12 h
            refine kM 4 rfl ?_
            obtain ⟨r13, hr13, h⟩ := bindO h
            refine kC [] 48 (bV r13) [.vec 0 (intsD p1), .vec 0 (intsD x5), .ref (.vec 3 1), .vec 1 (rowsD x6), .vec 0 (intsD x9)] rfl Try.call37 rfl rfl (impl_Colouring_joins_ac p0 x8 (impl_size ((p2.drop 0).take p2n)) x4 _ hr13) rfl ?_
            refine kN 1 rfl ?_
            cases h
            exact Weak_keep 4 hm [0, 1, 2, 3, 9, 10, 11, 12, 28, 29, 33, 34, 35, 49] [4] _ _ rfl rfl rfl
           have h := iteF hb12 h
           refine AOps_skip 44 rfl rfl rfl ?_
           refine AOps_skip 45 rfl rfl rfl ?_
           refine AOps_skip 46 rfl rfl rfl ?_
           refine AOps_skip 47 rfl rfl rfl ?_
           refine AOps_skip 48 rfl rfl rfl ?_
           refine kN 1 rfl ?_
           cases h
           exact Weak_keep 4 hm [0, 1, 2, 3, 9, 10, 11, 12, 28, 29, 33, 34, 35, 49] [4] _ _ rfl rfl rfl
          refine kI h rfl (fun h _ => ?_) (fun h _ => ?_)
          ·refine (ACode_region ?_)
           refine kM 2 rfl ?_
           refine AOps_buildSlice 52 _ _ _ [_] (intsD ([x8])) _ rfl rfl rfl rfl rfl (by decide) Try.underlying25 Try.sizeOf2 (zero_of Try.typeInfo2 rfl) rfl rfl (intsD_one _) ?_
           obtain ⟨hc16, h⟩ := guardO h
           refine AOps_append 53 _ _ _ _ _ _ _ _ _ _ _ _ rfl rfl rfl rfl rfl rfl rfl Try.underlying25 Try.type2 rfl rfl rfl (by decide) rfl rfl rfl rfl (intsD_one _) (by rw [intsD_length, intsD_length]; exact hc16) ?_
           rw [intsD_app]
           refine kN 1 rfl ?_
           cases h
           exact Weak_trans (Weak_keep 4 hm [0, 1, 2, 3, 9, 10, 11, 28, 29, 33, 34, 35] [4] _ _ rfl rfl rfl) (Weak_reset 4 hm hz [0, 1, 2, 3, 9, 10, 11, 28, 29, 33, 34, 35] _ _ rfl rfl)
          refine ACode_skip ?_
          cases h
          exact Weak_keep 4 hm [0, 1, 2, 3, 9, 10, 11, 28, 29, 33, 34, 35] [4] _ _ rfl rfl rfl
         refine (ACode_region ?_)
         refine AOps_q 54 _ rfl rfl rfl (QOp_add _ _ _ _ _ _ _ rfl rfl rfl) ?_
         refine kN 1 rfl ?_
         exact ⟨k1, _, _, Nat.lt_succ_self _, Weak_keep 4 hm [0, 1, 2, 3, 9, 10, 11, 28, 29, 33, 34, 35] [4] _ _ rfl rfl rfl, _, _, rfl, rfl, h⟩
        refine ACode_exit ?_
        cases h
        exact Weak_keep 4 hm [0, 1, 2, 3, 9, 10, 11, 28, 29] [4] _ _ rfl rfl rfl
      refine kB (fun s24 => [(0, .d (.pv (colD p0) 0)), (1, .vec 0 0), (2, .part 1 0 0 p2n), (3, .clo 19 [.ptr 2 0]), (9, iV (impl_size ((p2.drop 0).take p2n))), (28, iV p0.k), (29, iV x4), (75, bV s24.1)]) (fun s24 => [.vec 0 (intsD p1), .vec 0 (intsD s24.2.1), .ref (.vec 3 1), .vec 1 (rowsD s24.2.2)]) h (fun s24 h => ?_) (fun s24 h => ?_)
      ·refine (ACode_region ?_)
       refine kM 4 rfl ?_
       obtain ⟨hc19, h⟩ := guardO h
       refine AOps_q 59 _ rfl rfl rfl (QOp_indexAddr_vec _ _ _ _ _ _ _ _ _ rfl Try.underlying25 Try.sizeOf2 hc19.1 (by rw [intsD_length]; exact hc19.2) rfl rfl rfl) ?_
       refine AOps_q 60 _ rfl rfl rfl (QOp_load_eptr _ _ _ _ _ _ _ rfl Try.isAgg2 rfl rfl (intsD_get _ _ 0 (by omega))) ?_
       refine AOps_q 61 _ rfl rfl rfl (QOp_sub _ _ _ _ _ _ _ rfl rfl rfl) ?_
       refine kM 1 rfl ?_
       obtain ⟨r20, hr20, h⟩ := bindO h
       refine AOps_callL [] 63 _ _ _ _ _ _ _ _ _ _ rfl rfl rfl rfl rfl rfl rfl Try.call38 rfl (nodupB_sound _ rfl) rfl rfl rfl (impl_Colouring_hasClique_ac k p0 x4 (w64 ((p1.getD x4.toNat 0) - 2)) s18 _ hr20) ?_
       rintro _ _ ⟨rfl, rfl⟩
       refine ⟨(fun _ h => nomatch h), (allc (flat_s _) (fun _ h => nomatch h)), AOps_as 63 (v' := bV r20) (H' := [.vec 0 (intsD p1), .vec 0 (intsD x5), .ref (.vec 3 1), .vec 1 (rowsD x6), .vec 0 (intsD s18)]) rfl rfl ?_⟩
       refine AOps_q 64 _ rfl rfl rfl (QOp_not _ _ _ rfl rfl) ?_
       refine kM 1 rfl ?_
       refine AOps_case 65 _ rfl (fun hb21 => ?_) (fun hb21 => ?_)
       ·have h := iteT hb21 h
        refine kM 4 rfl ?_
        refine AOps_buildSlice 70 _ _ _ [_] (intsD ([x4])) _ rfl rfl rfl rfl rfl (by decide) Try.underlying25 Try.sizeOf2 (zero_of Try.typeInfo2 rfl) rfl rfl (intsD_one _) ?_
        obtain ⟨hc22, h⟩ := guardO h
        refine AOps_append_part 71 _ _ _ _ _ 1 0 0 p2n (p2n + ([x4]).length) _ (intsD x5) (intsD ([x4])) _ rfl rfl rfl rfl rfl rfl rfl Try.underlying25 Try.type2 rfl rfl rfl rfl rfl (intsD_one _) (by rw [intsD_length]; exact hc22.2) (by rw [intsD_length, intsD_length]; exact hc22.1) (by rw [intsD_length]) ?_
        rw [intsD_length, intsD_spl]
        refine kM 1 rfl ?_
        obtain ⟨r23, hr23, h⟩ := bindO h
        refine kC [0, 1, 2, 3] 73 (bV r23.1) [.vec 0 (intsD p1), .vec 0 (intsD r23.2.1), .ref (.vec 3 2), .vec 2 (rowsD r23.2.2), .vec 0 (intsD s18), .vec 0 (intsD ([x4]))] rfl Try.call26 rfl rfl (hself p0 p1 (splicedL x5 (0 + p2n) (([x4]).length) ([x4])) (p2n + ([x4]).length) x6 _ hr23) rfl ?_
        refine AOps_q 74 _ rfl rfl rfl (QOp_not _ _ _ rfl rfl) ?_
        refine kN 1 rfl ?_
        cases h
        exact Weak_trans (Weak_keep 4 hm [0, 1, 2, 3, 9, 28, 29, 75] [] _ _ rfl rfl rfl) (Weak_reset 4 hm hz [0, 1, 2, 3, 9, 28, 29, 75] _ _ rfl rfl)
       have h := iteF hb21 h
       refine AOps_skip 66 rfl rfl rfl ?_
       refine AOps_skip 67 rfl rfl rfl ?_
       refine AOps_skip 68 rfl rfl rfl ?_
       refine AOps_skip 69 rfl rfl rfl ?_
       refine AOps_skip 70 rfl rfl rfl ?_
       refine AOps_skip 71 rfl rfl rfl ?_
       refine AOps_skip 72 rfl rfl rfl ?_
       refine AOps_skip 73 rfl rfl rfl ?_
       refine AOps_skip 74 rfl rfl rfl ?_
       refine kN 1 rfl ?_
       cases h
       exact Weak_keep 4 hm [0, 1, 2, 3, 9, 28, 29, 75] [] _ _ rfl rfl rfl
      refine kI h rfl (fun h _ => ?_) (fun h _ => ?_)
      ·refine kR ?_
       refine kN 1 rfl ?_
       refine ACode_ret ?_
       obtain ⟨rr, hz28, h2⟩ := bindO h
       obtain rfl := Option.some.inj h2
       obtain rfl := Option.some.inj (show some rr = some _ from hks26)
       have h := hz28
       cases h
       have h := hks27
       cases h
       exact ⟨_, _, fun r a w h => ⟨r, h⟩, _, _, [], _, (.cons (ResV_tmp _ _ rfl) .nil), rfl, rfl, rfl, rfl, rfl⟩
      refine ACode_skip ?_
      cases h
      exact ⟨_, rfl, Weak_keep 4 hm [0, 1, 2, 3, 9, 28, 29] [] _ _ rfl rfl rfl⟩
     refine (ACode_region ?_)
     refine AOps_q 76 _ rfl rfl rfl (QOp_add _ _ _ _ _ _ _ rfl rfl rfl) ?_
     refine kN 1 rfl ?_
     exact ⟨k0, _, _, Nat.lt_succ_self _, Weak_keep 4 hm [0, 1, 2, 3, 9, 28, 29] [] _ _ rfl rfl rfl, _, _, _, rfl, rfl, h⟩
    refine ACode_exit ?_
    cases h
    exact ⟨_, rfl, Weak_keep 4 hm [] [] _ _ rfl rfl rfl⟩
  refine kR ?_
  refine kN 1 rfl ?_
  refine ACode_ret ?_
  cases h
  exact ⟨_, _, fun r a w h => ⟨r, h⟩, _, _, [], _, (.cons (ResV_tmp _ _ rfl) .nil), rfl, rfl, rfl, rfl, rfl⟩

-- (*loop.example/g01362/impl.Colouring).extend
def impl_Colouring_extend_o1_on_ExtensionList_c1 (k : Nat) (p0 : Col) (p1 : List Int) (p2_0 : List (List Int)) : Option (Bool × List (List Int)) :=
 (impl_Colouring_extensions_o1_on_ExtensionList_c1 k p0 p1 (List.replicate 17 (0 : Int)) 0 p2_0).bind fun r2 => some (r2.1, r2.2.2)
set_option maxRecDepth 100000 in
theorem impl_Colouring_extend_o1_on_ExtensionList_c1_ac (k : Nat) (p0 : Col) (p1 : List Int) (p2_0 : List (List Int)) (r : Bool × List (List Int)) (h : impl_Colouring_extend_o1_on_ExtensionList_c1 k p0 p1 p2_0 = some r) : AC Try.prog 18 [.d (.pv (colD p0) 0), .vec 0 0, .clo 19 [.ptr 1 0]] [.vec 0 (intsD p1), .ref (.vec 2 0), .vec 0 (rowsD p2_0)] (fun res H' => res = [bV r.1] ∧ H' = [.vec 0 (intsD p1), .ref (.vec 2 1), .vec 1 (rowsD r.2)]) := by
 refine AC_of_body true Try.func18 rfl Try.ntmps18 (rvs := [.tmp 6]) rfl rfl (fun G hG => ?_)
 have hm : G.H.length = 3 := by rw [hG]; rfl
 have hz : zeroG G.H = true := by rw [hG]; rfl
 refine ACode_weak (Weak_bump 1 2 _ rfl rfl _ rfl) ?_
 unfold impl_Colouring_extend_o1_on_ExtensionList_c1 at h
 refine kR ?_
 refine kN 1 rfl ?_
 refine kR ?_
 refine kM 2 rfl ?_
 refine AOps_makeBufG intsD iD 0 (intsD_rep · _) 9 _ _ _ _ _ _ 17 _ (.int .i64 0) rfl rfl rfl rfl rfl rfl Try.underlying25 Try.type2 rfl rfl (by decide) rfl rfl (by decide) ?_
 refine kM 1 rfl ?_
 obtain ⟨r2, hr2, h⟩ := bindO h
 refine kC [0, 3, 1, 2] 11 (bV r2.1) [.vec 0 (intsD p1), .ref (.vec 2 2), .vec 2 (rowsD r2.2.2), .vec 0 (intsD r2.2.1)] rfl Try.call26 rfl rfl (impl_Colouring_extensions_o1_on_ExtensionList_c1_ac k p0 p1 (List.replicate 17 (0 : Int)) 0 p2_0 _ hr2) rfl ?_
 refine kN 1 rfl ?_
 refine ACode_ret ?_
 cases h
 exact ⟨_, _, Weak_reset 3 hm hz [6] _ _ rfl rfl, _, _, [], _, (.cons (ResV_tmp _ _ rfl) .nil), rfl, rfl, rfl, rfl, rfl⟩

-- loop.example/g01362/impl.ExtensionList
def impl_ExtensionList_o1 (k : Nat) (p0 : Col) (p1 : List Int) : Option (Option (List (List Int)) × Int) :=
 (impl_Colouring_extendingCode k p0 p1 (some (impl_always)) 12).bind fun r1 => (if !decide (r1 = 0) then some (none, r1) else (impl_Colouring_extend_o1_on_ExtensionList_c1 k p0 p1 ([] : List (List Int))).bind fun r3 => (if !r3.1 then some (none, 3) else some (some r3.2, 0)))
set_option maxRecDepth 100000 in
theorem impl_ExtensionList_o1_ac (k : Nat) (p0 : Col) (p1 : List Int) (r : Option (List (List Int)) × Int) (h : impl_ExtensionList_o1 k p0 p1 = some r) : AC Try.prog 7 [.d (.agg (colD p0)), .vec 0 0] [.vec 0 (intsD p1)] (fun res H' => res = [ownA 1 (r.1.map rowsD), iV r.2] ∧ H' = [.vec 0 (intsD p1)] ++ ownH (r.1.map rowsD)) := by
 refine AC_of_body false Try.func7 rfl Try.ntmps7 (rvs := [.tmp 4, .tmp 5]) rfl rfl (fun G hG => ?_)
 have hm : G.H.length = 1 := by rw [hG]; rfl
 have hz : zeroG G.H = true := by rw [hG]; rfl
 unfold impl_ExtensionList_o1 at h
 refine kR ?_
 refine AOps_boxI 2 _ _ (.agg (colD p0)) (colD p0) rfl (colD_one _) rfl rfl rfl rfl rfl ?_
 refine kN 2 rfl ?_
 refine ACode_seq ?_
 refine kR ?_
 refine kM 1 rfl ?_
 obtain ⟨r1, hr1, h⟩ := bindO h
 refine AOps_callL [] 10 _ _ _ _ _ _ _ _ _ _ rfl rfl rfl rfl rfl rfl rfl Try.call16 rfl (nodupB_sound _ rfl) rfl rfl rfl (impl_Colouring_extendingCode_ac k p0 p1 (some (impl_always)) 12 17 ([]) Try.call17 (fun r h => by cases h; exact impl_always_ac) _ hr1) ?_
 rintro _ _ ⟨rfl, rfl⟩
 refine ⟨(fun _ h => nomatch h), (allc (flat_s _) (fun _ h => nomatch h)), AOps_as 10 (v' := iV r1) (H' := [.vec 0 (intsD p1)]) rfl rfl ?_⟩
 refine kN 1 rfl ?_
 refine kR ?_
 refine kM 1 rfl ?_
 refine AOps_q 12 _ rfl rfl rfl (QOp_neq _ _ _ _ _ _ _ rfl rfl rfl) ?_
 refine AOps_nil ?_
 refine kI h rfl (fun h _ => ?_) (fun h _ => ?_)
 ·refine kR ?_
  refine kN 3 rfl ?_
  refine ACode_ret ?_
  cases h
  exact ⟨_, _, fun r a w h => ⟨r, h⟩, _, _, [], _, (.cons (ResV_tmp _ _ rfl) (.cons (ResV_tmp _ _ rfl) .nil)), rfl, rfl, rfl, rfl, rfl⟩
 refine ACode_skip ?_
 refine kR ?_
 refine AOps_buildSlice 14 _ _ _ [] (rowsD ([] : List (List Int))) _ rfl rfl rfl rfl rfl (by decide) Try.underlying26 Try.sizeOf25 (zero_of Try.typeInfo25 rfl) rfl rfl (rowsD_one _) ?_
 refine AOps_alloc 7 _ _ ([.sl (some true) []]) (zero_of Try.typeInfo26 rfl) (by rfl) rfl rfl rfl rfl ?_
 refine AOps_storeR 2 _ _ _ _ _ rfl rfl rfl rfl rfl rfl rfl rfl Try.sizeOf26 (fun r a w hr => vec_one hr rfl rfl rfl) ?_
 refine AOps_nil ?_
 refine kR ?_
 refine kM 1 rfl ?_
 refine AOps_q 16 _ rfl rfl rfl (QOp_makeFunc _ _ _ rfl rfl) ?_
 obtain ⟨r3, hr3, h⟩ := bindO h
 refine kC [0, 2, 1] 17 (bV r3.1) [.vec 0 (intsD p1), .vec 1 (rowsD r3.2), .ref (.vec 1 1)] rfl Try.call18 rfl rfl (impl_Colouring_extend_o1_on_ExtensionList_c1_ac k p0 p1 ([] : List (List Int)) _ hr3) rfl ?_
 refine kN 1 rfl ?_
 refine ACode_seq ?_
 refine kR ?_
 refine kM 1 rfl ?_
 refine AOps_q 19 _ rfl rfl rfl (QOp_not _ _ _ rfl rfl) ?_
 refine AOps_nil ?_
 refine kI h rfl (fun h _ => ?_) (fun h _ => ?_)
 ·refine kR ?_
  refine kN 2 rfl ?_
  refine ACode_ret ?_
  cases h
  exact ⟨_, _, Weak_reset 1 hm hz [4, 5] _ _ rfl rfl, _, _, [], _, (.cons (ResV_tmp _ _ rfl) (.cons (ResV_tmp _ _ rfl) .nil)), rfl, rfl, rfl, rfl, rfl⟩
 refine ACode_skip ?_
 refine kR ?_
 refine AOps_q 20 _ rfl rfl rfl (QOp_load_ref _ _ _ _ rfl Try.isAgg26 rfl rfl) ?_
 refine kN 2 rfl ?_
 refine ACode_ret ?_
 cases h
 exact ⟨_, _, Weak_reset 1 hm hz [4, 5] _ _ rfl rfl, _, _, [1], _, (.cons (ResV_tmp _ _ rfl) (.cons (ResV_tmp _ _ rfl) .nil)), rfl, rfl, rfl, rfl, rfl⟩

-- loop.example/g01362/laws.eqInt64S
def laws_eqInt64S_l0 (p0 : List Int) (p1 : List Int) : Nat → Int → Option (Sum (Unit) (Bool))
 | 0, _ => none
 | k0 + 1, x2 => (if decide (x2 < (p0.length : Int)) then (if 0 ≤ x2 ∧ x2 < (p0.length : Int) then (if 0 ≤ x2 ∧ x2 < (p1.length : Int) then (if !decide ((p0.getD x2.toNat 0) = (p1.getD x2.toNat 0)) then some (.inr false) else laws_eqInt64S_l0 p0 p1 k0 (w64 (x2 + 1))) else none) else none) else some (.inl ()))
def laws_eqInt64S (k : Nat) (p0 : List Int) (p1 : List Int) : Option (Bool) :=
 (if !decide ((p0.length : Int) = (p1.length : Int)) then some false else (laws_eqInt64S_l0 p0 p1 k 0 : Option (Sum (Unit) (Bool))).bind fun os7 => (match os7 with | .inl s7 => some true | .inr rr => some rr))
set_option maxRecDepth 100000 in
theorem laws_eqInt64S_ac (k : Nat) (p0 : List Int) (p1 : List Int) (r : Bool) (h : laws_eqInt64S k p0 p1 = some r) : AC Try.prog 9 [.d (.sl none (intsD p0)), .d (.sl none (intsD p1))] [] (fun res H' => res = [bV r] ∧ H' = []) := by
 refine AC_of_body true Try.func9 rfl Try.ntmps9 (rvs := [.tmp 4]) rfl rfl (fun G hG => ?_)
 have hm : G.H.length = 0 := by rw [hG]; rfl
 have hz : zeroG G.H = true := by rw [hG]; rfl
 unfold laws_eqInt64S at h
 refine kR ?_
 refine kN 1 rfl ?_
 refine ACode_seq ?_
 refine kR ?_
 refine kM 1 rfl ?_
 refine AOps_q 7 _ rfl rfl rfl (QOp_len_sl _ _ _ _ _ _ _ (intsD_length _) rfl rfl rfl rfl Try.underlying25 rfl) ?_
 refine kM 1 rfl ?_
 refine AOps_q 9 _ rfl rfl rfl (QOp_len_sl _ _ _ _ _ _ _ (intsD_length _) rfl rfl rfl rfl Try.underlying25 rfl) ?_
 refine AOps_q 10 _ rfl rfl rfl (QOp_neq _ _ _ _ _ _ _ rfl rfl rfl) ?_
 refine AOps_nil ?_
 refine kI h rfl (fun h _ => ?_) (fun h _ => ?_)
 ·refine kR ?_
  refine kN 1 rfl ?_
  refine ACode_ret ?_
  cases h
  exact ⟨_, _, fun r a w h => ⟨r, h⟩, _, _, [], _, (.cons (ResV_tmp _ _ rfl) .nil), rfl, rfl, rfl, rfl, rfl⟩
 refine ACode_skip ?_
 refine kO (fun s7 => []) (fun s7 => []) h (fun os7 h hks7 => ?_) (fun s7 h => ?_)
 ·refine kR ?_
  refine kN 1 rfl ?_
  refine ACode_block ?_
  refine ACode_loopW (fun k0 E H => ∃ (x2 : Int), E = [(0, .d (.sl none (intsD p0))), (1, .d (.sl none (intsD p1))), (5, iV x2)] ∧ H = [] ∧ laws_eqInt64S_l0 p0 p1 k0 x2 = some os7) k _ _ (Weak_keep 0 hm [0, 1, 5] [] _ _ rfl rfl rfl) ⟨_, rfl, rfl, h⟩ ?_
  clear h
  rintro k0 E H ⟨x2, rfl, rfl, h⟩
  cases k0 with
  | zero => cases (show (none : Option (Sum (Unit) (Bool))) = some _ from h)
  | succ k0 =>
   rw [laws_eqInt64S_l0] at h
   refine ACode_seq ?_
   refine kR ?_
   refine kM 2 rfl ?_
   refine AOps_q 13 _ rfl rfl rfl (QOp_len_sl _ _ _ _ _ _ _ (intsD_length _) rfl rfl rfl rfl Try.underlying25 rfl) ?_
   refine AOps_q 14 _ rfl rfl rfl (QOp_lss _ _ _ _ _ _ _ rfl rfl rfl) ?_
   refine AOps_nil ?_
   refine kI h rfl (fun h _ => ?_) (fun h _ => ?_)
   ·refine ACode_skip ?_
    refine ACode_seq ?_
    refine ACode_block ?_
    refine ACode_seq (ACode_quiet mixed (by kernel_rfl) ?_)
    refine kQ 2 rfl ?_
    obtain ⟨hc4, h⟩ := guardO h
    refine AQ_q 19 _ rfl rfl rfl (QOp_indexAddr_sl _ _ _ _ _ _ _ _ rfl Try.underlying25 Try.sizeOf2 hc4.1 (by rw [intsD_length]; exact hc4.2) rfl rfl) ?_
    refine AQ_q 20 _ rfl rfl rfl (QOp_load_pv _ _ _ _ _ rfl Try.isAgg2 rfl (intsD_get _ _ 0 (by omega))) ?_
    refine kQ 2 rfl ?_
    obtain ⟨hc5, h⟩ := guardO h
    refine AQ_q 23 _ rfl rfl rfl (QOp_indexAddr_sl _ _ _ _ _ _ _ _ rfl Try.underlying25 Try.sizeOf2 hc5.1 (by rw [intsD_length]; exact hc5.2) rfl rfl) ?_
    refine AQ_q 24 _ rfl rfl rfl (QOp_load_pv _ _ _ _ _ rfl Try.isAgg2 rfl (intsD_get _ _ 0 (by omega))) ?_
    refine AQ_q 25 _ rfl rfl rfl (QOp_neq _ _ _ _ _ _ _ rfl rfl rfl) ?_
    refine AQ_nil ?_
    refine kI h rfl (fun h _ => ?_) (fun h _ => ?_)
    ·refine kR ?_
     refine kN 1 rfl ?_
     refine ACode_ret ?_
     cases h
     have h := hks7
     cases h
     exact ⟨_, _, fun r a w h => ⟨r, h⟩, _, _, [], _, (.cons (ResV_tmp _ _ rfl) .nil), rfl, rfl, rfl, rfl, rfl⟩
    refine ACode_skip ?_
    refine (ACode_region ?_)
    refine kM 1 rfl ?_
    refine AOps_q 16 _ rfl rfl rfl (QOp_add _ _ _ _ _ _ _ rfl rfl rfl) ?_
    refine kN 1 rfl ?_
    exact ⟨k0, _, _, Nat.lt_succ_self _, Weak_keep 0 hm [0, 1, 5] [] _ _ rfl rfl rfl, _, rfl, rfl, h⟩
   refine ACode_exit ?_
   cases h
   exact ⟨_, rfl, Weak_keep 0 hm [] [] _ _ rfl rfl rfl⟩
 refine kR ?_
 refine kN 1 rfl ?_
 refine ACode_ret ?_
 cases h
 exact ⟨_, _, fun r a w h => ⟨r, h⟩, _, _, [], _, (.cons (ResV_tmp _ _ rfl) .nil), rfl, rfl, rfl, rfl, rfl⟩

-- loop.example/g01362/laws.eqInt64SS
def laws_eqInt64SS_l0 (k : Nat) (p0 : List (List Int)) (p1 : List (List Int)) : Nat → Int → Option (Sum (Unit) (Bool))
 | 0, _ => none
 | k0 + 1, x2 => (if decide (x2 < (p0.length : Int)) then (if 0 ≤ x2 ∧ x2 < (p0.length : Int) then (if 0 ≤ x2 ∧ x2 < (p1.length : Int) then (laws_eqInt64S k (p0.getD x2.toNat []) (p1.getD x2.toNat [])).bind fun r6 => (if !r6 then some (.inr false) else laws_eqInt64SS_l0 k p0 p1 k0 (w64 (x2 + 1))) else none) else none) else some (.inl ()))
def laws_eqInt64SS (k : Nat) (p0 : List (List Int)) (p1 : List (List Int)) : Option (Bool) :=
 (if !decide ((p0.length : Int) = (p1.length : Int)) then some false else (laws_eqInt64SS_l0 k p0 p1 k 0 : Option (Sum (Unit) (Bool))).bind fun os8 => (match os8 with | .inl s8 => some true | .inr rr => some rr))
set_option maxRecDepth 100000 in
theorem laws_eqInt64SS_ac (k : Nat) (p0 : List (List Int)) (p1 : List (List Int)) (r : Bool) (h : laws_eqInt64SS k p0 p1 = some r) : AC Try.prog 8 [.d (.sl none (rowsD p0)), .d (.sl none (rowsD p1))] [] (fun res H' => res = [bV r] ∧ H' = []) := by
 refine AC_of_body true Try.func8 rfl Try.ntmps8 (rvs := [.tmp 4]) rfl rfl (fun G hG => ?_)
 have hm : G.H.length = 0 := by rw [hG]; rfl
 have hz : zeroG G.H = true := by rw [hG]; rfl
 unfold laws_eqInt64SS at h
 refine kR ?_
 refine kN 1 rfl ?_
 refine ACode_seq ?_
 refine kR ?_
 refine kM 1 rfl ?_
 refine AOps_q 7 _ rfl rfl rfl (QOp_len_sl _ _ _ _ _ _ _ (rowsD_length _) rfl rfl rfl rfl Try.underlying26 rfl) ?_
 refine kM 1 rfl ?_
 refine AOps_q 9 _ rfl rfl rfl (QOp_len_sl _ _ _ _ _ _ _ (rowsD_length _) rfl rfl rfl rfl Try.underlying26 rfl) ?_
 refine AOps_q 10 _ rfl rfl rfl (QOp_neq _ _ _ _ _ _ _ rfl rfl rfl) ?_
 refine AOps_nil ?_
 refine kI h rfl (fun h _ => ?_) (fun h _ => ?_)
 ·refine kR ?_
  refine kN 1 rfl ?_
  refine ACode_ret ?_
  cases h
  exact ⟨_, _, fun r a w h => ⟨r, h⟩, _, _, [], _, (.cons (ResV_tmp _ _ rfl) .nil), rfl, rfl, rfl, rfl, rfl⟩
 refine ACode_skip ?_
 refine kO (fun s8 => []) (fun s8 => []) h (fun os8 h hks8 => ?_) (fun s8 h => ?_)
 ·refine kR ?_
  refine kN 1 rfl ?_
  refine ACode_block ?_
  refine ACode_loopW (fun k0 E H => ∃ (x2 : Int), E = [(0, .d (.sl none (rowsD p0))), (1, .d (.sl none (rowsD p1))), (5, iV x2)] ∧ H = [] ∧ laws_eqInt64SS_l0 k p0 p1 k0 x2 = some os8) k _ _ (Weak_keep 0 hm [0, 1, 5] [] _ _ rfl rfl rfl) ⟨_, rfl, rfl, h⟩ ?_
  clear h
  rintro k0 E H ⟨x2, rfl, rfl, h⟩
  cases k0 with
  | zero => cases (show (none : Option (Sum (Unit) (Bool))) = some _ from h)
  | succ k0 =>
   rw [laws_eqInt64SS_l0] at h
   refine ACode_seq ?_
   refine kR ?_
   refine kM 2 rfl ?_
   refine AOps_q 13 _ rfl rfl rfl (QOp_len_sl _ _ _ _ _ _ _ (rowsD_length _) rfl rfl rfl rfl Try.underlying26 rfl) ?_
   refine AOps_q 14 _ rfl rfl rfl (QOp_lss _ _ _ _ _ _ _ rfl rfl rfl) ?_
   refine AOps_nil ?_
   refine kI h rfl (fun h _ => ?_) (fun h _ => ?_)
   ·refine ACode_skip ?_
    refine ACode_seq ?_
    refine ACode_block ?_
    refine ACode_seq (ACode_quiet mixed (by kernel_rfl) ?_)
    refine kQ 2 rfl ?_
    obtain ⟨hc4, h⟩ := guardO h
    refine AQ_q 19 _ rfl rfl rfl (QOp_indexAddr_sl _ _ _ _ _ _ _ _ rfl Try.underlying26 Try.sizeOf25 hc4.1 (by rw [rowsD_length]; exact hc4.2) rfl rfl) ?_
    refine AQ_q 20 _ rfl rfl rfl (QOp_load_pv _ _ _ _ _ rfl Try.isAgg25 rfl (rowsD_get _ _ [] (by omega))) ?_
    refine kQ 2 rfl ?_
    obtain ⟨hc5, h⟩ := guardO h
    refine AQ_q 23 _ rfl rfl rfl (QOp_indexAddr_sl _ _ _ _ _ _ _ _ rfl Try.underlying26 Try.sizeOf25 hc5.1 (by rw [rowsD_length]; exact hc5.2) rfl rfl) ?_
    refine AQ_q 24 _ rfl rfl rfl (QOp_load_pv _ _ _ _ _ rfl Try.isAgg25 rfl (rowsD_get _ _ [] (by omega))) ?_
    obtain ⟨r6, hr6, h⟩ := bindO h
    refine AQ_call 25 _ _ _ _ _ _ _ _ _ rfl rfl rfl rfl rfl rfl rfl Try.call9 rfl rfl rfl (laws_eqInt64S_ac k (p0.getD x2.toNat []) (p1.getD x2.toNat []) _ hr6) ?_
    refine AQ_q 26 _ rfl rfl rfl (QOp_not _ _ _ rfl rfl) ?_
    refine AQ_nil ?_
    refine kI h rfl (fun h _ => ?_) (fun h _ => ?_)
    ·refine kR ?_
     refine kN 1 rfl ?_
     refine ACode_ret ?_
     cases h
     have h := hks8
     cases h
     exact ⟨_, _, fun r a w h => ⟨r, h⟩, _, _, [], _, (.cons (ResV_tmp _ _ rfl) .nil), rfl, rfl, rfl, rfl, rfl⟩
    refine ACode_skip ?_
    refine (ACode_region ?_)
    refine kM 1 rfl ?_
    refine AOps_q 16 _ rfl rfl rfl (QOp_add _ _ _ _ _ _ _ rfl rfl rfl) ?_
    refine kN 1 rfl ?_
    exact ⟨k0, _, _, Nat.lt_succ_self _, Weak_keep 0 hm [0, 1, 5] [] _ _ rfl rfl rfl, _, rfl, rfl, h⟩
   refine ACode_exit ?_
   cases h
   exact ⟨_, rfl, Weak_keep 0 hm [] [] _ _ rfl rfl rfl⟩
 refine kR ?_
 refine kN 1 rfl ?_
 refine ACode_ret ?_
 cases h
 exact ⟨_, _, fun r a w h => ⟨r, h⟩, _, _, [], _, (.cons (ResV_tmp _ _ rfl) .nil), rfl, rfl, rfl, rfl, rfl⟩

-- loop.example/g01362/laws.markInt64S
def laws_markInt64S_l0 : Nat → Int → Int → (List Int) → Option (Int × List Int)
 | 0, _, _, _ => none
 | k0 + 1, x1, x2, x3 => (if decide (x2 < (x3.length : Int)) then (if 0 ≤ x2 ∧ x2 < (x3.length : Int) then laws_markInt64S_l0 k0 (w64 (x1 + 1)) (w64 (x2 + 1)) (x3.set x2.toNat x1) else none) else some (x1, x3))
def laws_markInt64S (k : Nat) (p0 : List Int) (p1 : Int) : Option (Int × List Int) :=
 (laws_markInt64S_l0 k p1 0 p0 : Option (Int × List Int)).bind fun s6 => some (s6.1, s6.2)
set_option maxRecDepth 100000 in
theorem laws_markInt64S_ac (k : Nat) (p0 : List Int) (p1 : Int) (r : Int × List Int) (h : laws_markInt64S k p0 p1 = some r) : AC Try.prog 10 [.vec 0 0, iV p1] [.vec 0 (intsD p0)] (fun res H' => res = [iV r.1] ∧ H' = [.vec 0 (intsD r.2)]) := by
 refine AC_of_body true Try.func10 rfl Try.ntmps10 (rvs := [.tmp 4]) rfl rfl (fun G hG => ?_)
 have hm : G.H.length = 1 := by rw [hG]; rfl
 have hz : zeroG G.H = true := by rw [hG]; rfl
 unfold laws_markInt64S at h
 refine kR ?_
 refine kN 1 rfl ?_
 refine kB (fun s6 => [(1, iV s6.1)]) (fun s6 => [.vec 0 (intsD s6.2)]) h (fun s6 h => ?_) (fun s6 h => ?_)
 ·refine kR ?_
  refine kN 1 rfl ?_
  refine ACode_block ?_
  refine ACode_loopW (fun k0 E H => ∃ (x1 : Int) (x2 : Int) (x3 : List Int), E = [(0, .vec 0 0), (1, iV x1), (5, iV x2)] ∧ H = [.vec 0 (intsD x3)] ∧ laws_markInt64S_l0 k0 x1 x2 x3 = some s6) k _ _ (Weak_keep 1 hm [0, 1, 5] [] _ _ rfl rfl rfl) ⟨_, _, _, rfl, rfl, h⟩ ?_
  clear h
  rintro k0 E H ⟨x1, x2, x3, rfl, rfl, h⟩
  cases k0 with
  | zero => cases (show (none : Option (Int × List Int)) = some _ from h)
  | succ k0 =>
   rw [laws_markInt64S_l0] at h
   refine ACode_seq ?_
   refine kR ?_
   refine kM 2 rfl ?_
   refine AOps_q 8 _ rfl rfl rfl (QOp_len_vec _ _ _ _ _ _ _ _ (intsD_length _) rfl rfl rfl rfl Try.underlying25 rfl rfl) ?_
   refine AOps_q 9 _ rfl rfl rfl (QOp_lss _ _ _ _ _ _ _ rfl rfl rfl) ?_
   refine AOps_nil ?_
   refine kI h rfl (fun h _ => ?_) (fun h _ => ?_)
   ·refine ACode_skip ?_
    refine ACode_seq ?_
    refine ACode_block ?_
    refine kR ?_
    refine kM 3 rfl ?_
    obtain ⟨hc5, h⟩ := guardO h
    refine AOps_q 15 _ rfl rfl rfl (QOp_indexAddr_vec _ _ _ _ _ _ _ _ _ rfl Try.underlying25 Try.sizeOf2 hc5.1 (by rw [intsD_length]; exact hc5.2) rfl rfl rfl) ?_
    refine AOps_store_eptr _ _ _ _ _ _ (intsD x3) _ rfl rfl rfl rfl rfl rfl rfl Try.sizeOf2 (by rw [intsD_length]; omega) ?_
    rw [intsD_set]
    refine AOps_nil ?_
    refine (ACode_region ?_)
    refine kM 1 rfl ?_
    refine AOps_q 17 _ rfl rfl rfl (QOp_add _ _ _ _ _ _ _ rfl rfl rfl) ?_
    refine kN 1 rfl ?_
    refine (ACode_region ?_)
    refine kM 1 rfl ?_
    refine AOps_q 11 _ rfl rfl rfl (QOp_add _ _ _ _ _ _ _ rfl rfl rfl) ?_
    refine kN 1 rfl ?_
    exact ⟨k0, _, _, Nat.lt_succ_self _, Weak_keep 1 hm [0, 1, 5] [] _ _ rfl rfl rfl, _, _, _, rfl, rfl, h⟩
   refine ACode_exit ?_
   cases h
   exact Weak_keep 1 hm [1] [] _ _ rfl rfl rfl
 refine kR ?_
 refine kN 2 rfl ?_
 refine ACode_ret ?_
 cases h
 exact ⟨_, _, fun r a w h => ⟨r, h⟩, _, _, [], _, (.cons (ResV_tmp _ _ rfl) .nil), rfl, rfl, rfl, rfl, rfl⟩

-- loop.example/g01362/laws.markInt64S
def laws_markInt64S_d0_l0 (p0 : List Int) : Nat → Int → Int → Option (Int)
 | 0, _, _ => none
 | k0 + 1, x1, x2 => (if decide (x2 < (p0.length : Int)) then (if 0 ≤ x2 ∧ x2 < (p0.length : Int) then none else none) else some x1)
def laws_markInt64S_d0 (k : Nat) (p0 : List Int) (p1 : Int) : Option (Int) :=
 (laws_markInt64S_d0_l0 p0 k p1 0 : Option (Int)).bind fun s5 => some s5
set_option maxRecDepth 100000 in
theorem laws_markInt64S_d0_ac (k : Nat) (p0 : List Int) (p1 : Int) (r : Int) (h : laws_markInt64S_d0 k p0 p1 = some r) : AC Try.prog 10 [.d (.sl none (intsD p0)), iV p1] [] (fun res H' => res = [iV r] ∧ H' = []) := by
 refine AC_of_body true Try.func10 rfl Try.ntmps10 (rvs := [.tmp 4]) rfl rfl (fun G hG => ?_)
 have hm : G.H.length = 0 := by rw [hG]; rfl
 have hz : zeroG G.H = true := by rw [hG]; rfl
 unfold laws_markInt64S_d0 at h
 refine kR ?_
 refine kN 1 rfl ?_
 refine kB (fun s5 => [(1, iV s5)]) (fun s5 => []) h (fun s5 h => ?_) (fun s5 h => ?_)
 ·refine kR ?_
  refine kN 1 rfl ?_
  refine ACode_block ?_
  refine ACode_loopW (fun k0 E H => ∃ (x1 : Int) (x2 : Int), E = [(0, .d (.sl none (intsD p0))), (1, iV x1), (5, iV x2)] ∧ H = [] ∧ laws_markInt64S_d0_l0 p0 k0 x1 x2 = some s5) k _ _ (Weak_keep 0 hm [0, 1, 5] [] _ _ rfl rfl rfl) ⟨_, _, rfl, rfl, h⟩ ?_
  clear h
  rintro k0 E H ⟨x1, x2, rfl, rfl, h⟩
  cases k0 with
  | zero => cases (show (none : Option (Int)) = some _ from h)
  | succ k0 =>
   rw [laws_markInt64S_d0_l0] at h
   refine ACode_seq ?_
   refine kR ?_
   refine kM 2 rfl ?_
   refine AOps_q 8 _ rfl rfl rfl (QOp_len_sl _ _ _ _ _ _ _ (intsD_length _) rfl rfl rfl rfl Try.underlying25 rfl) ?_
   refine AOps_q 9 _ rfl rfl rfl (QOp_lss _ _ _ _ _ _ _ rfl rfl rfl) ?_
   refine AOps_nil ?_
   refine kI h rfl (fun h _ => ?_) (fun h _ => ?_)
   ·refine ACode_skip ?_
    refine ACode_seq ?_
    refine ACode_block ?_
    refine kR ?_
    refine kM 3 rfl ?_
    obtain ⟨hc4, h⟩ := guardO h
    refine AOps_q 15 _ rfl rfl rfl (QOp_indexAddr_sl _ _ _ _ _ _ _ _ rfl Try.underlying25 Try.sizeOf2 hc4.1 (by rw [intsD_length]; exact hc4.2) rfl rfl) ?_
    cases h
   refine ACode_exit ?_
   cases h
   exact Weak_keep 0 hm [1] [] _ _ rfl rfl rfl
 refine kR ?_
 refine kN 2 rfl ?_
 refine ACode_ret ?_
 cases h
 exact ⟨_, _, fun r a w h => ⟨r, h⟩, _, _, [], _, (.cons (ResV_tmp _ _ rfl) .nil), rfl, rfl, rfl, rfl, rfl⟩

-- loop.example/g01362/laws.markInt64SS
def laws_markInt64SS_l0 (k : Nat) (p0 : List (List Int)) : Nat → Int → Int → Option (Int)
 | 0, _, _ => none
 | k0 + 1, x1, x2 => (if decide (x2 < (p0.length : Int)) then (if 0 ≤ x2 ∧ x2 < (p0.length : Int) then (laws_markInt64S_d0 k (p0.getD x2.toNat []) x1).bind fun r5 => laws_markInt64SS_l0 k p0 k0 r5 (w64 (x2 + 1)) else none) else some x1)
def laws_markInt64SS (k : Nat) (p0 : List (List Int)) (p1 : Int) : Option (Int) :=
 (laws_markInt64SS_l0 k p0 k p1 0 : Option (Int)).bind fun s6 => some s6
set_option maxRecDepth 100000 in
theorem laws_markInt64SS_ac (k : Nat) (p0 : List (List Int)) (p1 : Int) (r : Int) (h : laws_markInt64SS k p0 p1 = some r) : AC Try.prog 11 [.d (.sl none (rowsD p0)), iV p1] [] (fun res H' => res = [iV r] ∧ H' = []) := by
 refine AC_of_body true Try.func11 rfl Try.ntmps11 (rvs := [.tmp 4]) rfl rfl (fun G hG => ?_)
 have hm : G.H.length = 0 := by rw [hG]; rfl
 have hz : zeroG G.H = true := by rw [hG]; rfl
 unfold laws_markInt64SS at h
 refine kR ?_
 refine kN 1 rfl ?_
 refine kB (fun s6 => [(1, iV s6)]) (fun s6 => []) h (fun s6 h => ?_) (fun s6 h => ?_)
 ·refine kR ?_
  refine kN 1 rfl ?_
  refine ACode_block ?_
  refine ACode_loopW (fun k0 E H => ∃ (x1 : Int) (x2 : Int), E = [(0, .d (.sl none (rowsD p0))), (1, iV x1), (5, iV x2)] ∧ H = [] ∧ laws_markInt64SS_l0 k p0 k0 x1 x2 = some s6) k _ _ (Weak_keep 0 hm [0, 1, 5] [] _ _ rfl rfl rfl) ⟨_, _, rfl, rfl, h⟩ ?_
  clear h
  rintro k0 E H ⟨x1, x2, rfl, rfl, h⟩
  cases k0 with
  | zero => cases (show (none : Option (Int)) = some _ from h)
  | succ k0 =>
   rw [laws_markInt64SS_l0] at h
   refine ACode_seq ?_
   refine kR ?_
   refine kM 2 rfl ?_
   refine AOps_q 8 _ rfl rfl rfl (QOp_len_sl _ _ _ _ _ _ _ (rowsD_length _) rfl rfl rfl rfl Try.underlying26 rfl) ?_
   refine AOps_q 9 _ rfl rfl rfl (QOp_lss _ _ _ _ _ _ _ rfl rfl rfl) ?_
   refine AOps_nil ?_
   refine kI h rfl (fun h _ => ?_) (fun h _ => ?_)
   ·refine ACode_skip ?_
    refine ACode_seq ?_
    refine ACode_block ?_
    refine (ACode_region ?_)
    refine kM 2 rfl ?_
    obtain ⟨hc4, h⟩ := guardO h
    refine AOps_q 14 _ rfl rfl rfl (QOp_indexAddr_sl _ _ _ _ _ _ _ _ rfl Try.underlying26 Try.sizeOf25 hc4.1 (by rw [rowsD_length]; exact hc4.2) rfl rfl) ?_
    refine AOps_q 15 _ rfl rfl rfl (QOp_load_pv _ _ _ _ _ rfl Try.isAgg25 rfl (rowsD_get _ _ [] (by omega))) ?_
    refine kM 1 rfl ?_
    obtain ⟨r5, hr5, h⟩ := bindO h
    refine kC [] 17 (iV r5) [] rfl Try.call10 rfl rfl (laws_markInt64S_d0_ac k (p0.getD x2.toNat []) x1 _ hr5) rfl ?_
    refine kN 1 rfl ?_
    refine (ACode_region ?_)
    refine kM 1 rfl ?_
    refine AOps_q 11 _ rfl rfl rfl (QOp_add _ _ _ _ _ _ _ rfl rfl rfl) ?_
    refine kN 1 rfl ?_
    exact ⟨k0, _, _, Nat.lt_succ_self _, Weak_keep 0 hm [0, 1, 5] [] _ _ rfl rfl rfl, _, _, rfl, rfl, h⟩
   refine ACode_exit ?_
   cases h
   exact Weak_keep 0 hm [1] [] _ _ rfl rfl rfl
 refine kR ?_
 refine kN 2 rfl ?_
 refine ACode_ret ?_
 cases h
 exact ⟨_, _, fun r a w h => ⟨r, h⟩, _, _, [], _, (.cons (ResV_tmp _ _ rfl) .nil), rfl, rfl, rfl, rfl, rfl⟩

-- loop.example/g01362/laws.heldInt64S
def laws_heldInt64S_l0 (p0 : List Int) : Nat → Int → Int → Option (Sum (Int) (Int))
 | 0, _, _ => none
 | k0 + 1, x1, x2 => (if decide (x2 < (p0.length : Int)) then (if 0 ≤ x2 ∧ x2 < (p0.length : Int) then (if !decide ((p0.getD x2.toNat 0) = x1) then some (.inr (-1)) else laws_heldInt64S_l0 p0 k0 (w64 (x1 + 1)) (w64 (x2 + 1))) else none) else some (.inl x1))
def laws_heldInt64S (k : Nat) (p0 : List Int) (p1 : Int) : Option (Int) :=
 (laws_heldInt64S_l0 p0 k p1 0 : Option (Sum (Int) (Int))).bind fun os6 => (match os6 with | .inl s6 => some s6 | .inr rr => some rr)
set_option maxRecDepth 100000 in
theorem laws_heldInt64S_ac (k : Nat) (p0 : List Int) (p1 : Int) (r : Int) (h : laws_heldInt64S k p0 p1 = some r) : AC Try.prog 21 [.d (.sl none (intsD p0)), iV p1] [] (fun res H' => res = [iV r] ∧ H' = []) := by
 refine AC_of_body true Try.func21 rfl Try.ntmps21 (rvs := [.tmp 4]) rfl rfl (fun G hG => ?_)
 have hm : G.H.length = 0 := by rw [hG]; rfl
 have hz : zeroG G.H = true := by rw [hG]; rfl
 unfold laws_heldInt64S at h
 refine kR ?_
 refine kN 1 rfl ?_
 refine kO (fun s6 => [(1, iV s6)]) (fun s6 => []) h (fun os6 h hks6 => ?_) (fun s6 h => ?_)
 ·refine kR ?_
  refine kN 1 rfl ?_
  refine ACode_block ?_
  refine ACode_loopW (fun k0 E H => ∃ (x1 : Int) (x2 : Int), E = [(0, .d (.sl none (intsD p0))), (1, iV x1), (5, iV x2)] ∧ H = [] ∧ laws_heldInt64S_l0 p0 k0 x1 x2 = some os6) k _ _ (Weak_keep 0 hm [0, 1, 5] [] _ _ rfl rfl rfl) ⟨_, _, rfl, rfl, h⟩ ?_
  clear h
  rintro k0 E H ⟨x1, x2, rfl, rfl, h⟩
  cases k0 with
  | zero => cases (show (none : Option (Sum (Int) (Int))) = some _ from h)
  | succ k0 =>
   rw [laws_heldInt64S_l0] at h
   refine ACode_seq ?_
   refine kR ?_
   refine kM 2 rfl ?_
   refine AOps_q 8 _ rfl rfl rfl (QOp_len_sl _ _ _ _ _ _ _ (intsD_length _) rfl rfl rfl rfl Try.underlying25 rfl) ?_
   refine AOps_q 9 _ rfl rfl rfl (QOp_lss _ _ _ _ _ _ _ rfl rfl rfl) ?_
   refine AOps_nil ?_
   refine kI h rfl (fun h _ => ?_) (fun h _ => ?_)
   ·refine ACode_skip ?_
    refine ACode_seq ?_
    refine ACode_block ?_
    refine ACode_seq ?_
    refine kR ?_
    refine kM 2 rfl ?_
    obtain ⟨hc4, h⟩ := guardO h
    refine AOps_q 14 _ rfl rfl rfl (QOp_indexAddr_sl _ _ _ _ _ _ _ _ rfl Try.underlying25 Try.sizeOf2 hc4.1 (by rw [intsD_length]; exact hc4.2) rfl rfl) ?_
    refine AOps_q 15 _ rfl rfl rfl (QOp_load_pv _ _ _ _ _ rfl Try.isAgg2 rfl (intsD_get _ _ 0 (by omega))) ?_
    refine kM 1 rfl ?_
    refine AOps_q 17 _ rfl rfl rfl (QOp_neq _ _ _ _ _ _ _ rfl rfl rfl) ?_
    refine AOps_nil ?_
    refine kI h rfl (fun h _ => ?_) (fun h _ => ?_)
    ·refine kR ?_
     refine kN 1 rfl ?_
     refine ACode_ret ?_
     cases h
     have h := hks6
     cases h
     exact ⟨_, _, fun r a w h => ⟨r, h⟩, _, _, [], _, (.cons (ResV_tmp _ _ rfl) .nil), rfl, rfl, rfl, rfl, rfl⟩
    refine ACode_skip ?_
    refine (ACode_region ?_)
    refine kM 1 rfl ?_
    refine AOps_q 19 _ rfl rfl rfl (QOp_add _ _ _ _ _ _ _ rfl rfl rfl) ?_
    refine kN 1 rfl ?_
    refine (ACode_region ?_)
    refine kM 1 rfl ?_
    refine AOps_q 11 _ rfl rfl rfl (QOp_add _ _ _ _ _ _ _ rfl rfl rfl) ?_
    refine kN 1 rfl ?_
    exact ⟨k0, _, _, Nat.lt_succ_self _, Weak_keep 0 hm [0, 1, 5] [] _ _ rfl rfl rfl, _, _, rfl, rfl, h⟩
   refine ACode_exit ?_
   cases h
   exact ⟨_, rfl, Weak_keep 0 hm [1] [] _ _ rfl rfl rfl⟩
 refine kR ?_
 refine kN 2 rfl ?_
 refine ACode_ret ?_
 cases h
 exact ⟨_, _, fun r a w h => ⟨r, h⟩, _, _, [], _, (.cons (ResV_tmp _ _ rfl) .nil), rfl, rfl, rfl, rfl, rfl⟩

-- loop.example/g01362/laws.heldInt64SS
def laws_heldInt64SS_l0 (k : Nat) (p0 : List (List Int)) : Nat → Int → Int → Option (Sum (Int) (Int))
 | 0, _, _ => none
 | k0 + 1, x1, x2 => (if decide (x2 < (p0.length : Int)) then (if 0 ≤ x2 ∧ x2 < (p0.length : Int) then (laws_heldInt64S k (p0.getD x2.toNat []) x1).bind fun r5 => (if decide (r5 < 0) then some (.inr (-1)) else laws_heldInt64SS_l0 k p0 k0 r5 (w64 (x2 + 1))) else none) else some (.inl x1))
def laws_heldInt64SS (k : Nat) (p0 : List (List Int)) (p1 : Int) : Option (Int) :=
 (laws_heldInt64SS_l0 k p0 k p1 0 : Option (Sum (Int) (Int))).bind fun os7 => (match os7 with | .inl s7 => some s7 | .inr rr => some rr)
set_option maxRecDepth 100000 in
theorem laws_heldInt64SS_ac (k : Nat) (p0 : List (List Int)) (p1 : Int) (r : Int) (h : laws_heldInt64SS k p0 p1 = some r) : AC Try.prog 12 [.d (.sl none (rowsD p0)), iV p1] [] (fun res H' => res = [iV r] ∧ H' = []) := by
 refine AC_of_body true Try.func12 rfl Try.ntmps12 (rvs := [.tmp 4]) rfl rfl (fun G hG => ?_)
 have hm : G.H.length = 0 := by rw [hG]; rfl
 have hz : zeroG G.H = true := by rw [hG]; rfl
 unfold laws_heldInt64SS at h
 refine kR ?_
 refine kN 1 rfl ?_
 refine kO (fun s7 => [(1, iV s7)]) (fun s7 => []) h (fun os7 h hks7 => ?_) (fun s7 h => ?_)
 ·refine kR ?_
  refine kN 1 rfl ?_
  refine ACode_block ?_
  refine ACode_loopW (fun k0 E H => ∃ (x1 : Int) (x2 : Int), E = [(0, .d (.sl none (rowsD p0))), (1, iV x1), (5, iV x2)] ∧ H = [] ∧ laws_heldInt64SS_l0 k p0 k0 x1 x2 = some os7) k _ _ (Weak_keep 0 hm [0, 1, 5] [] _ _ rfl rfl rfl) ⟨_, _, rfl, rfl, h⟩ ?_
  clear h
  rintro k0 E H ⟨x1, x2, rfl, rfl, h⟩
  cases k0 with
  | zero => cases (show (none : Option (Sum (Int) (Int))) = some _ from h)
  | succ k0 =>
   rw [laws_heldInt64SS_l0] at h
   refine ACode_seq ?_
   refine kR ?_
   refine kM 2 rfl ?_
   refine AOps_q 8 _ rfl rfl rfl (QOp_len_sl _ _ _ _ _ _ _ (rowsD_length _) rfl rfl rfl rfl Try.underlying26 rfl) ?_
   refine AOps_q 9 _ rfl rfl rfl (QOp_lss _ _ _ _ _ _ _ rfl rfl rfl) ?_
   refine AOps_nil ?_
   refine kI h rfl (fun h _ => ?_) (fun h _ => ?_)
   ·refine ACode_skip ?_
    refine ACode_seq ?_
    refine ACode_block ?_
    refine kR ?_
    refine kM 2 rfl ?_
    obtain ⟨hc4, h⟩ := guardO h
    refine AOps_q 14 _ rfl rfl rfl (QOp_indexAddr_sl _ _ _ _ _ _ _ _ rfl Try.underlying26 Try.sizeOf25 hc4.1 (by rw [rowsD_length]; exact hc4.2) rfl rfl) ?_
    refine AOps_q 15 _ rfl rfl rfl (QOp_load_pv _ _ _ _ _ rfl Try.isAgg25 rfl (rowsD_get _ _ [] (by omega))) ?_
    refine kM 1 rfl ?_
    obtain ⟨r5, hr5, h⟩ := bindO h
    refine kC [] 17 (iV r5) [] rfl Try.call21 rfl rfl (laws_heldInt64S_ac k (p0.getD x2.toNat []) x1 _ hr5) rfl ?_
    refine kN 1 rfl ?_
    refine kR ?_
    refine kM 1 rfl ?_
    refine AOps_q 19 _ rfl rfl rfl (QOp_lss _ _ _ _ _ _ _ rfl rfl rfl) ?_
    refine AOps_nil ?_
    refine kI h rfl (fun h _ => ?_) (fun h _ => ?_)
    ·refine kR ?_
     refine kN 1 rfl ?_
     refine ACode_ret ?_
     cases h
     have h := hks7
     cases h
     exact ⟨_, _, fun r a w h => ⟨r, h⟩, _, _, [], _, (.cons (ResV_tmp _ _ rfl) .nil), rfl, rfl, rfl, rfl, rfl⟩
    refine ACode_skip ?_
    refine (ACode_region ?_)
    refine kM 1 rfl ?_
    refine AOps_q 11 _ rfl rfl rfl (QOp_add _ _ _ _ _ _ _ rfl rfl rfl) ?_
    refine kN 1 rfl ?_
    exact ⟨k0, _, _, Nat.lt_succ_self _, Weak_keep 0 hm [0, 1, 5] [] _ _ rfl rfl rfl, _, _, rfl, rfl, h⟩
   refine ACode_exit ?_
   cases h
   exact ⟨_, rfl, Weak_keep 0 hm [1] [] _ _ rfl rfl rfl⟩
 refine kR ?_
 refine kN 2 rfl ?_
 refine ACode_ret ?_
 cases h
 exact ⟨_, _, fun r a w h => ⟨r, h⟩, _, _, [], _, (.cons (ResV_tmp _ _ rfl) .nil), rfl, rfl, rfl, rfl, rfl⟩

-- loop.example/g01362/laws.FnExactExtensionList
def laws_FnExactExtensionList (k : Nat) (p0 : Col) (p1 : List Int) : Option (Bool) :=
 (if decide (1048576 < (p1.length : Int)) then some true else (laws_toColouring k p0).bind fun r2 => (laws_toInt64S k p1).bind fun r3 => (spec_ExtensionList_o1 k r2 r3).bind fun r4 => (laws_toInt64S k p1).bind fun r5 => (laws_toColouring k p0).bind fun r6 => (impl_ExtensionList_o1 k r6 r5).bind fun r7 => (match r7.1 with | none => (((laws_eqInt64SS k ([]) r4.1).bind fun r10 => (if !r10 then some true else some (!decide (r7.2 = r4.2))) : Option (Bool)).bind fun s12 => (if s12 then some (.inr false) else some (.inl ())) : Option (Sum (Unit) (Bool))).bind fun os14 => (match os14 with | .inl s14 => (laws_toInt64S k p1).bind fun r15 => (laws_eqInt64S k r5 r15).bind fun r16 => (if !r16 then some false else (laws_markInt64S k r5 1).bind fun r18 => (((if decide (r18.1 < 0) then some true else (laws_eqInt64SS k ([]) r4.1).bind fun r20 => (if !r20 then some true else some (!decide (r7.2 = r4.2)))) : Option (Bool)).bind fun s22 => (if s22 then some (.inr false) else some (.inl ())) : Option (Sum (Unit) (Bool))).bind fun os24 => (match os24 with | .inl s24 => (laws_markInt64SS k ([]) 1).bind fun r25 => (laws_heldInt64SS k ([]) 1).bind fun r26 => (if decide (r26 < 0) then some false else (if !decide (r26 = r25) then some false else (laws_toColouring k p0).bind fun r29 => (laws_toInt64S k p1).bind fun r30 => (impl_ExtensionList_o1 k r29 r30).bind fun r31 => (match r31.1 with | none => (((laws_eqInt64SS k ([]) r4.1).bind fun r34 => (if !r34 then some true else some (!decide (r31.2 = r4.2))) : Option (Bool)).bind fun s36 => (if s36 then some (.inr false) else some (.inl ())) : Option (Sum (Unit) (Bool))).bind fun os38 => (match os38 with | .inl s38 => (laws_heldInt64SS k ([]) 1).bind fun r39 => (if decide (r39 < 0) then some false else (if !decide (r39 = r25) then some false else some true)) | .inr rr => some rr) | some l32 => (((laws_eqInt64SS k l32 r4.1).bind fun r42 => (if !r42 then some true else some (!decide (r31.2 = r4.2))) : Option (Bool)).bind fun s44 => (if s44 then some (.inr false) else some (.inl ())) : Option (Sum (Unit) (Bool))).bind fun os46 => (match os46 with | .inl s46 => (laws_heldInt64SS k ([]) 1).bind fun r47 => (if decide (r47 < 0) then some false else (if !decide (r47 = r25) then some false else some true)) | .inr rr => some rr)))) | .inr rr => some rr)) | .inr rr => some rr) | some l8 => (((laws_eqInt64SS k l8 r4.1).bind fun r50 => (if !r50 then some true else some (!decide (r7.2 = r4.2))) : Option (Bool)).bind fun s52 => (if s52 then some (.inr false) else some (.inl ())) : Option (Sum (Unit) (Bool))).bind fun os54 => (match os54 with | .inl s54 => (laws_toInt64S k p1).bind fun r55 => (laws_eqInt64S k r5 r55).bind fun r56 => (if !r56 then some false else (laws_markInt64S k r5 1).bind fun r58 => (((if decide (r58.1 < 0) then some true else (laws_eqInt64SS k l8 r4.1).bind fun r60 => (if !r60 then some true else some (!decide (r7.2 = r4.2)))) : Option (Bool)).bind fun s62 => (if s62 then some (.inr false) else some (.inl ())) : Option (Sum (Unit) (Bool))).bind fun os64 => (match os64 with | .inl s64 => (laws_markInt64SS k l8 1).bind fun r65 => (laws_heldInt64SS k l8 1).bind fun r66 => (if decide (r66 < 0) then some false else (if !decide (r66 = r65) then some false else (laws_toColouring k p0).bind fun r69 => (laws_toInt64S k p1).bind fun r70 => (impl_ExtensionList_o1 k r69 r70).bind fun r71 => (match r71.1 with | none => (((laws_eqInt64SS k ([]) r4.1).bind fun r74 => (if !r74 then some true else some (!decide (r71.2 = r4.2))) : Option (Bool)).bind fun s76 => (if s76 then some (.inr false) else some (.inl ())) : Option (Sum (Unit) (Bool))).bind fun os78 => (match os78 with | .inl s78 => (laws_heldInt64SS k l8 1).bind fun r79 => (if decide (r79 < 0) then some false else (if !decide (r79 = r65) then some false else some true)) | .inr rr => some rr) | some l72 => (((laws_eqInt64SS k l72 r4.1).bind fun r82 => (if !r82 then some true else some (!decide (r71.2 = r4.2))) : Option (Bool)).bind fun s84 => (if s84 then some (.inr false) else some (.inl ())) : Option (Sum (Unit) (Bool))).bind fun os86 => (match os86 with | .inl s86 => (laws_heldInt64SS k l8 1).bind fun r87 => (if decide (r87 < 0) then some false else (if !decide (r87 = r65) then some false else some true)) | .inr rr => some rr)))) | .inr rr => some rr)) | .inr rr => some rr)))
set_option maxHeartbeats 2000000 in
set_option maxRecDepth 100000 in
theorem laws_FnExactExtensionList_ac (k : Nat) (p0 : Col) (p1 : List Int) (r : Bool) (h : laws_FnExactExtensionList k p0 p1 = some r) : AC Try.prog 3 [.d (.agg (colD p0)), .d (.sl none (intsD p1))] [] (fun res H' => res = [bV r] ∧ H' = []) := by
 refine AC_of_body true Try.func3 rfl Try.ntmps3 (rvs := [.tmp 4]) rfl rfl (fun G hG => ?_)
 have hm : G.H.length = 0 := by rw [hG]; rfl
 have hz : zeroG G.H = true := by rw [hG]; rfl
 unfold laws_FnExactExtensionList at h
 refine kR ?_
 refine AOps_boxI 2 _ _ (.agg (colD p0)) (colD p0) rfl (colD_one _) rfl rfl rfl rfl rfl ?_
 refine kN 1 rfl ?_
 refine ACode_seq ?_
 refine kR ?_
 refine kM 1 rfl ?_
 refine AOps_q 16 _ rfl rfl rfl (QOp_len_sl _ _ _ _ _ _ _ (intsD_length _) rfl rfl rfl rfl Try.underlying25 rfl) ?_
 refine AOps_q 17 _ rfl rfl rfl (QOp_gtr _ _ _ _ _ _ _ rfl rfl rfl) ?_
 refine AOps_nil ?_
 refine kI h rfl (fun h _ => ?_) (fun h _ => ?_)
 ·refine kR ?_
  refine kN 1 rfl ?_
  refine ACode_ret ?_
  cases h
  exact ⟨_, _, fun r a w h => ⟨r, h⟩, _, _, [], _, (.cons (ResV_tmp _ _ rfl) .nil), rfl, rfl, rfl, rfl, rfl⟩
 refine ACode_skip ?_
 refine kR ?_
 refine AOps_q 19 _ rfl rfl rfl (QOp_loadN_pv _ _ _ _ _ _ rfl Try.isAgg24 Try.sizeOf24 rfl (colD_all _) (colD_length _)) ?_
 obtain ⟨r2, hr2, h⟩ := bindO h
 refine kC [] 20 (.d (.agg (colD r2))) [] rfl Try.call5 rfl rfl (laws_toColouring_ac k p0 _ hr2) rfl ?_
 refine kM 1 rfl ?_
 obtain ⟨r3, hr3, h⟩ := bindO h
 refine kC [] 22 (.vec 0 0) [.vec 0 (intsD r3)] rfl Try.call6 rfl rfl (laws_toInt64S_ac k p1 _ hr3) rfl ?_
 obtain ⟨r4, hr4, h⟩ := bindO h
 refine kC [0] 23 (.tup [.d (.sl none (rowsD r4.1)), iV r4.2]) [.vec 0 (intsD r3)] rfl Try.call4 rfl rfl (spec_ExtensionList_o1_ac k r2 r3 _ hr4) rfl ?_
 refine kN 5 rfl ?_
 refine kR ?_
 refine kM 1 rfl ?_
 obtain ⟨r5, hr5, h⟩ := bindO h
 refine kC [] 27 (.vec 1 0) [.vec 0 (intsD r3), .vec 0 (intsD r5)] rfl Try.call6 rfl rfl (laws_toInt64S_ac k p1 _ hr5) rfl ?_
 refine kN 1 rfl ?_
 refine kR ?_
 refine AOps_q 29 _ rfl rfl rfl (QOp_loadN_pv _ _ _ _ _ _ rfl Try.isAgg24 Try.sizeOf24 rfl (colD_all _) (colD_length _)) ?_
 obtain ⟨r6, hr6, h⟩ := bindO h
 refine kC [] 30 (.d (.agg (colD r6))) [.vec 0 (intsD r3), .vec 0 (intsD r5)] rfl Try.call5 rfl rfl (laws_toColouring_ac k p0 _ hr6) rfl ?_
 refine kM 1 rfl ?_
 obtain ⟨r7, hr7, h⟩ := bindO h
 refine AOps_call [1] 32 _ _ _ _ _ _ _ _ _ _ rfl rfl rfl rfl rfl rfl rfl Try.call7 rfl (nodupB_sound _ rfl) rfl rfl rfl (impl_ExtensionList_o1_ac k r6 r5 _ hr7) ?_
 revert h
 cases hx9 : r7.1 with
 | none =>
  intro h
  rintro _ _ ⟨rfl, rfl⟩
  refine ⟨(allc (fun _ _ => trivial) (fun _ h => nomatch h)), (allc (trivial) (allc (trivial) (fun _ h => nomatch h))), AOps_as 32 (v' := .tup [.d (.sl (some true) []), iV r7.2]) (H' := [.vec 0 (intsD r3), .vec 0 (intsD r5)]) rfl rfl ?_⟩
  refine kN 5 rfl ?_
  refine kO (fun s14 => [(1, .d (.sl none (intsD p1))), (2, .d (.pv (colD p0) 0)), (5, .d (.sl none (rowsD r4.1))), (6, iV r4.2), (7, .vec 0 0), (8, .d (.sl (some true) [])), (9, iV r7.2)]) (fun s14 => [.vec 0 (intsD r5)]) h (fun os14 h hks14 => ?_) (fun s14 h => ?_)
  ·refine kB (fun s12 => [(1, .d (.sl none (intsD p1))), (2, .d (.pv (colD p0) 0)), (5, .d (.sl none (rowsD r4.1))), (6, iV r4.2), (7, .vec 0 0), (8, .d (.sl (some true) [])), (9, iV r7.2), (43, bV s12)]) (fun s12 => [.vec 0 (intsD r5)]) h (fun s12 h => ?_) (fun s12 h => ?_)
   ·refine (ACode_region ?_)
    refine kM 2 rfl ?_
    obtain ⟨r10, hr10, h⟩ := bindO h
    refine kC [] 37 (bV r10) [.vec 0 (intsD r3), .vec 0 (intsD r5)] rfl Try.call8 rfl rfl (laws_eqInt64SS_ac k ([]) r4.1 _ hr10) rfl ?_
    refine AOps_q 38 _ rfl rfl rfl (QOp_not _ _ _ rfl rfl) ?_
    refine kM 1 rfl ?_
    refine AOps_case 39 _ rfl (fun hb11 => ?_) (fun hb11 => ?_)
    ·have h := iteT hb11 h
     refine AOps_skip 40 rfl rfl rfl ?_
     refine AOps_skip 41 rfl rfl rfl ?_
     refine AOps_skip 42 rfl rfl rfl ?_
     refine kN 1 rfl ?_
     cases h
     exact Weak_keep 0 hm [1, 2, 5, 6, 7, 8, 9, 43] [1] _ _ rfl rfl rfl
    have h := iteF hb11 h
    refine kM 2 rfl ?_
    refine AOps_q 42 _ rfl rfl rfl (QOp_neq _ _ _ _ _ _ _ rfl rfl rfl) ?_
    refine kN 1 rfl ?_
    cases h
    exact Weak_keep 0 hm [1, 2, 5, 6, 7, 8, 9, 43] [1] _ _ rfl rfl rfl
   refine kI h rfl (fun h _ => ?_) (fun h _ => ?_)
   ·refine kR ?_
    refine kN 1 rfl ?_
    refine ACode_ret ?_
    cases h
    have h := hks14
    cases h
    exact ⟨_, _, fun r a w h => ⟨r, h⟩, _, _, [], _, (.cons (ResV_tmp _ _ rfl) .nil), rfl, rfl, rfl, rfl, rfl⟩
   refine ACode_skip ?_
   cases h
   exact ⟨_, rfl, Weak_keep 0 hm [1, 2, 5, 6, 7, 8, 9] [0] _ _ rfl rfl rfl⟩
  refine ACode_seq ?_
  refine kR ?_
  refine kM 2 rfl ?_
  obtain ⟨r15, hr15, h⟩ := bindO h
  refine kC [] 46 (.vec 1 0) [.vec 0 (intsD r5), .vec 0 (intsD r15)] rfl Try.call6 rfl rfl (laws_toInt64S_ac k p1 _ hr15) rfl ?_
  obtain ⟨r16, hr16, h⟩ := bindO h
  refine AOps_callL [] 47 _ _ _ _ _ _ _ _ _ _ rfl rfl rfl rfl rfl rfl rfl Try.call9 rfl (nodupB_sound _ rfl) rfl rfl rfl (laws_eqInt64S_ac k r5 r15 _ hr16) ?_
  rintro _ _ ⟨rfl, rfl⟩
  refine ⟨(fun _ h => nomatch h), (allc (flat_s _) (fun _ h => nomatch h)), AOps_as 47 (v' := bV r16) (H' := [.vec 0 (intsD r5), .vec 0 (intsD r15)]) rfl rfl ?_⟩
  refine AOps_q 48 _ rfl rfl rfl (QOp_not _ _ _ rfl rfl) ?_
  refine AOps_nil ?_
  refine kI h rfl (fun h _ => ?_) (fun h _ => ?_)
  ·refine kR ?_
   refine kN 1 rfl ?_
   refine ACode_ret ?_
   cases h
   exact ⟨_, _, fun r a w h => ⟨r, h⟩, _, _, [], _, (.cons (ResV_tmp _ _ rfl) .nil), rfl, rfl, rfl, rfl, rfl⟩
  refine ACode_skip ?_
  refine kR ?_
  refine kN 1 rfl ?_
  refine kR ?_
  refine kM 2 rfl ?_
  obtain ⟨r18, hr18, h⟩ := bindO h
  refine kC [0] 51 (iV r18.1) [.vec 0 (intsD r18.2), .vec 0 (intsD r15)] rfl Try.call10 rfl rfl (laws_markInt64S_ac k r5 1 _ hr18) rfl ?_
  refine kN 1 rfl ?_
  refine kO (fun s24 => [(1, .d (.sl none (intsD p1))), (2, .d (.pv (colD p0) 0)), (5, .d (.sl none (rowsD r4.1))), (6, iV r4.2), (8, .d (.sl (some true) []))]) (fun s24 => []) h (fun os24 h hks24 => ?_) (fun s24 h => ?_)
  ·refine kB (fun s22 => [(1, .d (.sl none (intsD p1))), (2, .d (.pv (colD p0) 0)), (5, .d (.sl none (rowsD r4.1))), (6, iV r4.2), (8, .d (.sl (some true) [])), (64, bV s22)]) (fun s22 => []) h (fun s22 h => ?_) (fun s22 h => ?_)
   ·refine (ACode_region ?_)
    refine kM 1 rfl ?_
    refine AOps_q 53 _ rfl rfl rfl (QOp_lss _ _ _ _ _ _ _ rfl rfl rfl) ?_
    refine kM 1 rfl ?_
    refine AOps_case 54 _ rfl (fun hb19 => ?_) (fun hb19 => ?_)
    ·have h := iteT hb19 h
     refine AOps_skip 55 rfl rfl rfl ?_
     refine AOps_skip 56 rfl rfl rfl ?_
     refine AOps_skip 57 rfl rfl rfl ?_
     refine AOps_skip 58 rfl rfl rfl ?_
     refine kM 2 rfl ?_
     refine AOps_skip 61 rfl rfl rfl ?_
     refine AOps_skip 62 rfl rfl rfl ?_
     refine AOps_skip 63 rfl rfl rfl ?_
     refine kN 1 rfl ?_
     cases h
     exact Weak_keep 0 hm [1, 2, 5, 6, 8, 64] [] _ _ rfl rfl rfl
    have h := iteF hb19 h
    refine kM 2 rfl ?_
    obtain ⟨r20, hr20, h⟩ := bindO h
    refine kC [] 57 (bV r20) [.vec 0 (intsD r18.2), .vec 0 (intsD r15)] rfl Try.call8 rfl rfl (laws_eqInt64SS_ac k ([]) r4.1 _ hr20) rfl ?_
    refine AOps_q 58 _ rfl rfl rfl (QOp_not _ _ _ rfl rfl) ?_
    refine kM 2 rfl ?_
    refine AOps_case 60 _ rfl (fun hb21 => ?_) (fun hb21 => ?_)
    ·have h := iteT hb21 h
     refine AOps_skip 61 rfl rfl rfl ?_
     refine AOps_skip 62 rfl rfl rfl ?_
     refine AOps_skip 63 rfl rfl rfl ?_
     refine kN 1 rfl ?_
     cases h
     exact Weak_keep 0 hm [1, 2, 5, 6, 8, 64] [] _ _ rfl rfl rfl
    have h := iteF hb21 h
    refine kM 2 rfl ?_
    refine AOps_q 63 _ rfl rfl rfl (QOp_neq _ _ _ _ _ _ _ rfl rfl rfl) ?_
    refine kN 1 rfl ?_
    cases h
    exact Weak_keep 0 hm [1, 2, 5, 6, 8, 64] [] _ _ rfl rfl rfl
   refine kI h rfl (fun h _ => ?_) (fun h _ => ?_)
   ·refine kR ?_
    refine kN 1 rfl ?_
    refine ACode_ret ?_
    cases h
    have h := hks24
    cases h
    exact ⟨_, _, fun r a w h => ⟨r, h⟩, _, _, [], _, (.cons (ResV_tmp _ _ rfl) .nil), rfl, rfl, rfl, rfl, rfl⟩
   refine ACode_skip ?_
   cases h
   exact ⟨_, rfl, Weak_keep 0 hm [1, 2, 5, 6, 8] [] _ _ rfl rfl rfl⟩
  refine kR ?_
  refine kN 1 rfl ?_
  refine kR ?_
  refine kM 2 rfl ?_
  obtain ⟨r25, hr25, h⟩ := bindO h
  refine kC [] 67 (iV r25) [] rfl Try.call11 rfl rfl (laws_markInt64SS_ac k ([]) 1 _ hr25) rfl ?_
  refine kN 1 rfl ?_
  refine kR ?_
  refine kN 1 rfl ?_
  refine kR ?_
  refine kM 2 rfl ?_
  obtain ⟨r26, hr26, h⟩ := bindO h
  refine kC [] 70 (iV r26) [] rfl Try.call12 rfl rfl (laws_heldInt64SS_ac k ([]) 1 _ hr26) rfl ?_
  refine kN 1 rfl ?_
  refine ACode_seq ?_
  refine kR ?_
  refine kM 1 rfl ?_
  refine AOps_q 72 _ rfl rfl rfl (QOp_lss _ _ _ _ _ _ _ rfl rfl rfl) ?_
  refine AOps_nil ?_
  refine kI h rfl (fun h _ => ?_) (fun h _ => ?_)
  ·refine kR ?_
   refine kN 1 rfl ?_
   refine ACode_ret ?_
   cases h
   exact ⟨_, _, fun r a w h => ⟨r, h⟩, _, _, [], _, (.cons (ResV_tmp _ _ rfl) .nil), rfl, rfl, rfl, rfl, rfl⟩
  refine ACode_skip ?_
  refine ACode_seq ?_
  refine kR ?_
  refine kM 2 rfl ?_
  refine AOps_q 75 _ rfl rfl rfl (QOp_neq _ _ _ _ _ _ _ rfl rfl rfl) ?_
  refine AOps_nil ?_
  refine kI h rfl (fun h _ => ?_) (fun h _ => ?_)
  ·refine kR ?_
   refine kN 1 rfl ?_
   refine ACode_ret ?_
   cases h
   exact ⟨_, _, fun r a w h => ⟨r, h⟩, _, _, [], _, (.cons (ResV_tmp _ _ rfl) .nil), rfl, rfl, rfl, rfl, rfl⟩
  refine ACode_skip ?_
  refine kR ?_
  refine AOps_q 77 _ rfl rfl rfl (QOp_loadN_pv _ _ _ _ _ _ rfl Try.isAgg24 Try.sizeOf24 rfl (colD_all _) (colD_length _)) ?_
  obtain ⟨r29, hr29, h⟩ := bindO h
  refine kC [] 78 (.d (.agg (colD r29))) [] rfl Try.call5 rfl rfl (laws_toColouring_ac k p0 _ hr29) rfl ?_
  refine kM 1 rfl ?_
  obtain ⟨r30, hr30, h⟩ := bindO h
  refine kC [] 80 (.vec 0 0) [.vec 0 (intsD r30)] rfl Try.call6 rfl rfl (laws_toInt64S_ac k p1 _ hr30) rfl ?_
  obtain ⟨r31, hr31, h⟩ := bindO h
  refine AOps_call [0] 81 _ _ _ _ _ _ _ _ _ _ rfl rfl rfl rfl rfl rfl rfl Try.call7 rfl (nodupB_sound _ rfl) rfl rfl rfl (impl_ExtensionList_o1_ac k r29 r30 _ hr31) ?_
  revert h
  cases hx33 : r31.1 with
  | none =>
   intro h
   rintro _ _ ⟨rfl, rfl⟩
   refine ⟨(allc (fun _ _ => trivial) (fun _ h => nomatch h)), (allc (trivial) (allc (trivial) (fun _ h => nomatch h))), AOps_as 81 (v' := .tup [.d (.sl (some true) []), iV r31.2]) (H' := [.vec 0 (intsD r30)]) rfl rfl ?_⟩
   refine kN 5 rfl ?_
   refine kO (fun s38 => [(8, .d (.sl (some true) [])), (11, iV r25)]) (fun s38 => []) h (fun os38 h hks38 => ?_) (fun s38 h => ?_)
   ·refine kB (fun s36 => [(8, .d (.sl (some true) [])), (11, iV r25), (92, bV s36)]) (fun s36 => []) h (fun s36 h => ?_) (fun s36 h => ?_)
    ·refine (ACode_region ?_)
     refine kM 2 rfl ?_
     obtain ⟨r34, hr34, h⟩ := bindO h
     refine kC [] 86 (bV r34) [.vec 0 (intsD r30)] rfl Try.call8 rfl rfl (laws_eqInt64SS_ac k ([]) r4.1 _ hr34) rfl ?_
     refine AOps_q 87 _ rfl rfl rfl (QOp_not _ _ _ rfl rfl) ?_
     refine kM 1 rfl ?_
     refine AOps_case 88 _ rfl (fun hb35 => ?_) (fun hb35 => ?_)
     ·have h := iteT hb35 h
      refine AOps_skip 89 rfl rfl rfl ?_
      refine AOps_skip 90 rfl rfl rfl ?_
      refine AOps_skip 91 rfl rfl rfl ?_
      refine kN 1 rfl ?_
      cases h
      exact Weak_keep 0 hm [8, 11, 92] [] _ _ rfl rfl rfl
     have h := iteF hb35 h
     refine kM 2 rfl ?_
     refine AOps_q 91 _ rfl rfl rfl (QOp_neq _ _ _ _ _ _ _ rfl rfl rfl) ?_
     refine kN 1 rfl ?_
     cases h
     exact Weak_keep 0 hm [8, 11, 92] [] _ _ rfl rfl rfl
    refine kI h rfl (fun h _ => ?_) (fun h _ => ?_)
    ·refine kR ?_
     refine kN 1 rfl ?_
     refine ACode_ret ?_
     cases h
     have h := hks38
     cases h
     exact ⟨_, _, fun r a w h => ⟨r, h⟩, _, _, [], _, (.cons (ResV_tmp _ _ rfl) .nil), rfl, rfl, rfl, rfl, rfl⟩
    refine ACode_skip ?_
    cases h
    exact ⟨_, rfl, Weak_keep 0 hm [8, 11] [] _ _ rfl rfl rfl⟩
   refine kR ?_
   refine kN 1 rfl ?_
   refine kR ?_
   refine kM 2 rfl ?_
   obtain ⟨r39, hr39, h⟩ := bindO h
   refine kC [] 95 (iV r39) [] rfl Try.call12 rfl rfl (laws_heldInt64SS_ac k ([]) 1 _ hr39) rfl ?_
   refine kN 1 rfl ?_
   refine ACode_seq ?_
   refine kR ?_
   refine kM 1 rfl ?_
   refine AOps_q 97 _ rfl rfl rfl (QOp_lss _ _ _ _ _ _ _ rfl rfl rfl) ?_
   refine AOps_nil ?_
   refine kI h rfl (fun h _ => ?_) (fun h _ => ?_)
   ·refine kR ?_
    refine kN 1 rfl ?_
    refine ACode_ret ?_
    cases h
    exact ⟨_, _, fun r a w h => ⟨r, h⟩, _, _, [], _, (.cons (ResV_tmp _ _ rfl) .nil), rfl, rfl, rfl, rfl, rfl⟩
   refine ACode_skip ?_
   refine ACode_seq ?_
   refine kR ?_
   refine kM 2 rfl ?_
   refine AOps_q 100 _ rfl rfl rfl (QOp_neq _ _ _ _ _ _ _ rfl rfl rfl) ?_
   refine AOps_nil ?_
   refine kI h rfl (fun h _ => ?_) (fun h _ => ?_)
   ·refine kR ?_
    refine kN 1 rfl ?_
    refine ACode_ret ?_
    cases h
    exact ⟨_, _, fun r a w h => ⟨r, h⟩, _, _, [], _, (.cons (ResV_tmp _ _ rfl) .nil), rfl, rfl, rfl, rfl, rfl⟩
   refine ACode_skip ?_
   refine kR ?_
   refine kN 1 rfl ?_
   refine ACode_ret ?_
   cases h
   exact ⟨_, _, fun r a w h => ⟨r, h⟩, _, _, [], _, (.cons (ResV_tmp _ _ rfl) .nil), rfl, rfl, rfl, rfl, rfl⟩
  | some l32 =>
   intro h
   rintro _ _ ⟨rfl, rfl⟩
   refine ⟨(allc (fun _ _ => trivial) (allc (fun _ _ => trivial) (fun _ h => nomatch h))), (allc (trivial) (allc (trivial) (fun _ h => nomatch h))), AOps_as 81 (v' := .tup [.vec 1 0, iV r31.2]) (H' := [.vec 0 (intsD r30), .vec 0 (rowsD l32)]) rfl rfl ?_⟩
   refine kN 5 rfl ?_
   refine kO (fun s46 => [(8, .d (.sl (some true) [])), (11, iV r25)]) (fun s46 => []) h (fun os46 h hks46 => ?_) (fun s46 h => ?_)
   ·refine kB (fun s44 => [(8, .d (.sl (some true) [])), (11, iV r25), (92, bV s44)]) (fun s44 => []) h (fun s44 h => ?_) (fun s44 h => ?_)
    ·refine (ACode_region ?_)
     refine kM 2 rfl ?_
     obtain ⟨r42, hr42, h⟩ := bindO h
     refine AOps_callL [] 86 _ _ _ _ _ _ _ _ _ _ rfl rfl rfl rfl rfl rfl rfl Try.call8 rfl (nodupB_sound _ rfl) rfl rfl rfl (laws_eqInt64SS_ac k l32 r4.1 _ hr42) ?_
     rintro _ _ ⟨rfl, rfl⟩
     refine ⟨(fun _ h => nomatch h), (allc (flat_s _) (fun _ h => nomatch h)), AOps_as 86 (v' := bV r42) (H' := [.vec 0 (intsD r30), .vec 0 (rowsD l32)]) rfl rfl ?_⟩
     refine AOps_q 87 _ rfl rfl rfl (QOp_not _ _ _ rfl rfl) ?_
     refine kM 1 rfl ?_
     refine AOps_case 88 _ rfl (fun hb43 => ?_) (fun hb43 => ?_)
     ·have h := iteT hb43 h
      refine AOps_skip 89 rfl rfl rfl ?_
      refine AOps_skip 90 rfl rfl rfl ?_
      refine AOps_skip 91 rfl rfl rfl ?_
      refine kN 1 rfl ?_
      cases h
      exact Weak_keep 0 hm [8, 11, 92] [] _ _ rfl rfl rfl
     have h := iteF hb43 h
     refine kM 2 rfl ?_
     refine AOps_q 91 _ rfl rfl rfl (QOp_neq _ _ _ _ _ _ _ rfl rfl rfl) ?_
     refine kN 1 rfl ?_
     cases h
     exact Weak_keep 0 hm [8, 11, 92] [] _ _ rfl rfl rfl
    refine kI h rfl (fun h _ => ?_) (fun h _ => ?_)
    ·refine kR ?_
     refine kN 1 rfl ?_
     refine ACode_ret ?_
     cases h
     have h := hks46
     cases h
     exact ⟨_, _, fun r a w h => ⟨r, h⟩, _, _, [], _, (.cons (ResV_tmp _ _ rfl) .nil), rfl, rfl, rfl, rfl, rfl⟩
    refine ACode_skip ?_
    cases h
    exact ⟨_, rfl, Weak_keep 0 hm [8, 11] [] _ _ rfl rfl rfl⟩
   refine kR ?_
   refine kN 1 rfl ?_
   refine kR ?_
   refine kM 2 rfl ?_
   obtain ⟨r47, hr47, h⟩ := bindO h
   refine kC [] 95 (iV r47) [] rfl Try.call12 rfl rfl (laws_heldInt64SS_ac k ([]) 1 _ hr47) rfl ?_
   refine kN 1 rfl ?_
   refine ACode_seq ?_
   refine kR ?_
   refine kM 1 rfl ?_
   refine AOps_q 97 _ rfl rfl rfl (QOp_lss _ _ _ _ _ _ _ rfl rfl rfl) ?_
   refine AOps_nil ?_
   refine kI h rfl (fun h _ => ?_) (fun h _ => ?_)
   ·refine kR ?_
    refine kN 1 rfl ?_
    refine ACode_ret ?_
    cases h
    exact ⟨_, _, fun r a w h => ⟨r, h⟩, _, _, [], _, (.cons (ResV_tmp _ _ rfl) .nil), rfl, rfl, rfl, rfl, rfl⟩
   refine ACode_skip ?_
   refine ACode_seq ?_
   refine kR ?_
   refine kM 2 rfl ?_
   refine AOps_q 100 _ rfl rfl rfl (QOp_neq _ _ _ _ _ _ _ rfl rfl rfl) ?_
   refine AOps_nil ?_
   refine kI h rfl (fun h _ => ?_) (fun h _ => ?_)
   ·refine kR ?_
    refine kN 1 rfl ?_
    refine ACode_ret ?_
    cases h
    exact ⟨_, _, fun r a w h => ⟨r, h⟩, _, _, [], _, (.cons (ResV_tmp _ _ rfl) .nil), rfl, rfl, rfl, rfl, rfl⟩
   refine ACode_skip ?_
   refine kR ?_
   refine kN 1 rfl ?_
   refine ACode_ret ?_
   cases h
   exact ⟨_, _, fun r a w h => ⟨r, h⟩, _, _, [], _, (.cons (ResV_tmp _ _ rfl) .nil), rfl, rfl, rfl, rfl, rfl⟩
 | some l8 =>
  intro h
  rintro _ _ ⟨rfl, rfl⟩
  refine ⟨(allc (fun _ _ => trivial) (allc (fun _ _ => trivial) (fun _ h => nomatch h))), (allc (trivial) (allc (trivial) (fun _ h => nomatch h))), AOps_as 32 (v' := .tup [.vec 2 0, iV r7.2]) (H' := [.vec 0 (intsD r3), .vec 0 (intsD r5), .vec 0 (rowsD l8)]) rfl rfl ?_⟩
  refine kN 5 rfl ?_
  refine kO (fun s54 => [(1, .d (.sl none (intsD p1))), (2, .d (.pv (colD p0) 0)), (5, .d (.sl none (rowsD r4.1))), (6, iV r4.2), (7, .vec 0 0), (8, .vec 1 0), (9, iV r7.2)]) (fun s54 => [.vec 0 (intsD r5), .vec 0 (rowsD l8)]) h (fun os54 h hks54 => ?_) (fun s54 h => ?_)
  ·refine kB (fun s52 => [(1, .d (.sl none (intsD p1))), (2, .d (.pv (colD p0) 0)), (5, .d (.sl none (rowsD r4.1))), (6, iV r4.2), (7, .vec 0 0), (8, .vec 1 0), (9, iV r7.2), (43, bV s52)]) (fun s52 => [.vec 0 (intsD r5), .vec 0 (rowsD l8)]) h (fun s52 h => ?_) (fun s52 h => ?_)
   ·refine (ACode_region ?_)
    refine kM 2 rfl ?_
    obtain ⟨r50, hr50, h⟩ := bindO h
    refine AOps_callL [] 37 _ _ _ _ _ _ _ _ _ _ rfl rfl rfl rfl rfl rfl rfl Try.call8 rfl (nodupB_sound _ rfl) rfl rfl rfl (laws_eqInt64SS_ac k l8 r4.1 _ hr50) ?_
    rintro _ _ ⟨rfl, rfl⟩
    refine ⟨(fun _ h => nomatch h), (allc (flat_s _) (fun _ h => nomatch h)), AOps_as 37 (v' := bV r50) (H' := [.vec 0 (intsD r3), .vec 0 (intsD r5), .vec 0 (rowsD l8)]) rfl rfl ?_⟩
    refine AOps_q 38 _ rfl rfl rfl (QOp_not _ _ _ rfl rfl) ?_
    refine kM 1 rfl ?_
    refine AOps_case 39 _ rfl (fun hb51 => ?_) (fun hb51 => ?_)
    ·have h := iteT hb51 h
     refine AOps_skip 40 rfl rfl rfl ?_
     refine AOps_skip 41 rfl rfl rfl ?_
     refine AOps_skip 42 rfl rfl rfl ?_
     refine kN 1 rfl ?_
     cases h
     exact Weak_keep 0 hm [1, 2, 5, 6, 7, 8, 9, 43] [1, 2] _ _ rfl rfl rfl
    have h := iteF hb51 h
    refine kM 2 rfl ?_
    refine AOps_q 42 _ rfl rfl rfl (QOp_neq _ _ _ _ _ _ _ rfl rfl rfl) ?_
    refine kN 1 rfl ?_
    cases h
    exact Weak_keep 0 hm [1, 2, 5, 6, 7, 8, 9, 43] [1, 2] _ _ rfl rfl rfl
   refine kI h rfl (fun h _ => ?_) (fun h _ => ?_)
   ·refine kR ?_
    refine kN 1 rfl ?_
    refine ACode_ret ?_
    cases h
    have h := hks54
    cases h
    exact ⟨_, _, fun r a w h => ⟨r, h⟩, _, _, [], _, (.cons (ResV_tmp _ _ rfl) .nil), rfl, rfl, rfl, rfl, rfl⟩
   refine ACode_skip ?_
   cases h
   exact ⟨_, rfl, Weak_keep 0 hm [1, 2, 5, 6, 7, 8, 9] [0, 1] _ _ rfl rfl rfl⟩
  refine ACode_seq ?_
  refine kR ?_
  refine kM 2 rfl ?_
  obtain ⟨r55, hr55, h⟩ := bindO h
  refine kC [] 46 (.vec 2 0) [.vec 0 (intsD r5), .vec 0 (rowsD l8), .vec 0 (intsD r55)] rfl Try.call6 rfl rfl (laws_toInt64S_ac k p1 _ hr55) rfl ?_
  obtain ⟨r56, hr56, h⟩ := bindO h
  refine AOps_callL [] 47 _ _ _ _ _ _ _ _ _ _ rfl rfl rfl rfl rfl rfl rfl Try.call9 rfl (nodupB_sound _ rfl) rfl rfl rfl (laws_eqInt64S_ac k r5 r55 _ hr56) ?_
  rintro _ _ ⟨rfl, rfl⟩
  refine ⟨(fun _ h => nomatch h), (allc (flat_s _) (fun _ h => nomatch h)), AOps_as 47 (v' := bV r56) (H' := [.vec 0 (intsD r5), .vec 0 (rowsD l8), .vec 0 (intsD r55)]) rfl rfl ?_⟩
  refine AOps_q 48 _ rfl rfl rfl (QOp_not _ _ _ rfl rfl) ?_
  refine AOps_nil ?_
  refine kI h rfl (fun h _ => ?_) (fun h _ => ?_)
  ·refine kR ?_
   refine kN 1 rfl ?_
   refine ACode_ret ?_
   cases h
   exact ⟨_, _, fun r a w h => ⟨r, h⟩, _, _, [], _, (.cons (ResV_tmp _ _ rfl) .nil), rfl, rfl, rfl, rfl, rfl⟩
  refine ACode_skip ?_
  refine kR ?_
  refine kN 1 rfl ?_
  refine kR ?_
  refine kM 2 rfl ?_
  obtain ⟨r58, hr58, h⟩ := bindO h
  refine kC [0] 51 (iV r58.1) [.vec 0 (intsD r58.2), .vec 0 (rowsD l8), .vec 0 (intsD r55)] rfl Try.call10 rfl rfl (laws_markInt64S_ac k r5 1 _ hr58) rfl ?_
  refine kN 1 rfl ?_
  refine kO (fun s64 => [(1, .d (.sl none (intsD p1))), (2, .d (.pv (colD p0) 0)), (5, .d (.sl none (rowsD r4.1))), (6, iV r4.2), (8, .vec 0 0)]) (fun s64 => [.vec 0 (rowsD l8)]) h (fun os64 h hks64 => ?_) (fun s64 h => ?_)
  ·refine kB (fun s62 => [(1, .d (.sl none (intsD p1))), (2, .d (.pv (colD p0) 0)), (5, .d (.sl none (rowsD r4.1))), (6, iV r4.2), (8, .vec 0 0), (64, bV s62)]) (fun s62 => [.vec 0 (rowsD l8)]) h (fun s62 h => ?_) (fun s62 h => ?_)
   ·refine (ACode_region ?_)
    refine kM 1 rfl ?_
    refine AOps_q 53 _ rfl rfl rfl (QOp_lss _ _ _ _ _ _ _ rfl rfl rfl) ?_
    refine kM 1 rfl ?_
    refine AOps_case 54 _ rfl (fun hb59 => ?_) (fun hb59 => ?_)
    ·have h := iteT hb59 h
     refine AOps_skip 55 rfl rfl rfl ?_
     refine AOps_skip 56 rfl rfl rfl ?_
     refine AOps_skip 57 rfl rfl rfl ?_
     refine AOps_skip 58 rfl rfl rfl ?_
     refine kM 2 rfl ?_
     refine AOps_skip 61 rfl rfl rfl ?_
     refine AOps_skip 62 rfl rfl rfl ?_
     refine AOps_skip 63 rfl rfl rfl ?_
     refine kN 1 rfl ?_
     cases h
     exact Weak_keep 0 hm [1, 2, 5, 6, 8, 64] [1] _ _ rfl rfl rfl
    have h := iteF hb59 h
    refine kM 2 rfl ?_
    obtain ⟨r60, hr60, h⟩ := bindO h
    refine AOps_callL [] 57 _ _ _ _ _ _ _ _ _ _ rfl rfl rfl rfl rfl rfl rfl Try.call8 rfl (nodupB_sound _ rfl) rfl rfl rfl (laws_eqInt64SS_ac k l8 r4.1 _ hr60) ?_
    rintro _ _ ⟨rfl, rfl⟩
    refine ⟨(fun _ h => nomatch h), (allc (flat_s _) (fun _ h => nomatch h)), AOps_as 57 (v' := bV r60) (H' := [.vec 0 (intsD r58.2), .vec 0 (rowsD l8), .vec 0 (intsD r55)]) rfl rfl ?_⟩
    refine AOps_q 58 _ rfl rfl rfl (QOp_not _ _ _ rfl rfl) ?_
    refine kM 2 rfl ?_
    refine AOps_case 60 _ rfl (fun hb61 => ?_) (fun hb61 => ?_)
    ·have h := iteT hb61 h
     refine AOps_skip 61 rfl rfl rfl ?_
     refine AOps_skip 62 rfl rfl rfl ?_
     refine AOps_skip 63 rfl rfl rfl ?_
     refine kN 1 rfl ?_
     cases h
     exact Weak_keep 0 hm [1, 2, 5, 6, 8, 64] [1] _ _ rfl rfl rfl
    have h := iteF hb61 h
    refine kM 2 rfl ?_
    refine AOps_q 63 _ rfl rfl rfl (QOp_neq _ _ _ _ _ _ _ rfl rfl rfl) ?_
    refine kN 1 rfl ?_
    cases h
    exact Weak_keep 0 hm [1, 2, 5, 6, 8, 64] [1] _ _ rfl rfl rfl
   refine kI h rfl (fun h _ => ?_) (fun h _ => ?_)
   ·refine kR ?_
    refine kN 1 rfl ?_
    refine ACode_ret ?_
    cases h
    have h := hks64
    cases h
    exact ⟨_, _, fun r a w h => ⟨r, h⟩, _, _, [], _, (.cons (ResV_tmp _ _ rfl) .nil), rfl, rfl, rfl, rfl, rfl⟩
   refine ACode_skip ?_
   cases h
   exact ⟨_, rfl, Weak_keep 0 hm [1, 2, 5, 6, 8] [0] _ _ rfl rfl rfl⟩
  refine kR ?_
  refine kN 1 rfl ?_
  refine kR ?_
  refine kM 2 rfl ?_
  obtain ⟨r65, hr65, h⟩ := bindO h
  refine AOps_callL [] 67 _ _ _ _ _ _ _ _ _ _ rfl rfl rfl rfl rfl rfl rfl Try.call11 rfl (nodupB_sound _ rfl) rfl rfl rfl (laws_markInt64SS_ac k l8 1 _ hr65) ?_
  rintro _ _ ⟨rfl, rfl⟩
  refine ⟨(fun _ h => nomatch h), (allc (flat_s _) (fun _ h => nomatch h)), AOps_as 67 (v' := iV r65) (H' := [.vec 0 (rowsD l8)]) rfl rfl ?_⟩
  refine kN 1 rfl ?_
  refine kR ?_
  refine kN 1 rfl ?_
  refine kR ?_
  refine kM 2 rfl ?_
  obtain ⟨r66, hr66, h⟩ := bindO h
  refine AOps_callL [] 70 _ _ _ _ _ _ _ _ _ _ rfl rfl rfl rfl rfl rfl rfl Try.call12 rfl (nodupB_sound _ rfl) rfl rfl rfl (laws_heldInt64SS_ac k l8 1 _ hr66) ?_
  rintro _ _ ⟨rfl, rfl⟩
  refine ⟨(fun _ h => nomatch h), (allc (flat_s _) (fun _ h => nomatch h)), AOps_as 70 (v' := iV r66) (H' := [.vec 0 (rowsD l8)]) rfl rfl ?_⟩
  refine kN 1 rfl ?_
  refine ACode_seq ?_
  refine kR ?_
  refine kM 1 rfl ?_
  refine AOps_q 72 _ rfl rfl rfl (QOp_lss _ _ _ _ _ _ _ rfl rfl rfl) ?_
  refine AOps_nil ?_
  refine kI h rfl (fun h _ => ?_) (fun h _ => ?_)
  ·refine kR ?_
   refine kN 1 rfl ?_
   refine ACode_ret ?_
   cases h
   exact ⟨_, _, fun r a w h => ⟨r, h⟩, _, _, [], _, (.cons (ResV_tmp _ _ rfl) .nil), rfl, rfl, rfl, rfl, rfl⟩
  refine ACode_skip ?_
  refine ACode_seq ?_
  refine kR ?_
  refine kM 2 rfl ?_
  refine AOps_q 75 _ rfl rfl rfl (QOp_neq _ _ _ _ _ _ _ rfl rfl rfl) ?_
  refine AOps_nil ?_
  refine kI h rfl (fun h _ => ?_) (fun h _ => ?_)
  ·refine kR ?_
   refine kN 1 rfl ?_
   refine ACode_ret ?_
   cases h
   exact ⟨_, _, fun r a w h => ⟨r, h⟩, _, _, [], _, (.cons (ResV_tmp _ _ rfl) .nil), rfl, rfl, rfl, rfl, rfl⟩
  refine ACode_skip ?_
  refine kR ?_
  refine AOps_q 77 _ rfl rfl rfl (QOp_loadN_pv _ _ _ _ _ _ rfl Try.isAgg24 Try.sizeOf24 rfl (colD_all _) (colD_length _)) ?_
  obtain ⟨r69, hr69, h⟩ := bindO h
  refine kC [] 78 (.d (.agg (colD r69))) [.vec 0 (rowsD l8)] rfl Try.call5 rfl rfl (laws_toColouring_ac k p0 _ hr69) rfl ?_
  refine kM 1 rfl ?_
  obtain ⟨r70, hr70, h⟩ := bindO h
  refine kC [] 80 (.vec 1 0) [.vec 0 (rowsD l8), .vec 0 (intsD r70)] rfl Try.call6 rfl rfl (laws_toInt64S_ac k p1 _ hr70) rfl ?_
  obtain ⟨r71, hr71, h⟩ := bindO h
  refine AOps_call [1] 81 _ _ _ _ _ _ _ _ _ _ rfl rfl rfl rfl rfl rfl rfl Try.call7 rfl (nodupB_sound _ rfl) rfl rfl rfl (impl_ExtensionList_o1_ac k r69 r70 _ hr71) ?_
  revert h
  cases hx73 : r71.1 with
  | none =>
   intro h
   rintro _ _ ⟨rfl, rfl⟩
   refine ⟨(allc (fun _ _ => trivial) (fun _ h => nomatch h)), (allc (trivial) (allc (trivial) (fun _ h => nomatch h))), AOps_as 81 (v' := .tup [.d (.sl (some true) []), iV r71.2]) (H' := [.vec 0 (rowsD l8), .vec 0 (intsD r70)]) rfl rfl ?_⟩
   refine kN 5 rfl ?_
   refine kO (fun s78 => [(8, .vec 0 0), (11, iV r65)]) (fun s78 => [.vec 0 (rowsD l8)]) h (fun os78 h hks78 => ?_) (fun s78 h => ?_)
   ·refine kB (fun s76 => [(8, .vec 0 0), (11, iV r65), (92, bV s76)]) (fun s76 => [.vec 0 (rowsD l8)]) h (fun s76 h => ?_) (fun s76 h => ?_)
    ·refine (ACode_region ?_)
     refine kM 2 rfl ?_
     obtain ⟨r74, hr74, h⟩ := bindO h
     refine kC [] 86 (bV r74) [.vec 0 (rowsD l8), .vec 0 (intsD r70)] rfl Try.call8 rfl rfl (laws_eqInt64SS_ac k ([]) r4.1 _ hr74) rfl ?_
     refine AOps_q 87 _ rfl rfl rfl (QOp_not _ _ _ rfl rfl) ?_
     refine kM 1 rfl ?_
     refine AOps_case 88 _ rfl (fun hb75 => ?_) (fun hb75 => ?_)
     ·have h := iteT hb75 h
      refine AOps_skip 89 rfl rfl rfl ?_
      refine AOps_skip 90 rfl rfl rfl ?_
      refine AOps_skip 91 rfl rfl rfl ?_
      refine kN 1 rfl ?_
      cases h
      exact Weak_keep 0 hm [8, 11, 92] [0] _ _ rfl rfl rfl
     have h := iteF hb75 h
     refine kM 2 rfl ?_
     refine AOps_q 91 _ rfl rfl rfl (QOp_neq _ _ _ _ _ _ _ rfl rfl rfl) ?_
     refine kN 1 rfl ?_
     cases h
     exact Weak_keep 0 hm [8, 11, 92] [0] _ _ rfl rfl rfl
    refine kI h rfl (fun h _ => ?_) (fun h _ => ?_)
    ·refine kR ?_
     refine kN 1 rfl ?_
     refine ACode_ret ?_
     cases h
     have h := hks78
     cases h
     exact ⟨_, _, fun r a w h => ⟨r, h⟩, _, _, [], _, (.cons (ResV_tmp _ _ rfl) .nil), rfl, rfl, rfl, rfl, rfl⟩
    refine ACode_skip ?_
    cases h
    exact ⟨_, rfl, Weak_keep 0 hm [8, 11] [0] _ _ rfl rfl rfl⟩
   refine kR ?_
   refine kN 1 rfl ?_
   refine kR ?_
   refine kM 2 rfl ?_
   obtain ⟨r79, hr79, h⟩ := bindO h
   refine AOps_callL [] 95 _ _ _ _ _ _ _ _ _ _ rfl rfl rfl rfl rfl rfl rfl Try.call12 rfl (nodupB_sound _ rfl) rfl rfl rfl (laws_heldInt64SS_ac k l8 1 _ hr79) ?_
   rintro _ _ ⟨rfl, rfl⟩
   refine ⟨(fun _ h => nomatch h), (allc (flat_s _) (fun _ h => nomatch h)), AOps_as 95 (v' := iV r79) (H' := [.vec 0 (rowsD l8)]) rfl rfl ?_⟩
   refine kN 1 rfl ?_
   refine ACode_seq ?_
   refine kR ?_
   refine kM 1 rfl ?_
   refine AOps_q 97 _ rfl rfl rfl (QOp_lss _ _ _ _ _ _ _ rfl rfl rfl) ?_
   refine AOps_nil ?_
   refine kI h rfl (fun h _ => ?_) (fun h _ => ?_)
   ·refine kR ?_
    refine kN 1 rfl ?_
    refine ACode_ret ?_
    cases h
    exact ⟨_, _, fun r a w h => ⟨r, h⟩, _, _, [], _, (.cons (ResV_tmp _ _ rfl) .nil), rfl, rfl, rfl, rfl, rfl⟩
   refine ACode_skip ?_
   refine ACode_seq ?_
   refine kR ?_
   refine kM 2 rfl ?_
   refine AOps_q 100 _ rfl rfl rfl (QOp_neq _ _ _ _ _ _ _ rfl rfl rfl) ?_
   refine AOps_nil ?_
   refine kI h rfl (fun h _ => ?_) (fun h _ => ?_)
   ·refine kR ?_
    refine kN 1 rfl ?_
    refine ACode_ret ?_
    cases h
    exact ⟨_, _, fun r a w h => ⟨r, h⟩, _, _, [], _, (.cons (ResV_tmp _ _ rfl) .nil), rfl, rfl, rfl, rfl, rfl⟩
   refine ACode_skip ?_
   refine kR ?_
   refine kN 1 rfl ?_
   refine ACode_ret ?_
   cases h
   exact ⟨_, _, fun r a w h => ⟨r, h⟩, _, _, [], _, (.cons (ResV_tmp _ _ rfl) .nil), rfl, rfl, rfl, rfl, rfl⟩
  | some l72 =>
   intro h
   rintro _ _ ⟨rfl, rfl⟩
   refine ⟨(allc (fun _ _ => trivial) (allc (fun _ _ => trivial) (fun _ h => nomatch h))), (allc (trivial) (allc (trivial) (fun _ h => nomatch h))), AOps_as 81 (v' := .tup [.vec 2 0, iV r71.2]) (H' := [.vec 0 (rowsD l8), .vec 0 (intsD r70), .vec 0 (rowsD l72)]) rfl rfl ?_⟩
   refine kN 5 rfl ?_
   refine kO (fun s86 => [(8, .vec 0 0), (11, iV r65)]) (fun s86 => [.vec 0 (rowsD l8)]) h (fun os86 h hks86 => ?_) (fun s86 h => ?_)
   ·refine kB (fun s84 => [(8, .vec 0 0), (11, iV r65), (92, bV s84)]) (fun s84 => [.vec 0 (rowsD l8)]) h (fun s84 h => ?_) (fun s84 h => ?_)
    ·refine (ACode_region ?_)
     refine kM 2 rfl ?_
     obtain ⟨r82, hr82, h⟩ := bindO h
     refine AOps_callL [] 86 _ _ _ _ _ _ _ _ _ _ rfl rfl rfl rfl rfl rfl rfl Try.call8 rfl (nodupB_sound _ rfl) rfl rfl rfl (laws_eqInt64SS_ac k l72 r4.1 _ hr82) ?_
     rintro _ _ ⟨rfl, rfl⟩
     refine ⟨(fun _ h => nomatch h), (allc (flat_s _) (fun _ h => nomatch h)), AOps_as 86 (v' := bV r82) (H' := [.vec 0 (rowsD l8), .vec 0 (intsD r70), .vec 0 (rowsD l72)]) rfl rfl ?_⟩
     refine AOps_q 87 _ rfl rfl rfl (QOp_not _ _ _ rfl rfl) ?_
     refine kM 1 rfl ?_
     refine AOps_case 88 _ rfl (fun hb83 => ?_) (fun hb83 => ?_)
     ·have h := iteT hb83 h
      refine AOps_skip 89 rfl rfl rfl ?_
      refine AOps_skip 90 rfl rfl rfl ?_
      refine AOps_skip 91 rfl rfl rfl ?_
      refine kN 1 rfl ?_
      cases h
      exact Weak_keep 0 hm [8, 11, 92] [0] _ _ rfl rfl rfl
     have h := iteF hb83 h
     refine kM 2 rfl ?_
     refine AOps_q 91 _ rfl rfl rfl (QOp_neq _ _ _ _ _ _ _ rfl rfl rfl) ?_
     refine kN 1 rfl ?_
     cases h
     exact Weak_keep 0 hm [8, 11, 92] [0] _ _ rfl rfl rfl
    refine kI h rfl (fun h _ => ?_) (fun h _ => ?_)
    ·refine kR ?_
     refine kN 1 rfl ?_
     refine ACode_ret ?_
     cases h
     have h := hks86
     cases h
     exact ⟨_, _, fun r a w h => ⟨r, h⟩, _, _, [], _, (.cons (ResV_tmp _ _ rfl) .nil), rfl, rfl, rfl, rfl, rfl⟩
    refine ACode_skip ?_
    cases h
    exact ⟨_, rfl, Weak_keep 0 hm [8, 11] [0] _ _ rfl rfl rfl⟩
   refine kR ?_
   refine kN 1 rfl ?_
   refine kR ?_
   refine kM 2 rfl ?_
   obtain ⟨r87, hr87, h⟩ := bindO h
   refine AOps_callL [] 95 _ _ _ _ _ _ _ _ _ _ rfl rfl rfl rfl rfl rfl rfl Try.call12 rfl (nodupB_sound _ rfl) rfl rfl rfl (laws_heldInt64SS_ac k l8 1 _ hr87) ?_
   rintro _ _ ⟨rfl, rfl⟩
   refine ⟨(fun _ h => nomatch h), (allc (flat_s _) (fun _ h => nomatch h)), AOps_as 95 (v' := iV r87) (H' := [.vec 0 (rowsD l8)]) rfl rfl ?_⟩
   refine kN 1 rfl ?_
   refine ACode_seq ?_
   refine kR ?_
   refine kM 1 rfl ?_
   refine AOps_q 97 _ rfl rfl rfl (QOp_lss _ _ _ _ _ _ _ rfl rfl rfl) ?_
   refine AOps_nil ?_
   refine kI h rfl (fun h _ => ?_) (fun h _ => ?_)
   ·refine kR ?_
    refine kN 1 rfl ?_
    refine ACode_ret ?_
    cases h
    exact ⟨_, _, fun r a w h => ⟨r, h⟩, _, _, [], _, (.cons (ResV_tmp _ _ rfl) .nil), rfl, rfl, rfl, rfl, rfl⟩
   refine ACode_skip ?_
   refine ACode_seq ?_
   refine kR ?_
   refine kM 2 rfl ?_
   refine AOps_q 100 _ rfl rfl rfl (QOp_neq _ _ _ _ _ _ _ rfl rfl rfl) ?_
   refine AOps_nil ?_
   refine kI h rfl (fun h _ => ?_) (fun h _ => ?_)
   ·refine kR ?_
    refine kN 1 rfl ?_
    refine ACode_ret ?_
    cases h
    exact ⟨_, _, fun r a w h => ⟨r, h⟩, _, _, [], _, (.cons (ResV_tmp _ _ rfl) .nil), rfl, rfl, rfl, rfl, rfl⟩
   refine ACode_skip ?_
   refine kR ?_
   refine kN 1 rfl ?_
   refine ACode_ret ?_
   cases h
   exact ⟨_, _, fun r a w h => ⟨r, h⟩, _, _, [], _, (.cons (ResV_tmp _ _ rfl) .nil), rfl, rfl, rfl, rfl, rfl⟩

end Go.Proofs.Ytldgmcghdohmeaa
