/- Plain function of spec.l10Chain and that the program computes it: a table whose rows are written one by one. (Printed by the own tool gen.py, FRAG.) No conditions. -/
import Derived.Test.YtfnbhfobgimnjaaTab
import Derived.Test.YtfnbhfobgimnjaaAb18
import Derived.Test.YtfnbhfobgimnjaaGenC
import Derived.KernelRfl
set_option linter.unusedVariables false
set_option linter.unusedSimpArgs false
namespace Go.Proofs.Ytfnbhfobgimnjaa
open Go Go.RowKit Ab

def spec_l10Bend (p0 : List Int) (p1 : List Int) (p2 : List Int) : Option (Int) :=
 (if 0 ≤ (1 : Int) ∧ (1 : Int) < (p2.length : Int) then (if 0 ≤ (1 : Int) ∧ (1 : Int) < (p1.length : Int) then (if 0 ≤ (0 : Int) ∧ (0 : Int) < (p1.length : Int) then (if 0 ≤ (0 : Int) ∧ (0 : Int) < (p0.length : Int) then (if 0 ≤ (1 : Int) ∧ (1 : Int) < (p1.length : Int) then (if 0 ≤ (1 : Int) ∧ (1 : Int) < (p0.length : Int) then (if 0 ≤ (0 : Int) ∧ (0 : Int) < (p2.length : Int) then (if 0 ≤ (0 : Int) ∧ (0 : Int) < (p1.length : Int) then some (w64 ((w64 ((w64 ((p2.getD (1 : Int).toNat 0) - (p1.getD (1 : Int).toNat 0))) * (w64 ((p1.getD (0 : Int).toNat 0) - (p0.getD (0 : Int).toNat 0))))) - (w64 ((w64 ((p1.getD (1 : Int).toNat 0) - (p0.getD (1 : Int).toNat 0))) * (w64 ((p2.getD (0 : Int).toNat 0) - (p1.getD (0 : Int).toNat 0))))))) else none) else none) else none) else none) else none) else none) else none) else none)
set_option maxRecDepth 100000 in
theorem spec_l10Bend_ac (p0 : List Int) (p1 : List Int) (p2 : List Int) (r : Int) (h : spec_l10Bend p0 p1 p2 = some r) : AC Try.prog 117 [.d (.sl none (intsD p0)), .d (.sl none (intsD p1)), .d (.sl none (intsD p2))] [] (fun res H' => res = [iV r] ∧ H' = []) := by
 refine AC_of_body true Try.func117 rfl Try.ntmps117 (rvs := [.tmp 6]) rfl rfl (fun G hG => ?_)
 have hm : G.H.length = 0 := by rw [hG]; rfl
 have hz : zeroG G.H = true := by rw [hG]; rfl
 unfold spec_l10Bend at h
 refine kR ?_
 refine kN 1 rfl ?_
 refine ACode_seq (ACode_quiet mixed (by kernel_rfl) ?_)
 refine kQ 1 rfl ?_
 obtain ⟨hc1, h⟩ := guardO h
 refine AQ_q 8 _ rfl rfl rfl (QOp_indexAddr_sl _ _ _ _ _ _ _ _ rfl Try.underlying24 Try.sizeOf2 hc1.1 (by rw [intsD_length]; exact hc1.2) rfl rfl) ?_
 refine AQ_q 9 _ rfl rfl rfl (QOp_load_pv _ _ _ _ _ rfl Try.isAgg2 rfl (intsD_get _ _ 0 (by omega))) ?_
 refine kQ 1 rfl ?_
 obtain ⟨hc2, h⟩ := guardO h
 refine AQ_q 11 _ rfl rfl rfl (QOp_indexAddr_sl _ _ _ _ _ _ _ _ rfl Try.underlying24 Try.sizeOf2 hc2.1 (by rw [intsD_length]; exact hc2.2) rfl rfl) ?_
 refine AQ_q 12 _ rfl rfl rfl (QOp_load_pv _ _ _ _ _ rfl Try.isAgg2 rfl (intsD_get _ _ 0 (by omega))) ?_
 refine AQ_q 13 _ rfl rfl rfl (QOp_sub _ _ _ _ _ _ _ rfl rfl rfl) ?_
 refine kQ 1 rfl ?_
 obtain ⟨hc3, h⟩ := guardO h
 refine AQ_q 15 _ rfl rfl rfl (QOp_indexAddr_sl _ _ _ _ _ _ _ _ rfl Try.underlying24 Try.sizeOf2 hc3.1 (by rw [intsD_length]; exact hc3.2) rfl rfl) ?_
 refine AQ_q 16 _ rfl rfl rfl (QOp_load_pv _ _ _ _ _ rfl Try.isAgg2 rfl (intsD_get _ _ 0 (by omega))) ?_
 refine kQ 1 rfl ?_
 obtain ⟨hc4, h⟩ := guardO h
 refine AQ_q 18 _ rfl rfl rfl (QOp_indexAddr_sl _ _ _ _ _ _ _ _ rfl Try.underlying24 Try.sizeOf2 hc4.1 (by rw [intsD_length]; exact hc4.2) rfl rfl) ?_
 refine AQ_q 19 _ rfl rfl rfl (QOp_load_pv _ _ _ _ _ rfl Try.isAgg2 rfl (intsD_get _ _ 0 (by omega))) ?_
 refine AQ_q 20 _ rfl rfl rfl (QOp_sub _ _ _ _ _ _ _ rfl rfl rfl) ?_
 refine AQ_q 21 _ rfl rfl rfl (QOp_mul _ _ _ _ _ _ _ rfl rfl rfl) ?_
 refine kQ 1 rfl ?_
 obtain ⟨hc5, h⟩ := guardO h
 refine AQ_q 23 _ rfl rfl rfl (QOp_indexAddr_sl _ _ _ _ _ _ _ _ rfl Try.underlying24 Try.sizeOf2 hc5.1 (by rw [intsD_length]; exact hc5.2) rfl rfl) ?_
 refine AQ_q 24 _ rfl rfl rfl (QOp_load_pv _ _ _ _ _ rfl Try.isAgg2 rfl (intsD_get _ _ 0 (by omega))) ?_
 refine kQ 1 rfl ?_
 obtain ⟨hc6, h⟩ := guardO h
 refine AQ_q 26 _ rfl rfl rfl (QOp_indexAddr_sl _ _ _ _ _ _ _ _ rfl Try.underlying24 Try.sizeOf2 hc6.1 (by rw [intsD_length]; exact hc6.2) rfl rfl) ?_
 refine AQ_q 27 _ rfl rfl rfl (QOp_load_pv _ _ _ _ _ rfl Try.isAgg2 rfl (intsD_get _ _ 0 (by omega))) ?_
 refine AQ_q 28 _ rfl rfl rfl (QOp_sub _ _ _ _ _ _ _ rfl rfl rfl) ?_
 refine kQ 1 rfl ?_
 obtain ⟨hc7, h⟩ := guardO h
 refine AQ_q 30 _ rfl rfl rfl (QOp_indexAddr_sl _ _ _ _ _ _ _ _ rfl Try.underlying24 Try.sizeOf2 hc7.1 (by rw [intsD_length]; exact hc7.2) rfl rfl) ?_
 refine AQ_q 31 _ rfl rfl rfl (QOp_load_pv _ _ _ _ _ rfl Try.isAgg2 rfl (intsD_get _ _ 0 (by omega))) ?_
 refine kQ 1 rfl ?_
 obtain ⟨hc8, h⟩ := guardO h
 refine AQ_q 33 _ rfl rfl rfl (QOp_indexAddr_sl _ _ _ _ _ _ _ _ rfl Try.underlying24 Try.sizeOf2 hc8.1 (by rw [intsD_length]; exact hc8.2) rfl rfl) ?_
 refine AQ_q 34 _ rfl rfl rfl (QOp_load_pv _ _ _ _ _ rfl Try.isAgg2 rfl (intsD_get _ _ 0 (by omega))) ?_
 refine AQ_q 35 _ rfl rfl rfl (QOp_sub _ _ _ _ _ _ _ rfl rfl rfl) ?_
 refine AQ_q 36 _ rfl rfl rfl (QOp_mul _ _ _ _ _ _ _ rfl rfl rfl) ?_
 refine AQ_q 37 _ rfl rfl rfl (QOp_sub _ _ _ _ _ _ _ rfl rfl rfl) ?_
 refine kQ 1 rfl ?_
 refine AQ_nil ?_
 refine ACode_ret ?_
 cases h
 exact ⟨_, _, fun r a w h => ⟨r, h⟩, _, _, [], _, (.cons (ResV_tmp _ _ rfl) .nil), rfl, rfl, rfl, rfl, rfl⟩

def spec_l10Chain_in_l1 (p0 : List (List Int)) (p1 : Int) (T : List (List Int)) (j : Int) (x2 : Int) : Nat → Int → (List Int) → Option (List Int)
 | 0, _, _ => none
 | k1 + 1, x6, x7 => (if decide (x6 < x2) then ((if 0 ≤ x6 ∧ x6 < (p0.length : Int) then (if 0 ≤ x2 ∧ x2 < (p0.length : Int) then (if 0 ≤ j ∧ j < (p0.length : Int) then (spec_l10Bend (p0.getD x6.toNat []) (p0.getD x2.toNat []) (p0.getD j.toNat [])).bind fun r12 => (if decide (0 < w64 (p1 * r12)) then (if 0 ≤ x2 ∧ x2 < (x7.length : Int) then (if 0 ≤ x2 ∧ x2 < (T.length : Int) then (if x2 ≠ j ∧ 0 ≤ x6 ∧ x6 < ((T.getD x2.toNat []).length : Int) then (if 0 ≤ x2 ∧ x2 < (x7.length : Int) then some (x7.set x2.toNat (if (x7.getD x2.toNat 0) < w64 (((T.getD x2.toNat []).getD x6.toNat 0) + 1) then w64 (((T.getD x2.toNat []).getD x6.toNat 0) + 1) else (x7.getD x2.toNat 0))) else none) else none) else none) else none) else some x7) else none) else none) else none) : Option (List Int)).bind fun s18 => spec_l10Chain_in_l1 p0 p1 T j x2 k1 (w64 (x6 + 1)) s18 else some x7)
def spec_l10Chain_in_l0 (k : Nat) (p0 : List (List Int)) (p1 : Int) (T : List (List Int)) (j : Int) : Nat → Int → Int → (List Int) → Option (Int × List Int)
 | 0, _, _, _ => none
 | k0 + 1, x1, x2, x3 => (if decide (x2 < j) then ((if 0 ≤ x2 ∧ x2 < (x3.length : Int) then (spec_l10Chain_in_l1 p0 p1 T j x2 k 0 (x3.set x2.toNat 2) : Option (List Int)).bind fun s19 => (if 0 ≤ x2 ∧ x2 < (s19.length : Int) then some ((if x1 < (s19.getD x2.toNat 0) then (s19.getD x2.toNat 0) else x1), s19) else none) else none) : Option (Int × List Int)).bind fun s21 => spec_l10Chain_in_l0 k p0 p1 T j k0 s21.1 (w64 (x2 + 1)) s21.2 else some (x1, x3))
def spec_l10Chain_in (k : Nat) (p0 : List (List Int)) (p1 : Int) (best : Int) (T : List (List Int)) (j : Int) (own : List Int) : Option (Int × List Int) :=
 spec_l10Chain_in_l0 k p0 p1 T j k best 0 own
def spec_l10Chain_l3 (k : Nat) (p0 : List (List Int)) (p1 : Int) : Nat → Int → Int → List (List Int) → Option Int
 | 0, _, _, _ => none
 | k0 + 1, j, best, T => (if decide (j < (p0.length : Int)) then (if 0 ≤ j ∧ j < (T.length : Int) then (spec_l10Chain_in k p0 p1 best T j (T.getD j.toNat [])).bind fun s => spec_l10Chain_l3 k p0 p1 k0 (w64 (j + 1)) s.1 (T.set j.toNat s.2) else none) else some best)
def spec_l10Chain (k : Nat) (p0 : List (List Int)) (p1 : Int) : Option Int :=
 (if (p0.length : Int) ≤ 1048576 then spec_l10Chain_l3 k p0 p1 k 1 1 (List.replicate p0.length (List.replicate p0.length 0)) else none)

theorem spec_l10Chain_in_l1_len (p0 : List (List Int)) (p1 : Int) (T : List (List Int)) (j i : Int) : ∀ (k : Nat) (h : Int) (own r : List Int), spec_l10Chain_in_l1 p0 p1 T j i k h own = some r → r.length = own.length := by
 intro k
 induction k with
 | zero => intro h own r e; cases (show (none : Option (List Int)) = some _ from e)
 | succ k ih =>
  intro h own r e
  rw [spec_l10Chain_in_l1] at e
  by_cases hb : decide (h < i) = true
  ·have e := iteT hb e
   obtain ⟨s, hs, e⟩ := bindO e
   rw [ih _ _ _ e]
   obtain ⟨_, hs⟩ := guardO hs
   obtain ⟨_, hs⟩ := guardO hs
   obtain ⟨_, hs⟩ := guardO hs
   obtain ⟨q, _, hs⟩ := bindO hs
   by_cases hb2 : decide (0 < w64 (p1 * q)) = true
   ·have hs := iteT hb2 hs
    obtain ⟨_, hs⟩ := guardO hs
    obtain ⟨_, hs⟩ := guardO hs
    obtain ⟨_, hs⟩ := guardO hs
    obtain ⟨_, hs⟩ := guardO hs
    cases hs
    simp
   ·have hs := iteF (by simpa using hb2) hs
    cases hs; rfl
  ·have e := iteF (by simpa using hb) e
   cases e; rfl
theorem spec_l10Chain_in_l0_len (k : Nat) (p0 : List (List Int)) (p1 : Int) (T : List (List Int)) (j : Int) : ∀ (k0 : Nat) (best i : Int) (own : List Int) (r : Int × List Int), spec_l10Chain_in_l0 k p0 p1 T j k0 best i own = some r → r.2.length = own.length := by
 intro k0
 induction k0 with
 | zero => intro best i own r e; cases (show (none : Option (Int × List Int)) = some _ from e)
 | succ k0 ih =>
  intro best i own r e
  rw [spec_l10Chain_in_l0] at e
  by_cases hb : decide (i < j) = true
  ·have e := iteT hb e
   obtain ⟨s, hs, e⟩ := bindO e
   rw [ih _ _ _ _ e]
   obtain ⟨_, hs⟩ := guardO hs
   obtain ⟨q, hq, hs⟩ := bindO hs
   obtain ⟨_, hs⟩ := guardO hs
   cases hs
   have := spec_l10Chain_in_l1_len _ _ _ _ _ _ _ _ _ hq
   simpa using this
  ·have e := iteF (by simpa using hb) e
   cases e; rfl
theorem spec_l10Chain_in_len {k : Nat} {p0 : List (List Int)} {p1 best : Int} {T : List (List Int)} {j : Int} {own : List Int} {s : Int × List Int} (h : spec_l10Chain_in k p0 p1 best T j own = some s) : s.2.length = own.length :=
 spec_l10Chain_in_l0_len _ _ _ _ _ _ _ _ _ _ h

set_option maxRecDepth 100000 in
theorem spec_l10Chain_ac (k : Nat) (p0 : List (List Int)) (p1 : Int) (r : Int) (h : spec_l10Chain k p0 p1 = some r) : AC Try.prog 87 [.d (.sl none (rowsD p0)), iV p1] [] (fun res H' => res = [iV r] ∧ H' = []) := by
 unfold spec_l10Chain at h
 obtain ⟨hn, h⟩ := guardO h
 refine AC_of_bodyN true Try.func87 rfl Try.ntmps87 (rvs := [.tmp 4]) rfl rfl (fun G hG hF => ?_)
 have hm : G.H.length = 0 := by rw [hG]; rfl
 have hz : zeroG G.H = true := by rw [hG]; rfl
 refine ACode_seq (ACode_region ?_)
 refine AOps_q 4 _ rfl rfl rfl (QOp_assign _ _ rfl rfl) ?_
 refine AOps_nil ?_
 refine ACode_seq (ACode_region ?_)
 refine AOps_q 13 _ rfl rfl rfl (QOp_move _ _ rfl rfl) ?_
 refine AOps_q 14 _ rfl rfl rfl (QOp_len_sl _ _ _ _ _ _ _ (rowsD_length _) rfl rfl rfl rfl Try.underlying41 rfl) ?_
 refine AOps_q 5 _ rfl rfl rfl (QOp_assign _ _ rfl rfl) ?_
 refine AOps_q 6 _ rfl rfl rfl (QOp_assign _ _ rfl rfl) ?_
 refine AOps_nil ?_
 refine ACode_seq (ACode_region ?_)
 refine AOps_buildSlice 15 _ _ _ [] (hdD []) _ rfl rfl rfl rfl rfl (by decide) Try.underlying41 Try.sizeOf24 (zero_of Try.typeInfo24 rfl) rfl rfl (hdD_one _) ?_
 refine AOps_q 7 _ rfl rfl rfl (QOp_assign _ _ rfl rfl) ?_
 refine AOps_nil ?_
 refine ACode_of_MC ?_
 refine MC_weak (E0 := [(0, .d (.sl none (rowsD p0))), (1, iV p1), (5, iV (p0.length : Int)), (6, iV 1), (7, .vec 0 0)]) (H0 := [.vec 0 (hdD [])]) (Weak_keep (G := GM G _) 0 hm [0, 1, 5, 6, 7] [0] _ _ rfl rfl rfl) ?_
 refine MC_seqJ (fun E' H' M' => ∃ hd, Weak 87 (GM G M') E' H' [(0, .d (.sl none (rowsD p0))), (1, iV p1), (5, iV (p0.length : Int)), (6, iV 1), (7, .vec 0 0)] [.vec 0 (hdD hd)] ∧ hd.length = p0.length ∧ (hd.map (·.1)).Nodup ∧ ∀ p ∈ hd, RowOK M' p (List.replicate p0.length 0)) ?_ ?_
 ·refine MC_seq (MC_region ?_)
  refine MOps_q 8 _ rfl rfl rfl (fun _ _ => QOp_assign _ _ rfl rfl) ?_
  refine MOps_nil ?_
  refine MC_weak (E0 := [(0, .d (.sl none (rowsD p0))), (1, iV p1), (5, iV (p0.length : Int)), (6, iV 1), (7, .vec 0 0), (8, iV ((0 : Nat) : Int))]) (H0 := [.vec 0 (hdD [])]) (Weak_keep (G := GM G _) 0 hm [0, 1, 5, 6, 7, 8] [0] _ _ rfl rfl rfl) ?_
  refine MC_block (MC_loop (fun kk E H M => ∃ (i : Nat) (hd : List (Nat × Nat × Nat)), kk + i = p0.length ∧ E = [(0, .d (.sl none (rowsD p0))), (1, iV p1), (5, iV (p0.length : Int)), (6, iV 1), (7, .vec 0 0), (8, iV (i : Int))] ∧ H = [.vec 0 (hdD hd)] ∧ hd.length = i ∧ (hd.map (·.1)).Nodup ∧ ∀ p ∈ hd, RowOK M p (List.replicate p0.length 0)) p0.length ⟨0, [], by omega, rfl, rfl, rfl, by simp, by simp⟩ ?_)
  rintro kk E H M ⟨i, hd, hk, rfl, rfl, hl, hnd, hrow⟩
  refine MC_seq (MC_seq (MC_region ?_))
  refine MOps_q 16 _ rfl rfl rfl (fun _ _ => QOp_move _ _ rfl rfl) ?_
  refine MOps_q 17 _ rfl rfl rfl (fun _ _ => QOp_move _ _ rfl rfl) ?_
  refine MOps_q 18 _ rfl rfl rfl (fun _ _ => QOp_lss _ _ _ _ _ _ _ rfl rfl rfl) ?_
  refine MOps_nil ?_
  refine MC_cond _ rfl (fun hb => ?_) (fun hb => ?_)
  ·have hlt : i < p0.length := by have := of_decide_eq_true hb; omega
   refine MC_skip ?_
   refine MC_seq (MC_block (MC_region ?_))
   refine MOps_q 21 _ rfl rfl rfl (fun _ _ => QOp_move _ _ rfl rfl) ?_
   refine MOps_q 22 _ rfl rfl rfl (fun _ _ => QOp_move _ _ rfl rfl) ?_
   refine MOps_step (K1 := fun E' H' => E' = _ ∧ H' = _) (fun G' hn => AOps_makeSliceI 23 _ _ _ _ _ _ (p0.length : Int) (p0.length : Int) _ 0 rfl rfl rfl rfl Try.underlying24 Try.type2 rfl rfl (by decide) rfl rfl (by omega) (by omega) (by omega) (AOps_nil ⟨rfl, rfl⟩)) ?_
   rintro _ _ ⟨rfl, rfl⟩
   refine MOps_abandonI hG 23 1 0 (List.replicate (p0.length : Int).toNat 0) rfl rfl (fun b vs hb1 hrow1 => ?_)
   refine MOps_step (K1 := fun E' H' => E' = _ ∧ H' = _) (fun G' hn => AOps_buildSlice 24 _ _ _ [_] (hdD [(b, (List.replicate (p0.length : Int).toNat (0 : Int)).length, vs.size)]) _ rfl rfl rfl rfl rfl (by decide) Try.underlying41 Try.sizeOf24 (zero_of Try.typeInfo24 rfl) rfl rfl (hdD_one _) (AOps_nil ⟨rfl, rfl⟩)) ?_
   rintro _ _ ⟨rfl, rfl⟩
   refine MOps_step (K1 := fun E' H' => E' = _ ∧ H' = _) (fun G' hn => AOps_append 25 _ _ _ _ _ _ _ _ _ _ _ _ rfl rfl rfl rfl rfl rfl rfl Try.underlying41 Try.type24 rfl rfl rfl (by decide) rfl rfl rfl rfl (hdD_one _) (by rw [hdD_length, hdD_length]; simp; omega) (AOps_nil ⟨rfl, rfl⟩)) ?_
   rintro _ _ ⟨rfl, rfl⟩
   rw [hdD_app]
   refine MOps_q 7 _ rfl rfl rfl (fun _ _ => QOp_assign _ _ rfl rfl) ?_
   refine MOps_nil ?_
   refine MC_region ?_
   refine MOps_q 19 _ rfl rfl rfl (fun _ _ => QOp_move _ _ rfl rfl) ?_
   refine MOps_q 20 _ rfl rfl rfl (fun _ _ => QOp_add _ _ _ _ _ _ _ rfl rfl rfl) ?_
   refine MOps_q 8 _ rfl rfl rfl (fun _ _ => QOp_assign _ _ rfl rfl) ?_
   have hw : w64 ((i : Int) + 1) = ((i + 1 : Nat) : Int) := by
    show IntKind.i64.wrap _ = _
    rw [IntKind.wrap_i64]; omega
   have hlen2 : (List.replicate (p0.length : Int).toNat (0 : Int)).length = p0.length := by simp
   refine MOps_weak (E0 := [(0, .d (.sl none (rowsD p0))), (1, iV p1), (5, iV (p0.length : Int)), (6, iV 1), (7, .vec 0 0), (8, iV (w64 ((i : Int) + 1)))]) (H0 := [.vec 0 (hdD (hd ++ [(b, (List.replicate (p0.length : Int).toNat (0 : Int)).length, vs.size)]))]) (Weak_trans (Weak_keep (G := GM G _) 0 hm [0, 1, 5, 6, 7, 8] [0] _ _ rfl rfl rfl) (Weak_reset (G := GM G _) 0 hm hz [0, 1, 5, 6, 7, 8] _ _ rfl rfl)) (MOps_nil ?_)
   refine ⟨kk - 1, by omega, i + 1, _, by omega, by rw [hw], rfl, by simp [hl], ?_, ?_⟩
   ·rw [List.map_append, List.nodup_append]
    refine ⟨hnd, by simp, ?_⟩
    intro a ha c hc
    obtain ⟨p, hp, rfl⟩ := List.mem_map.1 ha
    obtain ⟨us, hus, _⟩ := hrow p hp
    simp at hc
    subst hc
    intro e
    exact hb1 (List.mem_map.2 ⟨_, hus, e⟩)
   ·intro p hp
    rcases List.mem_append.1 hp with hp | hp
    ·exact (hrow p hp).mono fun us hm => List.mem_cons_of_mem _ hm
    ·simp only [List.mem_singleton] at hp
     subst hp
     rw [Int.toNat_natCast] at hrow1 ⊢
     exact hrow1
  ·refine MC_exit ?_
   have : i = p0.length := by have := of_decide_eq_false hb; omega
   exact ⟨hd, Weak_keep (G := GM G _) 0 hm [0, 1, 5, 6, 7] [0] _ _ rfl rfl rfl, by omega, hnd, hrow⟩
 ·rintro E' H' M' ⟨hd, hw, hl, hnd, hrow⟩
  refine MC_weak hw ?_
  refine MC_seqJ (fun E' H' M' => Weak 87 (GM G M') E' H' [(6, iV r)] []) ?_ ?_
  ·refine MC_seq (MC_region ?_)
   refine MOps_q 9 _ rfl rfl rfl (fun _ _ => QOp_assign _ _ rfl rfl) ?_
   refine MOps_nil ?_
   refine MC_weak (E0 := [(0, .d (.sl none (rowsD p0))), (1, iV p1), (5, iV (p0.length : Int)), (6, iV 1), (7, .vec 0 0), (9, iV 1)]) (H0 := [.vec 0 (hdD hd)]) (Weak_keep (G := GM G _) 0 hm [0, 1, 5, 6, 7, 9] [0] _ _ rfl rfl rfl) ?_
   refine MC_block (MC_loop (fun kk E H M => ∃ (j best : Int) (T : List (List Int)), E = [(0, .d (.sl none (rowsD p0))), (1, iV p1), (5, iV (p0.length : Int)), (6, iV best), (7, .vec 0 0), (9, iV j)] ∧ H = [.vec 0 (hdD hd)] ∧ TabF T hd M ∧ spec_l10Chain_l3 k p0 p1 kk j best T = some r) k ⟨1, 1, _, rfl, rfl, ⟨by simp [hl], fun i hi => ?_⟩, h⟩ ?_)
   ·have e1 : (List.replicate p0.length (List.replicate p0.length (0 : Int))).getD i [] = List.replicate p0.length 0 := by
     simp [List.getD, List.getElem?_replicate, show i < p0.length by omega]
    rw [e1]
    have e2 : hd.getD i (0, 0, 0) = hd[i] := by simp [hi]
    rw [e2]
    exact hrow _ (List.getElem_mem hi)
   rintro kk E H M ⟨j, best, T, rfl, rfl, hTT, h⟩
   cases kk with
   | zero => cases (show (none : Option Int) = some _ from h)
   | succ kk =>
    rw [spec_l10Chain_l3] at h
    refine MC_seq (MC_seq (MC_region ?_))
    refine MOps_q 26 _ rfl rfl rfl (fun _ _ => QOp_move _ _ rfl rfl) ?_
    refine MOps_q 27 _ rfl rfl rfl (fun _ _ => QOp_move _ _ rfl rfl) ?_
    refine MOps_q 28 _ rfl rfl rfl (fun _ _ => QOp_lss _ _ _ _ _ _ _ rfl rfl rfl) ?_
    refine MOps_nil ?_
    refine MC_cond _ rfl (fun hb => ?_) (fun hb => ?_)
    ·have h := iteT hb h
     refine MC_skip ?_
     obtain ⟨hc, h⟩ := guardO h
     obtain ⟨s, hs, h⟩ := bindO h
     refine MC_seq (MC_block (MC_seq (MC_region ?_)))
     refine MOps_q 31 _ rfl rfl rfl (fun _ _ => QOp_move _ _ rfl rfl) ?_
     refine MOps_q 32 _ rfl rfl rfl (fun _ _ => QOp_move _ _ rfl rfl) ?_
     refine MOps_q 33 _ rfl rfl rfl (fun _ _ => QOp_indexAddr_vec _ _ _ _ _ _ _ _ _ rfl Try.underlying41 Try.sizeOf24 hc.1 (by rw [hdD_length, ← hTT.1]; exact hc.2) rfl rfl rfl) ?_
     refine MOps_q 34 _ rfl rfl rfl (fun _ _ => QOp_load_eptr _ _ _ _ _ _ _ rfl Try.isAgg24 rfl rfl (hdD_get _ _ (0, 0, 0) (by have := hTT.1; omega))) ?_
     refine MOps_q 10 _ rfl rfl rfl (fun _ _ => QOp_assign _ _ rfl rfl) ?_
     refine MOps_nil ?_
     have hjl : j.toNat < hd.length := by have := hTT.1; omega
     have hjj : ((j.toNat : Nat) : Int) = j := Int.toNat_of_nonneg hc.1
     obtain ⟨vs, hmem, a1, a2, a3, a4, a5⟩ := hTT.2 j.toNat hjl
     obtain ⟨M1, M2, rfl⟩ := List.append_of_mem hmem
     obtain ⟨own, hown⟩ : ∃ own, own = T.getD j.toNat [] := ⟨_, rfl⟩
     rw [← hown] at a1 a3 a5 hs
     refine MC_rowI hG hF 10 _ vs own M1 M2 rfl rfl a1 a2 a3 a4 a5 (fun E' Hk zs' => E' = [(0, .d (.sl none (rowsD p0))), (1, iV p1), (5, iV (p0.length : Int)), (6, iV s.1), (7, .vec 0 0), (9, iV j), (10, .vec 1 0)] ∧ Hk = [.vec 0 (hdD hd)] ∧ zs' = s.2) (fun Gi hnow => ?_) ?_
     ·have hmi : Gi.H.length = 2 := by rw [hnow.2.1]; rfl
      have hzi : zeroG Gi.H = true := by rw [hnow.2.1]; rfl
      have hT : TabX T hd (M1 ++ M2) j := by
       have := tab_rest hnd hjl hTT
       rwa [hjj] at this
      refine ACode_post (Q' := seqQ (fun E' H' => Weak 87 Gi E' H' [(0, .d (.sl none (rowsD p0))), (1, iV p1), (5, iV (p0.length : Int)), (6, iV s.1), (7, .vec 0 0), (9, iV j), (10, .vec 1 0)] [.vec 0 (hdD hd), .vec 0 (intsD s.2)]) (fun _ _ _ => False)) ?_ ?_
      ·refine ACode_weak (E0 := [(0, .d (.sl none (rowsD p0))), (1, iV p1), (5, iV (p0.length : Int)), (6, iV best), (7, .vec 0 0), (9, iV j), (10, .vec 1 0)]) (H0 := [.vec 0 (hdD hd), .vec 0 (intsD own)]) (Weak_keep 2 hmi [0, 1, 5, 6, 7, 9, 10] [] _ _ rfl rfl rfl) ?_
       have h := hs
       unfold spec_l10Chain_in at h
       refine ACode_seq (ACode_region ?_)
       refine AOps_q 11 _ rfl rfl rfl (QOp_assign _ _ rfl rfl) ?_
       refine AOps_nil ?_
       refine ACode_block ?_
       refine ACode_loopW (fun k0 E H => ∃ (x1 : Int) (x2 : Int) (x3 : List Int), E = [(0, .d (.sl none (rowsD p0))), (1, iV p1), (5, iV (p0.length : Int)), (6, iV x1), (7, .vec 0 0), (9, iV j), (10, .vec 1 0), (11, iV x2)] ∧ H = [.vec 0 (hdD hd), .vec 0 (intsD x3)] ∧ spec_l10Chain_in_l0 k p0 p1 T j k0 x1 x2 x3 = some s) k _ _ (Weak_keep 2 hmi [0, 1, 5, 6, 7, 9, 10, 11] [] _ _ rfl rfl rfl) ⟨_, _, _, rfl, rfl, h⟩ ?_
       clear h
       rintro k0 E H ⟨x1, x2, x3, rfl, rfl, h⟩
       cases k0 with
       | zero => cases (show (none : Option (Int × List Int)) = some _ from h)
       | succ k0 =>
        rw [spec_l10Chain_in_l0] at h
        refine ACode_seq ?_
        refine ACode_seq (ACode_region ?_)
        refine AOps_q 35 _ rfl rfl rfl (QOp_move _ _ rfl rfl) ?_
        refine AOps_q 36 _ rfl rfl rfl (QOp_move _ _ rfl rfl) ?_
        refine AOps_q 37 _ rfl rfl rfl (QOp_lss _ _ _ _ _ _ _ rfl rfl rfl) ?_
        refine AOps_nil ?_
        refine kI h rfl (fun h _ => ?_) (fun h _ => ?_)
        ·refine ACode_skip ?_
         refine kB (fun s21 => [(0, .d (.sl none (rowsD p0))), (1, iV p1), (5, iV (p0.length : Int)), (6, iV s21.1), (7, .vec 0 0), (9, iV j), (10, .vec 1 0), (11, iV x2)]) (fun s21 => [.vec 0 (hdD hd), .vec 0 (intsD s21.2)]) h (fun s21 h => ?_) (fun s21 h => ?_)
         ·refine ACode_block ?_
          refine ACode_seq (ACode_region ?_)
          refine AOps_q 40 _ rfl rfl rfl (QOp_move _ _ rfl rfl) ?_
          refine AOps_q 41 _ rfl rfl rfl (QOp_move _ _ rfl rfl) ?_
          obtain ⟨hc5, h⟩ := guardO h
          refine AOps_q 42 _ rfl rfl rfl (QOp_indexAddr_vec _ _ _ _ _ _ _ _ _ rfl Try.underlying24 Try.sizeOf2 hc5.1 (by rw [intsD_length]; exact hc5.2) rfl rfl rfl) ?_
          refine AOps_store_eptr _ _ _ _ _ _ (intsD x3) _ rfl rfl rfl rfl rfl rfl rfl Try.sizeOf2 (by rw [intsD_length]; omega) ?_
          rw [intsD_set]
          refine AOps_nil ?_
          refine kB (fun s19 => [(0, .d (.sl none (rowsD p0))), (1, iV p1), (5, iV (p0.length : Int)), (6, iV x1), (7, .vec 0 0), (9, iV j), (10, .vec 1 0), (11, iV x2)]) (fun s19 => [.vec 0 (hdD hd), .vec 0 (intsD s19)]) h (fun s19 h => ?_) (fun s19 h => ?_)
          ·refine ACode_seq (ACode_region ?_)
           refine AOps_q 12 _ rfl rfl rfl (QOp_assign _ _ rfl rfl) ?_
           refine AOps_nil ?_
           refine ACode_block ?_
           refine ACode_loopW (fun k1 E H => ∃ (x6 : Int) (x7 : List Int), E = [(0, .d (.sl none (rowsD p0))), (1, iV p1), (5, iV (p0.length : Int)), (6, iV x1), (7, .vec 0 0), (9, iV j), (10, .vec 1 0), (11, iV x2), (12, iV x6)] ∧ H = [.vec 0 (hdD hd), .vec 0 (intsD x7)] ∧ spec_l10Chain_in_l1 p0 p1 T j x2 k1 x6 x7 = some s19) k _ _ (Weak_keep 2 hmi [0, 1, 5, 6, 7, 9, 10, 11, 12] [] _ _ rfl rfl rfl) ⟨_, _, rfl, rfl, h⟩ ?_
           clear h
           rintro k1 E H ⟨x6, x7, rfl, rfl, h⟩
           cases k1 with
           | zero => cases (show (none : Option (List Int)) = some _ from h)
           | succ k1 =>
            rw [spec_l10Chain_in_l1] at h
            refine ACode_seq ?_
            refine ACode_seq (ACode_region ?_)
            refine AOps_q 43 _ rfl rfl rfl (QOp_move _ _ rfl rfl) ?_
            refine AOps_q 44 _ rfl rfl rfl (QOp_move _ _ rfl rfl) ?_
            refine AOps_q 45 _ rfl rfl rfl (QOp_lss _ _ _ _ _ _ _ rfl rfl rfl) ?_
            refine AOps_nil ?_
            refine kI h rfl (fun h _ => ?_) (fun h _ => ?_)
            ·refine ACode_skip ?_
             refine kB (fun s18 => [(0, .d (.sl none (rowsD p0))), (1, iV p1), (5, iV (p0.length : Int)), (6, iV x1), (7, .vec 0 0), (9, iV j), (10, .vec 1 0), (11, iV x2), (12, iV x6)]) (fun s18 => [.vec 0 (hdD hd), .vec 0 (intsD s18)]) h (fun s18 h => ?_) (fun s18 h => ?_)
             ·refine ACode_block ?_
              refine ACode_seq (ACode_quiet mixed (by kernel_rfl) ?_)
              refine AQ_q 48 _ rfl rfl rfl (QOp_move _ _ rfl rfl) ?_
              refine AQ_q 49 _ rfl rfl rfl (QOp_move _ _ rfl rfl) ?_
              refine AQ_q 50 _ rfl rfl rfl (QOp_move _ _ rfl rfl) ?_
              obtain ⟨hc9, h⟩ := guardO h
              refine AQ_q 51 _ rfl rfl rfl (QOp_indexAddr_sl _ _ _ _ _ _ _ _ rfl Try.underlying41 Try.sizeOf24 hc9.1 (by rw [rowsD_length]; exact hc9.2) rfl rfl) ?_
              refine AQ_q 52 _ rfl rfl rfl (QOp_load_pv _ _ _ _ _ rfl Try.isAgg24 rfl (rowsD_get _ _ [] (by omega))) ?_
              refine AQ_q 53 _ rfl rfl rfl (QOp_move _ _ rfl rfl) ?_
              refine AQ_q 54 _ rfl rfl rfl (QOp_move _ _ rfl rfl) ?_
              obtain ⟨hc10, h⟩ := guardO h
              refine AQ_q 55 _ rfl rfl rfl (QOp_indexAddr_sl _ _ _ _ _ _ _ _ rfl Try.underlying41 Try.sizeOf24 hc10.1 (by rw [rowsD_length]; exact hc10.2) rfl rfl) ?_
              refine AQ_q 56 _ rfl rfl rfl (QOp_load_pv _ _ _ _ _ rfl Try.isAgg24 rfl (rowsD_get _ _ [] (by omega))) ?_
              refine AQ_q 57 _ rfl rfl rfl (QOp_move _ _ rfl rfl) ?_
              refine AQ_q 58 _ rfl rfl rfl (QOp_move _ _ rfl rfl) ?_
              obtain ⟨hc11, h⟩ := guardO h
              refine AQ_q 59 _ rfl rfl rfl (QOp_indexAddr_sl _ _ _ _ _ _ _ _ rfl Try.underlying41 Try.sizeOf24 hc11.1 (by rw [rowsD_length]; exact hc11.2) rfl rfl) ?_
              refine AQ_q 60 _ rfl rfl rfl (QOp_load_pv _ _ _ _ _ rfl Try.isAgg24 rfl (rowsD_get _ _ [] (by omega))) ?_
              obtain ⟨r12, hr12, h⟩ := bindO h
              refine AQ_call 61 _ _ _ _ _ _ _ _ _ rfl rfl rfl rfl rfl rfl rfl Try.call117 rfl rfl rfl (spec_l10Bend_ac (p0.getD x6.toNat []) (p0.getD x2.toNat []) (p0.getD j.toNat []) _ hr12) ?_
              refine AQ_q 62 _ rfl rfl rfl (QOp_mul _ _ _ _ _ _ _ rfl rfl rfl) ?_
              refine AQ_q 63 _ rfl rfl rfl (QOp_gtr _ _ _ _ _ _ _ rfl rfl rfl) ?_
              refine AQ_nil ?_
              refine kI h rfl (fun h _ => ?_) (fun h _ => ?_)
              ·refine (ACode_last (l := [_, _, _, _, _, _, _, _, _, _, _, _, _, _, _, _]) mixed (by kernel_rfl) (by kernel_rfl) ?_)
               refine AQ_q 64 _ rfl rfl rfl (QOp_move _ _ rfl rfl) ?_
               refine AQ_q 65 _ rfl rfl rfl (QOp_move _ _ rfl rfl) ?_
               refine AQ_q 66 _ rfl rfl rfl (QOp_move _ _ rfl rfl) ?_
               refine AQ_q 67 _ rfl rfl rfl (QOp_move _ _ rfl rfl) ?_
               obtain ⟨hc14, h⟩ := guardO h
               refine AQ_q 68 _ rfl rfl rfl (QOp_indexAddr_vec _ _ _ _ _ _ _ _ _ rfl Try.underlying24 Try.sizeOf2 hc14.1 (by rw [intsD_length]; exact hc14.2) rfl rfl rfl) ?_
               refine AQ_q 69 _ rfl rfl rfl (QOp_load_eptr _ _ _ _ _ _ _ rfl Try.isAgg2 rfl rfl (intsD_get _ _ 0 (by omega))) ?_
               refine AQ_q 70 _ rfl rfl rfl (QOp_move _ _ rfl rfl) ?_
               refine AQ_q 71 _ rfl rfl rfl (QOp_move _ _ rfl rfl) ?_
               obtain ⟨hc15, h⟩ := guardO h
               refine AQ_q 72 _ rfl rfl rfl (QOp_indexAddr_vec _ _ _ _ _ _ _ _ _ rfl Try.underlying41 Try.sizeOf24 hc15.1 (by rw [hdD_length, ← hT.1]; exact hc15.2) rfl rfl rfl) ?_
               refine AQ_q 73 _ rfl rfl rfl (QOp_load_eptr _ _ _ _ _ _ _ rfl Try.isAgg24 rfl rfl (hdD_get _ _ (0, 0, 0) (by have := hT.1; omega))) ?_
               refine AQ_q 74 _ rfl rfl rfl (QOp_move _ _ rfl rfl) ?_
               obtain ⟨hc16, h⟩ := guardO h
               refine AQ_q 75 _ rfl rfl rfl (QOp_index_tab hnow hT _ _ _ _ _ _ _ rfl Try.underlying24 Try.sizeOf2 hc15 hc16.1 hc16.2 rfl rfl) ?_
               refine AQ_q 76 _ rfl rfl rfl (QOp_load_tab hnow hT _ _ _ _ rfl Try.isAgg2 rfl hc15 hc16.1 hc16.2) ?_
               refine AQ_q 77 _ rfl rfl rfl (QOp_add _ _ _ _ _ _ _ rfl rfl rfl) ?_
               refine AQ_q 78 _ rfl rfl rfl (QOp_max _ _ _ _ _ _ rfl rfl rfl rfl rfl) ?_
               obtain ⟨hc17, h⟩ := guardO h
               refine AQ_q 79 _ rfl rfl rfl (QOp_indexAddr_vec _ _ _ _ _ _ _ _ _ rfl Try.underlying24 Try.sizeOf2 hc17.1 (by rw [intsD_length]; exact hc17.2) rfl rfl rfl) ?_
               refine AQ_nil ?_
               refine AOps_store_eptr _ _ _ _ _ _ (intsD x7) _ rfl rfl rfl rfl rfl rfl rfl Try.sizeOf2 (by rw [intsD_length]; omega) ?_
               rw [intsD_set]
               refine AOps_nil ?_
               cases h
               exact Weak_keep 2 hmi [0, 1, 5, 6, 7, 9, 10, 11, 12] [] _ _ rfl rfl rfl
              refine ACode_skip ?_
              cases h
              exact Weak_keep 2 hmi [0, 1, 5, 6, 7, 9, 10, 11, 12] [] _ _ rfl rfl rfl
             refine (ACode_region ?_)
             refine AOps_q 46 _ rfl rfl rfl (QOp_move _ _ rfl rfl) ?_
             refine AOps_q 47 _ rfl rfl rfl (QOp_add _ _ _ _ _ _ _ rfl rfl rfl) ?_
             refine AOps_q 12 _ rfl rfl rfl (QOp_assign _ _ rfl rfl) ?_
             refine AOps_nil ?_
             exact ⟨k1, _, _, Nat.lt_succ_self _, Weak_keep 2 hmi [0, 1, 5, 6, 7, 9, 10, 11, 12] [] _ _ rfl rfl rfl, _, _, rfl, rfl, h⟩
            refine ACode_exit ?_
            cases h
            exact Weak_keep 2 hmi [0, 1, 5, 6, 7, 9, 10, 11] [] _ _ rfl rfl rfl
          refine (ACode_region ?_)
          refine AOps_q 80 _ rfl rfl rfl (QOp_move _ _ rfl rfl) ?_
          refine AOps_q 81 _ rfl rfl rfl (QOp_move _ _ rfl rfl) ?_
          refine AOps_q 82 _ rfl rfl rfl (QOp_move _ _ rfl rfl) ?_
          obtain ⟨hc20, h⟩ := guardO h
          refine AOps_q 83 _ rfl rfl rfl (QOp_indexAddr_vec _ _ _ _ _ _ _ _ _ rfl Try.underlying24 Try.sizeOf2 hc20.1 (by rw [intsD_length]; exact hc20.2) rfl rfl rfl) ?_
          refine AOps_q 84 _ rfl rfl rfl (QOp_load_eptr _ _ _ _ _ _ _ rfl Try.isAgg2 rfl rfl (intsD_get _ _ 0 (by omega))) ?_
          refine AOps_q 85 _ rfl rfl rfl (QOp_max _ _ _ _ _ _ rfl rfl rfl rfl rfl) ?_
          refine AOps_q 6 _ rfl rfl rfl (QOp_assign _ _ rfl rfl) ?_
          refine AOps_nil ?_
          cases h
          exact Weak_keep 2 hmi [0, 1, 5, 6, 7, 9, 10, 11] [] _ _ rfl rfl rfl
         refine (ACode_region ?_)
         refine AOps_q 38 _ rfl rfl rfl (QOp_move _ _ rfl rfl) ?_
         refine AOps_q 39 _ rfl rfl rfl (QOp_add _ _ _ _ _ _ _ rfl rfl rfl) ?_
         refine AOps_q 11 _ rfl rfl rfl (QOp_assign _ _ rfl rfl) ?_
         refine AOps_nil ?_
         exact ⟨k0, _, _, Nat.lt_succ_self _, Weak_keep 2 hmi [0, 1, 5, 6, 7, 9, 10, 11] [] _ _ rfl rfl rfl, _, _, _, rfl, rfl, h⟩
        refine ACode_exit ?_
        cases h
        exact Weak_keep 2 hmi [0, 1, 5, 6, 7, 9, 10] [] _ _ rfl rfl rfl
      ·intro x E' H' q
       cases x with
       | normal => exact ⟨_, _, q, rfl, [.vec 0 (hdD hd)], s.2, rfl, rfl, spec_l10Chain_in_len hs, rfl, rfl, rfl⟩
       | _ => exact q.elim
     ·rintro E' Hk zs' vs' ⟨rfl, rfl, rfl⟩ e1 e2 e3
      refine MC_region ?_
      refine MOps_q 29 _ rfl rfl rfl (fun _ _ => QOp_move _ _ rfl rfl) ?_
      refine MOps_q 30 _ rfl rfl rfl (fun _ _ => QOp_add _ _ _ _ _ _ _ rfl rfl rfl) ?_
      refine MOps_q 9 _ rfl rfl rfl (fun _ _ => QOp_assign _ _ rfl rfl) ?_
      refine MOps_weak (E0 := [(0, .d (.sl none (rowsD p0))), (1, iV p1), (5, iV (p0.length : Int)), (6, iV s.1), (7, .vec 0 0), (9, iV (w64 (j + 1)))]) (H0 := [.vec 0 (hdD hd)]) (Weak_keep (G := GM G _) 0 hm [0, 1, 5, 6, 7, 9] [0] _ _ rfl rfl rfl) (MOps_nil ?_)
      exact ⟨kk, Nat.lt_succ_self _, _, _, _, rfl, rfl, tab_set hnd hjl hTT (by rw [a1, e1]) (by rw [a2, e2]) (by omega) (by omega) e3, h⟩
    ·have h := iteF hb h
     refine MC_exit ?_
     cases h
     exact Weak_keep (G := GM G _) 0 hm [6] [] _ _ rfl rfl rfl
  ·rintro E' H' M' hw
   refine MC_weak hw (MC_ofA ?_)
   refine ACode_seq (ACode_region ?_)
   refine AOps_q 86 _ rfl rfl rfl (QOp_move _ _ rfl rfl) ?_
   refine AOps_q 4 _ rfl rfl rfl (QOp_assign _ _ rfl rfl) ?_
   refine AOps_nil ?_
   refine ACode_ret ?_
   exact ⟨_, _, fun r a w h => ⟨r, h⟩, _, _, [], _, (.cons (ResV_tmp _ _ rfl) .nil), rfl, rfl, rfl, rfl, rfl⟩
end Go.Proofs.Ytfnbhfobgimnjaa
