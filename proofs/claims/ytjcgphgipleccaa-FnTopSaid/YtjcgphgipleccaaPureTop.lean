/- The plain law of FnTop: renumbered colourings of three to six points with two colours have the same numbers of cliques, triangles and extensions, and six points have a triangle of one colour. No conditions. -/
import Derived.Test.YtjcgphgipleccaaPureTopD
set_option linter.unusedVariables false
set_option linter.unusedSimpArgs false
namespace Go.Proofs.Ytjcgphgipleccaa
open Go Go.RowKit Ab

open Classical in
theorem eS3 {x : Col} (hx : x.is) (hk : x.k = 2) (hp : x.p ≤ 12) : eS x [3, 3] 12 = if avoidsP x [3, 3] then 0 else 5 := by
  have hsz : szOK x [3, 3] := ⟨by rw [hk]; rfl, fun z hz => by simp at hz; omega⟩
  unfold eS eC
  rw [if_pos hx, if_pos hsz, if_pos rfl]
  by_cases h : avoidsP x [3, 3]
  · rw [if_pos h, if_pos h, if_neg (by omega)]
  · rw [if_neg h, if_neg h]
theorem two_list (f : Nat → Int) : mapL 2 f = [f 0, f 1] := rfl
open Classical in
theorem top_end {k : Nat} (hk : 5000 ≤ k) {n : Nat} (h3 : 3 ≤ n) (h6 : n ≤ 6) {cs l : List Int} (hcs : cs.length = tri n) (hz : ∀ z ∈ cs, 0 ≤ z ∧ z ≤ 1) (ho : isOrd l n) :
    ((impl_ColouringOf k n 2 cs).bind fun r27 => (impl_RenumberPoints k r27.1 l).bind fun r28 => (letO (if !decide (r27.2 = 0) then true else !decide (r28.2 = 0)) fun (s30 : Bool) => (if s30 then some (.inr false) else some (.inl ())) : Option (Sum (Unit) (Bool))).bind fun os32 => (match os32 with | .inl s32 => (impl_CliqueNumbers k r27.1).bind fun r33 => (impl_CliqueNumbers k r28.1).bind fun r34 => (impl_CountTriangles k r27.1).bind fun r35 => (impl_CountTriangles k r28.1).bind fun r36 => (impl_AreIsomorphic k r27.1 r28.1).bind fun r37 => (impl_AvoidsSizes k r27.1 ([3, 3])).bind fun r38 => (((if !decide (r33.2 = 0) then some true else (if !decide (r34.2 = 0) then some true else (if !decide (r35.2 = 0) then some true else (if !decide (r36.2 = 0) then some true else (if !decide (r37.2 = 0) then some true else (if !decide (r38.2 = 0) then some true else (if !decide (((r33.1.getD []).length : Int) = 2) then some true else (laws_likeInts k (r33.1.getD []) (r34.1.getD [])).bind fun r46 => (if !r46 then some true else (laws_likeInts k (r35.1.getD []) (r36.1.getD [])).bind fun r48 => (if !r48 then some true else (if !r37.1 then some true else (if 0 ≤ (0 : Int) ∧ (0 : Int) < ((r33.1.getD []).length : Int) then (if decide (((r33.1.getD []).getD (0 : Int).toNat 0) < 3) then (if 0 ≤ (1 : Int) ∧ (1 : Int) < ((r33.1.getD []).length : Int) then (if !(r38.1 == decide (((r33.1.getD []).getD (1 : Int).toNat 0) < 3)) then some true else (if decide ((n : Int) = 6) then some r38.1 else some false)) else none) else (if !(r38.1 == false) then some true else (if decide ((n : Int) = 6) then some r38.1 else some false))) else none))))))))))) : Option (Bool)).bind fun s58 => (if s58 then some (.inr false) else some (.inl ())) : Option (Sum (Unit) (Bool))).bind fun os60 => (match os60 with | .inl s60 => (impl_CountExtensions k r27.1 ([3, 3])).bind fun r61 => (impl_CountExtensions k r28.1 ([3, 3])).bind fun r62 => letO (if decide (r61.2 = r62.2) then (if decide (r61.1 = r62.1) then (decide (r61.2 = 0) == r38.1) else false) else false) fun (s65 : Bool) => some s65 | .inr rr => some rr) | .inr rr => some rr)) = some true := by
  have hx := colL_is (n := n) (by omega) (by omega) hcs hz
  obtain ⟨x, hxe⟩ : ∃ x, x = colL n cs := ⟨_, rfl⟩
  have xp : x.p = n := by rw [hxe]; rfl
  have xk : x.k = 2 := by rw [hxe]; rfl
  rw [colOf_val hk (by omega) (by omega) hcs hz, ← hxe]
  rw [← hxe] at hx
  have hox : isOrd l x.p := by rw [xp]; exact ho
  have hy := ren_is hx hox
  have yp := ren_p x hx hox
  have yk := ren_k x hx hox
  obtain ⟨y, hye⟩ : ∃ y, y = ren x l := ⟨_, rfl⟩
  have v1 := renum_val hk hx hox
  have v2 := cliques_val hk hx
  have v3 := cliques_val hk hy
  have v4 := triangles_val hk hx
  have v5 := triangles_val hk hy
  have v6 := iso_ren hk hx hox
  have hsz : (([3, 3] : List Int).length : Int) = x.k ∧ ∀ z ∈ ([3, 3] : List Int), 1 ≤ z ∧ z ≤ 17 := ⟨by rw [xk]; rfl, fun z hz => by simp at hz; omega⟩
  have v7 := (implAvoids_val hk x [3, 3] (by simp)).2.2 hx hsz
  have v8 := countI_val hk x [3, 3] (by simp)
  have v9 := countI_val hk (ren x l) [3, 3] (by simp)
  have g0 := gw_same hx hox 0
  have g1 := gw_same hx hox 1
  have t0 := cl_same hx hox 0 3
  have t1 := cl_same hx hox 1 3
  rw [xk, show (2 : Int).toNat = 2 from rfl, two_list] at v2 v4
  rw [yk, xk, show (2 : Int).toNat = 2 from rfl, two_list] at v3 v5
  simp only [Int.ofNat_zero, Int.natCast_zero, show ((0 : Nat) : Int) = 0 from rfl, show ((1 : Nat) : Int) = 1 from rfl] at v2 v3 v4 v5
  rw [g0, g1] at v3
  rw [t0, t1] at v5
  have ya : avoidsP (ren x l) [3, 3] ↔ avoidsP x [3, 3] := by rw [avoids3, avoids3, g0, g1]
  have ex := eS3 hx xk (by omega)
  have ey := eS3 hy (yk.trans xk) (by omega)
  simp only [ya] at ey
  rw [ex] at v8
  rw [ey, EX_same hx xk hox] at v9
  have hno : x.p = 6 → ¬ avoidsP x [3, 3] := fun h => six_no hx h xk
  have hlk : ∀ L : List Int, L.length ≤ 10 → laws_likeInts k L L = some true := fun L hL => like_refl k L (by omega) (by omega)
  have l1 := hlk [((gw x 0 : Nat) : Int), ((gw x 1 : Nat) : Int)] (by simp)
  have l2 := hlk [((cl (aB x 0) 3 (pts x)).length : Int), ((cl (aB x 1) 3 (pts x)).length : Int)] (by simp)
  simp only [Option.bind_some, v1, v2, v3, v4, v5, v6, v7, v8, v9, letO, decide_true, Bool.not_true, Bool.false_eq_true, if_false, Option.getD_some, l1, l2]
  have h2l : (([((gw x 0 : Nat) : Int), ((gw x 1 : Nat) : Int)].length : Nat) : Int) = 2 := rfl
  rw [decide_eq_true h2l]
  simp only [Bool.not_true, Bool.false_eq_true, if_false, Option.bind_some, show (0 : Int).toNat = 0 from rfl, show (1 : Int).toNat = 1 from rfl, List.getD_cons_zero, List.getD_cons_succ, h2l]
  rw [if_pos (show (0 : Int) ≤ 0 ∧ (0 : Int) < 2 by omega), if_pos (show (0 : Int) ≤ 1 ∧ (1 : Int) < 2 by omega)]
  by_cases ha : avoidsP x [3, 3]
  · obtain ⟨a0, a1⟩ := avoids3.1 ha
    have hn6 : ¬ (n : Int) = 6 := fun h => hno (by omega) ha
    simp only [decide_eq_true ha, decide_eq_true (show ((gw x 0 : Nat) : Int) < 3 by omega), decide_eq_true (show ((gw x 1 : Nat) : Int) < 3 by omega), decide_eq_false hn6, if_true, if_pos ha, beq_self_eq_true, Bool.not_true, Bool.false_eq_true, if_false, Option.bind_some, decide_true]
  · have hor : ¬ (gw x 0 < 3 ∧ gw x 1 < 3) := fun h => ha (avoids3.2 h)
    by_cases h0 : gw x 0 < 3
    · have h1 : ¬ gw x 1 < 3 := fun h => hor ⟨h0, h⟩
      have h0' : ((gw x 0 : Nat) : Int) < 3 := by omega
      have h1' : ¬ ((gw x 1 : Nat) : Int) < 3 := by omega
      simp [ha, h0', h1']
    · have h0' : ¬ ((gw x 0 : Nat) : Int) < 3 := by omega
      simp [ha, h0']
theorem top_pure (p0 : List UInt8) : ∃ k, laws_FnTop k p0 = some true := by
  refine ⟨6000, ?_⟩
  unfold laws_FnTop laws_big
  by_cases hb : 4096 < (p0.length : Int)
  · rw [if_pos (decide_eq_true hb)]
  · rw [if_neg (by simp only [decide_eq_true_eq]; exact hb)]
    obtain ⟨s, e, hs⟩ := roll_ok (k := 6000) (by omega) p0 (by omega) 62
    obtain ⟨v, s', e', hs', v0, v1⟩ := dice_ok s 4 hs (by omega)
    rw [e, Option.bind_some, e', Option.bind_some]
    obtain ⟨n, hn⟩ : ∃ n : Nat, 3 + v = n := ⟨(3 + v).toNat, by omega⟩
    have hw : w64 (3 + v) = (n : Int) := by rw [w64_id (by omega), hn]
    have hw1 : w64 ((n : Int) - 1) = ((n - 1 : Nat) : Int) := by rw [w64_id (by omega)]; omega
    have ht := tri_le (n := n) (by omega)
    obtain ⟨s2, cs, e2, hs2, hcs, hz⟩ := colours_ok (v, s') 0 (tri n) (by rw [hw]; exact edges_tri n (by omega) 0 B136.zero) (by omega) s' hs' 6000 (by omega)
    obtain ⟨e3, ho⟩ := start_ok (v, s') n hw (by omega) 6000 (by omega)
    obtain ⟨l, e4, ho'⟩ := order_ok n (by omega) (n - 1) 6000 s2 _ (by omega) (by omega) hs2 ho
    dsimp only at e2 e3 e4 ⊢
    rw [e2, Option.bind_some, e3, Option.bind_some, hw, hw1]
    dsimp only
    rw [e4, Option.bind_some]
    exact top_end (by omega) (by omega) (by omega) hcs hz ho'
end Go.Proofs.Ytjcgphgipleccaa
