/- The plain law of FnRenumbered: found renumberings are the reference's and lead to the colourings, also with colours exchanged. No conditions. -/
import Derived.Test.YtfnbhfobgimnjaaGreatPureRnD30
set_option linter.unusedVariables false
set_option linter.unusedSimpArgs false
namespace Go.Proofs.YtfnbhfobgimnjaaGreat
open Go Go.RowKit Ab

open Classical in
theorem leads_full (x y : Col) (l : List Int) (k : Nat) (hk : 5000 ≤ k) (hl : l.length ≤ 1000) : ∃ b c, impl_LeadsTo k x y l = some (b, c) ∧ spec_LeadsTo k x y l = some (b, c) ∧ (c = 0 → impl_RenumberPoints k x l = some (ren x l, 0) ∧ b = (ren x l).eqb y) := by
  unfold spec_LeadsTo impl_LeadsTo
  rw [specIs_eq k (by omega), isColouring_eq k (by omega), specIs_eq k (by omega), isColouring_eq k (by omega)]
  by_cases hx : x.is
  · by_cases hy : y.is
    · rw [specOrder_eq k l x.p (by omega) (by omega) hx.1, implOrder_eq k l x.p (by omega) (by omega)]
      by_cases ho : isOrd l x.p
      · rw [specRen_eq x l hx.1 ho k (by omega), implRen_eq x l hx.1 ho k (by omega)]
        exact ⟨(ren x l).eqb y, 0, by simp [hx, hy, ho], by simp [hx, hy, ho], fun _ => ⟨renum_val hk hx ho, rfl⟩⟩
      · exact ⟨false, 2, by simp [hx, hy, ho], by simp [hx, hy, ho], fun h => by omega⟩
    · exact ⟨false, 1, by simp [hx, hy], by simp [hx, hy], fun h => by omega⟩
  · exact ⟨false, 1, by simp [hx], by simp [hx], fun h => by omega⟩
theorem leads_yes {k : Nat} (hk : 5000 ≤ k) {x y : Col} (hx : x.is) (hy : y.is) {l : List Int} (ho : isOrd l x.p) (h : ren x l = y) : impl_LeadsTo k x y l = some (true, 0) := by
  classical
  have hl := ho.1
  have hp := hx.1
  unfold impl_LeadsTo
  rw [isColouring_eq k (by omega), isColouring_eq k (by omega), implOrder_eq k l x.p (by omega) (by omega), implRen_eq x l hx.1 ho k (by omega), h]
  have : y.eqb y = true := eqb_refl' y
  simp [hx, hy, ho, this]
theorem exch_val {k : Nat} (hk : 5000 ≤ k) {x : Col} (hx : x.is) {l : List Int} (ho : isOrd l x.k) : impl_ExchangeColours k x l = some (exC x l, 0) := by
  classical
  have hlen := ho.1
  have hkk := hx.2.1
  unfold impl_ExchangeColours impl_Colouring_code impl_ExchangeColours_c1
  rw [isColouring_eq k (by omega), implOrder_eq k l x.k (by omega) (by omega)]
  have e1 : impl_Colouring_recoloured k x x.k (fun a0 => impl_ExchangeColours_c2 a0 l) = some (exC x l) := recol_val hx x.k _ (fun c => l.getD c.toNat 0) (fun c h0 h1 => by
    unfold impl_ExchangeColours_c2
    rw [if_pos (by omega)]) (by omega)
  rw [e1]
  simp [hx, ho]
theorem like_ok {k : Nat} (hk : 5000 ≤ k) (l : List Int) (hl : l.length ≤ 1000) : laws_likeInts k l l = some true := like_refl k l (by omega) (by omega)
theorem bad_vals {k : Nat} (hk : 5000 ≤ k) {x y : Col} (h : ¬ (x.is ∧ y.is)) : impl_FindRenumbering k x y = some (none, 1) ∧ spec_FindRenumbering k x y = some ([], 1) ∧ impl_AreIsomorphic k x y = some (false, 1) ∧ spec_AreIsomorphic k x y = some (false, 1) ∧ impl_FindAlike k x y = some ([], none, 1) ∧ spec_FindAlike k x y = some ([], [], 1) := by
  classical
  unfold impl_FindRenumbering spec_FindRenumbering impl_AreIsomorphic spec_AreIsomorphic impl_FindAlike spec_FindAlike
  rw [specIs_eq k (by omega), isColouring_eq k (by omega), specIs_eq k (by omega), isColouring_eq k (by omega)]
  by_cases hx : x.is
  · have hy : ¬ y.is := fun q => h ⟨hx, q⟩
    simp [hx, hy]
  · simp [hx]
theorem renumbered_pure (p0 : List UInt8) : ∃ k, laws_FnRenumbered k p0 = some true := by
  classical
  refine ⟨6000, ?_⟩
  unfold laws_FnRenumbered laws_big
  by_cases hb : 4096 < (p0.length : Int)
  · rw [if_pos (decide_eq_true hb)]
  · rw [if_neg (by simp only [decide_eq_true_eq]; exact hb)]
    have hk : 5000 ≤ 6000 := by omega
    obtain ⟨k, hkk⟩ : ∃ k, k = 6000 := ⟨_, rfl⟩
    rw [← hkk] at hk ⊢
    obtain ⟨x, y, ed⟩ := two6_ok hk p0 (by omega)
    obtain ⟨u, w, p, el, hpl⟩ := leads6_ok hk p0 (by omega)
    obtain ⟨b, c, q1, q2, q3⟩ := leads_full u w p k hk (by omega)
    rw [ed]
    have nil0 := like_ok hk [] (by simp)
    by_cases hxy : x.is ∧ y.is
    · obtain ⟨hx, hy⟩ := hxy
      have v1 := implFind_val hk hx hy
      have v2 := specFind_val hk hx hy
      have v3 := implIso_val hk hx hy
      have v4 := specIso_val hk hx hy
      have v5 := implAlike_val hk hx hy
      have v6 := specAlike_val hk hx hy
      have hFA : ∀ q pp, FA x y = some (q, pp) → impl_ExchangeColours k x q = some (exC x q, 0) ∧ impl_LeadsTo k (exC x q) y pp = some (true, 0) ∧ laws_likeInts k q q = some true ∧ laws_likeInts k pp pp = some true := fun q pp h => by
        obtain ⟨h1, h2⟩ := faL_some _ _ _ h
        have hoq := ordK hx h1
        have hes := exC_is hx hoq
        obtain ⟨_, _, hopp, hr⟩ := RN_ok hes hy h2
        have hp1 := hx.1
        have hk1 := hx.2.1
        have l1 := hoq.1
        have l2 := hopp.1
        have l3 := exC_p x hp1 q
        exact ⟨exch_val hk hx hoq, leads_yes hk hes hy hopp hr, like_ok hk q (by omega), like_ok hk pp (by omega)⟩
      by_cases hR : RN x y = []
      · rw [if_pos hR] at v1 v2
        rw [decide_eq_false (fun h : RN x y ≠ [] => h hR)] at v3 v4
        cases hf : FA x y with
        | none =>
          rw [hf] at v5 v6
          dsimp only at v5 v6
          by_cases hc : c = 0
          · subst hc
            obtain ⟨q4, rfl⟩ := q3 rfl
            simp [v1, v2, v3, v4, v5, v6, el, q1, q2, q4, nil0, letO]
          · simp [v1, v2, v3, v4, v5, v6, el, q1, q2, hc, nil0, letO]
        | some v =>
          obtain ⟨q, pp⟩ := v
          rw [hf] at v5 v6
          dsimp only at v5 v6
          obtain ⟨w1, w2, w3, w4⟩ := hFA q pp hf
          by_cases hc : c = 0
          · subst hc
            obtain ⟨q4, rfl⟩ := q3 rfl
            simp [v1, v2, v3, v4, v5, v6, el, q1, q2, q4, w1, w2, w3, w4, nil0, letO]
          · simp [v1, v2, v3, v4, v5, v6, el, q1, q2, hc, w1, w2, w3, w4, nil0, letO]
      · rw [if_neg hR] at v1 v2
        rw [decide_eq_true hR] at v3 v4
        cases hf : FA x y with
        | none => exact absurd hf (FA_of_RN hx hR)
        | some v =>
          obtain ⟨q, pp⟩ := v
          rw [hf] at v5 v6
          dsimp only at v5 v6
          obtain ⟨w1, w2, w3, w4⟩ := hFA q pp hf
          obtain ⟨l, hl⟩ : ∃ l, l = (RN x y).headD [] := ⟨_, rfl⟩
          have hlm : l ∈ RN x y := by
            rw [hl]
            cases hq : RN x y with
            | nil => exact absurd hq hR
            | cons a t => simp
          rw [← hl] at v1 v2
          obtain ⟨m1, m2, m3, m4⟩ := RN_ok hx hy hlm
          have m5 := leads_yes hk hx hy m3 m4
          have hp1 := hx.1
          have hk1 := hx.2.1
          have m6 := m3.1
          have m7 := like_ok hk l (by omega)
          have g1 := cliques_val hk hx
          have g2 := cliques_val hk hy
          have hgw : (mapL y.k.toNat fun c => (gw y c : Int)) = mapL x.k.toNat fun c => (gw x c : Int) := by
            rw [← m2]
            exact mapL_ext fun c _ => by rw [← m4, gw_same hx m3]
          rw [hgw] at g2
          have m8 := like_ok hk (mapL x.k.toNat fun c => (gw x c : Int)) (by rw [mapL_length]; omega)
          by_cases hc : c = 0
          · subst hc
            obtain ⟨q4, rfl⟩ := q3 rfl
            simp [v1, v2, v3, v4, v5, v6, el, q1, q2, q4, w1, w2, w3, w4, m5, m7, g1, g2, m8, letO]
          · simp [v1, v2, v3, v4, v5, v6, el, q1, q2, hc, w1, w2, w3, w4, m5, m7, g1, g2, m8, letO]
    · obtain ⟨v1, v2, v3, v4, v5, v6⟩ := bad_vals hk hxy
      by_cases hc : c = 0
      · subst hc
        obtain ⟨q4, rfl⟩ := q3 rfl
        simp [v1, v2, v3, v4, v5, v6, el, q1, q2, q4, nil0, letO]
      · simp [v1, v2, v3, v4, v5, v6, el, q1, q2, hc, nil0, letO]
end Go.Proofs.YtfnbhfobgimnjaaGreat
