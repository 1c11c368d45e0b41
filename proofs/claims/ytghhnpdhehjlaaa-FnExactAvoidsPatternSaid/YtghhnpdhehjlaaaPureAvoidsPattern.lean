/- Plain law: the program's AvoidsPattern answers as the reference's. No conditions beyond those that each lemma states. -/
import Derived.Test.YtghhnpdhehjlaaaPureStar32
import Derived.Test.YtghhnpdhehjlaaaPurePathS32
import Derived.Test.YtghhnpdhehjlaaaPureCycS32
set_option linter.unusedVariables false
set_option linter.unusedSimpArgs false
namespace Go.Proofs.Ytghhnpdhehjlaaa
open Go Go.RowKit Ab

/-- The error of a colouring and a colour, also for too many points. -/
noncomputable def apCode (x : Col) (c kind m : Int) : Int := open Classical in
  if x.is then (if (0 ≤ c ∧ c ≤ x.k - 1) ∧ (0 ≤ kind ∧ kind ≤ 5) ∧ 1 ≤ m ∧ m ≤ 17 then (if kind ≤ 1 ∧ 11 < x.p then 3 else 0) else 2) else 1
theorem apCode_ok {x : Col} {c kind m : Int} (hx : x.is) (h : (0 ≤ c ∧ c ≤ x.k - 1) ∧ (0 ≤ kind ∧ kind ≤ 5) ∧ 1 ≤ m ∧ m ≤ 17) : apCode x c kind m = if kind ≤ 1 ∧ 11 < x.p then 3 else 0 := by
  unfold apCode; rw [if_pos hx, if_pos h]
theorem apCode_bad {x : Col} {c kind m : Int} (hx : x.is) (h : ¬ ((0 ≤ c ∧ c ≤ x.k - 1) ∧ (0 ≤ kind ∧ kind ≤ 5) ∧ 1 ≤ m ∧ m ≤ 17)) : apCode x c kind m = 2 := by
  unfold apCode; rw [if_pos hx, if_neg h]
theorem apCode_inv {x : Col} {c kind m : Int} (hx : ¬ x.is) : apCode x c kind m = 1 := by
  unfold apCode; rw [if_neg hx]
theorem few_val (kind p : Int) : (if (if decide ((0 : Int) = 0) then (if decide (kind ≤ 1) then decide (11 < p) else false) else false) = true then (3 : Int) else 0) = if kind ≤ 1 ∧ 11 < p then 3 else 0 := by
  by_cases h4 : kind ≤ 1
  · by_cases h5 : 11 < p <;> simp [h4, h5]
  · simp [h4]

theorem has_colour (x : Col) (hx : x.is) (c : Int) : impl_Colouring_hasColour x c = decide (0 ≤ c ∧ c ≤ x.k - 1) := by
  have := hx.2.1
  unfold impl_Colouring_hasColour
  rw [in_eq, w64_id (by omega)]
theorem cc_ok {k : Nat} (hk : 5000 ≤ k) {x : Col} (hx : x.is) {c : Int} (hc : 0 ≤ c ∧ c ≤ x.k - 1) : impl_Colouring_colourCode k x c true = some 0 := by
  unfold impl_Colouring_colourCode impl_Colouring_colourCode_c1
  rw [has_colour x hx c, decide_eq_true hc]
  simp only [letO, if_true]
  rw [((code_cases hk x).1 hx).1]; rfl
theorem cc_bad {k : Nat} (hk : 5000 ≤ k) {x : Col} (hx : x.is) {c : Int} {r : Bool} (h : ¬ (0 ≤ c ∧ c ≤ x.k - 1) ∨ r = false) : impl_Colouring_colourCode k x c r = some 2 := by
  unfold impl_Colouring_colourCode impl_Colouring_colourCode_c1
  rw [has_colour x hx c]
  have : (letO (if decide (0 ≤ c ∧ c ≤ x.k - 1) = true then r else false) fun (s3 : Bool) => s3) = false := by
    rcases h with h | rfl
    · rw [decide_eq_false h]; rfl
    · cases decide (0 ≤ c ∧ c ≤ x.k - 1) <;> rfl
  rw [this, ((code_cases hk x).1 hx).2]; rfl
theorem cc_inv {k : Nat} (hk : 5000 ≤ k) {x : Col} (hx : ¬ x.is) (c : Int) (r : Bool) : impl_Colouring_colourCode k x c r = some 1 := by
  unfold impl_Colouring_colourCode
  rw [(code_cases hk x).2 hx]; rfl

theorem impl_code {k : Nat} (hk : 5000 ≤ k) (x : Col) (c kind m : Int) : ∃ g, ((if (impl_in kind 0 5) then (impl_Colouring_colourCode k x c (impl_in m 1 17)).bind fun r4 => some r4 else (impl_Colouring_colourCode k x c false).bind fun r5 => some r5) : Option (Int)) = some g ∧ (if (if decide (g = 0) then (if decide (kind ≤ 1) then decide (11 < x.p) else false) else false) = true then (3 : Int) else g) = apCode x c kind m := by
  rw [in_eq, in_eq]
  by_cases hx : x.is
  · by_cases h : (0 ≤ c ∧ c ≤ x.k - 1) ∧ (0 ≤ kind ∧ kind ≤ 5) ∧ 1 ≤ m ∧ m ≤ 17
    · rw [decide_eq_true h.2.1, decide_eq_true h.2.2, if_pos rfl, cc_ok hk hx h.1, apCode_ok hx h]
      exact ⟨0, rfl, few_val ..⟩
    · rw [apCode_bad hx h]
      refine ⟨2, ?_, by simp⟩
      by_cases h2 : 0 ≤ kind ∧ kind ≤ 5
      · rw [decide_eq_true h2, if_pos rfl, cc_bad hk hx]
        · rfl
        · by_cases h1 : 0 ≤ c ∧ c ≤ x.k - 1
          · exact .inr (decide_eq_false fun h3 => h ⟨h1, h2, h3⟩)
          · exact .inl h1
      · rw [decide_eq_false h2, if_neg (by simp), cc_bad hk hx (.inr rfl)]; rfl
  · rw [apCode_inv hx, cc_inv hk hx, cc_inv hk hx]
    refine ⟨1, ?_, by simp⟩
    cases decide (0 ≤ kind ∧ kind ≤ 5) <;> rfl

theorem spec_code {k : Nat} (hk : 5000 ≤ k) (x : Col) (c kind m : Int) : ∃ g, spec_l01Given k x c [] = some g ∧ ∀ s8, s8 = (if (if decide (g = 0) then (if !(spec_l01In kind 0 5) then true else !(spec_l01In m 1 17)) else false) = true then (2 : Int) else g) →
    ((if decide (s8 = 0) then (spec_l04Code k x c (decide (kind < 2))).bind fun r10 => some r10 else some s8) : Option (Int)) = some (apCode x c kind m) := by
  obtain ⟨g1, g2, g3⟩ := given_cases hk x c
  rw [specIn_eq, specIn_eq]
  by_cases hx : x.is
  · by_cases h : (0 ≤ c ∧ c ≤ x.k - 1) ∧ (0 ≤ kind ∧ kind ≤ 5) ∧ 1 ≤ m ∧ m ≤ 17
    · refine ⟨0, g1 hx h.1, fun s8 h8 => ?_⟩
      have : s8 = 0 := by
        rw [h8, decide_eq_true h.2.1, decide_eq_true h.2.2]; rfl
      subst this
      rw [apCode_ok hx h, ← few_val]
      unfold spec_l04Code
      rw [g1 hx h.1]
      have : decide (kind < 2) = decide (kind ≤ 1) := by rw [decide_eq_decide]; omega
      rw [this]
      rfl
    · rw [apCode_bad hx h]
      by_cases h1 : 0 ≤ c ∧ c ≤ x.k - 1
      · refine ⟨0, g1 hx h1, fun s8 h8 => ?_⟩
        have : s8 = 2 := by
          rw [h8]
          by_cases h4 : 0 ≤ kind ∧ kind ≤ 5
          · have h5 : ¬ (1 ≤ m ∧ m ≤ 17) := fun h3 => h ⟨h1, h4, h3⟩
            rw [decide_eq_true h4, decide_eq_false h5]; rfl
          · rw [decide_eq_false h4]; rfl
        subst this
        rfl
      · refine ⟨2, g2 hx h1, fun s8 h8 => ?_⟩
        have : s8 = 2 := by rw [h8]; rfl
        subst this
        rfl
  · rw [apCode_inv hx]
    refine ⟨1, g3 hx, fun s8 h8 => ?_⟩
    have : s8 = 1 := by rw [h8]; rfl
    subst this
    rfl

/-- The answer. -/
def apVal (x : Col) (c kind m : Int) : Bool :=
  if kind = 0 then decide (((lp (aB x c) x.p.toNat).length : Int) < m)
  else if kind = 1 then !(fcyc (aB x c) x.p.toNat m.toNat).isSome
  else if kind = 2 then decide ((starAt x c x.p.toNat).2 < m)
  else if kind = 3 then decide (((ml (aB x c) (pts x)).length : Int) < m)
  else if kind = 4 then decide ((dbl x c false).2 < m)
  else decide ((dbl x c true).2 < m)

theorem code_zero {x : Col} {c kind m : Int} (h : apCode x c kind m = 0) : x.is ∧ (0 ≤ kind ∧ kind ≤ 5) ∧ (1 ≤ m ∧ m ≤ 17) ∧ (kind ≤ 1 → x.p ≤ 11) := by
  by_cases hx : x.is
  · by_cases h2 : (0 ≤ c ∧ c ≤ x.k - 1) ∧ (0 ≤ kind ∧ kind ≤ 5) ∧ 1 ≤ m ∧ m ≤ 17
    · rw [apCode_ok hx h2] at h
      refine ⟨hx, h2.2.1, h2.2.2, fun h4 => Classical.byContradiction fun h5 => ?_⟩
      rw [if_pos ⟨h4, by omega⟩] at h
      cases h
    · rw [apCode_bad hx h2] at h; cases h
  · rw [apCode_inv hx] at h; cases h

theorem impl_ap {k : Nat} (hk : 200000 ≤ k) (x : Col) (c kind m : Int) : impl_AvoidsPattern k x c kind m = some (if apCode x c kind m = 0 then (apVal x c kind m, 0) else (false, apCode x c kind m)) := by
  unfold impl_AvoidsPattern
  obtain ⟨g, h1, h2⟩ := impl_code (k := k) (by omega) x c kind m
  have h2' : (letO (if decide (g = 0) then (if decide (kind ≤ 1) then decide (11 < x.p) else false) else false) fun (s9 : Bool) => (if s9 then (3 : Int) else g)) = apCode x c kind m := h2
  rw [h1, Option.bind_some, h2']
  simp only [letO]
  by_cases h0 : apCode x c kind m = 0
  · rw [decide_eq_true h0, Bool.not_true, if_neg (by simp), if_pos h0]
    obtain ⟨hx, hk5, hm, h11⟩ := code_zero h0
    obtain ⟨mn, rfl⟩ : ∃ mn : Nat, m = mn := ⟨m.toNat, by omega⟩
    have hp := hx.1
    unfold apVal
    by_cases e0 : kind = 0
    · subst e0
      have hp' : 1 ≤ x.p ∧ x.p ≤ 11 := ⟨hp.1, h11 (by decide)⟩
      rw [decide_eq_true rfl, if_pos rfl, if_pos rfl, path_val hp' (by omega)]; rfl
    · rw [decide_eq_false e0, if_neg (by simp), if_neg e0]
      by_cases e1 : kind = 1
      · subst e1
        have hp' : 1 ≤ x.p ∧ x.p ≤ 11 := ⟨hp.1, h11 (by decide)⟩
        rw [decide_eq_true rfl, if_pos rfl, if_pos rfl, firstCycle_val hp' (by omega) (by omega), Int.toNat_natCast]
        cases fcyc (aB x c) x.p.toNat mn <;> rfl
      · rw [decide_eq_false e1, if_neg (by simp), if_neg e1]
        by_cases e2 : kind = 2
        · subst e2
          rw [decide_eq_true rfl, if_pos rfl, if_pos rfl, star_val hp (by omega)]; rfl
        · rw [decide_eq_false e2, if_neg (by simp), if_neg e2]
          by_cases e3 : kind = 3
          · subst e3
            rw [decide_eq_true rfl, if_pos rfl, if_pos rfl, matching_val hp (by omega)]; rfl
          · rw [decide_eq_false e3, if_neg (by simp), if_neg e3, double_val hp (by omega)]
            by_cases e4 : kind = 4
            · subst e4; rfl
            · have : kind = 5 := by omega
              subst this; rfl
  · rw [decide_eq_false h0, if_neg h0]; rfl

theorem spec_ap {k : Nat} (hk : 200000 ≤ k) (x : Col) (c kind m : Int) : spec_AvoidsPattern k x c kind m = some (if apCode x c kind m = 0 then (apVal x c kind m, 0) else (false, apCode x c kind m)) := by
  unfold spec_AvoidsPattern
  obtain ⟨g, h1, h2⟩ := spec_code (k := k) (by omega) x c kind m
  rw [h1, Option.bind_some]
  generalize hs8 : (letO (if decide (g = 0) then (if !(spec_l01In kind 0 5) then true else !(spec_l01In m 1 17)) else false) fun (s6 : Bool) => (if s6 then (2 : Int) else g)) = s8
  have h3 := h2 s8 hs8.symm
  simp only [letO]
  rw [h3, Option.bind_some]
  by_cases h0 : apCode x c kind m = 0
  · rw [decide_eq_true h0, Bool.not_true, if_neg (by simp), if_pos h0]
    obtain ⟨hx, hk5, hm, h11⟩ := code_zero h0
    obtain ⟨mn, rfl⟩ : ∃ mn : Nat, m = mn := ⟨m.toNat, by omega⟩
    have hp := hx.1
    unfold apVal
    by_cases e0 : kind = 0
    · subst e0
      have hp' : 1 ≤ x.p ∧ x.p ≤ 11 := ⟨hp.1, h11 (by decide)⟩
      rw [decide_eq_true rfl, if_pos rfl, if_pos rfl, spath_val hp' hk]; rfl
    · rw [decide_eq_false e0, if_neg (by simp), if_neg e0]
      by_cases e1 : kind = 1
      · subst e1
        have hp' : 1 ≤ x.p ∧ x.p ≤ 11 := ⟨hp.1, h11 (by decide)⟩
        rw [decide_eq_true rfl, if_pos rfl, if_pos rfl, has_val hp' hk, Int.toNat_natCast]; rfl
      · rw [decide_eq_false e1, if_neg (by simp), if_neg e1]
        by_cases e2 : kind = 2
        · subst e2
          rw [decide_eq_true rfl, if_pos rfl, if_pos rfl, sstar_val hp (by omega)]; rfl
        · rw [decide_eq_false e2, if_neg (by simp), if_neg e2]
          by_cases e3 : kind = 3
          · subst e3
            rw [decide_eq_true rfl, if_pos rfl, if_pos rfl, smatching_val hp hk]; rfl
          · rw [decide_eq_false e3, if_neg (by simp), if_neg e3]
            by_cases e4 : kind = 4
            · subst e4
              rw [decide_eq_true rfl, if_pos rfl, if_pos rfl, sdouble_val hp (by omega)]; rfl
            · rw [decide_eq_false e4, if_neg (by simp), if_neg e4, sdouble_val hp (by omega)]; rfl
  · rw [decide_eq_false h0, if_neg h0]; rfl

theorem avoidsPattern_pure (x : Col) (c kind m : Int) : laws_FnExactAvoidsPattern 200000 x c kind m = some true := by
  unfold laws_FnExactAvoidsPattern
  rw [toColouring_eq _ (by decide), Option.bind_some, spec_ap (by decide), Option.bind_some, Option.bind_some, impl_ap (by decide), Option.bind_some]
  simp [letO]
end Go.Proofs.Ytghhnpdhehjlaaa
