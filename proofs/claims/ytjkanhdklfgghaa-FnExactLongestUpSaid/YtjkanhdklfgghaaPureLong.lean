/- The plain law of FnExactLongestUp: the program's answer is the reference's. No conditions beyond those that each lemma states. -/
import Derived.Test.YtjkanhdklfgghaaPureUp
import Derived.Test.YtjkanhdklfgghaaGen3
set_option linter.unusedVariables false
set_option linter.unusedSimpArgs false
namespace Go.Proofs.Ytjkanhdklfgghaa
open Go Go.RowKit Ab

/-! ### How long paths are that begin with a point -/
def frR (x : Col) (i : Int) (s : List Int) : Prop := (s.length : Int) = x.p ∧ ∀ j : Int, i ≤ j → j < x.p → 1 ≤ li s j ∧ li s j ≤ x.p - j

theorem li_set (s : List Int) (i j v : Int) (hi : 0 ≤ i) (hi' : i < s.length) (hj : 0 ≤ j) : li (s.set i.toNat v) j = if i = j then v else li s j := by
  unfold li
  simp only [List.getD]
  by_cases e : i = j
  · subst e
    rw [List.getElem?_set_self (by omega), if_pos rfl]; rfl
  · rw [List.getElem?_set_ne (by omega), if_neg e]

theorem fr_l3 (x : Col) (hp : x.p ≤ 17) (c i : Int) (hi0 : 0 ≤ i) (hi : i < x.p) : ∀ (k : Nat) (j : Int) (s : List Int), i < j → j ≤ x.p → (x.p - j).toNat < k → frR x (i + 1) s → 1 ≤ li s i → li s i ≤ x.p - i →
    ∃ r, impl_Colouring_ups_l3 x c i k j s = some r ∧ spec_l10Ups_l1 x c i k j s = some r ∧ frR x i r := by
  intro k
  induction k with
  | zero => intro j s _ _ h; omega
  | succ k ih =>
    intro j s h1 h2 hk hs b1 b2
    rw [impl_Colouring_ups_l3, spec_l10Ups_l1]
    by_cases hj : j < x.p
    · rw [w64_id (show -9223372036854775808 ≤ j + 1 ∧ j + 1 < 9223372036854775808 by omega), implAt_eq x i j hi0 h1 (by omega) (by omega), specAt_eq x i j hi0 h1 (by omega) (by omega)]
      have hr := hs.2 j (by omega) hj
      rw [w64_id (show -9223372036854775808 ≤ s.getD j.toNat 0 + 1 ∧ s.getD j.toNat 0 + 1 < 9223372036854775808 by simp only [li] at hr; omega)]
      simp only [hj, decide_true, if_true, Option.bind_some]
      have hl := hs.1
      by_cases hc : x.cc i j = c
      · simp only [hc, decide_true, if_true]
        rw [if_pos (show 0 ≤ i ∧ i < (s.length : Int) by omega), if_pos (show 0 ≤ j ∧ j < (s.length : Int) by omega), if_pos (show 0 ≤ i ∧ i < (s.length : Int) by omega)]
        simp only [Option.bind_some]
        have hv : ∀ v, frR x (i + 1) (s.set i.toNat v) := fun v => ⟨by simpa using hl, fun t ht ht' => by
          rw [li_set _ _ _ _ hi0 (by omega) (by omega), if_neg (by omega)]; exact hs.2 t ht ht'⟩
        refine ih (j + 1) _ (by omega) (by omega) (by omega) (hv _) ?_ ?_
        · rw [li_set _ _ _ _ hi0 (by omega) hi0, if_pos rfl]
          change 1 ≤ li s i at b1
          simp only [li] at b1 hr
          split <;> omega
        · rw [li_set _ _ _ _ hi0 (by omega) hi0, if_pos rfl]
          simp only [li] at b2 hr
          split <;> omega
      · simp only [hc, decide_false, Bool.false_eq_true, if_false, Option.bind_some]
        exact ih (j + 1) s (by omega) (by omega) (by omega) hs b1 b2
    · simp only [hj, decide_false, Bool.false_eq_true, if_false]
      refine ⟨s, rfl, rfl, hs.1, fun t ht ht' => ?_⟩
      by_cases e : t = i
      · subst e; exact ⟨b1, b2⟩
      · exact hs.2 t (by omega) ht'

theorem fr_l2 (x : Col) (hp : x.p ≤ 17) (c : Int) (k : Nat) (hk : 19 ≤ k) : ∀ (k' : Nat) (i : Int) (s : List Int), i < x.p → -1 ≤ i → (i + 1).toNat < k' → frR x (i + 1) s →
    ∃ r, impl_Colouring_ups_l2 k x c k' i s = some r ∧ spec_l10Ups_l0 k x c k' i s = some r ∧ frR x 0 r := by
  intro k'
  induction k' with
  | zero => intro i s _ _ h; omega
  | succ k' ih =>
    intro i s h1 h0 hk' q
    rw [impl_Colouring_ups_l2, spec_l10Ups_l0]
    by_cases hi : 0 ≤ i
    · have hl := q.1
      have hv : frR x (i + 1) (s.set i.toNat 1) := ⟨by simpa using hl, fun t ht ht' => by
        rw [li_set _ _ _ _ hi (by omega) (by omega), if_neg (by omega)]; exact q.2 t ht ht'⟩
      obtain ⟨r, e, e', hr⟩ := fr_l3 x hp c i hi h1 k (i + 1) (s.set i.toNat 1) (by omega) (by omega) (by omega) hv (by rw [li_set _ _ _ _ hi (by omega) hi, if_pos rfl]; omega) (by rw [li_set _ _ _ _ hi (by omega) hi, if_pos rfl]; omega)
      rw [w64_id (show -9223372036854775808 ≤ i + 1 ∧ i + 1 < 9223372036854775808 by omega), w64_id (show -9223372036854775808 ≤ i - 1 ∧ i - 1 < 9223372036854775808 by omega), e, e']
      simp only [hi, decide_true, if_true]
      rw [if_pos (show True ∧ i < (s.length : Int) from ⟨trivial, by omega⟩)]
      exact ih (i - 1) r (by omega) (by omega) (by omega) (by rw [show i - 1 + 1 = i by omega]; exact hr)
    · have : i = -1 := by omega
      subst this
      refine ⟨s, by simp, by simp, ?_⟩
      simpa using q

/-! ### The greatest number of a list -/
theorem max_loop (L : List Int) : ∀ (k : Nat) (a i : Int), spec_l10Longest_l0 L k a i = slices_Max_l0 L k a i := by
  intro k
  induction k with
  | zero => intro a i; rfl
  | succ k ih => intro a i; rw [spec_l10Longest_l0, slices_Max_l0]; simp only [ih]
theorem max_fuel (L : List Int) (hL : (L.length : Int) ≤ 1099511627776) : ∀ (d : Nat) (a i : Int), 0 ≤ i → ((L.length : Int) - i).toNat = d → ∃ r, a ≤ r ∧ ∀ k, d < k → slices_Max_l0 L k a i = some r := by
  intro d
  induction d with
  | zero =>
    intro a i h0 h
    refine ⟨a, Int.le_refl _, fun k hk => ?_⟩
    obtain ⟨k, rfl⟩ : ∃ k', k = k' + 1 := ⟨k - 1, by omega⟩
    rw [slices_Max_l0]
    have : ¬ i < (L.length : Int) := by omega
    simp [this]
  | succ d ih =>
    intro a i h0 h
    have hi : i < (L.length : Int) := by omega
    obtain ⟨r, hr, hk⟩ := ih (if a < L.getD i.toNat 0 then L.getD i.toNat 0 else a) (i + 1) (by omega) (by omega)
    refine ⟨r, ?_, fun k hk' => ?_⟩
    · split at hr <;> omega
    · obtain ⟨k, rfl⟩ : ∃ k', k = k' + 1 := ⟨k - 1, by omega⟩
      rw [slices_Max_l0, w64_succ h0 hi (by omega), hk k (by omega)]
      simp [h0, hi]

/-! ### The path -/
theorem long_loop (x : Col) (hp : x.p ≤ 17) (c : Int) (f L : List Int) (hL : frR x 0 L) : ∀ (k : Nat) (left i : Int) (out : List Int), 0 ≤ i → i ≤ x.p → 0 ≤ left → left ≤ 1000 → (x.p - i).toNat < k → (out.length : Int) ≤ i → (∀ j : Int, 0 ≤ j → j < out.length → 0 ≤ li out j ∧ li out j < i) →
    ∃ r : List Int, impl_LongestUp_l0 x c (f, L) k left i out = some r ∧ (left = 0 → r = out) ∧ (r.length : Int) ≤ 17 ∧ spec_l10Longest_l1 x c L k left i out = some r := by
  intro k
  induction k with
  | zero => intro left i out _ _ _ _ h; omega
  | succ k ih =>
    intro left i out h0 h1 hl hl2 hk ho hin
    rw [impl_LongestUp_l0, spec_l10Longest_l1]
    have hlen := hL.1
    by_cases hi : i < x.p
    · have hv := hL.2 i h0 hi
      rw [w64_id (show -9223372036854775808 ≤ i + 1 ∧ i + 1 < 9223372036854775808 by omega), w64_id (show -9223372036854775808 ≤ left - 1 ∧ left - 1 < 9223372036854775808 by omega)]
      by_cases hz : left = 0
      · subst hz
        have e0 : ¬ L.getD i.toNat 0 = 0 := by simp only [li] at hv; omega
        obtain ⟨r, e, e1, e2, _⟩ := ih 0 (i + 1) out (by omega) (by omega) (by omega) (by omega) (by omega) (by omega) (fun j g0 g1 => by have := hin j g0 g1; omega)
        have := e1 rfl
        subst this
        refine ⟨r, ?_, fun _ => rfl, e2, ?_⟩
        · simp only [hi, decide_true, if_true]
          rw [if_pos (show 0 ≤ i ∧ i < (L.length : Int) by omega)]
          simp only [e0, decide_false, Bool.false_eq_true, if_false, Option.bind_some]
          exact e
        · simp [letO, hi]
      · have hpos : 0 < left := by omega
        have step : ∀ (b : Bool) (r : List Int), True → True := fun _ _ _ => trivial
        by_cases hm : L.getD i.toNat 0 = left
        · -- the point's number fits
          have hw : -9223372036854775808 ≤ (out.length : Int) - 1 ∧ (out.length : Int) - 1 < 9223372036854775808 := by omega
          rw [w64_id hw]
          by_cases he : (out.length : Int) = 0
          · obtain ⟨r, e, e1, e2, e3⟩ := ih (left - 1) (i + 1) (out ++ [i]) (by omega) (by omega) (by omega) (by omega) (by omega) (by simp; omega) (fun j g0 g1 => by
              have : out = [] := List.eq_nil_of_length_eq_zero (by omega)
              subst this
              have hj : j = 0 := by simp at g1; omega
              subst hj
              simp [li]; omega)
            refine ⟨r, ?_, fun h => (hz h).elim, e2, ?_⟩
            · simp only [hi, decide_true, if_true, hm, he, Option.bind_some]
              rw [if_pos (show 0 ≤ i ∧ i < (L.length : Int) by omega)]
              simp only [Option.bind_some, if_true]
              rw [if_pos (by simp; omega)]
              exact e
            · simp only [letO, hi, hpos, decide_true, if_true, Option.bind_some, hm, he]
              rw [if_pos (show 0 ≤ i ∧ i < (L.length : Int) by omega)]
              simp only [Option.bind_some, if_true]
              rw [if_pos (by simp; omega)]
              exact e3
          · have hlast := hin ((out.length : Int) - 1) (by omega) (by omega)
            rw [implAt_eq x _ i hlast.1 hlast.2 h0 (by omega), specAt_eq x _ i hlast.1 hlast.2 h0 (by omega)]
            by_cases hcc : x.cc (li out ((out.length : Int) - 1)) i = c
            · obtain ⟨r, e, e1, e2, e3⟩ := ih (left - 1) (i + 1) (out ++ [i]) (by omega) (by omega) (by omega) (by omega) (by omega) (by simp; omega) (fun j g0 g1 => by
                unfold li
                by_cases hj : j < out.length
                · rw [getD_app _ _ _ _ (by omega)]
                  have := hin j g0 hj
                  simp only [li] at this; omega
                · rw [getD_app' _ _ _ _ (by omega)]
                  have hj2 : j.toNat - out.length = 0 := by simp at g1; omega
                  rw [hj2]; simp; omega)
              refine ⟨r, ?_, fun h => (hz h).elim, e2, ?_⟩
              · simp only [hi, decide_true, if_true, hm, he, decide_false, Bool.false_eq_true, if_false]
                rw [if_pos (show 0 ≤ i ∧ i < (L.length : Int) by omega), if_pos (show 0 ≤ (out.length : Int) - 1 ∧ (out.length : Int) - 1 < (out.length : Int) by omega)]
                simp only [Option.bind_some, hcc, decide_true, if_true]
                rw [if_pos (by simp; omega)]
                exact e
              · simp only [letO, hi, hpos, decide_true, if_true, Option.bind_some, hm, he, decide_false, Bool.false_eq_true, if_false]
                rw [if_pos (show 0 ≤ i ∧ i < (L.length : Int) by omega), if_pos (show 0 ≤ (out.length : Int) - 1 ∧ (out.length : Int) - 1 < (out.length : Int) by omega)]
                simp only [Option.bind_some, hcc, decide_true, if_true]
                rw [if_pos (by simp; omega)]
                exact e3
            · obtain ⟨r, e, e1, e2, e3⟩ := ih left (i + 1) out (by omega) (by omega) (by omega) (by omega) (by omega) (by omega) (fun j g0 g1 => by have := hin j g0 g1; omega)
              refine ⟨r, ?_, fun h => (hz h).elim, e2, ?_⟩
              · simp only [hi, decide_true, if_true, hm, he, decide_false, Bool.false_eq_true, if_false]
                rw [if_pos (show 0 ≤ i ∧ i < (L.length : Int) by omega), if_pos (show 0 ≤ (out.length : Int) - 1 ∧ (out.length : Int) - 1 < (out.length : Int) by omega)]
                simp only [Option.bind_some, hcc, decide_false, Bool.false_eq_true, if_false]
                exact e
              · simp only [letO, hi, hpos, decide_true, if_true, Option.bind_some, hm, he, decide_false, Bool.false_eq_true, if_false]
                rw [if_pos (show 0 ≤ i ∧ i < (L.length : Int) by omega), if_pos (show 0 ≤ (out.length : Int) - 1 ∧ (out.length : Int) - 1 < (out.length : Int) by omega)]
                simp only [Option.bind_some, hcc, decide_false, Bool.false_eq_true, if_false]
                exact e3
        · obtain ⟨r, e, e1, e2, e3⟩ := ih left (i + 1) out (by omega) (by omega) (by omega) (by omega) (by omega) (by omega) (fun j g0 g1 => by have := hin j g0 g1; omega)
          refine ⟨r, ?_, fun h => (hz h).elim, e2, ?_⟩
          · simp only [hi, decide_true, if_true, hm, decide_false, Bool.false_eq_true, if_false]
            rw [if_pos (show 0 ≤ i ∧ i < (L.length : Int) by omega)]
            exact e
          · simp only [letO, hi, hpos, decide_true, if_true, Option.bind_some, hm, decide_false, Bool.false_eq_true, if_false]
            rw [if_pos (show 0 ≤ i ∧ i < (L.length : Int) by omega)]
            exact e3
    · refine ⟨out, by simp [hi], fun _ => rfl, by omega, by simp [letO, hi]⟩

theorem long_pure (x : Col) (c : Int) : laws_FnExactLongestUp 300 x c = some true := by
  classical
  have key : ∃ (o : Option (List Int)) (e : Int), spec_LongestUp 300 x c = some (o.getD [], e) ∧ impl_LongestUp 300 x c = some (o, e) ∧ (o.getD []).length ≤ 17 := by
    unfold spec_LongestUp impl_LongestUp
    rw [specGiven_eq 300 x c [] (by simp) (by simp), colourCode_eq 300 x c (by omega)]
    have hin : inP x [] := fun i h0 h1 => by simp at h1; omega
    by_cases h : x.is
    · by_cases hc : 0 ≤ c ∧ c ≤ x.k - 1
      · have hp := h.1
        obtain ⟨L, e1, e2, hL⟩ := fr_l2 x hp.2 c 300 (by omega) 300 (x.p - 1) (List.replicate x.p.toNat 0) (by omega) (by omega) (by omega) ⟨by simp; omega, fun j h0 h1 => by omega⟩
        have hlen := hL.1
        have hups : impl_Colouring_ups 300 x c = some (upL x c x.p.toNat, L) := by
          unfold impl_Colouring_ups
          rw [if_pos ⟨by omega, by omega, by omega⟩, if_pos ⟨by omega, by omega, by omega⟩, implUp_l0 x hp c 300 (by omega), w64_id (by omega), e1]; rfl
        have hspec : spec_l10Ups 300 x c = some L := by
          unfold spec_l10Ups
          rw [if_pos ⟨by omega, by omega, by omega⟩, w64_id (by omega), e2]; rfl
        have h0v := hL.2 0 (by omega) (by omega)
        obtain ⟨m, hm, hmk⟩ := max_fuel L (by omega) ((L.length : Int) - 1).toNat (li L 0) 1 (by omega) rfl
        have hmax : slices_Max 300 L = some m := by
          unfold slices_Max
          have hn : ¬ (L.length : Int) < 1 := by omega
          simp only [hn, decide_false, Bool.false_eq_true, if_false, Option.bind_some]
          have h2 := hmk 300 (by omega)
          simp only [li] at h2
          rw [if_pos (by omega)]
          rw [h2]; rfl
        have hmax2 : spec_l10Longest_l0 L 300 0 0 = some m := by
          rw [max_loop, slices_Max_l0]
          have hn : (0 : Int) < (L.length : Int) := by omega
          have h2 := hmk 299 (by omega)
          simp only [li] at h2 h0v
          have hv : (0 : Int) < L.getD (0 : Int).toNat 0 := by omega
          simp only [hn, decide_true, if_true, hv]
          rw [if_pos ⟨by omega, trivial⟩]
          exact h2
        have hm2 : m ≤ 17 := by
          have gen : ∀ (k : Nat) (a i : Int), 0 ≤ i → a ≤ 17 → ∀ r, slices_Max_l0 L k a i = some r → r ≤ 17 := by
            intro k
            induction k with
            | zero => intro a i _ _ r h; cases h
            | succ k ih =>
              intro a i hi ha r h
              rw [slices_Max_l0] at h
              by_cases hil : i < (L.length : Int)
              · simp only [hil, decide_true, if_true] at h
                rw [if_pos ⟨hi, trivial⟩, w64_succ hi hil (by omega)] at h
                have hv := hL.2 i hi (by omega)
                simp only [li] at hv
                exact ih _ _ (by omega) (by split <;> omega) r h
              · simp only [hil, decide_false, Bool.false_eq_true, if_false] at h
                cases h; exact ha
          exact gen 300 (li L 0) 1 (by omega) (by omega) m (hmk 300 (by omega))
        obtain ⟨r, r1, _, r3, r4⟩ := long_loop x hp.2 c (upL x c x.p.toNat) L hL 300 m 0 [] (by omega) (by omega) (by omega) (by omega) (by omega) (by simp) (fun j g0 g1 => by simp at g1; omega)
        refine ⟨some r, 0, ?_, ?_, by simp; omega⟩
        · rw [if_pos h, if_pos ⟨hc, hin⟩]
          simp only [Option.bind_some, decide_true, Bool.not_true, Bool.false_eq_true, if_false]
          unfold spec_l10Longest
          rw [hspec]
          simp only [Option.bind_some]
          rw [hmax2]
          simp only [Option.bind_some]
          rw [r4]; rfl
        · rw [if_pos h, if_pos hc]
          simp only [Option.bind_some, decide_true, Bool.not_true, Bool.false_eq_true, if_false]
          rw [hups]
          simp only [Option.bind_some]
          rw [hmax]
          simp only [Option.bind_some]
          rw [r1]; rfl
      · refine ⟨none, 2, ?_, ?_, by simp⟩
        · rw [if_pos h, if_neg (fun h => hc h.1)]; rfl
        · rw [if_pos h, if_neg hc]; rfl
    · refine ⟨none, 1, ?_, ?_, by simp⟩
      · rw [if_neg h]; rfl
      · rw [if_neg h]; rfl
  obtain ⟨o, e, h1, h2, h3⟩ := key
  unfold laws_FnExactLongestUp
  rw [toColouring_eq 300 (by omega)]
  simp only [Option.bind_some]
  rw [h1]
  simp only [Option.bind_some]
  rw [h2]
  simp only [Option.bind_some]
  cases o with
  | none =>
    simp only [Option.getD_none]
    rw [eqInts_refl 300 [] (by simp) (by simp), mark_nil 300 (by omega), held_nil 300 (by omega)]
    simp
  | some l =>
    simp only [Option.getD_some] at h3 ⊢
    rw [eqInts_refl 300 l (by omega) (by omega), mark_eq 300 l (by omega) (by omega)]
    simp only [Option.bind_some]
    rw [held_eq 300 l.length (by omega) (by omega)]
    have : ¬ (1 + (l.length : Int) < 0) := by omega
    simp [this]
end Go.Proofs.Ytjkanhdklfgghaa
