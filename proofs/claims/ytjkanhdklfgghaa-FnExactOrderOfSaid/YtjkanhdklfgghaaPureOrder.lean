/- The plain law of FnExactOrderOf: the program's answer is the reference's. No conditions beyond those that each lemma states. -/
import Derived.Test.YtjkanhdklfgghaaPureUp
import Derived.Test.YtjkanhdklfgghaaPureClosed2
set_option linter.unusedVariables false
set_option linter.unusedSimpArgs false
namespace Go.Proofs.Ytjkanhdklfgghaa
open Go Go.RowKit Ab

theorem cc_comm (x : Col) (i j : Int) : x.cc i j = x.cc j i := by unfold Col.cc; rw [eN_comm]
theorem implAt_ne (x : Col) (i j : Int) (h0 : 0 ≤ i) (h1 : i < 17) (hj : 0 ≤ j) (hj' : j < 17) (h : i ≠ j) : impl_Colouring_at x i j = some (x.cc i j) := by
  unfold impl_Colouring_at
  rw [number_eq i j (by omega) (by omega)]
  have := eN_136 (i := i.toNat) (j := j.toNat) (by omega) (by omega) (by omega)
  rw [if_pos (by omega)]
  rfl

/-- Whether the number at j is less than that at i. -/
def less (x : Col) (i j : Int) : Bool := if j < i then decide (x.cc j i = 0) else if i < j then decide (x.cc i j = 1) else false
def lessN (x : Col) (i : Int) : Nat → Int
  | 0 => 0
  | j + 1 => if less x i j then lessN x i j + 1 else lessN x i j
theorem lessN_range (x : Col) (i : Int) (j : Nat) : 0 ≤ lessN x i j ∧ lessN x i j ≤ j := by
  induction j with
  | zero => simp [lessN]
  | succ j ih => unfold lessN; split <;> omega
def ordL (x : Col) : Nat → List Int
  | 0 => []
  | i + 1 => ordL x i ++ [lessN x i x.p.toNat]
theorem ordL_length (x : Col) (i : Nat) : (ordL x i).length = i := by
  induction i with
  | zero => rfl
  | succ i ih => simp [ordL, ih]

theorem specOrd_l1 (x : Col) (hp : 1 ≤ x.p ∧ x.p ≤ 17) (i : Int) (hi0 : 0 ≤ i) (hi : i < x.p) (k : Nat) (hk : 18 ≤ k) : spec_OrderOf_l1 x i k 0 0 = some (lessN x i x.p.toNat) := by
  have := loopI (f := fun k j (s : Int) => spec_OrderOf_l1 x i k s j) x.p 0 (fun j s => s = lessN x i j.toNat ∧ j ≤ x.p) (fun r => r = lessN x i x.p.toNat) ?_ ?_ k 0 0 (by omega) (by omega) ⟨rfl, by omega⟩
  · obtain ⟨r, e, rfl⟩ := this; exact e
  · intro k j s h0 h1 ⟨q, _⟩
    left
    obtain ⟨j, rfl⟩ := nat_of h0
    simp only [Int.toNat_natCast] at q
    subst q
    refine ⟨lessN x i (j + 1), ?_, by rw [show ((j : Int) + 1).toNat = j + 1 by omega], by omega⟩
    show spec_OrderOf_l1 x i (k + 1) (lessN x i j) j = _
    have hr := lessN_range x i j
    rw [spec_OrderOf_l1, w64_succ h0 h1 (by omega), w64_id (show -9223372036854775808 ≤ lessN x i j + 1 ∧ lessN x i j + 1 < 9223372036854775808 by omega)]
    simp only [h1, decide_true, if_true]
    by_cases a : (j : Int) < i
    · have b : ¬ i < (j : Int) := by omega
      rw [specAt_eq x j i h0 a hi0 (by omega)]
      by_cases c : x.cc j i = 0
      · have e : less x i j = true := by simp [less, a, c]
        simp [a, c, lessN, e]
      · have e : less x i j = false := by simp [less, a, c]
        simp [a, b, c, lessN, e]
    · by_cases b : i < (j : Int)
      · rw [specAt_eq x i j hi0 b h0 (by omega)]
        by_cases c : x.cc i j = 1
        · have e : less x i j = true := by simp [less, a, b, c]
          simp [a, b, c, lessN, e]
        · have e : less x i j = false := by simp [less, a, b, c]
          simp [a, b, c, lessN, e]
      · have e : less x i j = false := by simp [less, a, b]
        simp [a, b, lessN, e]
  · intro k j s h0 h1 ⟨q, q2⟩
    have : j = x.p := by omega
    subst this
    refine ⟨_, ?_, q⟩
    show spec_OrderOf_l1 x i (k + 1) s x.p = _
    rw [spec_OrderOf_l1]; simp

theorem specOrd_l0 (x : Col) (hp : 1 ≤ x.p ∧ x.p ≤ 17) (k : Nat) (hk : 20 ≤ k) : spec_OrderOf_l0 k x k 0 [] = some (ordL x x.p.toNat) := by
  have := loopI (f := fun k' i (s : List Int) => spec_OrderOf_l0 k x k' i s) x.p 0 (fun i s => s = ordL x i.toNat ∧ i ≤ x.p) (fun r => r = ordL x x.p.toNat) ?_ ?_ k 0 [] (by omega) (by omega) ⟨rfl, by omega⟩
  · obtain ⟨r, e, rfl⟩ := this; exact e
  · intro k' i s h0 h1 ⟨q, _⟩
    left
    obtain ⟨j, rfl⟩ := nat_of h0
    simp only [Int.toNat_natCast] at q
    subst q
    refine ⟨ordL x (j + 1), ?_, by rw [show ((j : Int) + 1).toNat = j + 1 by omega], by omega⟩
    show spec_OrderOf_l0 k x (k' + 1) j (ordL x j) = _
    rw [spec_OrderOf_l0, w64_succ h0 h1 (by omega), specOrd_l1 x hp j h0 h1 k (by omega)]
    simp only [h1, decide_true, if_true, Option.bind_some, ordL_length, List.length_singleton]
    rw [if_pos (by omega)]
    rfl
  · intro k' i s h0 h1 ⟨q, q2⟩
    have : i = x.p := by omega
    subst this
    refine ⟨_, ?_, q⟩
    show spec_OrderOf_l0 k x (k' + 1) x.p s = _
    rw [spec_OrderOf_l0]; simp

theorem ordC (x : Col) (hp : x.p ≤ 17) (i j : Int) (hi0 : 0 ≤ i) (hi : i < x.p) (hj0 : 0 ≤ j) (hj : j < x.p) : impl_OrderOf_c1 j i x = some (less x i j) := by
  unfold impl_OrderOf_c1
  by_cases a : j < i
  · have b : ¬ i < j := by omega
    rw [implAt_ne x i j hi0 (by omega) hj0 (by omega) (by omega), cc_comm x i j]
    by_cases c : x.cc j i = 0 <;> simp [less, a, b, c]
  · by_cases b : i < j
    · rw [implAt_ne x i j hi0 (by omega) hj0 (by omega) (by omega)]
      by_cases c : x.cc i j = 1 <;> simp [less, a, b, c]
    · simp [less, a, b]

theorem that_len (x : Col) (hp : 1 ≤ x.p ∧ x.p ≤ 17) (i : Int) (hi0 : 0 ≤ i) (hi : i < x.p) (k : Nat) (hk : 18 ≤ k) : ∃ r, impl_Colouring_that k x (fun a0 => impl_OrderOf_c1 a0 i x) = some r ∧ (r.length : Int) = lessN x i x.p.toNat := by
  unfold impl_Colouring_that
  have := loopI (f := fun k j (s : List Int) => impl_Colouring_that_l0 x (fun a0 => impl_OrderOf_c1 a0 i x) k j s) x.p 0 (fun j s => (s.length : Int) = lessN x i j.toNat ∧ j ≤ x.p) (fun r => (r.length : Int) = lessN x i x.p.toNat) ?_ ?_ k 0 [] (by omega) (by omega) ⟨rfl, by omega⟩
  · obtain ⟨r, e, h⟩ := this
    exact ⟨r, by rw [e]; rfl, h⟩
  · intro k j s h0 h1 ⟨q, _⟩
    left
    obtain ⟨j, rfl⟩ := nat_of h0
    simp only [Int.toNat_natCast] at q
    have hr := lessN_range x i j
    show ∃ s', impl_Colouring_that_l0 x (fun a0 => impl_OrderOf_c1 a0 i x) (k + 1) j s = _ ∧ _
    rw [impl_Colouring_that_l0, w64_succ h0 h1 (by omega), ordC x hp.2 i j hi0 hi h0 h1, show ((j : Int) + 1).toNat = j + 1 by omega]
    simp only [h1, decide_true, if_true, Option.bind_some]
    by_cases c : less x i j = true
    · simp only [c, if_true]
      rw [if_pos (by simp; omega)]
      refine ⟨_, rfl, ?_, by omega⟩
      simp [lessN, c]; omega
    · simp only [c, Bool.false_eq_true, if_false]
      exact ⟨s, rfl, by simp [lessN, c]; omega, by omega⟩
  · intro k j s h0 h1 ⟨q, q2⟩
    have : j = x.p := by omega
    subst this
    refine ⟨s, ?_, q⟩
    show impl_Colouring_that_l0 x (fun a0 => impl_OrderOf_c1 a0 i x) (k + 1) x.p s = _
    rw [impl_Colouring_that_l0]; simp

theorem implOrd_l0 (x : Col) (hp : 1 ≤ x.p ∧ x.p ≤ 17) (k : Nat) (hk : 20 ≤ k) : impl_OrderOf_l0 k x k 0 [] = some (ordL x x.p.toNat) := by
  have := loopI (f := fun k' i (s : List Int) => impl_OrderOf_l0 k x k' i s) x.p 0 (fun i s => s = ordL x i.toNat ∧ i ≤ x.p) (fun r => r = ordL x x.p.toNat) ?_ ?_ k 0 [] (by omega) (by omega) ⟨rfl, by omega⟩
  · obtain ⟨r, e, rfl⟩ := this; exact e
  · intro k' i s h0 h1 ⟨q, _⟩
    left
    obtain ⟨j, rfl⟩ := nat_of h0
    simp only [Int.toNat_natCast] at q
    subst q
    refine ⟨ordL x (j + 1), ?_, by rw [show ((j : Int) + 1).toNat = j + 1 by omega], by omega⟩
    show impl_OrderOf_l0 k x (k' + 1) j (ordL x j) = _
    obtain ⟨r, e, hr⟩ := that_len x hp j h0 h1 k (by omega)
    rw [impl_OrderOf_l0, w64_succ h0 h1 (by omega), e]
    unfold impl_size
    simp only [h1, decide_true, if_true, Option.bind_some, ordL_length, List.length_singleton, hr]
    rw [if_pos (by omega)]
    rfl
  · intro k' i s h0 h1 ⟨q, q2⟩
    have : i = x.p := by omega
    subst this
    refine ⟨_, ?_, q⟩
    show impl_OrderOf_l0 k x (k' + 1) x.p s = _
    rw [impl_OrderOf_l0]; simp

theorem order_pure (x : Col) : laws_FnExactOrderOf 300 x = some true := by
  classical
  have key : ∃ (o : Option (List Int)) (e : Int), spec_OrderOf 300 x = some (o.getD [], e) ∧ impl_OrderOf 300 x = some (o, e) ∧ (o.getD []).length ≤ 17 := by
    unfold spec_OrderOf impl_OrderOf impl_Colouring_code impl_always
    rw [specIs_eq 300 (by omega), isColouring_eq 300 (by omega)]
    by_cases h : x.is
    · have hp := h.1
      rw [spec_l10Closed_eq 300 (by omega) x hp.2, spec_l10Closed_eq 300 (by omega) x hp.2, impl_Colouring_isClosedColour_eq 300 (by omega) x hp.2, impl_Colouring_isClosedColour_eq 300 (by omega) x hp.2, specOrd_l0 x hp 300 (by omega), implOrd_l0 x hp 300 (by omega)]
      by_cases a : x.k = 2
      · by_cases b : closed x 0
        · by_cases c : closed x 1
          · exact ⟨some (ordL x x.p.toNat), 0, by simp [h, a, b, c], by simp [h, a, b, c], by simp [ordL_length]; omega⟩
          · exact ⟨none, 5, by simp [h, a, b, c], by simp [h, a, b, c], by simp⟩
        · exact ⟨none, 5, by simp [h, a, b], by simp [h, a, b], by simp⟩
      · exact ⟨none, 5, by simp [h, a], by simp [h, a], by simp⟩
    · exact ⟨none, 1, by simp [h], by simp [h], by simp⟩
  obtain ⟨o, e, h1, h2, h3⟩ := key
  unfold laws_FnExactOrderOf
  rw [toColouring_eq 300 (by omega)]
  simp only [Option.bind_some]
  rw [h1]
  simp only [Option.bind_some]
  rw [h2]
  simp only [Option.bind_some]
  cases o with
  | none =>
    simp only [Option.getD_none]
    rw [eqInts_refl 300 [] (by simp) (by simp), mark_nil 300 (by omega), held_nil 300 (by omega)]
    simp
  | some l =>
    simp only [Option.getD_some] at h3 ⊢
    rw [eqInts_refl 300 l (by omega) (by omega), mark_eq 300 l (by omega) (by omega)]
    simp only [Option.bind_some]
    rw [held_eq 300 l.length (by omega) (by omega)]
    have : ¬ (1 + (l.length : Int) < 0) := by omega
    simp [this]
end Go.Proofs.Ytjkanhdklfgghaa
