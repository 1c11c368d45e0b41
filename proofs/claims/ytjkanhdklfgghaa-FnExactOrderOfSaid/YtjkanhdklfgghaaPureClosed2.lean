/- Closed colours, in the program and in the reference, as the later printer shows them. No conditions beyond those that each lemma states. -/
import Derived.Test.YtjkanhdklfgghaaPureBase
import Derived.Test.YtjkanhdklfgghaaGen4
set_option linter.unusedVariables false
set_option linter.unusedSimpArgs false
namespace Go.Proofs.Ytjkanhdklfgghaa
open Go Go.RowKit Ab

/-! ### Closed colours -/
def bad (x : Col) (c w t y : Int) : Prop := x.cc w t = c ∧ x.cc t y = c ∧ ¬ x.cc w y = c
def closed (x : Col) (c : Int) : Prop := ∀ y t w : Int, y < x.p → t < y → w < t → 0 ≤ w → ¬ bad x c w t y

open Classical in
theorem spec_l10Closed_l2_eq (k : Nat) (x : Col) (hx : x.p ≤ 17) (c y t : Int) (hy : y < x.p) (ht : t < y) (ht0 : 0 ≤ t) : ∀ k', 18 ≤ k' → spec_l10Closed_l2 x c y t k' 0 = some (if ∀ w, 0 ≤ w → w < t → ¬ bad x c w t y then .inl () else .inr (.inr (.inr false))) := by
  intro k' h
  refine loopAll (f := fun k' i => spec_l10Closed_l2 x c y t k' i) t (.inr (.inr false)) (fun w => ¬ bad x c w t y) 0 ?_ ?_ ?_ k' 0 (by omega) (by omega)
  · intro k' w h0 h1 hq
    show spec_l10Closed_l2 x c y t (k' + 1) w = _
    rw [spec_l10Closed_l2, w64_succ h0 h1 (by omega), specAt_eq x w t h0 (by omega) ht0 (by omega), specAt_eq x t y ht0 (by omega) (by omega) (by omega), specAt_eq x w y h0 (by omega) (by omega) (by omega)]
    unfold bad at hq
    by_cases a : x.cc w t = c <;> by_cases b : x.cc t y = c <;> by_cases d : x.cc w y = c <;> simp_all
  · intro k' w h0 h1 hq
    show spec_l10Closed_l2 x c y t (k' + 1) w = _
    rw [spec_l10Closed_l2, specAt_eq x w t h0 (by omega) ht0 (by omega), specAt_eq x t y ht0 (by omega) (by omega) (by omega), specAt_eq x w y h0 (by omega) (by omega) (by omega)]
    unfold bad at hq
    have hq' := Classical.not_not.1 hq
    simp [hq', h1]
  · intro k' w h1
    show spec_l10Closed_l2 x c y t (k' + 1) w = _
    rw [spec_l10Closed_l2]
    have : ¬ w < t := by omega
    simp [this]

open Classical in
theorem spec_l10Closed_l1_eq (k : Nat) (hk : 18 ≤ k) (x : Col) (hx : x.p ≤ 17) (c y : Int) (hy : y < x.p) : ∀ k', 18 ≤ k' → spec_l10Closed_l1 k x c y k' 1 = some (if ∀ t, 1 ≤ t → t < y → ∀ w, 0 ≤ w → w < t → ¬ bad x c w t y then .inl () else .inr (.inr false)) := by
  intro k' h
  refine loopAll (f := fun k' i => spec_l10Closed_l1 k x c y k' i) y (.inr false) (fun t => ∀ w, 0 ≤ w → w < t → ¬ bad x c w t y) 1 ?_ ?_ ?_ k' 1 (by omega) (by omega)
  · intro k' t h0 h1 hq
    show spec_l10Closed_l1 k x c y (k' + 1) t = _
    rw [spec_l10Closed_l1, w64_succ (by omega) h1 (by omega), spec_l10Closed_l2_eq k x hx c y t hy h1 (by omega) k hk, if_pos hq]
    simp [h1]
  · intro k' t h0 h1 hq
    show spec_l10Closed_l1 k x c y (k' + 1) t = _
    rw [spec_l10Closed_l1, spec_l10Closed_l2_eq k x hx c y t hy h1 (by omega) k hk, if_neg hq]
    simp [h1]
  · intro k' t h1
    show spec_l10Closed_l1 k x c y (k' + 1) t = _
    rw [spec_l10Closed_l1]
    have : ¬ t < y := by omega
    simp [this]

open Classical in
theorem spec_l10Closed_eq (k : Nat) (hk : 20 ≤ k) (x : Col) (hx : x.p ≤ 17) (c : Int) : spec_l10Closed k x c = some (decide (closed x c)) := by
  unfold spec_l10Closed
  have := loopAll (f := fun k' i => spec_l10Closed_l0 k x c k' i) x.p false (fun y => ∀ t, 1 ≤ t → t < y → ∀ w, 0 ≤ w → w < t → ¬ bad x c w t y) 2 ?_ ?_ ?_ k 2 (by omega) (by omega)
  · rw [this]
    have e : (∀ y, 2 ≤ y → y < x.p → ∀ t, 1 ≤ t → t < y → ∀ w, 0 ≤ w → w < t → ¬ bad x c w t y) ↔ closed x c := by
      unfold closed
      constructor
      · intro h y t w h1 h2 h3 h4
        exact h y (by omega) h1 t (by omega) h2 w h4 h3
      · intro h y _ h1 t _ h2 w h4 h3
        exact h y t w h1 h2 h3 h4
    by_cases hc : closed x c
    · rw [if_pos (e.2 hc)]; simp [hc]
    · rw [if_neg (fun h => hc (e.1 h))]; simp [hc]
  · intro k' y h0 h1 hq
    show spec_l10Closed_l0 k x c (k' + 1) y = _
    rw [spec_l10Closed_l0, w64_succ (by omega) h1 (by omega), spec_l10Closed_l1_eq k (by omega) x hx c y h1 k (by omega), if_pos hq]
    simp [h1]
  · intro k' y h0 h1 hq
    show spec_l10Closed_l0 k x c (k' + 1) y = _
    rw [spec_l10Closed_l0, spec_l10Closed_l1_eq k (by omega) x hx c y h1 k (by omega), if_neg hq]
    simp [h1]
  · intro k' y h1
    show spec_l10Closed_l0 k x c (k' + 1) y = _
    rw [spec_l10Closed_l0]
    have : ¬ y < x.p := by omega
    simp [this]

open Classical in
theorem impl_Colouring_isClosedColour_l2_eq (k : Nat) (x : Col) (hx : x.p ≤ 17) (c y t : Int) (hy : y < x.p) (ht : t < y) (ht0 : 0 ≤ t) : ∀ k', 18 ≤ k' → impl_Colouring_isClosedColour_l2 x c y t k' 0 = some (if ∀ w, 0 ≤ w → w < t → ¬ bad x c w t y then .inl () else .inr (.inr (.inr false))) := by
  intro k' h
  refine loopAll (f := fun k' i => impl_Colouring_isClosedColour_l2 x c y t k' i) t (.inr (.inr false)) (fun w => ¬ bad x c w t y) 0 ?_ ?_ ?_ k' 0 (by omega) (by omega)
  · intro k' w h0 h1 hq
    show impl_Colouring_isClosedColour_l2 x c y t (k' + 1) w = _
    rw [impl_Colouring_isClosedColour_l2, w64_succ h0 h1 (by omega), implAt_eq x w t h0 (by omega) ht0 (by omega), implAt_eq x t y ht0 (by omega) (by omega) (by omega), implAt_eq x w y h0 (by omega) (by omega) (by omega)]
    unfold bad at hq
    by_cases a : x.cc w t = c <;> by_cases b : x.cc t y = c <;> by_cases d : x.cc w y = c <;> simp_all
  · intro k' w h0 h1 hq
    show impl_Colouring_isClosedColour_l2 x c y t (k' + 1) w = _
    rw [impl_Colouring_isClosedColour_l2, implAt_eq x w t h0 (by omega) ht0 (by omega), implAt_eq x t y ht0 (by omega) (by omega) (by omega), implAt_eq x w y h0 (by omega) (by omega) (by omega)]
    unfold bad at hq
    have hq' := Classical.not_not.1 hq
    simp [hq', h1]
  · intro k' w h1
    show impl_Colouring_isClosedColour_l2 x c y t (k' + 1) w = _
    rw [impl_Colouring_isClosedColour_l2]
    have : ¬ w < t := by omega
    simp [this]

open Classical in
theorem impl_Colouring_isClosedColour_l1_eq (k : Nat) (hk : 18 ≤ k) (x : Col) (hx : x.p ≤ 17) (c y : Int) (hy : y < x.p) : ∀ k', 18 ≤ k' → impl_Colouring_isClosedColour_l1 k x c y k' 0 = some (if ∀ t, 0 ≤ t → t < y → ∀ w, 0 ≤ w → w < t → ¬ bad x c w t y then .inl () else .inr (.inr false)) := by
  intro k' h
  refine loopAll (f := fun k' i => impl_Colouring_isClosedColour_l1 k x c y k' i) y (.inr false) (fun t => ∀ w, 0 ≤ w → w < t → ¬ bad x c w t y) 0 ?_ ?_ ?_ k' 0 (by omega) (by omega)
  · intro k' t h0 h1 hq
    show impl_Colouring_isClosedColour_l1 k x c y (k' + 1) t = _
    rw [impl_Colouring_isClosedColour_l1, w64_succ (by omega) h1 (by omega), impl_Colouring_isClosedColour_l2_eq k x hx c y t hy h1 (by omega) k hk, if_pos hq]
    simp [h1]
  · intro k' t h0 h1 hq
    show impl_Colouring_isClosedColour_l1 k x c y (k' + 1) t = _
    rw [impl_Colouring_isClosedColour_l1, impl_Colouring_isClosedColour_l2_eq k x hx c y t hy h1 (by omega) k hk, if_neg hq]
    simp [h1]
  · intro k' t h1
    show impl_Colouring_isClosedColour_l1 k x c y (k' + 1) t = _
    rw [impl_Colouring_isClosedColour_l1]
    have : ¬ t < y := by omega
    simp [this]

open Classical in
theorem impl_Colouring_isClosedColour_eq (k : Nat) (hk : 20 ≤ k) (x : Col) (hx : x.p ≤ 17) (c : Int) : impl_Colouring_isClosedColour k x c = some (decide (closed x c)) := by
  unfold impl_Colouring_isClosedColour
  have := loopAll (f := fun k' i => impl_Colouring_isClosedColour_l0 k x c k' i) x.p false (fun y => ∀ t, 0 ≤ t → t < y → ∀ w, 0 ≤ w → w < t → ¬ bad x c w t y) 0 ?_ ?_ ?_ k 0 (by omega) (by omega)
  · rw [this]
    have e : (∀ y, 0 ≤ y → y < x.p → ∀ t, 0 ≤ t → t < y → ∀ w, 0 ≤ w → w < t → ¬ bad x c w t y) ↔ closed x c := by
      unfold closed
      constructor
      · intro h y t w h1 h2 h3 h4
        exact h y (by omega) h1 t (by omega) h2 w h4 h3
      · intro h y _ h1 t _ h2 w h4 h3
        exact h y t w h1 h2 h3 h4
    by_cases hc : closed x c
    · rw [if_pos (e.2 hc)]; simp [hc]
    · rw [if_neg (fun h => hc (e.1 h))]; simp [hc]
  · intro k' y h0 h1 hq
    show impl_Colouring_isClosedColour_l0 k x c (k' + 1) y = _
    rw [impl_Colouring_isClosedColour_l0, w64_succ (by omega) h1 (by omega), impl_Colouring_isClosedColour_l1_eq k (by omega) x hx c y h1 k (by omega), if_pos hq]
    simp [h1]
  · intro k' y h0 h1 hq
    show impl_Colouring_isClosedColour_l0 k x c (k' + 1) y = _
    rw [impl_Colouring_isClosedColour_l0, impl_Colouring_isClosedColour_l1_eq k (by omega) x hx c y h1 k (by omega), if_neg hq]
    simp [h1]
  · intro k' y h1
    show impl_Colouring_isClosedColour_l0 k x c (k' + 1) y = _
    rw [impl_Colouring_isClosedColour_l0]
    have : ¬ y < x.p := by omega
    simp [this]

end Go.Proofs.Ytjkanhdklfgghaa
