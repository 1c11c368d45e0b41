/- The plain law of FnExactIsClosedColour: the program's answer is the reference's. No conditions beyond those that each lemma states. -/
import Derived.Test.YtgebhhhdckpciaaPKit
import Derived.Test.YtgebhhhdckpciaaG1
set_option linter.unusedVariables false
set_option linter.unusedSimpArgs false
namespace Go.Proofs.Ytgebhhhdckpciaa
open Go Go.RowKit Ab

/-! ### Copies -/
theorem toByteA136_eq (k : Nat) (h : 137 ≤ k) (x : B136) : laws_toByteA136 k x = some x := by
  unfold laws_toByteA136
  obtain ⟨s', e, hs⟩ := loopFold (f := fun k i s => laws_toByteA136_l0 x k i s) 136 (fun i s => s.set i.toNat (x.get i.toNat)) (fun s => s) 0
    (fun k i s h0 h1 => by
      show laws_toByteA136_l0 x (k + 1) i s = _
      rw [laws_toByteA136_l0, w64_succ h0 h1 (by omega)]
      simp [h0, h1])
    (fun k i s h => by
      show laws_toByteA136_l0 x (k + 1) i s = _
      rw [laws_toByteA136_l0]
      have : ¬ i < 136 := by omega
      simp [this])
    (fun i s => ∀ j : Nat, (j : Int) < i → s.get j = x.get j)
    (fun i s h0 h1 hs j hj => by
      rw [B136.get_set _ _ _ _ (by omega)]
      split
      · next h => rw [h]
      · next h => exact hs j (by omega)) k 0 B136.zero (by omega) (by omega) (by omega) (fun j hj => by omega)
  rw [e]
  have : s' = x := B136.ext_get (fun i hi => hs i (by omega))
  rw [this]; rfl
theorem toColouring_eq (k : Nat) (h : 137 ≤ k) (x : Col) : laws_toColouring k x = some x := by
  unfold laws_toColouring
  rw [toByteA136_eq k h]; rfl

theorem in_eq (a b c : Int) : impl_in a b c = decide (b ≤ a ∧ a ≤ c) := by
  unfold impl_in letO
  by_cases h : b ≤ a <;> by_cases h' : a ≤ c <;> simp [h, h']
theorem specIn_eq (a b c : Int) : spec_l01In a b c = decide (b ≤ a ∧ a ≤ c) := by
  unfold spec_l01In letO
  by_cases h : b ≤ a <;> by_cases h' : a ≤ c <;> simp [h, h']

/-! ### What a colouring is -/
def tE (x : Col) : Int := w64 ((w64 (x.p * (w64 (x.p - 1)))).tdiv 2)
def okE (x : Col) (j : Int) : Prop := (j < tE x → ((x.get j.toNat).toNat : Int) < x.k) ∧ (tE x ≤ j → ((x.get j.toNat).toNat : Int) = 0)
/-- Numbers in range, colours in range on the edges, zero behind them. -/
def Col.is (x : Col) : Prop := (1 ≤ x.p ∧ x.p ≤ 17) ∧ (1 ≤ x.k ∧ x.k ≤ 4) ∧ ∀ j, 0 ≤ j → j < 136 → okE x j

open Classical in
theorem specIs_eq (k : Nat) (h : 137 ≤ k) (x : Col) : spec_l01Is k x = some (decide x.is) := by
  unfold spec_l01Is
  rw [specIn_eq, specIn_eq]
  by_cases hp : 1 ≤ x.p ∧ x.p ≤ 17
  · by_cases hk : 1 ≤ x.k ∧ x.k ≤ 4
    · have := loopAll (f := fun k' i => spec_l01Is_l0 k x k' i) 136 false (okE x) 0
        (fun k' i h0 h1 hq => by
          show spec_l01Is_l0 k x (k' + 1) i = _
          rw [spec_l01Is_l0, w64_succ h0 h1 (by omega)]
          obtain ⟨q1, q2⟩ := hq
          change (i < tE x → _) at q1
          by_cases hc : i < tE x
          · have e1 := q1 hc
            have e2 : ¬ tE x ≤ i := by omega
            have e3 : ¬ x.k ≤ ((x.get i.toNat).toNat : Int) := by omega
            unfold tE at hc e2
            simp [h0, h1, hc, e2, e3]
          · have e1 := q2 (by omega)
            have e2 : tE x ≤ i := by omega
            unfold tE at hc e2
            simp [h0, h1, hc, e2, e1])
        (fun k' i h0 h1 hq => by
          show spec_l01Is_l0 k x (k' + 1) i = _
          rw [spec_l01Is_l0]
          by_cases hc : i < tE x
          · have e2 : ¬ tE x ≤ i := by omega
            have e3 : x.k ≤ ((x.get i.toNat).toNat : Int) := by
              apply Int.not_lt.1
              intro e; exact hq ⟨fun _ => e, fun h => (e2 h).elim⟩
            unfold tE at hc e2
            simp [h0, h1, hc, e2, e3]
          · have e2 : tE x ≤ i := by omega
            have e3 : ¬ ((x.get i.toNat).toNat : Int) = 0 := by
              intro e; exact hq ⟨fun h => (hc h).elim, fun _ => e⟩
            unfold tE at hc e2
            have e5 : ¬ (x.get i.toNat).toNat = 0 := by omega
            simp [h0, h1, hc, e2, e5])
        (fun k' i h1 => by
          show spec_l01Is_l0 k x (k' + 1) i = _
          rw [spec_l01Is_l0]
          have : ¬ i < 136 := by omega
          simp [this]) k 0 (by omega) (by omega)
      simp only [hp, hk, decide_true, Bool.not_true, Bool.false_eq_true, if_false, letO, and_self]
      rw [this]
      by_cases ha : ∀ j, 0 ≤ j → j < 136 → okE x j
      · have : x.is := ⟨hp, hk, ha⟩
        rw [if_pos ha]; simp [this]
      · have : ¬ x.is := fun h => ha h.2.2
        simp only [if_neg ha, this]
        simp
    · have : ¬ x.is := fun h => hk h.2.1
      simp [hp, hk, letO, this]
  · have : ¬ x.is := fun h => hp h.1
    simp [hp, letO, this]

open Classical in
theorem isColouring_eq (k : Nat) (h : 137 ≤ k) (x : Col) : impl_Colouring_isColouring k x = some (decide x.is) := by
  unfold impl_Colouring_isColouring
  rw [in_eq, in_eq]
  by_cases hp : 1 ≤ x.p ∧ x.p ≤ 17
  · by_cases hk : 1 ≤ x.k ∧ x.k ≤ 4
    · have := loopAll (f := fun k' i => impl_Colouring_isColouring_l0 k x k' i) 136 false (okE x) 0
        (fun k' i h0 h1 hq => by
          show impl_Colouring_isColouring_l0 k x (k' + 1) i = _
          rw [impl_Colouring_isColouring_l0, w64_succ h0 h1 (by omega)]
          obtain ⟨q1, q2⟩ := hq
          change (i < tE x → ((x.e.get i.toNat).toNat : Int) < x.k) at q1
          change (tE x ≤ i → ((x.e.get i.toNat).toNat : Int) = 0) at q2
          change (if _ then _ else _) = _
          have hE : impl_Colouring_edges x = tE x := rfl
          by_cases hc : i < tE x
          · have e1 := q1 hc
            have e2 : ¬ tE x ≤ i := by omega
            have e3 : ¬ x.k ≤ ((x.e.get i.toNat).toNat : Int) := by omega
            simp [h0, h1, hc, e2, e3, hE, letO]
          · have e1 := q2 (by omega)
            have e2 : tE x ≤ i := by omega
            have e3 : ¬ x.k ≤ ((x.e.get i.toNat).toNat : Int) := by omega
            rw [e1] at e3
            simp [h0, h1, hc, e2, e1, e3, hE, letO])
        (fun k' i h0 h1 hq => by
          show impl_Colouring_isColouring_l0 k x (k' + 1) i = _
          rw [impl_Colouring_isColouring_l0]
          have hE : impl_Colouring_edges x = tE x := rfl
          by_cases e3 : x.k ≤ ((x.e.get i.toNat).toNat : Int)
          · simp [h0, h1, e3, letO]
          · have e2 : tE x ≤ i := by
              apply Int.not_lt.1
              intro hc; exact hq ⟨fun _ => by change ((x.e.get i.toNat).toNat : Int) < x.k; omega, fun h => by omega⟩
            have e4 : ¬ ((x.e.get i.toNat).toNat : Int) = 0 := by
              intro e; exact hq ⟨fun h => by omega, fun _ => e⟩
            have e5 : ¬ (x.e.get i.toNat).toNat = 0 := by omega
            simp [h0, h1, e2, e3, e5, hE, letO])
        (fun k' i h1 => by
          show impl_Colouring_isColouring_l0 k x (k' + 1) i = _
          rw [impl_Colouring_isColouring_l0]
          have : ¬ i < 136 := by omega
          simp [this]) k 0 (by omega) (by omega)
      simp only [hp, hk, decide_true, Bool.not_true, Bool.false_eq_true, if_false, letO, and_self]
      rw [this]
      by_cases ha : ∀ j, 0 ≤ j → j < 136 → okE x j
      · have : x.is := ⟨hp, hk, ha⟩
        rw [if_pos ha]; simp [this]
      · have : ¬ x.is := fun h => ha h.2.2
        simp only [if_neg ha, this]
        simp
    · have : ¬ x.is := fun h => hk h.2.1
      simp [hp, hk, letO, this]
  · have : ¬ x.is := fun h => hp h.1
    simp [hp, letO, this]

/-! ### The colour between two points -/
theorem number_eq (i j : Int) (hi : 0 ≤ i ∧ i < 17) (hj : 0 ≤ j ∧ j < 17) : impl_number i j = (eN i.toNat j.toNat : Int) := by
  have : ∀ i, i < 17 → ∀ j, j < 17 → impl_number (i : Nat) (j : Nat) = (eN i j : Int) := by decide +kernel
  have h := this i.toNat (by omega) j.toNat (by omega)
  rwa [Int.toNat_of_nonneg hi.1, Int.toNat_of_nonneg hj.1] at h
theorem edge_eq (i j : Int) (hi : 0 ≤ i ∧ i < 17) (hj : 0 ≤ j ∧ j < 17) : spec_l01Edge i j = (eN i.toNat j.toNat : Int) := by
  have : ∀ i, i < 17 → ∀ j, j < 17 → spec_l01Edge (i : Nat) (j : Nat) = (eN i j : Int) := by decide +kernel
  have h := this i.toNat (by omega) j.toNat (by omega)
  rwa [Int.toNat_of_nonneg hi.1, Int.toNat_of_nonneg hj.1] at h
def Col.cc (x : Col) (i j : Int) : Int := ((x.e.get (eN i.toNat j.toNat)).toNat : Int)
theorem specAt_eq (x : Col) (i j : Int) (h0 : 0 ≤ i) (h : i < j) (hj : 0 ≤ j) (hj' : j < 17) : spec_l01At x i j = some (x.cc i j) := by
  unfold spec_l01At
  rw [edge_eq i j (by omega) (by omega)]
  have := eN_136 (i := i.toNat) (j := j.toNat) (by omega) (by omega) (by omega)
  rw [if_pos (by omega)]
  rfl
theorem implAt_eq (x : Col) (i j : Int) (h0 : 0 ≤ i) (h : i < j) (hj : 0 ≤ j) (hj' : j < 17) : impl_Colouring_at x i j = some (x.cc i j) := by
  unfold impl_Colouring_at
  rw [number_eq i j (by omega) (by omega)]
  have := eN_136 (i := i.toNat) (j := j.toNat) (by omega) (by omega) (by omega)
  rw [if_pos (by omega)]
  rfl

/-! ### Closed colours -/
def bad (x : Col) (c w t y : Int) : Prop := x.cc w t = c ∧ x.cc t y = c ∧ ¬ x.cc w y = c
def closed (x : Col) (c : Int) : Prop := ∀ y t w : Int, y < x.p → t < y → w < t → 0 ≤ w → ¬ bad x c w t y

open Classical in
theorem spec_l10Closed_l2_eq (k : Nat) (x : Col) (hx : x.p ≤ 17) (c y t : Int) (hy : y < x.p) (ht : t < y) (ht0 : 0 ≤ t) : ∀ k', 18 ≤ k' → spec_l10Closed_l2 x c y t k' 0 = some (if ∀ w, 0 ≤ w → w < t → ¬ bad x c w t y then .inl () else .inr false) := by
  intro k' h
  refine loopAll (f := fun k' i => spec_l10Closed_l2 x c y t k' i) t false (fun w => ¬ bad x c w t y) 0 ?_ ?_ ?_ k' 0 (by omega) (by omega)
  · intro k' w h0 h1 hq
    show spec_l10Closed_l2 x c y t (k' + 1) w = _
    rw [spec_l10Closed_l2, w64_succ h0 h1 (by omega), specAt_eq x w t h0 (by omega) ht0 (by omega), specAt_eq x t y ht0 (by omega) (by omega) (by omega), specAt_eq x w y h0 (by omega) (by omega) (by omega)]
    unfold bad at hq
    by_cases a : x.cc w t = c <;> by_cases b : x.cc t y = c <;> by_cases d : x.cc w y = c <;> simp_all
  · intro k' w h0 h1 hq
    show spec_l10Closed_l2 x c y t (k' + 1) w = _
    rw [spec_l10Closed_l2, specAt_eq x w t h0 (by omega) ht0 (by omega), specAt_eq x t y ht0 (by omega) (by omega) (by omega), specAt_eq x w y h0 (by omega) (by omega) (by omega)]
    unfold bad at hq
    have hq' := Classical.not_not.1 hq
    simp [hq', h1]
  · intro k' w h1
    show spec_l10Closed_l2 x c y t (k' + 1) w = _
    rw [spec_l10Closed_l2]
    have : ¬ w < t := by omega
    simp [this]

open Classical in
theorem spec_l10Closed_l1_eq (k : Nat) (hk : 18 ≤ k) (x : Col) (hx : x.p ≤ 17) (c y : Int) (hy : y < x.p) : ∀ k', 18 ≤ k' → spec_l10Closed_l1 k x c y k' 1 = some (if ∀ t, 1 ≤ t → t < y → ∀ w, 0 ≤ w → w < t → ¬ bad x c w t y then .inl () else .inr false) := by
  intro k' h
  refine loopAll (f := fun k' i => spec_l10Closed_l1 k x c y k' i) y false (fun t => ∀ w, 0 ≤ w → w < t → ¬ bad x c w t y) 1 ?_ ?_ ?_ k' 1 (by omega) (by omega)
  · intro k' t h0 h1 hq
    show spec_l10Closed_l1 k x c y (k' + 1) t = _
    rw [spec_l10Closed_l1, w64_succ (by omega) h1 (by omega), spec_l10Closed_l2_eq k x hx c y t hy h1 (by omega) k hk, if_pos hq]
    simp [h1]
  · intro k' t h0 h1 hq
    show spec_l10Closed_l1 k x c y (k' + 1) t = _
    rw [spec_l10Closed_l1, spec_l10Closed_l2_eq k x hx c y t hy h1 (by omega) k hk, if_neg hq]
    simp [h1]
  · intro k' t h1
    show spec_l10Closed_l1 k x c y (k' + 1) t = _
    rw [spec_l10Closed_l1]
    have : ¬ t < y := by omega
    simp [this]

open Classical in
theorem spec_l10Closed_eq (k : Nat) (hk : 20 ≤ k) (x : Col) (hx : x.p ≤ 17) (c : Int) : spec_l10Closed k x c = some (decide (closed x c)) := by
  unfold spec_l10Closed
  have := loopAll (f := fun k' i => spec_l10Closed_l0 k x c k' i) x.p false (fun y => ∀ t, 1 ≤ t → t < y → ∀ w, 0 ≤ w → w < t → ¬ bad x c w t y) 2 ?_ ?_ ?_ k 2 (by omega) (by omega)
  · rw [this]
    have e : (∀ y, 2 ≤ y → y < x.p → ∀ t, 1 ≤ t → t < y → ∀ w, 0 ≤ w → w < t → ¬ bad x c w t y) ↔ closed x c := by
      unfold closed
      constructor
      · intro h y t w h1 h2 h3 h4
        exact h y (by omega) h1 t (by omega) h2 w h4 h3
      · intro h y _ h1 t _ h2 w h4 h3
        exact h y t w h1 h2 h3 h4
    by_cases hc : closed x c
    · rw [if_pos (e.2 hc)]; simp [hc]
    · rw [if_neg (fun h => hc (e.1 h))]; simp [hc]
  · intro k' y h0 h1 hq
    show spec_l10Closed_l0 k x c (k' + 1) y = _
    rw [spec_l10Closed_l0, w64_succ (by omega) h1 (by omega), spec_l10Closed_l1_eq k (by omega) x hx c y h1 k (by omega), if_pos hq]
    simp [h1]
  · intro k' y h0 h1 hq
    show spec_l10Closed_l0 k x c (k' + 1) y = _
    rw [spec_l10Closed_l0, spec_l10Closed_l1_eq k (by omega) x hx c y h1 k (by omega), if_neg hq]
    simp [h1]
  · intro k' y h1
    show spec_l10Closed_l0 k x c (k' + 1) y = _
    rw [spec_l10Closed_l0]
    have : ¬ y < x.p := by omega
    simp [this]

open Classical in
theorem impl_Colouring_isClosedColour_l2_eq (k : Nat) (x : Col) (hx : x.p ≤ 17) (c y t : Int) (hy : y < x.p) (ht : t < y) (ht0 : 0 ≤ t) : ∀ k', 18 ≤ k' → impl_Colouring_isClosedColour_l2 x c y t k' 0 = some (if ∀ w, 0 ≤ w → w < t → ¬ bad x c w t y then .inl () else .inr false) := by
  intro k' h
  refine loopAll (f := fun k' i => impl_Colouring_isClosedColour_l2 x c y t k' i) t false (fun w => ¬ bad x c w t y) 0 ?_ ?_ ?_ k' 0 (by omega) (by omega)
  · intro k' w h0 h1 hq
    show impl_Colouring_isClosedColour_l2 x c y t (k' + 1) w = _
    rw [impl_Colouring_isClosedColour_l2, w64_succ h0 h1 (by omega), implAt_eq x w t h0 (by omega) ht0 (by omega), implAt_eq x t y ht0 (by omega) (by omega) (by omega), implAt_eq x w y h0 (by omega) (by omega) (by omega)]
    unfold bad at hq
    by_cases a : x.cc w t = c <;> by_cases b : x.cc t y = c <;> by_cases d : x.cc w y = c <;> simp_all
  · intro k' w h0 h1 hq
    show impl_Colouring_isClosedColour_l2 x c y t (k' + 1) w = _
    rw [impl_Colouring_isClosedColour_l2, implAt_eq x w t h0 (by omega) ht0 (by omega), implAt_eq x t y ht0 (by omega) (by omega) (by omega), implAt_eq x w y h0 (by omega) (by omega) (by omega)]
    unfold bad at hq
    have hq' := Classical.not_not.1 hq
    simp [hq', h1]
  · intro k' w h1
    show impl_Colouring_isClosedColour_l2 x c y t (k' + 1) w = _
    rw [impl_Colouring_isClosedColour_l2]
    have : ¬ w < t := by omega
    simp [this]

open Classical in
theorem impl_Colouring_isClosedColour_l1_eq (k : Nat) (hk : 18 ≤ k) (x : Col) (hx : x.p ≤ 17) (c y : Int) (hy : y < x.p) : ∀ k', 18 ≤ k' → impl_Colouring_isClosedColour_l1 k x c y k' 0 = some (if ∀ t, 0 ≤ t → t < y → ∀ w, 0 ≤ w → w < t → ¬ bad x c w t y then .inl () else .inr false) := by
  intro k' h
  refine loopAll (f := fun k' i => impl_Colouring_isClosedColour_l1 k x c y k' i) y false (fun t => ∀ w, 0 ≤ w → w < t → ¬ bad x c w t y) 0 ?_ ?_ ?_ k' 0 (by omega) (by omega)
  · intro k' t h0 h1 hq
    show impl_Colouring_isClosedColour_l1 k x c y (k' + 1) t = _
    rw [impl_Colouring_isClosedColour_l1, w64_succ (by omega) h1 (by omega), impl_Colouring_isClosedColour_l2_eq k x hx c y t hy h1 (by omega) k hk, if_pos hq]
    simp [h1]
  · intro k' t h0 h1 hq
    show impl_Colouring_isClosedColour_l1 k x c y (k' + 1) t = _
    rw [impl_Colouring_isClosedColour_l1, impl_Colouring_isClosedColour_l2_eq k x hx c y t hy h1 (by omega) k hk, if_neg hq]
    simp [h1]
  · intro k' t h1
    show impl_Colouring_isClosedColour_l1 k x c y (k' + 1) t = _
    rw [impl_Colouring_isClosedColour_l1]
    have : ¬ t < y := by omega
    simp [this]

open Classical in
theorem impl_Colouring_isClosedColour_eq (k : Nat) (hk : 20 ≤ k) (x : Col) (hx : x.p ≤ 17) (c : Int) : impl_Colouring_isClosedColour k x c = some (decide (closed x c)) := by
  unfold impl_Colouring_isClosedColour
  have := loopAll (f := fun k' i => impl_Colouring_isClosedColour_l0 k x c k' i) x.p false (fun y => ∀ t, 0 ≤ t → t < y → ∀ w, 0 ≤ w → w < t → ¬ bad x c w t y) 0 ?_ ?_ ?_ k 0 (by omega) (by omega)
  · rw [this]
    have e : (∀ y, 0 ≤ y → y < x.p → ∀ t, 0 ≤ t → t < y → ∀ w, 0 ≤ w → w < t → ¬ bad x c w t y) ↔ closed x c := by
      unfold closed
      constructor
      · intro h y t w h1 h2 h3 h4
        exact h y (by omega) h1 t (by omega) h2 w h4 h3
      · intro h y _ h1 t _ h2 w h4 h3
        exact h y t w h1 h2 h3 h4
    by_cases hc : closed x c
    · rw [if_pos (e.2 hc)]; simp [hc]
    · rw [if_neg (fun h => hc (e.1 h))]; simp [hc]
  · intro k' y h0 h1 hq
    show impl_Colouring_isClosedColour_l0 k x c (k' + 1) y = _
    rw [impl_Colouring_isClosedColour_l0, w64_succ (by omega) h1 (by omega), impl_Colouring_isClosedColour_l1_eq k (by omega) x hx c y h1 k (by omega), if_pos hq]
    simp [h1]
  · intro k' y h0 h1 hq
    show impl_Colouring_isClosedColour_l0 k x c (k' + 1) y = _
    rw [impl_Colouring_isClosedColour_l0, impl_Colouring_isClosedColour_l1_eq k (by omega) x hx c y h1 k (by omega), if_neg hq]
    simp [h1]
  · intro k' y h1
    show impl_Colouring_isClosedColour_l0 k x c (k' + 1) y = _
    rw [impl_Colouring_isClosedColour_l0]
    have : ¬ y < x.p := by omega
    simp [this]

theorem all_nil (k : Nat) (hk : 1 ≤ k) (p : Int) : spec_l01All k [] p = some true := by
  unfold spec_l01All
  obtain ⟨k, rfl⟩ : ∃ k', k = k' + 1 := ⟨k - 1, by omega⟩
  rw [spec_l01All_l0]
  simp

theorem closed_pure (x : Col) (c : Int) : laws_FnExactIsClosedColour 200 x c = some true := by
  classical
  unfold laws_FnExactIsClosedColour
  rw [toColouring_eq 200 (by omega)]
  have key : spec_IsClosedColour 200 x c = impl_IsClosedColour 200 x c ∧ ∃ r, spec_IsClosedColour 200 x c = some r := by
    unfold spec_IsClosedColour impl_IsClosedColour spec_l01Given impl_Colouring_colourCode impl_Colouring_code
    rw [specIs_eq 200 (by omega), isColouring_eq 200 (by omega), all_nil 200 (by omega), specIn_eq]
    unfold impl_Colouring_colourCode_c1 impl_Colouring_hasColour
    rw [in_eq]
    by_cases h : x.is
    · rw [spec_l10Closed_eq 200 (by omega) x h.1.2, impl_Colouring_isClosedColour_eq 200 (by omega) x h.1.2]
      by_cases hc : 0 ≤ c ∧ c ≤ w64 (x.k - 1)
      · simp [h, hc, letO]
      · simp [h, hc, letO]
    · simp [h]
  obtain ⟨e, r, hr⟩ := key
  simp only [Option.bind_some]
  rw [← e, hr]
  simp [letO]
end Go.Proofs.Ytgebhhhdckpciaa
