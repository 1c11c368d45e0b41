/- Plain laws of colourings. (Collected out of own texts.) No conditions beyond those that each lemma states. -/
import Derived.Test.YtfpcopidcagdaaaPKit
import Derived.Test.YtfpcopidcagdaaaGen17
set_option linter.unusedVariables false
set_option linter.unusedSimpArgs false
namespace Go.Proofs.Ytfpcopidcagdaaa
open Go Go.RowKit Ab

theorem in_eq (a b c : Int) : impl_in a b c = decide (b ≤ a ∧ a ≤ c) := by
  unfold impl_in letO
  by_cases h : b ≤ a <;> by_cases h' : a ≤ c <;> simp [h, h']

theorem specIn_eq (a b c : Int) : spec_l01In a b c = decide (b ≤ a ∧ a ≤ c) := by
  unfold spec_l01In letO
  by_cases h : b ≤ a <;> by_cases h' : a ≤ c <;> simp [h, h']

def tE (x : Col) : Int := w64 ((w64 (x.p * (w64 (x.p - 1)))).tdiv 2)

def okE (x : Col) (j : Int) : Prop := (j < tE x → ((x.get j.toNat).toNat : Int) < x.k) ∧ (tE x ≤ j → ((x.get j.toNat).toNat : Int) = 0)

/-- Numbers in range, colours in range on the edges, zero behind them. -/
def Col.is (x : Col) : Prop := (1 ≤ x.p ∧ x.p ≤ 17) ∧ (1 ≤ x.k ∧ x.k ≤ 4) ∧ ∀ j, 0 ≤ j → j < 136 → okE x j

open Classical in
theorem specIs_eq (k : Nat) (h : 137 ≤ k) (x : Col) : spec_l01Is k x = some (decide x.is) := by
  unfold spec_l01Is
  rw [specIn_eq, specIn_eq]
  by_cases hp : 1 ≤ x.p ∧ x.p ≤ 17
  · by_cases hk : 1 ≤ x.k ∧ x.k ≤ 4
    · have := loopAll (f := fun k' i => spec_l01Is_l0 k x k' i) 136 false (okE x) 0
        (fun k' i h0 h1 hq => by
          show spec_l01Is_l0 k x (k' + 1) i = _
          rw [spec_l01Is_l0, w64_succ h0 h1 (by omega)]
          obtain ⟨q1, q2⟩ := hq
          change (i < tE x → _) at q1
          by_cases hc : i < tE x
          · have e1 := q1 hc
            have e2 : ¬ tE x ≤ i := by omega
            have e3 : ¬ x.k ≤ ((x.get i.toNat).toNat : Int) := by omega
            unfold tE at hc e2
            simp [h0, h1, hc, e2, e3]
          · have e1 := q2 (by omega)
            have e2 : tE x ≤ i := by omega
            unfold tE at hc e2
            simp [h0, h1, hc, e2, e1])
        (fun k' i h0 h1 hq => by
          show spec_l01Is_l0 k x (k' + 1) i = _
          rw [spec_l01Is_l0]
          by_cases hc : i < tE x
          · have e2 : ¬ tE x ≤ i := by omega
            have e3 : x.k ≤ ((x.get i.toNat).toNat : Int) := by
              apply Int.not_lt.1
              intro e; exact hq ⟨fun _ => e, fun h => (e2 h).elim⟩
            unfold tE at hc e2
            simp [h0, h1, hc, e2, e3]
          · have e2 : tE x ≤ i := by omega
            have e3 : ¬ ((x.get i.toNat).toNat : Int) = 0 := by
              intro e; exact hq ⟨fun h => (hc h).elim, fun _ => e⟩
            unfold tE at hc e2
            have e5 : ¬ (x.get i.toNat).toNat = 0 := by omega
            simp [h0, h1, hc, e2, e5])
        (fun k' i h1 => by
          show spec_l01Is_l0 k x (k' + 1) i = _
          rw [spec_l01Is_l0]
          have : ¬ i < 136 := by omega
          simp [this]) k 0 (by omega) (by omega)
      simp only [hp, hk, decide_true, Bool.not_true, Bool.false_eq_true, if_false, letO, and_self]
      rw [this]
      by_cases ha : ∀ j, 0 ≤ j → j < 136 → okE x j
      · have : x.is := ⟨hp, hk, ha⟩
        rw [if_pos ha]; simp [this]
      · have : ¬ x.is := fun h => ha h.2.2
        simp only [if_neg ha, this]
        simp
    · have : ¬ x.is := fun h => hk h.2.1
      simp [hp, hk, letO, this]
  · have : ¬ x.is := fun h => hp h.1
    simp [hp, letO, this]

open Classical in
theorem isColouring_eq (k : Nat) (h : 137 ≤ k) (x : Col) : impl_Colouring_isColouring k x = some (decide x.is) := by
  unfold impl_Colouring_isColouring
  rw [in_eq, in_eq]
  by_cases hp : 1 ≤ x.p ∧ x.p ≤ 17
  · by_cases hk : 1 ≤ x.k ∧ x.k ≤ 4
    · have := loopAll (f := fun k' i => impl_Colouring_isColouring_l0 k x k' i) 136 false (okE x) 0
        (fun k' i h0 h1 hq => by
          show impl_Colouring_isColouring_l0 k x (k' + 1) i = _
          rw [impl_Colouring_isColouring_l0, w64_succ h0 h1 (by omega)]
          obtain ⟨q1, q2⟩ := hq
          change (i < tE x → ((x.e.get i.toNat).toNat : Int) < x.k) at q1
          change (tE x ≤ i → ((x.e.get i.toNat).toNat : Int) = 0) at q2
          change (if _ then _ else _) = _
          have hE : impl_Colouring_edges x = tE x := rfl
          by_cases hc : i < tE x
          · have e1 := q1 hc
            have e2 : ¬ tE x ≤ i := by omega
            have e3 : ¬ x.k ≤ ((x.e.get i.toNat).toNat : Int) := by omega
            simp [h0, h1, hc, e2, e3, hE, letO]
          · have e1 := q2 (by omega)
            have e2 : tE x ≤ i := by omega
            have e3 : ¬ x.k ≤ ((x.e.get i.toNat).toNat : Int) := by omega
            rw [e1] at e3
            simp [h0, h1, hc, e2, e1, e3, hE, letO])
        (fun k' i h0 h1 hq => by
          show impl_Colouring_isColouring_l0 k x (k' + 1) i = _
          rw [impl_Colouring_isColouring_l0]
          have hE : impl_Colouring_edges x = tE x := rfl
          by_cases e3 : x.k ≤ ((x.e.get i.toNat).toNat : Int)
          · simp [h0, h1, e3, letO]
          · have e2 : tE x ≤ i := by
              apply Int.not_lt.1
              intro hc; exact hq ⟨fun _ => by change ((x.e.get i.toNat).toNat : Int) < x.k; omega, fun h => by omega⟩
            have e4 : ¬ ((x.e.get i.toNat).toNat : Int) = 0 := by
              intro e; exact hq ⟨fun h => by omega, fun _ => e⟩
            have e5 : ¬ (x.e.get i.toNat).toNat = 0 := by omega
            simp [h0, h1, e2, e3, e5, hE, letO])
        (fun k' i h1 => by
          show impl_Colouring_isColouring_l0 k x (k' + 1) i = _
          rw [impl_Colouring_isColouring_l0]
          have : ¬ i < 136 := by omega
          simp [this]) k 0 (by omega) (by omega)
      simp only [hp, hk, decide_true, Bool.not_true, Bool.false_eq_true, if_false, letO, and_self]
      rw [this]
      by_cases ha : ∀ j, 0 ≤ j → j < 136 → okE x j
      · have : x.is := ⟨hp, hk, ha⟩
        rw [if_pos ha]; simp [this]
      · have : ¬ x.is := fun h => ha h.2.2
        simp only [if_neg ha, this]
        simp
    · have : ¬ x.is := fun h => hk h.2.1
      simp [hp, hk, letO, this]
  · have : ¬ x.is := fun h => hp h.1
    simp [hp, letO, this]

theorem number_eq (i j : Int) (hi : 0 ≤ i ∧ i < 17) (hj : 0 ≤ j ∧ j < 17) : impl_number i j = (eN i.toNat j.toNat : Int) := by
  have : ∀ i, i < 17 → ∀ j, j < 17 → impl_number (i : Nat) (j : Nat) = (eN i j : Int) := by decide +kernel
  have h := this i.toNat (by omega) j.toNat (by omega)
  rwa [Int.toNat_of_nonneg hi.1, Int.toNat_of_nonneg hj.1] at h

theorem edge_eq (i j : Int) (hi : 0 ≤ i ∧ i < 17) (hj : 0 ≤ j ∧ j < 17) : spec_l01Edge i j = (eN i.toNat j.toNat : Int) := by
  have : ∀ i, i < 17 → ∀ j, j < 17 → spec_l01Edge (i : Nat) (j : Nat) = (eN i j : Int) := by decide +kernel
  have h := this i.toNat (by omega) j.toNat (by omega)
  rwa [Int.toNat_of_nonneg hi.1, Int.toNat_of_nonneg hj.1] at h

def Col.cc (x : Col) (i j : Int) : Int := ((x.e.get (eN i.toNat j.toNat)).toNat : Int)

theorem specAt_eq (x : Col) (i j : Int) (h0 : 0 ≤ i) (h : i < j) (hj : 0 ≤ j) (hj' : j < 17) : spec_l01At x i j = some (x.cc i j) := by
  unfold spec_l01At
  rw [edge_eq i j (by omega) (by omega)]
  have := eN_136 (i := i.toNat) (j := j.toNat) (by omega) (by omega) (by omega)
  rw [if_pos (by omega)]
  rfl

theorem implAt_eq (x : Col) (i j : Int) (h0 : 0 ≤ i) (h : i < j) (hj : 0 ≤ j) (hj' : j < 17) : impl_Colouring_at x i j = some (x.cc i j) := by
  unfold impl_Colouring_at
  rw [number_eq i j (by omega) (by omega)]
  have := eN_136 (i := i.toNat) (j := j.toNat) (by omega) (by omega) (by omega)
  rw [if_pos (by omega)]
  rfl

abbrev li (l : List Int) (i : Int) : Int := l.getD i.toNat 0

def inP (x : Col) (l : List Int) : Prop := ∀ i : Int, 0 ≤ i → i < l.length → 0 ≤ li l i ∧ li l i ≤ x.p - 1

open Classical in
theorem specAll_eq (k : Nat) (l : List Int) (p : Int) (hk : l.length + 1 ≤ k) (hl : (l.length : Int) ≤ 1099511627776) (hp : -9223372036854775808 ≤ p - 1 ∧ p - 1 < 9223372036854775808) : spec_l01All k l p = some (decide (∀ i : Int, 0 ≤ i → i < l.length → 0 ≤ li l i ∧ li l i ≤ p - 1)) := by
  unfold spec_l01All
  rw [loopAll (f := fun k' i => spec_l01All_l0 l p k' i) (l.length : Int) false (fun i => 0 ≤ li l i ∧ li l i ≤ p - 1) 0 ?_ ?_ ?_ k 0 (by omega) (by omega)]
  · by_cases h : ∀ i : Int, 0 ≤ i → i < l.length → 0 ≤ li l i ∧ li l i ≤ p - 1
    · rw [if_pos h]; simp only [Option.bind_some]; rw [decide_eq_true h]
    · rw [if_neg h]; simp only [Option.bind_some]; rw [decide_eq_false h]
  · intro k' i h0 h1 hq
    show spec_l01All_l0 l p (k' + 1) i = _
    rw [spec_l01All_l0, w64_succ h0 h1 (by omega), specIn_eq, w64_id hp]
    simp only [h0, h1, and_self, if_true, decide_true]
    rw [decide_eq_true (show 0 ≤ l.getD i.toNat 0 ∧ l.getD i.toNat 0 ≤ p - 1 from hq)]; simp
  · intro k' i h0 h1 hq
    show spec_l01All_l0 l p (k' + 1) i = _
    rw [spec_l01All_l0, specIn_eq, w64_id hp]
    simp only [h0, h1, and_self, if_true, decide_true]
    rw [decide_eq_false (show ¬ (0 ≤ l.getD i.toNat 0 ∧ l.getD i.toNat 0 ≤ p - 1) from hq)]; simp
  · intro k' i h1
    show spec_l01All_l0 l p (k' + 1) i = _
    rw [spec_l01All_l0]
    have : ¬ i < (l.length : Int) := by omega
    simp [this]

/-- What the reference answers to a colouring, a colour and numbers of points. -/
theorem specGiven_eq (k : Nat) (x : Col) (c : Int) (l : List Int) (hk : l.length + 137 ≤ k) (hl : (l.length : Int) ≤ 1099511627776) [Decidable x.is] [Decidable ((0 ≤ c ∧ c ≤ x.k - 1) ∧ inP x l)] :
    spec_l01Given k x c l = some (if x.is then (if (0 ≤ c ∧ c ≤ x.k - 1) ∧ inP x l then 0 else 2) else 1) := by
  classical
  unfold spec_l01Given
  rw [specIs_eq k (by omega)]
  by_cases h : x.is
  · have hp := h.1; have hkk := h.2.1
    rw [specAll_eq k l x.p (by omega) hl (by omega), specIn_eq, w64_id (by omega)]
    by_cases hc : 0 ≤ c ∧ c ≤ x.k - 1
    · by_cases hi : inP x l
      · have e : decide (∀ i : Int, 0 ≤ i → i < l.length → 0 ≤ li l i ∧ li l i ≤ x.p - 1) = true := decide_eq_true hi
        rw [e]; simp [h, hc, hi]
      · have e : decide (∀ i : Int, 0 ≤ i → i < l.length → 0 ≤ li l i ∧ li l i ≤ x.p - 1) = false := decide_eq_false hi
        rw [e]; simp [h, hc, hi]
    · simp [h, hc]
  · simp [h]

theorem getD_app {α : Type} (l m : List α) (d : α) (i : Nat) (h : i < l.length) : (l ++ m).getD i d = l.getD i d := by
  simp only [List.getD]; rw [List.getElem?_append_left h]

theorem getD_app' {α : Type} (l m : List α) (d : α) (i : Nat) (h : l.length ≤ i) : (l ++ m).getD i d = m.getD (i - l.length) d := by
  simp only [List.getD]; rw [List.getElem?_append_right h]

theorem colourCode_eq (k : Nat) (x : Col) (c : Int) (hk : 137 ≤ k) [Decidable x.is] [Decidable (0 ≤ c ∧ c ≤ x.k - 1)] : impl_Colouring_colourCode k x c true = some (if x.is then (if 0 ≤ c ∧ c ≤ x.k - 1 then 0 else 2) else 1) := by
  classical
  unfold impl_Colouring_colourCode impl_Colouring_code impl_Colouring_colourCode_c1 impl_Colouring_hasColour
  rw [isColouring_eq k hk, in_eq]
  by_cases h : x.is
  · have := h.2.1
    rw [w64_id (by omega)]
    by_cases hc : 0 ≤ c ∧ c ≤ x.k - 1
    · simp [h, hc, letO]
    · simp [h, hc, letO]
  · simp [h]

theorem cc_comm (x : Col) (i j : Int) : x.cc i j = x.cc j i := by unfold Col.cc; rw [eN_comm]

theorem implAt_ne (x : Col) (i j : Int) (h0 : 0 ≤ i) (h1 : i < 17) (hj : 0 ≤ j) (hj' : j < 17) (h : i ≠ j) : impl_Colouring_at x i j = some (x.cc i j) := by
  unfold impl_Colouring_at
  rw [number_eq i j (by omega) (by omega)]
  have := eN_136 (i := i.toNat) (j := j.toNat) (by omega) (by omega) (by omega)
  rw [if_pos (by omega)]
  rfl

theorem like_refl (k : Nat) (l : List Int) (hk : l.length + 1 ≤ k) (hl : (l.length : Int) ≤ 1099511627776) : laws_likeInts k l l = some true := by
  unfold laws_likeInts
  have := loopAll (f := fun k' i => laws_likeInts_l0 l l k' i) (l.length : Int) false (fun _ => True) 0
    (fun k' i h0 h1 _ => by
      show laws_likeInts_l0 l l (k' + 1) i = _
      rw [laws_likeInts_l0, w64_succ h0 h1 (by omega)]
      simp [h0, h1])
    (fun k' i h0 h1 hq => (hq trivial).elim)
    (fun k' i h1 => by
      show laws_likeInts_l0 l l (k' + 1) i = _
      rw [laws_likeInts_l0]
      have : ¬ i < (l.length : Int) := by omega
      simp [this]) k 0 (by omega) (by omega)
  rw [this]; simp

theorem colourOf_val {k : Nat} (hk : 5000 ≤ k) (x : Col) (hx : x.is) (i j : Int) (hi : 0 ≤ i ∧ i < x.p) (hj : 0 ≤ j ∧ j < x.p) (h : i ≠ j) : impl_ColourOf k x i j = some (x.cc i j, 0) := by
  classical
  have hp := hx.1
  unfold impl_ColourOf impl_Colouring_code impl_ColourOf_c1 impl_Colouring_hasTwo impl_Colouring_has
  rw [isColouring_eq k (by omega), in_eq, in_eq, w64_id (by omega), implAt_ne x i j hi.1 (by omega) hj.1 (by omega) h]
  have a1 : 0 ≤ i ∧ i ≤ x.p - 1 := by omega
  have a2 : 0 ≤ j ∧ j ≤ x.p - 1 := by omega
  simp [hx, a1, a2, h, letO]

end Go.Proofs.Ytfpcopidcagdaaa
