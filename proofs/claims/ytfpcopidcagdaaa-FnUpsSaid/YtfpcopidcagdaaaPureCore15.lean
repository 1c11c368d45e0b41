/- Plain laws of colourings, paths that go up, closed colours, sequences. (Collected out of own texts.) No conditions beyond those that each lemma states. -/
import Derived.Test.YtfpcopidcagdaaaPKit
import Derived.Test.YtfpcopidcagdaaaGen15
set_option linter.unusedVariables false
set_option linter.unusedSimpArgs false
namespace Go.Proofs.Ytfpcopidcagdaaa
open Go Go.RowKit Ab

theorem in_eq (a b c : Int) : impl_in a b c = decide (b ≤ a ∧ a ≤ c) := by
  unfold impl_in letO
  by_cases h : b ≤ a <;> by_cases h' : a ≤ c <;> simp [h, h']

theorem specIn_eq (a b c : Int) : spec_l01In a b c = decide (b ≤ a ∧ a ≤ c) := by
  unfold spec_l01In letO
  by_cases h : b ≤ a <;> by_cases h' : a ≤ c <;> simp [h, h']

def tE (x : Col) : Int := w64 ((w64 (x.p * (w64 (x.p - 1)))).tdiv 2)

def okE (x : Col) (j : Int) : Prop := (j < tE x → ((x.get j.toNat).toNat : Int) < x.k) ∧ (tE x ≤ j → ((x.get j.toNat).toNat : Int) = 0)

/-- Numbers in range, colours in range on the edges, zero behind them. -/
def Col.is (x : Col) : Prop := (1 ≤ x.p ∧ x.p ≤ 17) ∧ (1 ≤ x.k ∧ x.k ≤ 4) ∧ ∀ j, 0 ≤ j → j < 136 → okE x j

open Classical in
theorem specIs_eq (k : Nat) (h : 137 ≤ k) (x : Col) : spec_l01Is k x = some (decide x.is) := by
  unfold spec_l01Is
  rw [specIn_eq, specIn_eq]
  by_cases hp : 1 ≤ x.p ∧ x.p ≤ 17
  · by_cases hk : 1 ≤ x.k ∧ x.k ≤ 4
    · have := loopAll (f := fun k' i => spec_l01Is_l0 k x k' i) 136 false (okE x) 0
        (fun k' i h0 h1 hq => by
          show spec_l01Is_l0 k x (k' + 1) i = _
          rw [spec_l01Is_l0, w64_succ h0 h1 (by omega)]
          obtain ⟨q1, q2⟩ := hq
          change (i < tE x → _) at q1
          by_cases hc : i < tE x
          · have e1 := q1 hc
            have e2 : ¬ tE x ≤ i := by omega
            have e3 : ¬ x.k ≤ ((x.get i.toNat).toNat : Int) := by omega
            unfold tE at hc e2
            simp [h0, h1, hc, e2, e3]
          · have e1 := q2 (by omega)
            have e2 : tE x ≤ i := by omega
            unfold tE at hc e2
            simp [h0, h1, hc, e2, e1])
        (fun k' i h0 h1 hq => by
          show spec_l01Is_l0 k x (k' + 1) i = _
          rw [spec_l01Is_l0]
          by_cases hc : i < tE x
          · have e2 : ¬ tE x ≤ i := by omega
            have e3 : x.k ≤ ((x.get i.toNat).toNat : Int) := by
              apply Int.not_lt.1
              intro e; exact hq ⟨fun _ => e, fun h => (e2 h).elim⟩
            unfold tE at hc e2
            simp [h0, h1, hc, e2, e3]
          · have e2 : tE x ≤ i := by omega
            have e3 : ¬ ((x.get i.toNat).toNat : Int) = 0 := by
              intro e; exact hq ⟨fun h => (hc h).elim, fun _ => e⟩
            unfold tE at hc e2
            have e5 : ¬ (x.get i.toNat).toNat = 0 := by omega
            simp [h0, h1, hc, e2, e5])
        (fun k' i h1 => by
          show spec_l01Is_l0 k x (k' + 1) i = _
          rw [spec_l01Is_l0]
          have : ¬ i < 136 := by omega
          simp [this]) k 0 (by omega) (by omega)
      simp only [hp, hk, decide_true, Bool.not_true, Bool.false_eq_true, if_false, letO, and_self]
      rw [this]
      by_cases ha : ∀ j, 0 ≤ j → j < 136 → okE x j
      · have : x.is := ⟨hp, hk, ha⟩
        rw [if_pos ha]; simp [this]
      · have : ¬ x.is := fun h => ha h.2.2
        simp only [if_neg ha, this]
        simp
    · have : ¬ x.is := fun h => hk h.2.1
      simp [hp, hk, letO, this]
  · have : ¬ x.is := fun h => hp h.1
    simp [hp, letO, this]

open Classical in
theorem isColouring_eq (k : Nat) (h : 137 ≤ k) (x : Col) : impl_Colouring_isColouring k x = some (decide x.is) := by
  unfold impl_Colouring_isColouring
  rw [in_eq, in_eq]
  by_cases hp : 1 ≤ x.p ∧ x.p ≤ 17
  · by_cases hk : 1 ≤ x.k ∧ x.k ≤ 4
    · have := loopAll (f := fun k' i => impl_Colouring_isColouring_l0 k x k' i) 136 false (okE x) 0
        (fun k' i h0 h1 hq => by
          show impl_Colouring_isColouring_l0 k x (k' + 1) i = _
          rw [impl_Colouring_isColouring_l0, w64_succ h0 h1 (by omega)]
          obtain ⟨q1, q2⟩ := hq
          change (i < tE x → ((x.e.get i.toNat).toNat : Int) < x.k) at q1
          change (tE x ≤ i → ((x.e.get i.toNat).toNat : Int) = 0) at q2
          change (if _ then _ else _) = _
          have hE : impl_Colouring_edges x = tE x := rfl
          by_cases hc : i < tE x
          · have e1 := q1 hc
            have e2 : ¬ tE x ≤ i := by omega
            have e3 : ¬ x.k ≤ ((x.e.get i.toNat).toNat : Int) := by omega
            simp [h0, h1, hc, e2, e3, hE, letO]
          · have e1 := q2 (by omega)
            have e2 : tE x ≤ i := by omega
            have e3 : ¬ x.k ≤ ((x.e.get i.toNat).toNat : Int) := by omega
            rw [e1] at e3
            simp [h0, h1, hc, e2, e1, e3, hE, letO])
        (fun k' i h0 h1 hq => by
          show impl_Colouring_isColouring_l0 k x (k' + 1) i = _
          rw [impl_Colouring_isColouring_l0]
          have hE : impl_Colouring_edges x = tE x := rfl
          by_cases e3 : x.k ≤ ((x.e.get i.toNat).toNat : Int)
          · simp [h0, h1, e3, letO]
          · have e2 : tE x ≤ i := by
              apply Int.not_lt.1
              intro hc; exact hq ⟨fun _ => by change ((x.e.get i.toNat).toNat : Int) < x.k; omega, fun h => by omega⟩
            have e4 : ¬ ((x.e.get i.toNat).toNat : Int) = 0 := by
              intro e; exact hq ⟨fun h => by omega, fun _ => e⟩
            have e5 : ¬ (x.e.get i.toNat).toNat = 0 := by omega
            simp [h0, h1, e2, e3, e5, hE, letO])
        (fun k' i h1 => by
          show impl_Colouring_isColouring_l0 k x (k' + 1) i = _
          rw [impl_Colouring_isColouring_l0]
          have : ¬ i < 136 := by omega
          simp [this]) k 0 (by omega) (by omega)
      simp only [hp, hk, decide_true, Bool.not_true, Bool.false_eq_true, if_false, letO, and_self]
      rw [this]
      by_cases ha : ∀ j, 0 ≤ j → j < 136 → okE x j
      · have : x.is := ⟨hp, hk, ha⟩
        rw [if_pos ha]; simp [this]
      · have : ¬ x.is := fun h => ha h.2.2
        simp only [if_neg ha, this]
        simp
    · have : ¬ x.is := fun h => hk h.2.1
      simp [hp, hk, letO, this]
  · have : ¬ x.is := fun h => hp h.1
    simp [hp, letO, this]

theorem number_eq (i j : Int) (hi : 0 ≤ i ∧ i < 17) (hj : 0 ≤ j ∧ j < 17) : impl_number i j = (eN i.toNat j.toNat : Int) := by
  have : ∀ i, i < 17 → ∀ j, j < 17 → impl_number (i : Nat) (j : Nat) = (eN i j : Int) := by decide +kernel
  have h := this i.toNat (by omega) j.toNat (by omega)
  rwa [Int.toNat_of_nonneg hi.1, Int.toNat_of_nonneg hj.1] at h

theorem edge_eq (i j : Int) (hi : 0 ≤ i ∧ i < 17) (hj : 0 ≤ j ∧ j < 17) : spec_l01Edge i j = (eN i.toNat j.toNat : Int) := by
  have : ∀ i, i < 17 → ∀ j, j < 17 → spec_l01Edge (i : Nat) (j : Nat) = (eN i j : Int) := by decide +kernel
  have h := this i.toNat (by omega) j.toNat (by omega)
  rwa [Int.toNat_of_nonneg hi.1, Int.toNat_of_nonneg hj.1] at h

def Col.cc (x : Col) (i j : Int) : Int := ((x.e.get (eN i.toNat j.toNat)).toNat : Int)

theorem specAt_eq (x : Col) (i j : Int) (h0 : 0 ≤ i) (h : i < j) (hj : 0 ≤ j) (hj' : j < 17) : spec_l01At x i j = some (x.cc i j) := by
  unfold spec_l01At
  rw [edge_eq i j (by omega) (by omega)]
  have := eN_136 (i := i.toNat) (j := j.toNat) (by omega) (by omega) (by omega)
  rw [if_pos (by omega)]
  rfl

theorem implAt_eq (x : Col) (i j : Int) (h0 : 0 ≤ i) (h : i < j) (hj : 0 ≤ j) (hj' : j < 17) : impl_Colouring_at x i j = some (x.cc i j) := by
  unfold impl_Colouring_at
  rw [number_eq i j (by omega) (by omega)]
  have := eN_136 (i := i.toNat) (j := j.toNat) (by omega) (by omega) (by omega)
  rw [if_pos (by omega)]
  rfl

abbrev li (l : List Int) (i : Int) : Int := l.getD i.toNat 0

def inP (x : Col) (l : List Int) : Prop := ∀ i : Int, 0 ≤ i → i < l.length → 0 ≤ li l i ∧ li l i ≤ x.p - 1

def inc (l : List Int) : Prop := ∀ i : Int, 1 ≤ i → i < l.length → li l (i - 1) < li l i

open Classical in
theorem specAll_eq (k : Nat) (l : List Int) (p : Int) (hk : l.length + 1 ≤ k) (hl : (l.length : Int) ≤ 1099511627776) (hp : -9223372036854775808 ≤ p - 1 ∧ p - 1 < 9223372036854775808) : spec_l01All k l p = some (decide (∀ i : Int, 0 ≤ i → i < l.length → 0 ≤ li l i ∧ li l i ≤ p - 1)) := by
  unfold spec_l01All
  rw [loopAll (f := fun k' i => spec_l01All_l0 l p k' i) (l.length : Int) false (fun i => 0 ≤ li l i ∧ li l i ≤ p - 1) 0 ?_ ?_ ?_ k 0 (by omega) (by omega)]
  · by_cases h : ∀ i : Int, 0 ≤ i → i < l.length → 0 ≤ li l i ∧ li l i ≤ p - 1
    · rw [if_pos h]; simp only [Option.bind_some]; rw [decide_eq_true h]
    · rw [if_neg h]; simp only [Option.bind_some]; rw [decide_eq_false h]
  · intro k' i h0 h1 hq
    show spec_l01All_l0 l p (k' + 1) i = _
    rw [spec_l01All_l0, w64_succ h0 h1 (by omega), specIn_eq, w64_id hp]
    simp only [h0, h1, and_self, if_true, decide_true]
    rw [decide_eq_true (show 0 ≤ l.getD i.toNat 0 ∧ l.getD i.toNat 0 ≤ p - 1 from hq)]; simp
  · intro k' i h0 h1 hq
    show spec_l01All_l0 l p (k' + 1) i = _
    rw [spec_l01All_l0, specIn_eq, w64_id hp]
    simp only [h0, h1, and_self, if_true, decide_true]
    rw [decide_eq_false (show ¬ (0 ≤ l.getD i.toNat 0 ∧ l.getD i.toNat 0 ≤ p - 1) from hq)]; simp
  · intro k' i h1
    show spec_l01All_l0 l p (k' + 1) i = _
    rw [spec_l01All_l0]
    have : ¬ i < (l.length : Int) := by omega
    simp [this]

/-- What the reference answers to a colouring, a colour and numbers of points. -/
theorem specGiven_eq (k : Nat) (x : Col) (c : Int) (l : List Int) (hk : l.length + 137 ≤ k) (hl : (l.length : Int) ≤ 1099511627776) [Decidable x.is] [Decidable ((0 ≤ c ∧ c ≤ x.k - 1) ∧ inP x l)] :
    spec_l01Given k x c l = some (if x.is then (if (0 ≤ c ∧ c ≤ x.k - 1) ∧ inP x l then 0 else 2) else 1) := by
  classical
  unfold spec_l01Given
  rw [specIs_eq k (by omega)]
  by_cases h : x.is
  · have hp := h.1; have hkk := h.2.1
    rw [specAll_eq k l x.p (by omega) hl (by omega), specIn_eq, w64_id (by omega)]
    by_cases hc : 0 ≤ c ∧ c ≤ x.k - 1
    · by_cases hi : inP x l
      · have e : decide (∀ i : Int, 0 ≤ i → i < l.length → 0 ≤ li l i ∧ li l i ≤ x.p - 1) = true := decide_eq_true hi
        rw [e]; simp [h, hc, hi]
      · have e : decide (∀ i : Int, 0 ≤ i → i < l.length → 0 ≤ li l i ∧ li l i ≤ x.p - 1) = false := decide_eq_false hi
        rw [e]; simp [h, hc, hi]
    · simp [h, hc]
  · simp [h]

open Classical in
theorem isSet_eq (k : Nat) (x : Col) (h : x.is) (l : List Int) (hk : l.length + 1 ≤ k) (hl : (l.length : Int) ≤ 1099511627776) : impl_Colouring_isSet k x l = some (decide (inP x l ∧ inc l)) := by
  have hp := h.1
  unfold impl_Colouring_isSet
  rw [loopAll (f := fun k' i => impl_Colouring_isSet_l0 x l k' i) (l.length : Int) false (fun i => (0 ≤ li l i ∧ li l i ≤ x.p - 1) ∧ (0 < i → li l (i - 1) < li l i)) 0 ?_ ?_ ?_ k 0 (by omega) (by omega)]
  · have e : (∀ i : Int, 0 ≤ i → i < l.length → (0 ≤ li l i ∧ li l i ≤ x.p - 1) ∧ (0 < i → li l (i - 1) < li l i)) ↔ inP x l ∧ inc l :=
      ⟨fun h => ⟨fun i h0 h1 => (h i h0 h1).1, fun i h0 h1 => (h i (by omega) h1).2 (by omega)⟩, fun h i h0 h1 => ⟨h.1 i h0 h1, fun h2 => h.2 i (by omega) h1⟩⟩
    by_cases hq : inP x l ∧ inc l
    · rw [if_pos (e.2 hq), decide_eq_true hq]; rfl
    · rw [if_neg (fun h => hq (e.1 h)), decide_eq_false hq]; rfl
  · intro k' i h0 h1 hq
    show impl_Colouring_isSet_l0 x l (k' + 1) i = _
    rw [impl_Colouring_isSet_l0, w64_succ (by omega) h1 (by omega)]
    unfold impl_Colouring_has
    rw [in_eq, w64_id (by omega), decide_eq_true (show 0 ≤ l.getD i.toNat 0 ∧ l.getD i.toNat 0 ≤ x.p - 1 from hq.1)]
    by_cases hi : 0 < i
    · have e := hq.2 hi
      have e : ¬ l.getD i.toNat 0 ≤ l.getD (i - 1).toNat 0 := Int.not_le.2 e
      rw [w64_id (show -9223372036854775808 ≤ i - 1 ∧ i - 1 < 9223372036854775808 by omega)]
      simp only [h1, h0, hi, e, decide_true, decide_false, Bool.not_true, Bool.false_eq_true, if_true, if_false, and_self]
      rw [if_pos (show 0 ≤ i - 1 ∧ i - 1 < (l.length : Int) by omega)]
      rfl
    · simp only [h1, h0, hi, decide_true, decide_false, Bool.not_true, Bool.false_eq_true, if_true, if_false, and_self]
      rfl
  · intro k' i h0 h1 hq
    show impl_Colouring_isSet_l0 x l (k' + 1) i = _
    rw [impl_Colouring_isSet_l0]
    unfold impl_Colouring_has
    rw [in_eq, w64_id (show -9223372036854775808 ≤ x.p - 1 ∧ x.p - 1 < 9223372036854775808 by omega)]
    by_cases ha : 0 ≤ l.getD i.toNat 0 ∧ l.getD i.toNat 0 ≤ x.p - 1
    · have hi : 0 < i := by
        apply Int.not_le.1
        intro hi; exact hq ⟨ha, fun h => by omega⟩
      have e : l.getD i.toNat 0 ≤ l.getD (i - 1).toNat 0 := by
        apply Int.not_lt.1
        intro e; exact hq ⟨ha, fun _ => e⟩
      rw [w64_id (show -9223372036854775808 ≤ i - 1 ∧ i - 1 < 9223372036854775808 by omega), decide_eq_true ha]
      simp only [h1, h0, hi, e, decide_true, Bool.not_true, Bool.false_eq_true, if_true, if_false, and_self]
      rw [if_pos (show 0 ≤ i - 1 ∧ i - 1 < (l.length : Int) by omega)]
      rfl
    · rw [decide_eq_false ha]
      simp only [h1, h0, decide_true, Bool.not_false, if_true, and_self]
      rfl
  · intro k' i h1
    show impl_Colouring_isSet_l0 x l (k' + 1) i = _
    rw [impl_Colouring_isSet_l0]
    have : ¬ i < (l.length : Int) := by omega
    simp [this]

theorem inc_lt {l : List Int} (h : inc l) : ∀ (d : Nat) (i j : Int), 0 ≤ i → i < j → j < l.length → j = i + d → li l i < li l j := by
  intro d
  induction d with
  | zero => intro i j h0 h1 h2 e; omega
  | succ d ih =>
    intro i j h0 h1 h2 e
    have hs := h j (by omega) h2
    by_cases he : i = j - 1
    · rw [he]; exact hs
    · exact Int.lt_trans (ih i (j - 1) h0 (by omega) (by omega) (by omega)) hs

theorem inc_at {l : List Int} (h : inc l) {i j : Int} (h0 : 0 ≤ i) (h1 : i < j) (h2 : j < l.length) : li l i < li l j := inc_lt h (j - i).toNat i j h0 h1 h2 (by omega)

theorem getD_app {α : Type} (l m : List α) (d : α) (i : Nat) (h : i < l.length) : (l ++ m).getD i d = l.getD i d := by
  simp only [List.getD]; rw [List.getElem?_append_left h]

theorem getD_app' {α : Type} (l m : List α) (d : α) (i : Nat) (h : l.length ≤ i) : (l ++ m).getD i d = m.getD (i - l.length) d := by
  simp only [List.getD]; rw [List.getElem?_append_right h]

/-- The most points of a path that goes up and ends with a point, behind some of the points before it. -/
def ownUp (x : Col) (c : Int) (l : List Int) (j : Nat) : Nat → Int
  | 0 => 1
  | i + 1 => if x.cc i j = c then (if ownUp x c l j i < l.getD i 0 + 1 then l.getD i 0 + 1 else ownUp x c l j i) else ownUp x c l j i

def upL (x : Col) (c : Int) : Nat → List Int
  | 0 => []
  | j + 1 => upL x c j ++ [ownUp x c (upL x c j) j j]

theorem upL_length (x : Col) (c : Int) (j : Nat) : (upL x c j).length = j := by
  induction j with
  | zero => rfl
  | succ j ih => simp [upL, ih]

theorem ownUp_range (x : Col) (c : Int) (l : List Int) (j : Nat) (b : Int) (hb : 1 ≤ b) (h : ∀ i, i < j → 0 ≤ l.getD i 0 ∧ l.getD i 0 < b) : ∀ i, i ≤ j → 1 ≤ ownUp x c l j i ∧ ownUp x c l j i ≤ b := by
  intro i
  induction i with
  | zero => intro _; exact ⟨by simp [ownUp], by simpa [ownUp] using hb⟩
  | succ i ih =>
    intro hi
    have h1 := ih (by omega)
    have h2 := h i (by omega)
    unfold ownUp
    split
    · split <;> omega
    · exact h1

theorem upL_range (x : Col) (c : Int) (j : Nat) : ∀ i, i < j → 1 ≤ (upL x c j).getD i 0 ∧ (upL x c j).getD i 0 ≤ j := by
  induction j with
  | zero => intro i h; omega
  | succ j ih =>
    intro i hi
    unfold upL
    by_cases e : i < j
    · rw [getD_app _ _ _ _ (by rw [upL_length]; exact e)]
      have := ih i e
      omega
    · have : i = j := by omega
      subst this
      have h := ownUp_range x c (upL x c i) i (i + 1) (by omega) (fun t ht => by have := ih t ht; omega) i (Nat.le_refl _)
      rw [getD_app' _ _ _ _ (by rw [upL_length]; omega), upL_length]
      simp; omega

theorem specUp_l1 (x : Col) (hp : x.p ≤ 17) (c : Int) (j : Nat) (hj : (j : Int) < x.p) (k : Nat) (hk : 18 ≤ k) : spec_UpLengths_l1 x c j (upL x c j) k 1 0 = some (ownUp x c (upL x c j) j j) := by
  have := loopI (f := fun k i (s : Int) => spec_UpLengths_l1 x c j (upL x c j) k s i) (j : Int) 0 (fun i s => s = ownUp x c (upL x c j) j i.toNat ∧ i ≤ j) (fun r => r = ownUp x c (upL x c j) j j) ?_ ?_ k 0 1 (by omega) (by omega) ⟨rfl, by omega⟩
  · obtain ⟨r, e, rfl⟩ := this; exact e
  · intro k i s h0 h1 ⟨q, _⟩
    left
    obtain ⟨m, rfl⟩ := nat_of h0
    refine ⟨_, ?_, rfl, by omega⟩
    show spec_UpLengths_l1 x c j (upL x c j) (k + 1) s m = _
    have hr := upL_range x c j m (by omega)
    rw [spec_UpLengths_l1, w64_succ h0 h1 (by omega), specAt_eq x m j h0 h1 (by omega) (by omega)]
    have hm : m < j := by omega
    have e : ((m : Int) + 1).toNat = m + 1 := by omega
    rw [w64_id (show -9223372036854775808 ≤ (upL x c j).getD (m : Int).toNat 0 + 1 ∧ (upL x c j).getD (m : Int).toNat 0 + 1 < 9223372036854775808 by simp only [Int.toNat_natCast]; omega), e, upL_length]
    simp only [Int.toNat_natCast] at q ⊢
    simp only [h1, h0, decide_true, if_true, and_self, Option.bind_some, q]
    by_cases hc : x.cc m j = c
    · simp only [hc, decide_true, if_true, Option.bind_some, ownUp]
    · simp only [hc, decide_false, Bool.false_eq_true, if_false, Option.bind_some, ownUp]
  · intro k i s h0 h1 ⟨q, q2⟩
    have : i = j := by omega
    subst this
    refine ⟨_, ?_, rfl⟩
    show spec_UpLengths_l1 x c j (upL x c j) (k + 1) s j = _
    rw [spec_UpLengths_l1]
    simp at q
    simp [q]

theorem specUp_l0 (x : Col) (hp : 1 ≤ x.p ∧ x.p ≤ 17) (c : Int) (k : Nat) (hk : 20 ≤ k) : spec_UpLengths_l0 k x c k 0 [] = some (upL x c x.p.toNat) := by
  have := loopI (f := fun k' i (s : List Int) => spec_UpLengths_l0 k x c k' i s) x.p 0 (fun i s => s = upL x c i.toNat ∧ i ≤ x.p) (fun r => r = upL x c x.p.toNat) ?_ ?_ k 0 [] (by omega) (by omega) ⟨rfl, by omega⟩
  · obtain ⟨r, e, rfl⟩ := this; exact e
  · intro k' i s h0 h1 ⟨q, _⟩
    left
    obtain ⟨j, rfl⟩ := nat_of h0
    simp at q
    subst q
    refine ⟨upL x c (j + 1), ?_, by simp [show ((j : Int) + 1).toNat = j + 1 by omega], by omega⟩
    show spec_UpLengths_l0 k x c (k' + 1) j (upL x c j) = _
    rw [spec_UpLengths_l0, w64_succ h0 h1 (by omega), specUp_l1 x hp.2 c j h1 k (by omega)]
    simp only [h1, decide_true, if_true, Option.bind_some, upL_length, List.length_singleton]
    rw [if_pos (by omega)]
    rfl
  · intro k' i s h0 h1 ⟨q, q2⟩
    have : i = x.p := by omega
    subst this
    refine ⟨_, ?_, q⟩
    show spec_UpLengths_l0 k x c (k' + 1) x.p s = _
    rw [spec_UpLengths_l0]; simp

/-- The program's list while it works: what is done, the point's own number, zeros. -/
def upS (x : Col) (c : Int) (n j : Nat) (v : Int) : List Int := upL x c j ++ (v :: List.replicate (n - j - 1) 0)

theorem upS_length (x : Col) (c : Int) (n j : Nat) (v : Int) (h : j < n) : (upS x c n j v).length = n := by simp [upS, upL_length]; omega

theorem upS_self (x : Col) (c : Int) (n j : Nat) (v : Int) : (upS x c n j v).getD j 0 = v := by
  unfold upS; rw [getD_app' _ _ _ _ (by rw [upL_length]; omega), upL_length]; simp

theorem upS_low (x : Col) (c : Int) (n j i : Nat) (v : Int) (h : i < j) : (upS x c n j v).getD i 0 = (upL x c j).getD i 0 := by
  unfold upS; rw [getD_app _ _ _ _ (by rw [upL_length]; exact h)]

theorem upS_set (x : Col) (c : Int) (n j : Nat) (v u : Int) : (upS x c n j v).set j u = upS x c n j u := by
  unfold upS; rw [List.set_append_right _ _ (by rw [upL_length]; omega), upL_length]; simp

theorem upS_next (x : Col) (c : Int) (n j : Nat) (h : j + 1 < n) : upS x c n j (ownUp x c (upL x c j) j j) = upS x c n (j + 1) 0 := by
  unfold upS
  rw [show n - j - 1 = (n - (j + 1) - 1) + 1 by omega, List.replicate_succ]
  simp [upL]

theorem implUp_l1 (x : Col) (hp : x.p ≤ 17) (c : Int) (j : Nat) (hj : (j : Int) < x.p) (k : Nat) (hk : 18 ≤ k) : impl_Colouring_ups_l1 x c j k 0 (upS x c x.p.toNat j 1) = some (upS x c x.p.toNat j (ownUp x c (upL x c j) j j)) := by
  have := loopI (f := fun k i (s : List Int) => impl_Colouring_ups_l1 x c j k i s) (j : Int) 0 (fun i s => s = upS x c x.p.toNat j (ownUp x c (upL x c j) j i.toNat) ∧ i ≤ j) (fun r => r = upS x c x.p.toNat j (ownUp x c (upL x c j) j j)) ?_ ?_ k 0 (upS x c x.p.toNat j 1) (by omega) (by omega) ⟨rfl, by omega⟩
  · obtain ⟨r, e, rfl⟩ := this; exact e
  · intro k i s h0 h1 ⟨q, _⟩
    left
    obtain ⟨m, rfl⟩ := nat_of h0
    simp only [Int.toNat_natCast] at q
    subst q
    have hm : m < j := by omega
    refine ⟨upS x c x.p.toNat j (ownUp x c (upL x c j) j (m + 1)), ?_, by rw [show ((m : Int) + 1).toNat = m + 1 by omega], by omega⟩
    show impl_Colouring_ups_l1 x c j (k + 1) m _ = _
    have hr := upL_range x c j m hm
    rw [impl_Colouring_ups_l1, w64_succ h0 h1 (by omega), implAt_eq x m j h0 h1 (by omega) (by omega)]
    simp only [Int.toNat_natCast, upS_length x c x.p.toNat j _ (show j < x.p.toNat by omega), upS_self, upS_low x c x.p.toNat j m _ hm, upS_set]
    rw [w64_id (by omega)]
    simp only [h1, decide_true, if_true, Option.bind_some]
    by_cases hc : x.cc m j = c
    · simp only [hc, decide_true, if_true, ownUp]
      rw [if_pos (by omega), if_pos (by omega), if_pos (by omega)]
      rfl
    · simp only [hc, decide_false, Bool.false_eq_true, if_false, Option.bind_some, ownUp]
  · intro k i s h0 h1 ⟨q, q2⟩
    have : i = j := by omega
    subst this
    refine ⟨_, ?_, rfl⟩
    show impl_Colouring_ups_l1 x c j (k + 1) j s = _
    rw [impl_Colouring_ups_l1]
    simp at q
    simp [q]

theorem implUp_l0 (x : Col) (hp : 1 ≤ x.p ∧ x.p ≤ 17) (c : Int) (k : Nat) (hk : 20 ≤ k) : impl_Colouring_ups_l0 k x c k 0 (List.replicate x.p.toNat 0) = some (upL x c x.p.toNat) := by
  have := loopI (f := fun k' i (s : List Int) => impl_Colouring_ups_l0 k x c k' i s) x.p 0 (fun i s => (i < x.p → s = upS x c x.p.toNat i.toNat 0) ∧ (i = x.p → s = upL x c x.p.toNat) ∧ i ≤ x.p) (fun r => r = upL x c x.p.toNat) ?_ ?_ k 0 (List.replicate x.p.toNat 0) (by omega) (by omega)
    ⟨fun _ => by
      unfold upS
      obtain ⟨n, hn⟩ : ∃ n, x.p.toNat = n + 1 := ⟨x.p.toNat - 1, by omega⟩
      rw [hn]; simp [upL, List.replicate_succ], fun h => by omega, by omega⟩
  · obtain ⟨r, e, rfl⟩ := this; exact e
  · intro k' i s h0 h1 ⟨q, _, _⟩
    left
    obtain ⟨j, rfl⟩ := nat_of h0
    have q := q h1
    simp only [Int.toNat_natCast] at q
    subst q
    refine ⟨upS x c x.p.toNat j (ownUp x c (upL x c j) j j), ?_, fun h => ?_, fun h => ?_, by omega⟩
    · show impl_Colouring_ups_l0 k x c (k' + 1) j _ = _
      rw [impl_Colouring_ups_l0, w64_succ h0 h1 (by omega)]
      simp only [Int.toNat_natCast, upS_length x c x.p.toNat j _ (show j < x.p.toNat by omega), upS_set]
      rw [implUp_l1 x hp.2 c j h1 k (by omega)]
      simp only [h1, decide_true, if_true]
      rw [if_pos (by omega)]; rfl
    · rw [show ((j : Int) + 1).toNat = j + 1 by omega]
      exact upS_next x c x.p.toNat j (by omega)
    · rw [show x.p.toNat = j + 1 by omega]
      simp [upS, upL]
  · intro k' i s h0 h1 ⟨_, q, q2⟩
    have e : i = x.p := by omega
    refine ⟨_, ?_, q e⟩
    show impl_Colouring_ups_l0 k x c (k' + 1) i s = _
    rw [impl_Colouring_ups_l0]
    have : ¬ i < x.p := by omega
    simp [this]

theorem implUp_l3 (x : Col) (hp : x.p ≤ 17) (c i : Int) (hi0 : 0 ≤ i) (hi : i < x.p) : ∀ (k : Nat) (j : Int) (s : List Int), i < j → (x.p - j).toNat < k → (s.length : Int) = x.p → ∃ r, impl_Colouring_ups_l3 x c i k j s = some r ∧ (r.length : Int) = x.p := by
  refine fun k j s hj hk hs => loopI (f := fun k j (s : List Int) => impl_Colouring_ups_l3 x c i k j s) x.p (i + 1) (fun j s => (s.length : Int) = x.p) (fun r => (r.length : Int) = x.p) ?_ ?_ k j s (by omega) hk hs
  · intro k j s h0 h1 q
    left
    show ∃ s', impl_Colouring_ups_l3 x c i (k + 1) j s = _ ∧ _
    rw [impl_Colouring_ups_l3, w64_id (show -9223372036854775808 ≤ j + 1 ∧ j + 1 < 9223372036854775808 by omega), implAt_eq x i j hi0 (by omega) (by omega) (by omega)]
    simp only [h1, decide_true, if_true, Option.bind_some]
    by_cases hc : x.cc i j = c
    · simp only [hc, decide_true, if_true]
      rw [if_pos (show 0 ≤ i ∧ i < (s.length : Int) by omega), if_pos (show 0 ≤ j ∧ j < (s.length : Int) by omega), if_pos (show 0 ≤ i ∧ i < (s.length : Int) by omega)]
      exact ⟨_, rfl, by simpa using q⟩
    · simp only [hc, decide_false, Bool.false_eq_true, if_false]
      exact ⟨s, rfl, q⟩
  · intro k j s h0 h1 q
    refine ⟨s, ?_, q⟩
    show impl_Colouring_ups_l3 x c i (k + 1) j s = _
    rw [impl_Colouring_ups_l3]
    have : ¬ j < x.p := by omega
    simp [this]

theorem implUp_l2 (x : Col) (hp : x.p ≤ 17) (c : Int) (k : Nat) (hk : 19 ≤ k) : ∀ (k' : Nat) (i : Int) (s : List Int), i < x.p → -1 ≤ i → (i + 1).toNat < k' → (s.length : Int) = x.p → ∃ r, impl_Colouring_ups_l2 k x c k' i s = some r := by
  intro k'
  induction k' with
  | zero => intro i s _ _ h; omega
  | succ k' ih =>
    intro i s h1 h0 hk' q
    rw [impl_Colouring_ups_l2]
    by_cases hi : 0 ≤ i
    · obtain ⟨r, e, hr⟩ := implUp_l3 x hp c i hi h1 k (i + 1) (s.set i.toNat 1) (by omega) (by omega) (by simpa using q)
      rw [w64_id (show -9223372036854775808 ≤ i + 1 ∧ i + 1 < 9223372036854775808 by omega), w64_id (show -9223372036854775808 ≤ i - 1 ∧ i - 1 < 9223372036854775808 by omega), e]
      simp only [hi, decide_true, if_true]
      rw [if_pos (show True ∧ i < (s.length : Int) from ⟨trivial, by omega⟩)]
      exact ih (i - 1) r (by omega) (by omega) (by omega) hr
    · simp [hi]

theorem ups_eq (x : Col) (hp : 1 ≤ x.p ∧ x.p ≤ 17) (c : Int) (k : Nat) (hk : 20 ≤ k) : ∃ f, impl_Colouring_ups k x c = some (upL x c x.p.toNat, f) := by
  unfold impl_Colouring_ups
  obtain ⟨f, hf⟩ := implUp_l2 x hp.2 c k (by omega) k (x.p - 1) (List.replicate x.p.toNat 0) (by omega) (by omega) (by omega) (by simp; omega)
  rw [if_pos ⟨by omega, by omega, by omega⟩, if_pos ⟨by omega, by omega, by omega⟩, implUp_l0 x hp c k hk, w64_id (by omega), hf]
  exact ⟨f, rfl⟩

theorem colourCode_eq (k : Nat) (x : Col) (c : Int) (hk : 137 ≤ k) [Decidable x.is] [Decidable (0 ≤ c ∧ c ≤ x.k - 1)] : impl_Colouring_colourCode k x c true = some (if x.is then (if 0 ≤ c ∧ c ≤ x.k - 1 then 0 else 2) else 1) := by
  classical
  unfold impl_Colouring_colourCode impl_Colouring_code impl_Colouring_colourCode_c1 impl_Colouring_hasColour
  rw [isColouring_eq k hk, in_eq]
  by_cases h : x.is
  · have := h.2.1
    rw [w64_id (by omega)]
    by_cases hc : 0 ≤ c ∧ c ≤ x.k - 1
    · simp [h, hc, letO]
    · simp [h, hc, letO]
  · simp [h]

def frR (x : Col) (i : Int) (s : List Int) : Prop := (s.length : Int) = x.p ∧ ∀ j : Int, i ≤ j → j < x.p → 1 ≤ li s j ∧ li s j ≤ x.p - j

theorem li_set (s : List Int) (i j v : Int) (hi : 0 ≤ i) (hi' : i < s.length) (hj : 0 ≤ j) : li (s.set i.toNat v) j = if i = j then v else li s j := by
  unfold li
  simp only [List.getD]
  by_cases e : i = j
  · subst e
    rw [List.getElem?_set_self (by omega), if_pos rfl]; rfl
  · rw [List.getElem?_set_ne (by omega), if_neg e]

theorem fr_l3 (x : Col) (hp : x.p ≤ 17) (c i : Int) (hi0 : 0 ≤ i) (hi : i < x.p) : ∀ (k : Nat) (j : Int) (s : List Int), i < j → j ≤ x.p → (x.p - j).toNat < k → frR x (i + 1) s → 1 ≤ li s i → li s i ≤ x.p - i →
    ∃ r, impl_Colouring_ups_l3 x c i k j s = some r ∧ spec_l10Ups_l1 x c i k j s = some r ∧ frR x i r := by
  intro k
  induction k with
  | zero => intro j s _ _ h; omega
  | succ k ih =>
    intro j s h1 h2 hk hs b1 b2
    rw [impl_Colouring_ups_l3, spec_l10Ups_l1]
    by_cases hj : j < x.p
    · rw [w64_id (show -9223372036854775808 ≤ j + 1 ∧ j + 1 < 9223372036854775808 by omega), implAt_eq x i j hi0 h1 (by omega) (by omega), specAt_eq x i j hi0 h1 (by omega) (by omega)]
      have hr := hs.2 j (by omega) hj
      rw [w64_id (show -9223372036854775808 ≤ s.getD j.toNat 0 + 1 ∧ s.getD j.toNat 0 + 1 < 9223372036854775808 by simp only [li] at hr; omega)]
      simp only [hj, decide_true, if_true, Option.bind_some]
      have hl := hs.1
      by_cases hc : x.cc i j = c
      · simp only [hc, decide_true, if_true]
        rw [if_pos (show 0 ≤ i ∧ i < (s.length : Int) by omega), if_pos (show 0 ≤ j ∧ j < (s.length : Int) by omega), if_pos (show 0 ≤ i ∧ i < (s.length : Int) by omega)]
        simp only [Option.bind_some]
        have hv : ∀ v, frR x (i + 1) (s.set i.toNat v) := fun v => ⟨by simpa using hl, fun t ht ht' => by
          rw [li_set _ _ _ _ hi0 (by omega) (by omega), if_neg (by omega)]; exact hs.2 t ht ht'⟩
        refine ih (j + 1) _ (by omega) (by omega) (by omega) (hv _) ?_ ?_
        · rw [li_set _ _ _ _ hi0 (by omega) hi0, if_pos rfl]
          change 1 ≤ li s i at b1
          simp only [li] at b1 hr
          split <;> omega
        · rw [li_set _ _ _ _ hi0 (by omega) hi0, if_pos rfl]
          simp only [li] at b2 hr
          split <;> omega
      · simp only [hc, decide_false, Bool.false_eq_true, if_false, Option.bind_some]
        exact ih (j + 1) s (by omega) (by omega) (by omega) hs b1 b2
    · simp only [hj, decide_false, Bool.false_eq_true, if_false]
      refine ⟨s, rfl, rfl, hs.1, fun t ht ht' => ?_⟩
      by_cases e : t = i
      · subst e; exact ⟨b1, b2⟩
      · exact hs.2 t (by omega) ht'

theorem fr_l2 (x : Col) (hp : x.p ≤ 17) (c : Int) (k : Nat) (hk : 19 ≤ k) : ∀ (k' : Nat) (i : Int) (s : List Int), i < x.p → -1 ≤ i → (i + 1).toNat < k' → frR x (i + 1) s →
    ∃ r, impl_Colouring_ups_l2 k x c k' i s = some r ∧ spec_l10Ups_l0 k x c k' i s = some r ∧ frR x 0 r := by
  intro k'
  induction k' with
  | zero => intro i s _ _ h; omega
  | succ k' ih =>
    intro i s h1 h0 hk' q
    rw [impl_Colouring_ups_l2, spec_l10Ups_l0]
    by_cases hi : 0 ≤ i
    · have hl := q.1
      have hv : frR x (i + 1) (s.set i.toNat 1) := ⟨by simpa using hl, fun t ht ht' => by
        rw [li_set _ _ _ _ hi (by omega) (by omega), if_neg (by omega)]; exact q.2 t ht ht'⟩
      obtain ⟨r, e, e', hr⟩ := fr_l3 x hp c i hi h1 k (i + 1) (s.set i.toNat 1) (by omega) (by omega) (by omega) hv (by rw [li_set _ _ _ _ hi (by omega) hi, if_pos rfl]; omega) (by rw [li_set _ _ _ _ hi (by omega) hi, if_pos rfl]; omega)
      rw [w64_id (show -9223372036854775808 ≤ i + 1 ∧ i + 1 < 9223372036854775808 by omega), w64_id (show -9223372036854775808 ≤ i - 1 ∧ i - 1 < 9223372036854775808 by omega), e, e']
      simp only [hi, decide_true, if_true]
      rw [if_pos (show True ∧ i < (s.length : Int) from ⟨trivial, by omega⟩)]
      exact ih (i - 1) r (by omega) (by omega) (by omega) (by rw [show i - 1 + 1 = i by omega]; exact hr)
    · have : i = -1 := by omega
      subst this
      refine ⟨s, by simp, by simp, ?_⟩
      simpa using q

theorem max_loop (L : List Int) : ∀ (k : Nat) (a i : Int), spec_l10Longest_l0 L k a i = slices_Max_l0 L k a i := by
  intro k
  induction k with
  | zero => intro a i; rfl
  | succ k ih => intro a i; rw [spec_l10Longest_l0, slices_Max_l0]; simp only [ih]

theorem max_fuel (L : List Int) (hL : (L.length : Int) ≤ 1099511627776) : ∀ (d : Nat) (a i : Int), 0 ≤ i → ((L.length : Int) - i).toNat = d → ∃ r, a ≤ r ∧ ∀ k, d < k → slices_Max_l0 L k a i = some r := by
  intro d
  induction d with
  | zero =>
    intro a i h0 h
    refine ⟨a, Int.le_refl _, fun k hk => ?_⟩
    obtain ⟨k, rfl⟩ : ∃ k', k = k' + 1 := ⟨k - 1, by omega⟩
    rw [slices_Max_l0]
    have : ¬ i < (L.length : Int) := by omega
    simp [this]
  | succ d ih =>
    intro a i h0 h
    have hi : i < (L.length : Int) := by omega
    obtain ⟨r, hr, hk⟩ := ih (if a < L.getD i.toNat 0 then L.getD i.toNat 0 else a) (i + 1) (by omega) (by omega)
    refine ⟨r, ?_, fun k hk' => ?_⟩
    · split at hr <;> omega
    · obtain ⟨k, rfl⟩ : ∃ k', k = k' + 1 := ⟨k - 1, by omega⟩
      rw [slices_Max_l0, w64_succ h0 hi (by omega), hk k (by omega)]
      simp [h0, hi]

theorem long_loop (x : Col) (hp : x.p ≤ 17) (c : Int) (f L : List Int) (hL : frR x 0 L) : ∀ (k : Nat) (left i : Int) (out : List Int), 0 ≤ i → i ≤ x.p → 0 ≤ left → left ≤ 1000 → (x.p - i).toNat < k → (out.length : Int) ≤ i → (∀ j : Int, 0 ≤ j → j < out.length → 0 ≤ li out j ∧ li out j < i) →
    ∃ r : List Int, impl_LongestUp_l0 x c (f, L) k left i out = some r ∧ (left = 0 → r = out) ∧ (r.length : Int) ≤ 17 ∧ spec_l10Longest_l1 x c L k left i out = some r := by
  intro k
  induction k with
  | zero => intro left i out _ _ _ _ h; omega
  | succ k ih =>
    intro left i out h0 h1 hl hl2 hk ho hin
    rw [impl_LongestUp_l0, spec_l10Longest_l1]
    have hlen := hL.1
    by_cases hi : i < x.p
    · have hv := hL.2 i h0 hi
      rw [w64_id (show -9223372036854775808 ≤ i + 1 ∧ i + 1 < 9223372036854775808 by omega), w64_id (show -9223372036854775808 ≤ left - 1 ∧ left - 1 < 9223372036854775808 by omega)]
      by_cases hz : left = 0
      · subst hz
        have e0 : ¬ L.getD i.toNat 0 = 0 := by simp only [li] at hv; omega
        obtain ⟨r, e, e1, e2, _⟩ := ih 0 (i + 1) out (by omega) (by omega) (by omega) (by omega) (by omega) (by omega) (fun j g0 g1 => by have := hin j g0 g1; omega)
        have := e1 rfl
        subst this
        refine ⟨r, ?_, fun _ => rfl, e2, ?_⟩
        · simp only [hi, decide_true, if_true]
          rw [if_pos (show 0 ≤ i ∧ i < (L.length : Int) by omega)]
          simp only [e0, decide_false, Bool.false_eq_true, if_false, Option.bind_some]
          exact e
        · simp [letO, hi]
      · have hpos : 0 < left := by omega
        have step : ∀ (b : Bool) (r : List Int), True → True := fun _ _ _ => trivial
        by_cases hm : L.getD i.toNat 0 = left
        · -- the point's number fits
          have hw : -9223372036854775808 ≤ (out.length : Int) - 1 ∧ (out.length : Int) - 1 < 9223372036854775808 := by omega
          rw [w64_id hw]
          by_cases he : (out.length : Int) = 0
          · obtain ⟨r, e, e1, e2, e3⟩ := ih (left - 1) (i + 1) (out ++ [i]) (by omega) (by omega) (by omega) (by omega) (by omega) (by simp; omega) (fun j g0 g1 => by
              have : out = [] := List.eq_nil_of_length_eq_zero (by omega)
              subst this
              have hj : j = 0 := by simp at g1; omega
              subst hj
              simp [li]; omega)
            refine ⟨r, ?_, fun h => (hz h).elim, e2, ?_⟩
            · simp only [hi, decide_true, if_true, hm, he, Option.bind_some]
              rw [if_pos (show 0 ≤ i ∧ i < (L.length : Int) by omega)]
              simp only [Option.bind_some, if_true]
              rw [if_pos (by simp; omega)]
              exact e
            · simp only [letO, hi, hpos, decide_true, if_true, Option.bind_some, hm, he]
              rw [if_pos (show 0 ≤ i ∧ i < (L.length : Int) by omega)]
              simp only [Option.bind_some, if_true]
              rw [if_pos (by simp; omega)]
              exact e3
          · have hlast := hin ((out.length : Int) - 1) (by omega) (by omega)
            rw [implAt_eq x _ i hlast.1 hlast.2 h0 (by omega), specAt_eq x _ i hlast.1 hlast.2 h0 (by omega)]
            by_cases hcc : x.cc (li out ((out.length : Int) - 1)) i = c
            · obtain ⟨r, e, e1, e2, e3⟩ := ih (left - 1) (i + 1) (out ++ [i]) (by omega) (by omega) (by omega) (by omega) (by omega) (by simp; omega) (fun j g0 g1 => by
                unfold li
                by_cases hj : j < out.length
                · rw [getD_app _ _ _ _ (by omega)]
                  have := hin j g0 hj
                  simp only [li] at this; omega
                · rw [getD_app' _ _ _ _ (by omega)]
                  have hj2 : j.toNat - out.length = 0 := by simp at g1; omega
                  rw [hj2]; simp; omega)
              refine ⟨r, ?_, fun h => (hz h).elim, e2, ?_⟩
              · simp only [hi, decide_true, if_true, hm, he, decide_false, Bool.false_eq_true, if_false]
                rw [if_pos (show 0 ≤ i ∧ i < (L.length : Int) by omega), if_pos (show 0 ≤ (out.length : Int) - 1 ∧ (out.length : Int) - 1 < (out.length : Int) by omega)]
                simp only [Option.bind_some, hcc, decide_true, if_true]
                rw [if_pos (by simp; omega)]
                exact e
              · simp only [letO, hi, hpos, decide_true, if_true, Option.bind_some, hm, he, decide_false, Bool.false_eq_true, if_false]
                rw [if_pos (show 0 ≤ i ∧ i < (L.length : Int) by omega), if_pos (show 0 ≤ (out.length : Int) - 1 ∧ (out.length : Int) - 1 < (out.length : Int) by omega)]
                simp only [Option.bind_some, hcc, decide_true, if_true]
                rw [if_pos (by simp; omega)]
                exact e3
            · obtain ⟨r, e, e1, e2, e3⟩ := ih left (i + 1) out (by omega) (by omega) (by omega) (by omega) (by omega) (by omega) (fun j g0 g1 => by have := hin j g0 g1; omega)
              refine ⟨r, ?_, fun h => (hz h).elim, e2, ?_⟩
              · simp only [hi, decide_true, if_true, hm, he, decide_false, Bool.false_eq_true, if_false]
                rw [if_pos (show 0 ≤ i ∧ i < (L.length : Int) by omega), if_pos (show 0 ≤ (out.length : Int) - 1 ∧ (out.length : Int) - 1 < (out.length : Int) by omega)]
                simp only [Option.bind_some, hcc, decide_false, Bool.false_eq_true, if_false]
                exact e
              · simp only [letO, hi, hpos, decide_true, if_true, Option.bind_some, hm, he, decide_false, Bool.false_eq_true, if_false]
                rw [if_pos (show 0 ≤ i ∧ i < (L.length : Int) by omega), if_pos (show 0 ≤ (out.length : Int) - 1 ∧ (out.length : Int) - 1 < (out.length : Int) by omega)]
                simp only [Option.bind_some, hcc, decide_false, Bool.false_eq_true, if_false]
                exact e3
        · obtain ⟨r, e, e1, e2, e3⟩ := ih left (i + 1) out (by omega) (by omega) (by omega) (by omega) (by omega) (by omega) (fun j g0 g1 => by have := hin j g0 g1; omega)
          refine ⟨r, ?_, fun h => (hz h).elim, e2, ?_⟩
          · simp only [hi, decide_true, if_true, hm, decide_false, Bool.false_eq_true, if_false]
            rw [if_pos (show 0 ≤ i ∧ i < (L.length : Int) by omega)]
            exact e
          · simp only [letO, hi, hpos, decide_true, if_true, Option.bind_some, hm, decide_false, Bool.false_eq_true, if_false]
            rw [if_pos (show 0 ≤ i ∧ i < (L.length : Int) by omega)]
            exact e3
    · refine ⟨out, by simp [hi], fun _ => rfl, by omega, by simp [letO, hi]⟩

def bad (x : Col) (c w t y : Int) : Prop := x.cc w t = c ∧ x.cc t y = c ∧ ¬ x.cc w y = c

def closed (x : Col) (c : Int) : Prop := ∀ y t w : Int, y < x.p → t < y → w < t → 0 ≤ w → ¬ bad x c w t y

open Classical in
theorem spec_l10Closed_l2_eq (k : Nat) (x : Col) (hx : x.p ≤ 17) (c y t : Int) (hy : y < x.p) (ht : t < y) (ht0 : 0 ≤ t) : ∀ k', 18 ≤ k' → spec_l10Closed_l2 x c y t k' 0 = some (if ∀ w, 0 ≤ w → w < t → ¬ bad x c w t y then .inl () else .inr (.inr (.inr false))) := by
  intro k' h
  refine loopAll (f := fun k' i => spec_l10Closed_l2 x c y t k' i) t (.inr (.inr false)) (fun w => ¬ bad x c w t y) 0 ?_ ?_ ?_ k' 0 (by omega) (by omega)
  · intro k' w h0 h1 hq
    show spec_l10Closed_l2 x c y t (k' + 1) w = _
    rw [spec_l10Closed_l2, w64_succ h0 h1 (by omega), specAt_eq x w t h0 (by omega) ht0 (by omega), specAt_eq x t y ht0 (by omega) (by omega) (by omega), specAt_eq x w y h0 (by omega) (by omega) (by omega)]
    unfold bad at hq
    by_cases a : x.cc w t = c <;> by_cases b : x.cc t y = c <;> by_cases d : x.cc w y = c <;> simp_all
  · intro k' w h0 h1 hq
    show spec_l10Closed_l2 x c y t (k' + 1) w = _
    rw [spec_l10Closed_l2, specAt_eq x w t h0 (by omega) ht0 (by omega), specAt_eq x t y ht0 (by omega) (by omega) (by omega), specAt_eq x w y h0 (by omega) (by omega) (by omega)]
    unfold bad at hq
    have hq' := Classical.not_not.1 hq
    simp [hq', h1]
  · intro k' w h1
    show spec_l10Closed_l2 x c y t (k' + 1) w = _
    rw [spec_l10Closed_l2]
    have : ¬ w < t := by omega
    simp [this]

open Classical in
theorem spec_l10Closed_l1_eq (k : Nat) (hk : 18 ≤ k) (x : Col) (hx : x.p ≤ 17) (c y : Int) (hy : y < x.p) : ∀ k', 18 ≤ k' → spec_l10Closed_l1 k x c y k' 1 = some (if ∀ t, 1 ≤ t → t < y → ∀ w, 0 ≤ w → w < t → ¬ bad x c w t y then .inl () else .inr (.inr false)) := by
  intro k' h
  refine loopAll (f := fun k' i => spec_l10Closed_l1 k x c y k' i) y (.inr false) (fun t => ∀ w, 0 ≤ w → w < t → ¬ bad x c w t y) 1 ?_ ?_ ?_ k' 1 (by omega) (by omega)
  · intro k' t h0 h1 hq
    show spec_l10Closed_l1 k x c y (k' + 1) t = _
    rw [spec_l10Closed_l1, w64_succ (by omega) h1 (by omega), spec_l10Closed_l2_eq k x hx c y t hy h1 (by omega) k hk, if_pos hq]
    simp [h1]
  · intro k' t h0 h1 hq
    show spec_l10Closed_l1 k x c y (k' + 1) t = _
    rw [spec_l10Closed_l1, spec_l10Closed_l2_eq k x hx c y t hy h1 (by omega) k hk, if_neg hq]
    simp [h1]
  · intro k' t h1
    show spec_l10Closed_l1 k x c y (k' + 1) t = _
    rw [spec_l10Closed_l1]
    have : ¬ t < y := by omega
    simp [this]

open Classical in
theorem spec_l10Closed_eq (k : Nat) (hk : 20 ≤ k) (x : Col) (hx : x.p ≤ 17) (c : Int) : spec_l10Closed k x c = some (decide (closed x c)) := by
  unfold spec_l10Closed
  have := loopAll (f := fun k' i => spec_l10Closed_l0 k x c k' i) x.p false (fun y => ∀ t, 1 ≤ t → t < y → ∀ w, 0 ≤ w → w < t → ¬ bad x c w t y) 2 ?_ ?_ ?_ k 2 (by omega) (by omega)
  · rw [this]
    have e : (∀ y, 2 ≤ y → y < x.p → ∀ t, 1 ≤ t → t < y → ∀ w, 0 ≤ w → w < t → ¬ bad x c w t y) ↔ closed x c := by
      unfold closed
      constructor
      · intro h y t w h1 h2 h3 h4
        exact h y (by omega) h1 t (by omega) h2 w h4 h3
      · intro h y _ h1 t _ h2 w h4 h3
        exact h y t w h1 h2 h3 h4
    by_cases hc : closed x c
    · rw [if_pos (e.2 hc)]; simp [hc]
    · rw [if_neg (fun h => hc (e.1 h))]; simp [hc]
  · intro k' y h0 h1 hq
    show spec_l10Closed_l0 k x c (k' + 1) y = _
    rw [spec_l10Closed_l0, w64_succ (by omega) h1 (by omega), spec_l10Closed_l1_eq k (by omega) x hx c y h1 k (by omega), if_pos hq]
    simp [h1]
  · intro k' y h0 h1 hq
    show spec_l10Closed_l0 k x c (k' + 1) y = _
    rw [spec_l10Closed_l0, spec_l10Closed_l1_eq k (by omega) x hx c y h1 k (by omega), if_neg hq]
    simp [h1]
  · intro k' y h1
    show spec_l10Closed_l0 k x c (k' + 1) y = _
    rw [spec_l10Closed_l0]
    have : ¬ y < x.p := by omega
    simp [this]

open Classical in
theorem impl_Colouring_isClosedColour_l2_eq (k : Nat) (x : Col) (hx : x.p ≤ 17) (c y t : Int) (hy : y < x.p) (ht : t < y) (ht0 : 0 ≤ t) : ∀ k', 18 ≤ k' → impl_Colouring_isClosedColour_l2 x c y t k' 0 = some (if ∀ w, 0 ≤ w → w < t → ¬ bad x c w t y then .inl () else .inr (.inr (.inr false))) := by
  intro k' h
  refine loopAll (f := fun k' i => impl_Colouring_isClosedColour_l2 x c y t k' i) t (.inr (.inr false)) (fun w => ¬ bad x c w t y) 0 ?_ ?_ ?_ k' 0 (by omega) (by omega)
  · intro k' w h0 h1 hq
    show impl_Colouring_isClosedColour_l2 x c y t (k' + 1) w = _
    rw [impl_Colouring_isClosedColour_l2, w64_succ h0 h1 (by omega), implAt_eq x w t h0 (by omega) ht0 (by omega), implAt_eq x t y ht0 (by omega) (by omega) (by omega), implAt_eq x w y h0 (by omega) (by omega) (by omega)]
    unfold bad at hq
    by_cases a : x.cc w t = c <;> by_cases b : x.cc t y = c <;> by_cases d : x.cc w y = c <;> simp_all
  · intro k' w h0 h1 hq
    show impl_Colouring_isClosedColour_l2 x c y t (k' + 1) w = _
    rw [impl_Colouring_isClosedColour_l2, implAt_eq x w t h0 (by omega) ht0 (by omega), implAt_eq x t y ht0 (by omega) (by omega) (by omega), implAt_eq x w y h0 (by omega) (by omega) (by omega)]
    unfold bad at hq
    have hq' := Classical.not_not.1 hq
    simp [hq', h1]
  · intro k' w h1
    show impl_Colouring_isClosedColour_l2 x c y t (k' + 1) w = _
    rw [impl_Colouring_isClosedColour_l2]
    have : ¬ w < t := by omega
    simp [this]

open Classical in
theorem impl_Colouring_isClosedColour_l1_eq (k : Nat) (hk : 18 ≤ k) (x : Col) (hx : x.p ≤ 17) (c y : Int) (hy : y < x.p) : ∀ k', 18 ≤ k' → impl_Colouring_isClosedColour_l1 k x c y k' 0 = some (if ∀ t, 0 ≤ t → t < y → ∀ w, 0 ≤ w → w < t → ¬ bad x c w t y then .inl () else .inr (.inr false)) := by
  intro k' h
  refine loopAll (f := fun k' i => impl_Colouring_isClosedColour_l1 k x c y k' i) y (.inr false) (fun t => ∀ w, 0 ≤ w → w < t → ¬ bad x c w t y) 0 ?_ ?_ ?_ k' 0 (by omega) (by omega)
  · intro k' t h0 h1 hq
    show impl_Colouring_isClosedColour_l1 k x c y (k' + 1) t = _
    rw [impl_Colouring_isClosedColour_l1, w64_succ (by omega) h1 (by omega), impl_Colouring_isClosedColour_l2_eq k x hx c y t hy h1 (by omega) k hk, if_pos hq]
    simp [h1]
  · intro k' t h0 h1 hq
    show impl_Colouring_isClosedColour_l1 k x c y (k' + 1) t = _
    rw [impl_Colouring_isClosedColour_l1, impl_Colouring_isClosedColour_l2_eq k x hx c y t hy h1 (by omega) k hk, if_neg hq]
    simp [h1]
  · intro k' t h1
    show impl_Colouring_isClosedColour_l1 k x c y (k' + 1) t = _
    rw [impl_Colouring_isClosedColour_l1]
    have : ¬ t < y := by omega
    simp [this]

open Classical in
theorem impl_Colouring_isClosedColour_eq (k : Nat) (hk : 20 ≤ k) (x : Col) (hx : x.p ≤ 17) (c : Int) : impl_Colouring_isClosedColour k x c = some (decide (closed x c)) := by
  unfold impl_Colouring_isClosedColour
  have := loopAll (f := fun k' i => impl_Colouring_isClosedColour_l0 k x c k' i) x.p false (fun y => ∀ t, 0 ≤ t → t < y → ∀ w, 0 ≤ w → w < t → ¬ bad x c w t y) 0 ?_ ?_ ?_ k 0 (by omega) (by omega)
  · rw [this]
    have e : (∀ y, 0 ≤ y → y < x.p → ∀ t, 0 ≤ t → t < y → ∀ w, 0 ≤ w → w < t → ¬ bad x c w t y) ↔ closed x c := by
      unfold closed
      constructor
      · intro h y t w h1 h2 h3 h4
        exact h y (by omega) h1 t (by omega) h2 w h4 h3
      · intro h y _ h1 t _ h2 w h4 h3
        exact h y t w h1 h2 h3 h4
    by_cases hc : closed x c
    · rw [if_pos (e.2 hc)]; simp [hc]
    · rw [if_neg (fun h => hc (e.1 h))]; simp [hc]
  · intro k' y h0 h1 hq
    show impl_Colouring_isClosedColour_l0 k x c (k' + 1) y = _
    rw [impl_Colouring_isClosedColour_l0, w64_succ (by omega) h1 (by omega), impl_Colouring_isClosedColour_l1_eq k (by omega) x hx c y h1 k (by omega), if_pos hq]
    simp [h1]
  · intro k' y h0 h1 hq
    show impl_Colouring_isClosedColour_l0 k x c (k' + 1) y = _
    rw [impl_Colouring_isClosedColour_l0, impl_Colouring_isClosedColour_l1_eq k (by omega) x hx c y h1 k (by omega), if_neg hq]
    simp [h1]
  · intro k' y h1
    show impl_Colouring_isClosedColour_l0 k x c (k' + 1) y = _
    rw [impl_Colouring_isClosedColour_l0]
    have : ¬ y < x.p := by omega
    simp [this]

def MInv (n : Nat) (g : Nat → Nat → UInt8) (j i : Nat) (x : B136) : Prop :=
  (∀ a b, a < b → b < n → x.get (eN a b) = if b < j ∨ (b = j ∧ a < i) then g a b else 0) ∧ ∀ e, tri n ≤ e → e < 136 → x.get e = 0

theorem MInv.start (n : Nat) (g : Nat → Nat → UInt8) : MInv n g 0 0 B136.zero :=
  ⟨fun a b h hb => by rw [B136.get_zero, if_neg (by omega)], fun e _ _ => B136.get_zero e⟩

theorem MInv.row {n : Nat} {g : Nat → Nat → UInt8} {j : Nat} {x : B136} (h : MInv n g j j x) : MInv n g (j + 1) 0 x := by
  refine ⟨fun a b ha hb => ?_, h.2⟩
  rw [h.1 a b ha hb]
  by_cases hc : b < j ∨ (b = j ∧ a < j)
  · rw [if_pos hc, if_pos (by omega)]
  · rw [if_neg hc, if_neg (by omega)]

theorem MInv.step {n : Nat} {g : Nat → Nat → UInt8} {j i : Nat} {x : B136} (hn : n ≤ 17) (h : MInv n g j i x) (hj : j < n) (hi : i < j) : MInv n g j (i + 1) (x.set (eN i j) (g i j)) := by
  have h136 := eN_136 (i := i) (j := j) (by omega) (by omega) (by omega)
  refine ⟨fun a b ha hb => ?_, fun e he h1 => ?_⟩
  · rw [B136.get_set _ _ _ _ h136]
    by_cases e : eN a b = eN i j
    · obtain ⟨rfl, rfl⟩ := eN_inj ha (by omega) hi (by omega) e
      rw [if_pos rfl, if_pos (by omega)]
    · rw [if_neg e, h.1 a b ha hb]
      by_cases hc : b < j ∨ (b = j ∧ a < i)
      · rw [if_pos hc, if_pos (by omega)]
      · have : ¬ (a = i ∧ b = j) := fun ⟨x, y⟩ => e (by rw [x, y])
        rw [if_neg hc, if_neg (by omega)]
  · have := eN_lt hi hj hn
    rw [B136.get_set _ _ _ _ h136, if_neg (by omega), h.2 e he h1]

theorem MInv.keep {n : Nat} {g : Nat → Nat → UInt8} {j i : Nat} {x : B136} (hn : n ≤ 17) (h : MInv n g j i x) (hj : j < n) (hi : i < j) (h0 : g i j = 0) : MInv n g j (i + 1) x := by
  have := MInv.step hn h hj hi
  have e : x.get (eN i j) = g i j := by rw [h.1 i j hi hj, if_neg (by omega), h0]
  rwa [← e, B136.set_get] at this

/-- A colouring with these colours between the points and nothing behind them. -/
structure Made (x : Col) (n k : Int) (g : Nat → Nat → UInt8) : Prop where
  p : x.p = n
  k : x.k = k
  e : ∀ a b : Nat, a < b → (b : Int) < n → x.e.get (eN a b) = g a b
  z : ∀ e, tri n.toNat ≤ e → e < 136 → x.e.get e = 0

theorem MInv.made {n : Nat} {g : Nat → Nat → UInt8} {x : Col} {k : Int} (h : MInv n g n 0 x.e) (hp : x.p = n) (hk : x.k = k) : Made x n k g :=
  ⟨hp, hk, fun a b ha hb => by rw [h.1 a b ha (by omega), if_pos (by omega)], fun e he h1 => h.2 e (by simpa using he) h1⟩

theorem Made.eq {x y : Col} {n k : Int} {g g' : Nat → Nat → UInt8} (hn0 : 0 ≤ n) (hn : n ≤ 17) (h : Made x n k g) (h' : Made y n k g') (hg : ∀ a b : Nat, a < b → (b : Int) < n → g a b = g' a b) : x = y := by
  refine Col.ext' (by rw [h.p, h'.p]) (by rw [h.k, h'.k]) (B136.ext_get fun e he => ?_)
  by_cases ht : e < tri n.toNat
  · obtain ⟨j, hj, i, hi, rfl⟩ := eN_surj (n := n.toNat) (by omega) ht
    rw [h.e i j hi (by omega), h'.e i j hi (by omega), hg i j hi (by omega)]
  · rw [h.z e (by omega) he, h'.z e (by omega) he]

theorem made_l1 (f : Int → Int → Option Int) (n : Nat) (hn : n ≤ 17) (g : Nat → Nat → Int) (j : Nat) (hj : j < n) (hf : ∀ i : Nat, i < j → f i j = some (g i j)) (p c : Int) :
    ∀ k, 18 ≤ k → ∀ x : Col, x.p = p → x.k = c → MInv n (fun a b => toByte (g a b)) j 0 x.e → ∃ y : Col, impl_made_l1 f (j : Int) k 0 x = some y ∧ y.p = p ∧ y.k = c ∧ MInv n (fun a b => toByte (g a b)) j j y.e := by
  intro k hk x hp hc hx
  refine loopI (f := fun k i s => impl_made_l1 f (j : Int) k i s) (j : Int) 0 (fun i s => s.p = p ∧ s.k = c ∧ MInv n (fun a b => toByte (g a b)) j i.toNat s.e ∧ i ≤ j) (fun y => y.p = p ∧ y.k = c ∧ MInv n (fun a b => toByte (g a b)) j j y.e) ?_ ?_ k 0 x (by omega) (by omega) ⟨hp, hc, hx, by omega⟩
  · intro k i s h0 h1 ⟨q1, q2, q3, _⟩
    left
    obtain ⟨m, rfl⟩ := nat_of h0
    refine ⟨s.set (eN m j) (toByte (g m j)), ?_, q1, q2, ?_, by omega⟩
    · show impl_made_l1 f (j : Int) (k + 1) m s = _
      rw [impl_made_l1, hf m (by omega), w64_succ h0 h1 (by omega)]
      unfold impl_Colouring_put
      rw [number_eq m j (by omega) (by omega)]
      have := eN_136 (i := m) (j := j) (by omega) (by omega) (by omega)
      have h136 : ((eN m j : Nat) : Int) < 136 := by omega
      have hmj : m < j := by omega
      simp [hmj, this, h136]
    · have := MInv.step hn q3 hj (show m < j by omega)
      exact this
  · intro k i s h0 h1 ⟨q1, q2, q3, q4⟩
    have : i = j := by omega
    subst this
    refine ⟨s, ?_, q1, q2, q3⟩
    show impl_made_l1 f (j : Int) (k + 1) j s = _
    rw [impl_made_l1]; simp

theorem made_eq (f : Int → Int → Option Int) (n : Int) (hn0 : 0 ≤ n) (hn : n ≤ 17) (g : Nat → Nat → Int) (hf : ∀ i j : Nat, i < j → (j : Int) < n → f i j = some (g i j)) (c : Int) :
    ∀ k, 19 ≤ k → ∃ y : Col, impl_made k n c f = some y ∧ Made y n c (fun a b => toByte (g a b)) := by
  intro k hk
  obtain ⟨n, rfl⟩ := nat_of hn0
  unfold impl_made
  have := loopI (f := fun k' i s => impl_made_l0 k n f k' i s) (n : Int) 0 (fun i (s : Col) => s.p = n ∧ s.k = c ∧ MInv n (fun a b => toByte (g a b)) i.toNat 0 s.e ∧ i ≤ n) (fun y => Made y n c (fun a b => toByte (g a b))) ?_ ?_ k 0 (⟨n, c, B136.zero⟩ : Col) (by omega) (by omega) ⟨rfl, rfl, MInv.start _ _, by omega⟩
  · obtain ⟨y, e, h⟩ := this
    exact ⟨y, by rw [e]; rfl, h⟩
  · intro k' i s h0 h1 ⟨q1, q2, q3, _⟩
    left
    obtain ⟨j, rfl⟩ := nat_of h0
    obtain ⟨y, e, h1', h2', h3'⟩ := made_l1 f n (by omega) g j (by omega) (fun i hi => hf i j hi h1) n c k (by omega) s q1 q2 q3
    refine ⟨y, ?_, h1', h2', MInv.row h3', by omega⟩
    show impl_made_l0 k n f (k' + 1) j s = _
    rw [impl_made_l0, e, w64_succ h0 h1 (by omega)]
    have : j < n := by omega
    simp [this]
  · intro k' i s h0 h1 ⟨q1, q2, q3, q4⟩
    have : i = n := by omega
    subst this
    refine ⟨s, ?_, MInv.made q3 q1 q2⟩
    show impl_made_l0 k n f (k' + 1) n s = _
    rw [impl_made_l0]; simp

def seqG (l : List Int) (i j : Nat) : UInt8 := if l.getD i 0 < l.getD j 0 then 0 else 1

def dist (l : List Int) : Prop := ∀ a b : Nat, a < b → b < l.length → l.getD a 0 ≠ l.getD b 0

theorem specSeq_l1 (l : List Int) (hn : l.length ≤ 17) (j : Nat) (hj : j < l.length) (z : Col) (p c : Int) : ∀ k, 18 ≤ k → ∀ x : Col, x.p = p → x.k = c → MInv l.length (seqG l) j 0 x.e →
    ∃ r, spec_SequenceColouring_l1 l j k 0 z x = some r ∧ (((∀ a, a < j → l.getD a 0 ≠ l.getD j 0) ∧ ∃ y : Col, r = .inl (z, y) ∧ y.p = p ∧ y.k = c ∧ MInv l.length (seqG l) j j y.e) ∨
      (∃ a, a < j ∧ l.getD a 0 = l.getD j 0) ∧ r = .inr (.inr (Col.zero, 2))) := by
  intro k hk x hp hc hx
  refine loopI (f := fun k i (s : Col) => spec_SequenceColouring_l1 l j k i z s) (j : Int) 0 (fun i (s : Col) => s.p = p ∧ s.k = c ∧ MInv l.length (seqG l) j i.toNat s.e ∧ i ≤ j ∧ ∀ a, a < i.toNat → l.getD a 0 ≠ l.getD j 0) _ ?_ ?_ k 0 x (by omega) (by omega) ⟨hp, hc, hx, by omega, fun a h => by omega⟩
  · intro k i s h0 h1 ⟨q1, q2, q3, _, q5⟩
    obtain ⟨m, rfl⟩ := nat_of h0
    have hm : (m : Int) < (l.length : Int) := by omega
    have hm' : m < l.length := by omega
    have hmj : m < j := by omega
    have hj2 : (j : Int) < (l.length : Int) := by omega
    by_cases e : l.getD m 0 = l.getD j 0
    · right
      refine ⟨_, ?_, .inr ⟨⟨m, hmj, e⟩, rfl⟩⟩
      show spec_SequenceColouring_l1 l j (k + 1) m z s = _
      rw [spec_SequenceColouring_l1]
      simp only [Int.toNat_natCast, e]
      simp [h1, hm, hj2, hmj, hm', hj]
      rfl
    · left
      have h136 := eN_136 (i := m) (j := j) (by omega) (by omega) (by omega)
      have h136' : ((eN m j : Nat) : Int) < 136 := by omega
      by_cases lt : l.getD j 0 < l.getD m 0
      · refine ⟨s.set (eN m j) 1, ?_, q1, q2, ?_, by omega, ?_⟩
        · show spec_SequenceColouring_l1 l j (k + 1) m z s = _
          rw [spec_SequenceColouring_l1, w64_succ h0 h1 (by omega), edge_eq m j (by omega) (by omega)]
          simp only [Int.toNat_natCast]
          simp [h1, hm, hj2, hmj, hm', hj, h136, h136', -List.getD_eq_getElem?_getD, e, lt]
        · have := MInv.step hn q3 hj hmj
          have e1 : seqG l m j = 1 := by unfold seqG; rw [if_neg (by omega)]
          simp only [Int.toNat_natCast] at this
          rw [e1] at this
          exact this
        · intro a ha
          by_cases h : a = m
          · subst h; exact e
          · exact q5 a (by omega)
      · refine ⟨s, ?_, q1, q2, ?_, by omega, ?_⟩
        · show spec_SequenceColouring_l1 l j (k + 1) m z s = _
          rw [spec_SequenceColouring_l1, w64_succ h0 h1 (by omega), edge_eq m j (by omega) (by omega)]
          simp only [Int.toNat_natCast]
          simp [h1, hm, hj2, hmj, hm', hj, h136, h136', -List.getD_eq_getElem?_getD, e, lt]
        · have e1 : seqG l m j = 0 := by unfold seqG; rw [if_pos (by omega)]
          exact MInv.keep hn q3 hj hmj e1
        · intro a ha
          by_cases h : a = m
          · subst h; exact e
          · exact q5 a (by omega)
  · intro k i s h0 h1 ⟨q1, q2, q3, q4, q5⟩
    have : i = j := by omega
    subst this
    refine ⟨_, ?_, .inl ⟨q5, s, rfl, q1, q2, q3⟩⟩
    show spec_SequenceColouring_l1 l j (k + 1) j z s = _
    rw [spec_SequenceColouring_l1]; simp

theorem specSeq (l : List Int) (hn1 : 1 ≤ l.length) (hn : l.length ≤ 17) (k : Nat) (hk : 20 ≤ k) :
    ∃ r, spec_SequenceColouring k l = some r ∧ ((dist l ∧ r.2 = 0 ∧ Made r.1 l.length 2 (seqG l)) ∨ (¬ dist l ∧ r = (Col.zero, 2))) := by
  unfold spec_SequenceColouring
  rw [specIn_eq, decide_eq_true (by omega)]
  simp only [Bool.not_true, Bool.false_eq_true, if_false]
  have := loopI (f := fun k' i (s : Col) => spec_SequenceColouring_l0 k l k' i Col.zero s) (l.length : Int) 1
    (fun i (s : Col) => s.p = l.length ∧ s.k = 2 ∧ MInv l.length (seqG l) i.toNat 0 s.e ∧ i ≤ l.length ∧ ∀ a b : Nat, a < b → b < i.toNat → l.getD a 0 ≠ l.getD b 0)
    (fun r => (dist l ∧ ∃ y : Col, r = .inl (Col.zero, y) ∧ Made y l.length 2 (seqG l)) ∨ (¬ dist l ∧ r = .inr (Col.zero, 2))) ?_ ?_ k 1 (⟨(l.length : Int), 2, B136.zero⟩ : Col) (by omega) (by omega)
    ⟨rfl, rfl, MInv.row (MInv.start _ _), by omega, fun a b h h' => by simp at h'; omega⟩
  · obtain ⟨r, e, h⟩ := this
    rw [e]
    rcases h with ⟨hd, y, rfl, hm⟩ | ⟨hd, rfl⟩
    · exact ⟨_, rfl, .inl ⟨hd, rfl, hm⟩⟩
    · exact ⟨_, rfl, .inr ⟨hd, rfl⟩⟩
  · intro k' i s h0 h1 ⟨q1, q2, q3, _, q5⟩
    obtain ⟨j, rfl⟩ := nat_of (show 0 ≤ i by omega)
    obtain ⟨r, e, h⟩ := specSeq_l1 l hn j (by omega) Col.zero l.length 2 k (by omega) s q1 q2 q3
    rcases h with ⟨hd, y, rfl, p1, p2, p3⟩ | ⟨⟨a, ha, hea⟩, rfl⟩
    · left
      refine ⟨y, ?_, p1, p2, MInv.row p3, by omega, ?_⟩
      · show spec_SequenceColouring_l0 k l (k' + 1) j Col.zero s = _
        rw [spec_SequenceColouring_l0, e, w64_succ (by omega) h1 (by omega)]
        have : j < l.length := by omega
        simp [this]
      · intro a b hab hb
        by_cases hbj : b = j
        · subst hbj; exact hd a hab
        · exact q5 a b hab (by omega)
    · right
      refine ⟨.inr (Col.zero, 2), ?_, .inr ⟨fun hd => hd a j ha (by omega) hea, rfl⟩⟩
      show spec_SequenceColouring_l0 k l (k' + 1) j Col.zero s = _
      rw [spec_SequenceColouring_l0, e]
      have : j < l.length := by omega
      simp [this]
  · intro k' i s h0 h1 ⟨q1, q2, q3, q4, q5⟩
    have : i = l.length := by omega
    subst this
    refine ⟨.inl (Col.zero, s), ?_, .inl ⟨fun a b hab hb => q5 a b hab (by simpa using hb), s, rfl, MInv.made q3 q1 q2⟩⟩
    show spec_SequenceColouring_l0 k l (k' + 1) l.length Col.zero s = _
    rw [spec_SequenceColouring_l0]; simp

open Classical in
theorem index_eq (k : Nat) (l : List Int) (v : Int) (h : l.length + 1 ≤ k) (hl : (l.length : Int) ≤ 1099511627776) : slices_Contains k l v = some (decide (∃ a, a < l.length ∧ l.getD a 0 = v)) := by
  unfold slices_Contains slices_Index
  have := loopI (f := fun k' i (_ : Unit) => slices_Index_l0 l v k' i) (l.length : Int) 0 (fun i _ => ∀ a, a < i.toNat → l.getD a 0 ≠ v)
    (fun r => ((∃ a, a < l.length ∧ l.getD a 0 = v) ∧ ∃ i, r = .inr i ∧ 0 ≤ i) ∨ (¬ (∃ a, a < l.length ∧ l.getD a 0 = v)) ∧ r = .inl ()) ?_ ?_ k 0 () (by omega) (by omega) (fun a h => by omega)
  · obtain ⟨r, e, h⟩ := this
    rw [e]
    rcases h with ⟨hd, i, rfl, hi⟩ | ⟨hd, rfl⟩
    · simp [hi, -List.getD_eq_getElem?_getD, hd]
    · simp [-List.getD_eq_getElem?_getD, hd]
  · intro k' i _ h0 h1 hq
    obtain ⟨m, rfl⟩ := nat_of h0
    have hm : m < l.length := by omega
    by_cases e : v = l.getD m 0
    · right
      refine ⟨.inr m, ?_, .inl ⟨⟨m, hm, e.symm⟩, m, rfl, h0⟩⟩
      show slices_Index_l0 l v (k' + 1) m = _
      rw [slices_Index_l0]
      simp [hm, -List.getD_eq_getElem?_getD, ← e]
    · left
      refine ⟨(), ?_, ?_⟩
      · show slices_Index_l0 l v (k' + 1) m = _
        rw [slices_Index_l0, w64_succ h0 h1 (by omega)]
        simp [hm, -List.getD_eq_getElem?_getD, e]
      · intro a ha
        by_cases h : a = m
        · subst h; exact fun h => e h.symm
        · exact hq a (by omega)
  · intro k' i _ h0 h1 hq
    refine ⟨.inl (), ?_, .inr ⟨fun ⟨a, ha, he⟩ => hq a (by omega) he, rfl⟩⟩
    show slices_Index_l0 l v (k' + 1) i = _
    rw [slices_Index_l0]
    have : ¬ i < (l.length : Int) := by omega
    simp [this]

theorem implSeq (l : List Int) (hn1 : 1 ≤ l.length) (hn : l.length ≤ 17) (k : Nat) (hk : 20 ≤ k) :
    ∃ r, impl_SequenceColouring k l = some r ∧ ((dist l ∧ r.2 = 0 ∧ Made r.1 l.length 2 (seqG l)) ∨ (¬ dist l ∧ r = (Col.zero, 2))) := by
  classical
  unfold impl_SequenceColouring impl_size
  rw [in_eq, decide_eq_true (by omega)]
  simp only [Bool.not_true, Bool.false_eq_true, if_false]
  have := loopI (f := fun k' i (_ : Unit) => impl_SequenceColouring_l0 k l k' i Col.zero) (l.length : Int) 0
    (fun i _ => ∀ a b : Nat, a < b → b < i.toNat → l.getD a 0 ≠ l.getD b 0)
    (fun r => (dist l ∧ r = .inl Col.zero) ∨ (¬ dist l ∧ r = .inr (Col.zero, 2))) ?_ ?_ k 0 () (by omega) (by omega) (fun a b _ h => by simp at h)
  · obtain ⟨r, e, h⟩ := this
    rw [e]
    rcases h with ⟨hd, rfl⟩ | ⟨hd, rfl⟩
    · obtain ⟨y, ey, hy⟩ := made_eq (fun a0 a1 => impl_SequenceColouring_c1 a0 a1 l) l.length (by omega) (by omega) (fun i j => if l.getD i 0 < l.getD j 0 then 0 else 1) (fun i j hij hj => by
        unfold impl_SequenceColouring_c1
        rw [if_pos (by omega), if_pos (by omega)]
        simp only [Int.toNat_natCast]
        by_cases h : l.getD i 0 < l.getD j 0
        · simp only [h, decide_true, if_true]
        · simp only [h, decide_false, Bool.false_eq_true, if_false]) 2 k (by omega)
      refine ⟨(y, 0), ?_, .inl ⟨hd, rfl, ?_⟩⟩
      · simp only [Option.bind_some]
        rw [ey]; rfl
      · refine ⟨hy.p, hy.k, fun a b ha hb => ?_, hy.z⟩
        rw [hy.e a b ha hb]
        unfold seqG
        by_cases h : l.getD a 0 < l.getD b 0
        · simp only [h, if_true]; rfl
        · simp only [h, if_false]; rfl
    · exact ⟨_, rfl, .inr ⟨hd, rfl⟩⟩
  · intro k' i _ h0 h1 hq
    obtain ⟨m, rfl⟩ := nat_of h0
    have hm : m < l.length := by omega
    have htl : ((l.take m).drop 0).length = m := by simp; omega
    have hidx := index_eq k ((l.take m).drop 0) (l.getD m 0) (by omega) (by omega)
    have hiff : (∃ a, a < ((l.take m).drop 0).length ∧ ((l.take m).drop 0).getD a 0 = l.getD m 0) ↔ ∃ a, a < m ∧ l.getD a 0 = l.getD m 0 := by
      rw [htl]
      refine exists_congr fun a => and_congr_right fun ha => ?_
      simp [List.getD, List.getElem?_take, ha]
    by_cases hc : ∃ a, a < m ∧ l.getD a 0 = l.getD m 0
    · right
      refine ⟨.inr (Col.zero, 2), ?_, .inr ⟨fun hd => by obtain ⟨a, ha, he⟩ := hc; exact hd a m ha hm he, rfl⟩⟩
      show impl_SequenceColouring_l0 k l (k' + 1) m Col.zero = _
      rw [impl_SequenceColouring_l0]
      simp only [Int.toNat_natCast]
      rw [hidx, decide_eq_true (hiff.2 hc)]
      have h2 : (m : Int) ≤ (l.length : Int) := by omega
      simp [h1, h2, hm]
      rfl
    · left
      refine ⟨(), ?_, ?_⟩
      · show impl_SequenceColouring_l0 k l (k' + 1) m Col.zero = _
        rw [impl_SequenceColouring_l0, w64_succ h0 h1 (by omega)]
        simp only [Int.toNat_natCast]
        rw [hidx, decide_eq_false (fun h => hc (hiff.1 h))]
        have h2 : m ≤ l.length := by omega
        simp [h1, h2, hm]
      · intro a b hab hb
        by_cases h : b = m
        · subst h; exact fun he => hc ⟨a, hab, he⟩
        · exact hq a b hab (by omega)
  · intro k' i _ h0 h1 hq
    refine ⟨.inl Col.zero, ?_, .inl ⟨fun a b hab hb => hq a b hab (by omega), rfl⟩⟩
    show impl_SequenceColouring_l0 k l (k' + 1) i Col.zero = _
    rw [impl_SequenceColouring_l0]
    have : ¬ i < (l.length : Int) := by omega
    simp [this]

theorem cc_comm (x : Col) (i j : Int) : x.cc i j = x.cc j i := by unfold Col.cc; rw [eN_comm]

theorem implAt_ne (x : Col) (i j : Int) (h0 : 0 ≤ i) (h1 : i < 17) (hj : 0 ≤ j) (hj' : j < 17) (h : i ≠ j) : impl_Colouring_at x i j = some (x.cc i j) := by
  unfold impl_Colouring_at
  rw [number_eq i j (by omega) (by omega)]
  have := eN_136 (i := i.toNat) (j := j.toNat) (by omega) (by omega) (by omega)
  rw [if_pos (by omega)]
  rfl

/-- Whether the number at j is less than that at i. -/
def less (x : Col) (i j : Int) : Bool := if j < i then decide (x.cc j i = 0) else if i < j then decide (x.cc i j = 1) else false

def lessN (x : Col) (i : Int) : Nat → Int
  | 0 => 0
  | j + 1 => if less x i j then lessN x i j + 1 else lessN x i j

theorem lessN_range (x : Col) (i : Int) (j : Nat) : 0 ≤ lessN x i j ∧ lessN x i j ≤ j := by
  induction j with
  | zero => simp [lessN]
  | succ j ih => unfold lessN; split <;> omega

def ordL (x : Col) : Nat → List Int
  | 0 => []
  | i + 1 => ordL x i ++ [lessN x i x.p.toNat]

theorem ordL_length (x : Col) (i : Nat) : (ordL x i).length = i := by
  induction i with
  | zero => rfl
  | succ i ih => simp [ordL, ih]

theorem specOrd_l1 (x : Col) (hp : 1 ≤ x.p ∧ x.p ≤ 17) (i : Int) (hi0 : 0 ≤ i) (hi : i < x.p) (k : Nat) (hk : 18 ≤ k) : spec_OrderOf_l1 x i k 0 0 = some (lessN x i x.p.toNat) := by
  have := loopI (f := fun k j (s : Int) => spec_OrderOf_l1 x i k s j) x.p 0 (fun j s => s = lessN x i j.toNat ∧ j ≤ x.p) (fun r => r = lessN x i x.p.toNat) ?_ ?_ k 0 0 (by omega) (by omega) ⟨rfl, by omega⟩
  · obtain ⟨r, e, rfl⟩ := this; exact e
  · intro k j s h0 h1 ⟨q, _⟩
    left
    obtain ⟨j, rfl⟩ := nat_of h0
    simp only [Int.toNat_natCast] at q
    subst q
    refine ⟨lessN x i (j + 1), ?_, by rw [show ((j : Int) + 1).toNat = j + 1 by omega], by omega⟩
    show spec_OrderOf_l1 x i (k + 1) (lessN x i j) j = _
    have hr := lessN_range x i j
    rw [spec_OrderOf_l1, w64_succ h0 h1 (by omega), w64_id (show -9223372036854775808 ≤ lessN x i j + 1 ∧ lessN x i j + 1 < 9223372036854775808 by omega)]
    simp only [h1, decide_true, if_true]
    by_cases a : (j : Int) < i
    · have b : ¬ i < (j : Int) := by omega
      rw [specAt_eq x j i h0 a hi0 (by omega)]
      by_cases c : x.cc j i = 0
      · have e : less x i j = true := by simp [less, a, c]
        simp [a, c, lessN, e]
      · have e : less x i j = false := by simp [less, a, c]
        simp [a, b, c, lessN, e]
    · by_cases b : i < (j : Int)
      · rw [specAt_eq x i j hi0 b h0 (by omega)]
        by_cases c : x.cc i j = 1
        · have e : less x i j = true := by simp [less, a, b, c]
          simp [a, b, c, lessN, e]
        · have e : less x i j = false := by simp [less, a, b, c]
          simp [a, b, c, lessN, e]
      · have e : less x i j = false := by simp [less, a, b]
        simp [a, b, lessN, e]
  · intro k j s h0 h1 ⟨q, q2⟩
    have : j = x.p := by omega
    subst this
    refine ⟨_, ?_, q⟩
    show spec_OrderOf_l1 x i (k + 1) s x.p = _
    rw [spec_OrderOf_l1]; simp

theorem specOrd_l0 (x : Col) (hp : 1 ≤ x.p ∧ x.p ≤ 17) (k : Nat) (hk : 20 ≤ k) : spec_OrderOf_l0 k x k 0 [] = some (ordL x x.p.toNat) := by
  have := loopI (f := fun k' i (s : List Int) => spec_OrderOf_l0 k x k' i s) x.p 0 (fun i s => s = ordL x i.toNat ∧ i ≤ x.p) (fun r => r = ordL x x.p.toNat) ?_ ?_ k 0 [] (by omega) (by omega) ⟨rfl, by omega⟩
  · obtain ⟨r, e, rfl⟩ := this; exact e
  · intro k' i s h0 h1 ⟨q, _⟩
    left
    obtain ⟨j, rfl⟩ := nat_of h0
    simp only [Int.toNat_natCast] at q
    subst q
    refine ⟨ordL x (j + 1), ?_, by rw [show ((j : Int) + 1).toNat = j + 1 by omega], by omega⟩
    show spec_OrderOf_l0 k x (k' + 1) j (ordL x j) = _
    rw [spec_OrderOf_l0, w64_succ h0 h1 (by omega), specOrd_l1 x hp j h0 h1 k (by omega)]
    simp only [h1, decide_true, if_true, Option.bind_some, ordL_length, List.length_singleton]
    rw [if_pos (by omega)]
    rfl
  · intro k' i s h0 h1 ⟨q, q2⟩
    have : i = x.p := by omega
    subst this
    refine ⟨_, ?_, q⟩
    show spec_OrderOf_l0 k x (k' + 1) x.p s = _
    rw [spec_OrderOf_l0]; simp

theorem ordC (x : Col) (hp : x.p ≤ 17) (i j : Int) (hi0 : 0 ≤ i) (hi : i < x.p) (hj0 : 0 ≤ j) (hj : j < x.p) : impl_OrderOf_c1 j i x = some (less x i j) := by
  unfold impl_OrderOf_c1
  by_cases a : j < i
  · have b : ¬ i < j := by omega
    rw [implAt_ne x i j hi0 (by omega) hj0 (by omega) (by omega), cc_comm x i j]
    by_cases c : x.cc j i = 0 <;> simp [less, a, b, c]
  · by_cases b : i < j
    · rw [implAt_ne x i j hi0 (by omega) hj0 (by omega) (by omega)]
      by_cases c : x.cc i j = 1 <;> simp [less, a, b, c]
    · simp [less, a, b]

theorem that_len (x : Col) (hp : 1 ≤ x.p ∧ x.p ≤ 17) (i : Int) (hi0 : 0 ≤ i) (hi : i < x.p) (k : Nat) (hk : 18 ≤ k) : ∃ r, impl_Colouring_that k x (fun a0 => impl_OrderOf_c1 a0 i x) = some r ∧ (r.length : Int) = lessN x i x.p.toNat := by
  unfold impl_Colouring_that
  have := loopI (f := fun k j (s : List Int) => impl_Colouring_that_l0 x (fun a0 => impl_OrderOf_c1 a0 i x) k j s) x.p 0 (fun j s => (s.length : Int) = lessN x i j.toNat ∧ j ≤ x.p) (fun r => (r.length : Int) = lessN x i x.p.toNat) ?_ ?_ k 0 [] (by omega) (by omega) ⟨rfl, by omega⟩
  · obtain ⟨r, e, h⟩ := this
    exact ⟨r, by rw [e]; rfl, h⟩
  · intro k j s h0 h1 ⟨q, _⟩
    left
    obtain ⟨j, rfl⟩ := nat_of h0
    simp only [Int.toNat_natCast] at q
    have hr := lessN_range x i j
    show ∃ s', impl_Colouring_that_l0 x (fun a0 => impl_OrderOf_c1 a0 i x) (k + 1) j s = _ ∧ _
    rw [impl_Colouring_that_l0, w64_succ h0 h1 (by omega), ordC x hp.2 i j hi0 hi h0 h1, show ((j : Int) + 1).toNat = j + 1 by omega]
    simp only [h1, decide_true, if_true, Option.bind_some]
    by_cases c : less x i j = true
    · simp only [c, if_true]
      rw [if_pos (by simp; omega)]
      refine ⟨_, rfl, ?_, by omega⟩
      simp [lessN, c]; omega
    · simp only [c, Bool.false_eq_true, if_false]
      exact ⟨s, rfl, by simp [lessN, c]; omega, by omega⟩
  · intro k j s h0 h1 ⟨q, q2⟩
    have : j = x.p := by omega
    subst this
    refine ⟨s, ?_, q⟩
    show impl_Colouring_that_l0 x (fun a0 => impl_OrderOf_c1 a0 i x) (k + 1) x.p s = _
    rw [impl_Colouring_that_l0]; simp

theorem implOrd_l0 (x : Col) (hp : 1 ≤ x.p ∧ x.p ≤ 17) (k : Nat) (hk : 20 ≤ k) : impl_OrderOf_l0 k x k 0 [] = some (ordL x x.p.toNat) := by
  have := loopI (f := fun k' i (s : List Int) => impl_OrderOf_l0 k x k' i s) x.p 0 (fun i s => s = ordL x i.toNat ∧ i ≤ x.p) (fun r => r = ordL x x.p.toNat) ?_ ?_ k 0 [] (by omega) (by omega) ⟨rfl, by omega⟩
  · obtain ⟨r, e, rfl⟩ := this; exact e
  · intro k' i s h0 h1 ⟨q, _⟩
    left
    obtain ⟨j, rfl⟩ := nat_of h0
    simp only [Int.toNat_natCast] at q
    subst q
    refine ⟨ordL x (j + 1), ?_, by rw [show ((j : Int) + 1).toNat = j + 1 by omega], by omega⟩
    show impl_OrderOf_l0 k x (k' + 1) j (ordL x j) = _
    obtain ⟨r, e, hr⟩ := that_len x hp j h0 h1 k (by omega)
    rw [impl_OrderOf_l0, w64_succ h0 h1 (by omega), e]
    unfold impl_size
    simp only [h1, decide_true, if_true, Option.bind_some, ordL_length, List.length_singleton, hr]
    rw [if_pos (by omega)]
    rfl
  · intro k' i s h0 h1 ⟨q, q2⟩
    have : i = x.p := by omega
    subst this
    refine ⟨_, ?_, q⟩
    show impl_OrderOf_l0 k x (k' + 1) x.p s = _
    rw [impl_OrderOf_l0]; simp

end Go.Proofs.Ytfpcopidcagdaaa
