/- Plain laws, collected out of own texts. No conditions beyond those that each lemma states. -/
import Derived.Test.YtfhdihekehlkiaaGreatDoorPKit
import Derived.Test.YtfhdihekehlkiaaGreatDoorPBits
import Derived.Test.YtfhdihekehlkiaaGreatDoorMk
import Derived.Test.YtfhdihekehlkiaaGreatDoorClqB
import Derived.Test.YtfhdihekehlkiaaGreatDoorGen31
set_option linter.unusedVariables false
set_option linter.unusedSimpArgs false
namespace Go.Proofs.YtfhdihekehlkiaaGreatDoor
open Go Go.RowKit Ab

theorem in_eq (a b c : Int) : impl_in a b c = decide (b ≤ a ∧ a ≤ c) := by
  unfold impl_in letO
  by_cases h : b ≤ a <;> by_cases h' : a ≤ c <;> simp [h, h']

theorem specIn_eq (a b c : Int) : spec_l01In a b c = decide (b ≤ a ∧ a ≤ c) := by
  unfold spec_l01In letO
  by_cases h : b ≤ a <;> by_cases h' : a ≤ c <;> simp [h, h']

def tE (x : Col) : Int := w64 ((w64 (x.p * (w64 (x.p - 1)))).tdiv 2)

def okE (x : Col) (j : Int) : Prop := (j < tE x → ((x.get j.toNat).toNat : Int) < x.k) ∧ (tE x ≤ j → ((x.get j.toNat).toNat : Int) = 0)

/-- Numbers in range, colours in range on the edges, zero behind them. -/
def Col.is (x : Col) : Prop := (1 ≤ x.p ∧ x.p ≤ 17) ∧ (1 ≤ x.k ∧ x.k ≤ 4) ∧ ∀ j, 0 ≤ j → j < 136 → okE x j

open Classical in
theorem specIs_eq (k : Nat) (h : 137 ≤ k) (x : Col) : spec_l01Is k x = some (decide x.is) := by
  unfold spec_l01Is
  rw [specIn_eq, specIn_eq]
  by_cases hp : 1 ≤ x.p ∧ x.p ≤ 17
  · by_cases hk : 1 ≤ x.k ∧ x.k ≤ 4
    · have := loopAll (f := fun k' i => spec_l01Is_l0 k x k' i) 136 false (okE x) 0
        (fun k' i h0 h1 hq => by
          show spec_l01Is_l0 k x (k' + 1) i = _
          rw [spec_l01Is_l0, w64_succ h0 h1 (by omega)]
          obtain ⟨q1, q2⟩ := hq
          change (i < tE x → _) at q1
          by_cases hc : i < tE x
          · have e1 := q1 hc
            have e2 : ¬ tE x ≤ i := by omega
            have e3 : ¬ x.k ≤ ((x.get i.toNat).toNat : Int) := by omega
            unfold tE at hc e2
            simp [h0, h1, hc, e2, e3]
          · have e1 := q2 (by omega)
            have e2 : tE x ≤ i := by omega
            unfold tE at hc e2
            simp [h0, h1, hc, e2, e1])
        (fun k' i h0 h1 hq => by
          show spec_l01Is_l0 k x (k' + 1) i = _
          rw [spec_l01Is_l0]
          by_cases hc : i < tE x
          · have e2 : ¬ tE x ≤ i := by omega
            have e3 : x.k ≤ ((x.get i.toNat).toNat : Int) := by
              apply Int.not_lt.1
              intro e; exact hq ⟨fun _ => e, fun h => (e2 h).elim⟩
            unfold tE at hc e2
            simp [h0, h1, hc, e2, e3]
          · have e2 : tE x ≤ i := by omega
            have e3 : ¬ ((x.get i.toNat).toNat : Int) = 0 := by
              intro e; exact hq ⟨fun h => (hc h).elim, fun _ => e⟩
            unfold tE at hc e2
            have e5 : ¬ (x.get i.toNat).toNat = 0 := by omega
            simp [h0, h1, hc, e2, e5])
        (fun k' i h1 => by
          show spec_l01Is_l0 k x (k' + 1) i = _
          rw [spec_l01Is_l0]
          have : ¬ i < 136 := by omega
          simp [this]) k 0 (by omega) (by omega)
      simp only [hp, hk, decide_true, Bool.not_true, Bool.false_eq_true, if_false, letO, and_self]
      rw [this]
      by_cases ha : ∀ j, 0 ≤ j → j < 136 → okE x j
      · have : x.is := ⟨hp, hk, ha⟩
        rw [if_pos ha]; simp [this]
      · have : ¬ x.is := fun h => ha h.2.2
        simp only [if_neg ha, this]
        simp
    · have : ¬ x.is := fun h => hk h.2.1
      simp [hp, hk, letO, this]
  · have : ¬ x.is := fun h => hp h.1
    simp [hp, letO, this]

open Classical in
theorem isColouring_eq (k : Nat) (h : 137 ≤ k) (x : Col) : impl_Colouring_isColouring k x = some (decide x.is) := by
  unfold impl_Colouring_isColouring
  rw [in_eq, in_eq]
  by_cases hp : 1 ≤ x.p ∧ x.p ≤ 17
  · by_cases hk : 1 ≤ x.k ∧ x.k ≤ 4
    · have := loopAll (f := fun k' i => impl_Colouring_isColouring_l0 k x k' i) 136 false (okE x) 0
        (fun k' i h0 h1 hq => by
          show impl_Colouring_isColouring_l0 k x (k' + 1) i = _
          rw [impl_Colouring_isColouring_l0, w64_succ h0 h1 (by omega)]
          obtain ⟨q1, q2⟩ := hq
          change (i < tE x → ((x.e.get i.toNat).toNat : Int) < x.k) at q1
          change (tE x ≤ i → ((x.e.get i.toNat).toNat : Int) = 0) at q2
          change (if _ then _ else _) = _
          have hE : impl_Colouring_edges x = tE x := rfl
          by_cases hc : i < tE x
          · have e1 := q1 hc
            have e2 : ¬ tE x ≤ i := by omega
            have e3 : ¬ x.k ≤ ((x.e.get i.toNat).toNat : Int) := by omega
            simp [h0, h1, hc, e2, e3, hE, letO]
          · have e1 := q2 (by omega)
            have e2 : tE x ≤ i := by omega
            have e3 : ¬ x.k ≤ ((x.e.get i.toNat).toNat : Int) := by omega
            rw [e1] at e3
            simp [h0, h1, hc, e2, e1, e3, hE, letO])
        (fun k' i h0 h1 hq => by
          show impl_Colouring_isColouring_l0 k x (k' + 1) i = _
          rw [impl_Colouring_isColouring_l0]
          have hE : impl_Colouring_edges x = tE x := rfl
          by_cases e3 : x.k ≤ ((x.e.get i.toNat).toNat : Int)
          · simp [h0, h1, e3, letO]
          · have e2 : tE x ≤ i := by
              apply Int.not_lt.1
              intro hc; exact hq ⟨fun _ => by change ((x.e.get i.toNat).toNat : Int) < x.k; omega, fun h => by omega⟩
            have e4 : ¬ ((x.e.get i.toNat).toNat : Int) = 0 := by
              intro e; exact hq ⟨fun h => by omega, fun _ => e⟩
            have e5 : ¬ (x.e.get i.toNat).toNat = 0 := by omega
            simp [h0, h1, e2, e3, e5, hE, letO])
        (fun k' i h1 => by
          show impl_Colouring_isColouring_l0 k x (k' + 1) i = _
          rw [impl_Colouring_isColouring_l0]
          have : ¬ i < 136 := by omega
          simp [this]) k 0 (by omega) (by omega)
      simp only [hp, hk, decide_true, Bool.not_true, Bool.false_eq_true, if_false, letO, and_self]
      rw [this]
      by_cases ha : ∀ j, 0 ≤ j → j < 136 → okE x j
      · have : x.is := ⟨hp, hk, ha⟩
        rw [if_pos ha]; simp [this]
      · have : ¬ x.is := fun h => ha h.2.2
        simp only [if_neg ha, this]
        simp
    · have : ¬ x.is := fun h => hk h.2.1
      simp [hp, hk, letO, this]
  · have : ¬ x.is := fun h => hp h.1
    simp [hp, letO, this]

theorem number_eq (i j : Int) (hi : 0 ≤ i ∧ i < 17) (hj : 0 ≤ j ∧ j < 17) : impl_number i j = (eN i.toNat j.toNat : Int) := by
  have : ∀ i, i < 17 → ∀ j, j < 17 → impl_number (i : Nat) (j : Nat) = (eN i j : Int) := by decide +kernel
  have h := this i.toNat (by omega) j.toNat (by omega)
  rwa [Int.toNat_of_nonneg hi.1, Int.toNat_of_nonneg hj.1] at h

theorem edge_eq (i j : Int) (hi : 0 ≤ i ∧ i < 17) (hj : 0 ≤ j ∧ j < 17) : spec_l01Edge i j = (eN i.toNat j.toNat : Int) := by
  have : ∀ i, i < 17 → ∀ j, j < 17 → spec_l01Edge (i : Nat) (j : Nat) = (eN i j : Int) := by decide +kernel
  have h := this i.toNat (by omega) j.toNat (by omega)
  rwa [Int.toNat_of_nonneg hi.1, Int.toNat_of_nonneg hj.1] at h

def Col.cc (x : Col) (i j : Int) : Int := ((x.e.get (eN i.toNat j.toNat)).toNat : Int)

theorem specAt_eq (x : Col) (i j : Int) (h0 : 0 ≤ i) (h : i < j) (hj : 0 ≤ j) (hj' : j < 17) : spec_l01At x i j = some (x.cc i j) := by
  unfold spec_l01At
  rw [edge_eq i j (by omega) (by omega)]
  have := eN_136 (i := i.toNat) (j := j.toNat) (by omega) (by omega) (by omega)
  rw [if_pos (by omega)]
  rfl

theorem implAt_eq (x : Col) (i j : Int) (h0 : 0 ≤ i) (h : i < j) (hj : 0 ≤ j) (hj' : j < 17) : impl_Colouring_at x i j = some (x.cc i j) := by
  unfold impl_Colouring_at
  rw [number_eq i j (by omega) (by omega)]
  have := eN_136 (i := i.toNat) (j := j.toNat) (by omega) (by omega) (by omega)
  rw [if_pos (by omega)]
  rfl

abbrev li (l : List Int) (i : Int) : Int := l.getD i.toNat 0

def inP (x : Col) (l : List Int) : Prop := ∀ i : Int, 0 ≤ i → i < l.length → 0 ≤ li l i ∧ li l i ≤ x.p - 1

open Classical in
theorem specAll_eq (k : Nat) (l : List Int) (p : Int) (hk : l.length + 1 ≤ k) (hl : (l.length : Int) ≤ 1099511627776) (hp : -9223372036854775808 ≤ p - 1 ∧ p - 1 < 9223372036854775808) : spec_l01All k l p = some (decide (∀ i : Int, 0 ≤ i → i < l.length → 0 ≤ li l i ∧ li l i ≤ p - 1)) := by
  unfold spec_l01All
  rw [loopAll (f := fun k' i => spec_l01All_l0 l p k' i) (l.length : Int) false (fun i => 0 ≤ li l i ∧ li l i ≤ p - 1) 0 ?_ ?_ ?_ k 0 (by omega) (by omega)]
  · by_cases h : ∀ i : Int, 0 ≤ i → i < l.length → 0 ≤ li l i ∧ li l i ≤ p - 1
    · rw [if_pos h]; simp only [Option.bind_some]; rw [decide_eq_true h]
    · rw [if_neg h]; simp only [Option.bind_some]; rw [decide_eq_false h]
  · intro k' i h0 h1 hq
    show spec_l01All_l0 l p (k' + 1) i = _
    rw [spec_l01All_l0, w64_succ h0 h1 (by omega), specIn_eq, w64_id hp]
    simp only [h0, h1, and_self, if_true, decide_true]
    rw [decide_eq_true (show 0 ≤ l.getD i.toNat 0 ∧ l.getD i.toNat 0 ≤ p - 1 from hq)]; simp
  · intro k' i h0 h1 hq
    show spec_l01All_l0 l p (k' + 1) i = _
    rw [spec_l01All_l0, specIn_eq, w64_id hp]
    simp only [h0, h1, and_self, if_true, decide_true]
    rw [decide_eq_false (show ¬ (0 ≤ l.getD i.toNat 0 ∧ l.getD i.toNat 0 ≤ p - 1) from hq)]; simp
  · intro k' i h1
    show spec_l01All_l0 l p (k' + 1) i = _
    rw [spec_l01All_l0]
    have : ¬ i < (l.length : Int) := by omega
    simp [this]

/-- What the reference answers to a colouring, a colour and numbers of points. -/
theorem specGiven_eq (k : Nat) (x : Col) (c : Int) (l : List Int) (hk : l.length + 137 ≤ k) (hl : (l.length : Int) ≤ 1099511627776) [Decidable x.is] [Decidable ((0 ≤ c ∧ c ≤ x.k - 1) ∧ inP x l)] :
    spec_l01Given k x c l = some (if x.is then (if (0 ≤ c ∧ c ≤ x.k - 1) ∧ inP x l then 0 else 2) else 1) := by
  classical
  unfold spec_l01Given
  rw [specIs_eq k (by omega)]
  by_cases h : x.is
  · have hp := h.1; have hkk := h.2.1
    rw [specAll_eq k l x.p (by omega) hl (by omega), specIn_eq, w64_id (by omega)]
    by_cases hc : 0 ≤ c ∧ c ≤ x.k - 1
    · by_cases hi : inP x l
      · have e : decide (∀ i : Int, 0 ≤ i → i < l.length → 0 ≤ li l i ∧ li l i ≤ x.p - 1) = true := decide_eq_true hi
        rw [e]; simp [h, hc, hi]
      · have e : decide (∀ i : Int, 0 ≤ i → i < l.length → 0 ≤ li l i ∧ li l i ≤ x.p - 1) = false := decide_eq_false hi
        rw [e]; simp [h, hc, hi]
    · simp [h, hc]
  · simp [h]

theorem cc_comm (x : Col) (i j : Int) : x.cc i j = x.cc j i := by unfold Col.cc; rw [eN_comm]

theorem implAt_ne (x : Col) (i j : Int) (h0 : 0 ≤ i) (h1 : i < 17) (hj : 0 ≤ j) (hj' : j < 17) (h : i ≠ j) : impl_Colouring_at x i j = some (x.cc i j) := by
  unfold impl_Colouring_at
  rw [number_eq i j (by omega) (by omega)]
  have := eN_136 (i := i.toNat) (j := j.toNat) (by omega) (by omega) (by omega)
  rw [if_pos (by omega)]
  rfl

theorem specAt_ne (x : Col) (i j : Int) (h0 : 0 ≤ i) (h1 : i < 17) (hj : 0 ≤ j) (hj' : j < 17) (h : i ≠ j) : spec_l01At x i j = some (x.cc i j) := by
  unfold spec_l01At
  rw [edge_eq i j ⟨h0, h1⟩ ⟨hj, hj'⟩]
  have := eN_136 (i := i.toNat) (j := j.toNat) (by omega) (by omega) (by omega)
  rw [if_pos ⟨by omega, by omega⟩]
  rfl

theorem eqb_refl' (x : Col) : x.eqb x = true := (Col.eqb_iff x x).2 rfl

theorem like_refl (k : Nat) (l : List Int) (hk : l.length + 1 ≤ k) (hl : (l.length : Int) ≤ 1099511627776) : laws_likeInts k l l = some true := by
  unfold laws_likeInts
  have := loopAll (f := fun k' i => laws_likeInts_l0 l l k' i) (l.length : Int) false (fun _ => True) 0
    (fun k' i h0 h1 _ => by
      show laws_likeInts_l0 l l (k' + 1) i = _
      rw [laws_likeInts_l0, w64_succ h0 h1 (by omega)]
      simp [h0, h1])
    (fun k' i h0 h1 hq => (hq trivial).elim)
    (fun k' i h1 => by
      show laws_likeInts_l0 l l (k' + 1) i = _
      rw [laws_likeInts_l0]
      have : ¬ i < (l.length : Int) := by omega
      simp [this]) k 0 (by omega) (by omega)
  rw [this]; simp

def bitsN (P : Nat → Bool) : Nat → Nat
  | 0 => 0
  | n + 1 => if P n then bitsN P n ||| 2 ^ n else bitsN P n

theorem bitsN_test (P : Nat → Bool) (n j : Nat) : (bitsN P n).testBit j = (decide (j < n) && P j) := by
  induction n with
  | zero => simp [bitsN]
  | succ n ih =>
    unfold bitsN
    by_cases h : P n
    · rw [if_pos h, add_bit, ih]
      by_cases e : n = j
      · subst e; simp [h]
      · have : decide (j < n + 1) = decide (j < n) := by simp; omega
        simp [e, this]
    · rw [if_neg h, ih]
      by_cases e : n = j
      · subst e; simp [h]
      · have : decide (j < n + 1) = decide (j < n) := by simp; omega
        rw [this]

theorem bitsN_lt (P : Nat → Bool) (n : Nat) : bitsN P n < 2 ^ n := bits_lt fun i h => by
  rw [bitsN_test]
  have : ¬ i < n := by omega
  simp [this]

theorem lt17 {s n : Nat} (h : s < 2 ^ n) (hn : n ≤ 17) : s < 2 ^ 17 := Nat.lt_of_lt_of_le h (Nat.pow_le_pow_right (by omega) hn)

theorem lt63 {s : Nat} (h : s < 2 ^ 17) : s < 2 ^ 63 := Nat.lt_of_lt_of_le h (by decide)

theorem made_l1 (f : Int → Int → Option Int) (n : Nat) (hn : n ≤ 17) (g : Nat → Nat → Int) (j : Nat) (hj : j < n) (hf : ∀ i : Nat, i < j → f i j = some (g i j)) (p c : Int) :
    ∀ k, 18 ≤ k → ∀ x : Col, x.p = p → x.k = c → MInv n (fun a b => toByte (g a b)) j 0 x.e → ∃ y : Col, impl_made_l1 f (j : Int) k 0 x = some y ∧ y.p = p ∧ y.k = c ∧ MInv n (fun a b => toByte (g a b)) j j y.e := by
  intro k hk x hp hc hx
  refine loopI (f := fun k i s => impl_made_l1 f (j : Int) k i s) (j : Int) 0 (fun i s => s.p = p ∧ s.k = c ∧ MInv n (fun a b => toByte (g a b)) j i.toNat s.e ∧ i ≤ j) (fun y => y.p = p ∧ y.k = c ∧ MInv n (fun a b => toByte (g a b)) j j y.e) ?_ ?_ k 0 x (by omega) (by omega) ⟨hp, hc, hx, by omega⟩
  · intro k i s h0 h1 ⟨q1, q2, q3, _⟩
    left
    obtain ⟨m, rfl⟩ := nat_of h0
    refine ⟨s.set (eN m j) (toByte (g m j)), ?_, q1, q2, ?_, by omega⟩
    · show impl_made_l1 f (j : Int) (k + 1) m s = _
      rw [impl_made_l1, hf m (by omega), w64_succ h0 h1 (by omega)]
      unfold impl_Colouring_put
      rw [number_eq m j (by omega) (by omega)]
      have := eN_136 (i := m) (j := j) (by omega) (by omega) (by omega)
      have h136 : ((eN m j : Nat) : Int) < 136 := by omega
      have hmj : m < j := by omega
      simp [hmj, this, h136]
    · have := MInv.step hn q3 hj (show m < j by omega)
      exact this
  · intro k i s h0 h1 ⟨q1, q2, q3, q4⟩
    have : i = j := by omega
    subst this
    refine ⟨s, ?_, q1, q2, q3⟩
    show impl_made_l1 f (j : Int) (k + 1) j s = _
    rw [impl_made_l1]; simp

theorem made_eq (f : Int → Int → Option Int) (n : Int) (hn0 : 0 ≤ n) (hn : n ≤ 17) (g : Nat → Nat → Int) (hf : ∀ i j : Nat, i < j → (j : Int) < n → f i j = some (g i j)) (c : Int) :
    ∀ k, 19 ≤ k → ∃ y : Col, impl_made k n c f = some y ∧ Made y n c (fun a b => toByte (g a b)) := by
  intro k hk
  obtain ⟨n, rfl⟩ := nat_of hn0
  unfold impl_made
  have := loopI (f := fun k' i s => impl_made_l0 k n f k' i s) (n : Int) 0 (fun i (s : Col) => s.p = n ∧ s.k = c ∧ MInv n (fun a b => toByte (g a b)) i.toNat 0 s.e ∧ i ≤ n) (fun y => Made y n c (fun a b => toByte (g a b))) ?_ ?_ k 0 (⟨n, c, B136.zero⟩ : Col) (by omega) (by omega) ⟨rfl, rfl, MInv.start _ _, by omega⟩
  · obtain ⟨y, e, h⟩ := this
    exact ⟨y, by rw [e]; rfl, h⟩
  · intro k' i s h0 h1 ⟨q1, q2, q3, _⟩
    left
    obtain ⟨j, rfl⟩ := nat_of h0
    obtain ⟨y, e, h1', h2', h3'⟩ := made_l1 f n (by omega) g j (by omega) (fun i hi => hf i j hi h1) n c k (by omega) s q1 q2 q3
    refine ⟨y, ?_, h1', h2', MInv.row h3', by omega⟩
    show impl_made_l0 k n f (k' + 1) j s = _
    rw [impl_made_l0, e, w64_succ h0 h1 (by omega)]
    have : j < n := by omega
    simp [this]
  · intro k' i s h0 h1 ⟨q1, q2, q3, q4⟩
    have : i = n := by omega
    subst this
    refine ⟨s, ?_, MInv.made q3 q1 q2⟩
    show impl_made_l0 k n f (k' + 1) n s = _
    rw [impl_made_l0]; simp

theorem mem_getD {l : List Int} {x : Int} : x ∈ l ↔ ∃ a, a < l.length ∧ l.getD a 0 = x := by
  constructor
  · intro h
    obtain ⟨a, ha, e⟩ := List.getElem_of_mem h
    exact ⟨a, ha, by simp [List.getD, ha, e]⟩
  · rintro ⟨a, ha, rfl⟩
    simp [List.getD, ha]

theorem tE_tri (x : Col) (h : 1 ≤ x.p ∧ x.p ≤ 17) : tE x = (tri x.p.toNat : Int) := by
  obtain ⟨n, hn⟩ := nat_of (show 0 ≤ x.p by omega)
  unfold tE
  rw [hn, Int.toNat_natCast]
  have key : ∀ n : Nat, 1 ≤ n → n ≤ 17 → w64 ((w64 ((n : Int) * (w64 ((n : Int) - 1)))).tdiv 2) = (tri n : Int) := by
    have : ∀ n : Nat, n ≤ 17 → 1 ≤ n → w64 ((w64 ((n : Int) * (w64 ((n : Int) - 1)))).tdiv 2) = (tri n : Int) := by decide +kernel
    exact fun n h1 h2 => this n h2 h1
  exact key n (by omega) (by omega)

theorem is_lt {x : Col} (h : x.is) {e : Nat} (he : e < tri x.p.toNat) : ((x.e.get e).toNat : Int) < x.k := by
  have := tri_le (n := x.p.toNat) (by have := h.1; omega)
  have h1 := (h.2.2 e (by omega) (by omega)).1 (by rw [tE_tri x h.1]; omega)
  rw [Int.toNat_natCast] at h1
  exact h1

theorem is_zero {x : Col} (h : x.is) {e : Nat} (he : tri x.p.toNat ≤ e) (h1 : e < 136) : x.e.get e = 0 := by
  have h2 := (h.2.2 e (by omega) (by omega)).2 (by rw [tE_tri x h.1]; omega)
  rw [← u8_zero]
  rw [Int.toNat_natCast] at h2
  exact h2

theorem code_cases {k : Nat} (hk : 5000 ≤ k) (x : Col) : (x.is → impl_Colouring_code k x (some true) = some 0 ∧ impl_Colouring_code k x (some false) = some 2) ∧ (¬ x.is → ∀ b, impl_Colouring_code k x (some b) = some 1) := by
  unfold impl_Colouring_code
  rw [isColouring_eq k (by omega)]
  constructor
  · intro h; simp [h]
  · intro h b; simp [h]

def mapL (m : Nat) (f : Nat → Int) : List Int := (List.range m).map f

theorem mapL_length (m : Nat) (f : Nat → Int) : (mapL m f).length = m := by simp [mapL]

theorem mapL_succ (m : Nat) (f : Nat → Int) : mapL (m + 1) f = mapL m f ++ [f m] := by simp [mapL, List.range_succ]

theorem mapL_get (m : Nat) (f : Nat → Int) (i : Nat) (h : i < m) : (mapL m f).getD i 0 = f i := by simp [mapL, List.getD, h]

/-- A loop that collects a list. -/
theorem collect (F : Nat → Int → List Int → Option (List Int)) (m : Nat) (f : Nat → Int) (hstep : ∀ (k' i : Nat) (s : List Int), i < m → s.length ≤ i → F (k' + 1) i s = F k' ((i + 1 : Nat) : Int) (s ++ [f i])) (hfin : ∀ (k' : Nat) (s : List Int), F (k' + 1) m s = some s) (k : Nat) (hk : m < k) : F k 0 [] = some (mapL m f) := by
  have key : ∀ (d i k : Nat), m - i = d → i ≤ m → d < k → F k i (mapL i f) = some (mapL m f) := by
    intro d
    induction d with
    | zero =>
      intro i k h1 h2 h3
      obtain ⟨k, rfl⟩ : ∃ q, k = q + 1 := ⟨k - 1, by omega⟩
      obtain rfl : i = m := by omega
      exact hfin k _
    | succ d ih =>
      intro i k h1 h2 h3
      obtain ⟨k, rfl⟩ : ∃ q, k = q + 1 := ⟨k - 1, by omega⟩
      rw [hstep k i _ (by omega) (by rw [mapL_length]; exact Nat.le_refl _), ← mapL_succ]
      exact ih (i + 1) k (by omega) (by omega) (by omega)
  exact key m 0 k (by omega) (by omega) hk

/-- All points of which something is so. -/
theorem that_val {k : Nat} (x : Col) (hp : 1 ≤ x.p ∧ x.p ≤ 17) (hk : 20 ≤ k) (so : Int → Option Bool) (S : Int → Bool) (hs : ∀ a : Nat, (a : Int) < x.p → so a = some (S a)) : impl_Colouring_that k x so = some ((ir 0 x.p.toNat).filter S) := by
  have snoc : ∀ j, ir 0 (j + 1) = ir 0 j ++ [(j : Int)] := fun j => by
    unfold ir
    rw [show j + 1 - 0 = j + 1 by omega, List.range'_concat]
    simp
  unfold impl_Colouring_that
  have := loopI (f := fun k' i (s : List Int) => impl_Colouring_that_l0 x so k' i s) x.p 0 (fun i s => i ≤ x.p ∧ s = (ir 0 i.toNat).filter S) (fun r => r = (ir 0 x.p.toNat).filter S) ?_ ?_ k 0 [] (by omega) (by omega) ⟨by omega, rfl⟩
  · obtain ⟨r, e, rfl⟩ := this
    rw [e]; rfl
  · intro k' i s h0 h1 ⟨_, q⟩
    left
    obtain ⟨m, rfl⟩ := nat_of h0
    refine ⟨_, ?_, by omega, rfl⟩
    show impl_Colouring_that_l0 x so (k' + 1) m s = _
    have e0 : ((m : Int) + 1).toNat = m + 1 := by omega
    simp only [Int.toNat_natCast] at q
    have hl : s.length ≤ m := by
      rw [q]
      exact Nat.le_trans (List.length_filter_le _ _) (by rw [ir_length]; omega)
    have hl' : s.length + ([(m : Int)]).length ≤ 1099511627776 := by simp; omega
    rw [impl_Colouring_that_l0, w64_succ h0 h1 (by omega), e0, hs m h1, snoc, List.filter_append, ← q]
    cases hS : S m with
    | true =>
      have : [(m : Int)].filter S = [(m : Int)] := by simp [hS]
      rw [this]
      simp only [h1, decide_true, if_true, Option.bind_some, if_pos hl']
    | false => simp [h1, hS]
  · intro k' i s h0 h1 ⟨q1, q2⟩
    have : i = x.p := by omega
    subst this
    refine ⟨s, ?_, q2⟩
    show impl_Colouring_that_l0 x so (k' + 1) x.p s = _
    rw [impl_Colouring_that_l0]; simp

theorem tb (u : UInt8) : toByte (u.toNat : Int) = u := by
  have := u.toNat_lt
  unfold toByte
  rw [Int.emod_eq_of_lt (by omega) (by omega), Int.toNat_natCast]
  exact UInt8.ofNat_toNat

theorem tb_id {n : Int} (h : 0 ≤ n ∧ n < 256) : ((toByte n).toNat : Int) = n := by
  unfold toByte
  rw [Int.emod_eq_of_lt h.1 h.2]
  simp
  omega

theorem cc_nat (x : Col) (a b : Nat) : x.cc a b = ((x.e.get (eN a b)).toNat : Int) := by
  unfold Col.cc; simp only [Int.toNat_natCast]

/-- A colouring is told by its colours. -/
theorem is_mk {x : Col} (h : x.is) : x = mkC x.p.toNat x.k (fun a b => x.cc a b) := by
  have hp := h.1
  have hz : ((x.p.toNat : Nat) : Int) = x.p := by omega
  refine Made.to (g' := fun a b => x.e.get (eN a b)) (by omega) ⟨hz.symm, rfl, fun a b _ _ => rfl, fun e he h1 => is_zero h (by rw [Int.toNat_natCast] at he; exact he) h1⟩ fun a b _ _ => ?_
  rw [cc_nat, tb]

theorem mkC_cc {n : Nat} (hn : n ≤ 17) (k : Int) (g : Nat → Nat → Int) {a b : Nat} (hab : a < b) (hb : b < n) (hg : 0 ≤ g a b ∧ g a b < 256) : (mkC n k g).cc a b = g a b := by
  rw [cc_nat, mkC_get hn k g hab hb, tb_id hg]

theorem mkC_is {n : Nat} (h1 : 1 ≤ n) (hn : n ≤ 17) {k : Int} (hk : 1 ≤ k ∧ k ≤ 4) (g : Nat → Nat → Int) (hg : ∀ a b : Nat, a < b → b < n → 0 ≤ g a b ∧ g a b < k) : (mkC n k g).is := by
  have hm := mkC_made hn k g
  refine ⟨by show 1 ≤ (n : Int) ∧ (n : Int) ≤ 17; omega, hk, fun j h0 h136 => ?_⟩
  obtain ⟨e, rfl⟩ := nat_of h0
  have ht : tE (mkC n k g) = (tri n : Int) := by
    rw [tE_tri _ (by show 1 ≤ (n : Int) ∧ (n : Int) ≤ 17; omega)]
    rfl
  refine ⟨fun h => ?_, fun h => ?_⟩
  · rw [ht] at h
    obtain ⟨j, hj, i, hi, rfl⟩ := eN_surj hn (show e < tri n by omega)
    show (((mkC n k g).e.get ((eN i j : Nat) : Int).toNat).toNat : Int) < k
    rw [Int.toNat_natCast, mkC_get hn k g hi hj, tb_id (by have := hg i j hi hj; omega)]
    exact (hg i j hi hj).2
  · rw [ht] at h
    have := hm.z e (by simpa using (show tri n ≤ e by omega)) (by omega)
    show (((mkC n k g).e.get ((e : Nat) : Int).toNat).toNat : Int) = 0
    rw [Int.toNat_natCast, this]; rfl

theorem is_cc {x : Col} (h : x.is) {a b : Nat} (ha : (a : Int) < x.p) (hb : (b : Int) < x.p) (hab : a ≠ b) : 0 ≤ x.cc a b ∧ x.cc a b < x.k := by
  have hp := h.1
  rw [cc_nat]
  refine ⟨by omega, is_lt h ?_⟩
  rcases Nat.lt_or_ge a b with q | q
  · exact eN_lt q (by omega) (by omega)
  · rw [eN_comm]; exact eN_lt (by omega) (by omega) (by omega)

theorem made_val {k n : Nat} {c : Int} {f : Int → Int → Option Int} {g : Nat → Nat → Int} (hn : n ≤ 17) (hk : 19 ≤ k) (hf : ∀ i j : Nat, i < j → j < n → f i j = some (g i j)) : impl_made k n c f = some (mkC n c g) := by
  obtain ⟨y, e, m⟩ := made_eq f n (by omega) (by omega) g (fun i j hij hj => hf i j hij (by omega)) c k hk
  rw [e]
  exact congrArg some (Made.to hn m fun _ _ _ _ => rfl)

def edL (x : Col) : List Int := (x.e.l.take (tri x.p.toNat)).map fun u => (u.toNat : Int)

def cnt (x : Col) (c : Int) : Nat := (edL x).countP fun u => decide (u = c)

theorem edges_eq {x : Col} (h : 1 ≤ x.p ∧ x.p ≤ 17) : impl_Colouring_edges x = (tri x.p.toNat : Int) := tE_tri x h

theorem counts_val {k : Nat} {x : Col} (h : x.is) (hk : 140 ≤ k) : impl_Colouring_counts k x = some (mapL x.k.toNat fun c => (cnt x c : Int)) := by
  have hp := h.1
  have hkk := h.2.1
  have htl := tri_le (n := x.p.toNat) (by omega)
  unfold impl_Colouring_counts
  rw [if_pos (by omega), edges_eq hp, if_pos (by omega)]
  have hlen : (x.e.l.take (tri x.p.toNat)).length = tri x.p.toNat := by rw [List.length_take, x.e.h]; omega
  have hget : ∀ i : Nat, i < tri x.p.toNat → (x.e.l.take (tri x.p.toNat)).getD i 0 = x.e.get i := fun i hi => by
    show _ = x.e.l.getD i 0
    rw [List.getD_eq_getElem?_getD, List.getD_eq_getElem?_getD, List.getElem?_take, if_pos hi]
  have := loopI (f := fun k' i (s : List Int) => impl_Colouring_counts_l0 x k' i s) (tri x.p.toNat : Int) 0
    (fun i s => i ≤ tri x.p.toNat ∧ s = mapL x.k.toNat fun c => ((((edL x).take i.toNat).countP fun u => decide (u = (c : Int)) : Nat) : Int)) (fun r => r = mapL x.k.toNat fun c => (cnt x c : Int)) ?_ ?_ k 0 (List.replicate x.k.toNat 0) (by omega) (by omega) ⟨by omega, ?_⟩
  · obtain ⟨r, e, rfl⟩ := this
    rw [e]; rfl
  · intro k' i s h0 h1 ⟨_, q⟩
    left
    obtain ⟨m, rfl⟩ := nat_of h0
    have hmt : m < tri x.p.toNat := by omega
    have hlt := is_lt h hmt
    have hsl : s.length = x.k.toNat := by rw [q, mapL_length]
    have e0 : ((m : Int) + 1).toNat = m + 1 := by omega
    refine ⟨s.set (x.e.get m).toNat (s.getD (x.e.get m).toNat 0 + 1), ?_, by omega, ?_⟩
    · show impl_Colouring_counts_l0 x (k' + 1) m s = _
      have hb : 0 ≤ s.getD (x.e.get m).toNat 0 ∧ s.getD (x.e.get m).toNat 0 ≤ 136 := by
        rw [q, mapL_get _ _ _ (by omega)]
        have := List.countP_le_length (p := fun u => decide (u = (((x.e.get m).toNat : Nat) : Int))) (l := (edL x).take (m : Int).toNat)
        have h2 : ((edL x).take (m : Int).toNat).length ≤ 136 := by
          rw [List.length_take]; unfold edL; rw [List.length_map, hlen]; omega
        omega
      have c1 : ((x.e.get m).toNat : Int) < (s.length : Int) := by omega
      rw [impl_Colouring_counts_l0, edges_eq hp]
      simp only [Int.toNat_natCast, hlen, hget m hmt]
      rw [w64_succ h0 h1 (by omega), w64_id (n := s.getD (x.e.get m).toNat 0 + 1) (by omega)]
      simp only [h1, c1, h0, decide_true, if_true, Int.natCast_nonneg, and_self]
    · rw [e0]
      simp only [Int.toNat_natCast] at q
      have het : (edL x).take (m + 1) = (edL x).take m ++ [((x.e.get m).toNat : Int)] := by
        have hm2 : m < (edL x).length := by unfold edL; rw [List.length_map, hlen]; exact hmt
        rw [List.take_add_one, List.getElem?_eq_getElem hm2]
        have : (edL x)[m] = ((x.e.get m).toNat : Int) := by
          have hm3 : m < (x.e.l.take (tri x.p.toNat)).length := by omega
          have := hget m hmt
          rw [List.getD_eq_getElem?_getD, List.getElem?_eq_getElem hm3, Option.getD_some] at this
          simp only [edL, List.getElem_map]
          rw [this]
        rw [this]; rfl
      refine List.ext_getElem (by rw [List.length_set, hsl, mapL_length]) fun c hc hc2 => ?_
      rw [List.length_set, hsl] at hc
      have g1 : ∀ c, c < x.k.toNat → ∀ (hh : c < s.length), s[c] = ((((edL x).take m).countP fun u => decide (u = (c : Int)) : Nat) : Int) := fun c hc hh => by
        have : s[c] = s.getD c 0 := by simp [List.getD, hh]
        rw [this, q, mapL_get _ _ _ hc]
      have g2 : (mapL x.k.toNat fun c => ((((edL x).take (m + 1)).countP fun u => decide (u = (c : Int)) : Nat) : Int))[c] = ((((edL x).take (m + 1)).countP fun u => decide (u = (c : Int)) : Nat) : Int) := by simp [mapL]
      rw [g2, het, List.countP_append, List.getElem_set]
      by_cases e : (x.e.get m).toNat = c
      · rw [if_pos e]
        subst e
        have : s.getD (x.e.get m).toNat 0 = s[(x.e.get m).toNat]'(by omega) := by simp [List.getD, hsl, hc]
        rw [this, g1 _ hc]
        simp
      · rw [if_neg e, g1 c hc]
        have : ¬ (((x.e.get m).toNat : Nat) : Int) = (c : Int) := by omega
        simp [this]
  · intro k' i s h0 h1 ⟨q1, q⟩
    have : i = tri x.p.toNat := by omega
    subst this
    refine ⟨s, ?_, ?_⟩
    · show impl_Colouring_counts_l0 x (k' + 1) (tri x.p.toNat : Nat) s = _
      rw [impl_Colouring_counts_l0, edges_eq hp]
      simp [hlen]
    · rw [q]
      have : (edL x).take ((tri x.p.toNat : Nat) : Int).toNat = edL x := by
        rw [Int.toNat_natCast]
        exact List.take_of_length_le (by unfold edL; rw [List.length_map, hlen]; omega)
      rw [this]; rfl
  · refine List.ext_getElem (by rw [List.length_replicate, mapL_length]) fun c hc hc2 => ?_
    simp [mapL]

theorem edL_length {x : Col} (h : 1 ≤ x.p ∧ x.p ≤ 17) : (edL x).length = tri x.p.toNat := by
  have htl := tri_le (n := x.p.toNat) (by omega)
  unfold edL
  rw [List.length_map, List.length_take, x.e.h]; omega

theorem edL_get {x : Col} (h : 1 ≤ x.p ∧ x.p ≤ 17) (e : Nat) (he : e < (edL x).length) : (edL x)[e] = ((x.e.get e).toNat : Int) := by
  have hl := edL_length h
  have htl := tri_le (n := x.p.toNat) (by omega)
  have h2 : e < x.e.l.length := by rw [x.e.h]; omega
  simp only [edL, List.getElem_map, List.getElem_take]
  unfold B136.get
  rw [List.getD_eq_getElem?_getD, List.getElem?_eq_getElem h2, Option.getD_some]

theorem anyF_val (k : Nat) (l : List Int) (f : Int → Option Bool) (S : Int → Bool) (hf : ∀ z ∈ l, f z = some (S z)) (hk : l.length + 1 ≤ k) (hl : (l.length : Int) ≤ 1099511627776) : slices_ContainsFunc k l f = some (l.any S) := by
  unfold slices_ContainsFunc slices_IndexFunc
  have hget : ∀ i : Nat, i < l.length → l.getD i 0 ∈ l := fun i hi => by
    have e : l.getD i 0 = l[i] := by simp [List.getD, hi]
    rw [e]; exact List.getElem_mem hi
  have := loopI (f := fun k' i (_ : Unit) => slices_IndexFunc_l0 l f k' i) (l.length : Int) 0
    (fun i _ => i ≤ l.length ∧ ∀ a : Nat, (a : Int) < i → S (l.getD a 0) = false) (fun r => (l.any S = false ∧ r = .inl ()) ∨ (l.any S = true ∧ ∃ i : Int, 0 ≤ i ∧ r = .inr i)) ?_ ?_ k 0 () (by omega) (by omega) ⟨by omega, fun a h => by omega⟩
  · obtain ⟨r, e, h⟩ := this
    rw [e]
    rcases h with ⟨h, rfl⟩ | ⟨h, i, hi, rfl⟩
    · simp [h]
    · simp [h, hi]
  · intro k' i _ h0 h1 ⟨_, q2⟩
    obtain ⟨m, rfl⟩ := nat_of h0
    have hm : m < l.length := by omega
    have hj := hf _ (hget m hm)
    cases hc : S (l.getD m 0) with
    | false =>
      left
      rw [hc] at hj
      refine ⟨(), ?_, by omega, fun a ha => ?_⟩
      · show slices_IndexFunc_l0 l _ (k' + 1) m = _
        rw [slices_IndexFunc_l0, w64_succ h0 h1 (by omega)]
        simp only [Int.toNat_natCast, h1, h0, decide_true, if_true, and_self, hj, Option.bind_some, Bool.false_eq_true, if_false]
      · by_cases e : a = m
        · subst e; exact hc
        · exact q2 a (by omega)
    | true =>
      right
      rw [hc] at hj
      refine ⟨.inr m, ?_, .inr ⟨?_, m, h0, rfl⟩⟩
      · show slices_IndexFunc_l0 l _ (k' + 1) m = _
        rw [slices_IndexFunc_l0]
        simp only [Int.toNat_natCast, h1, h0, decide_true, if_true, and_self, hj, Option.bind_some]
      · rw [List.any_eq_true]
        exact ⟨_, hget m hm, hc⟩
  · intro k' i _ h0 h1 ⟨q1, q2⟩
    refine ⟨.inl (), ?_, .inl ⟨?_, rfl⟩⟩
    · show slices_IndexFunc_l0 l _ (k' + 1) i = _
      rw [slices_IndexFunc_l0]
      have : ¬ i < (l.length : Int) := by omega
      simp [this]
    · rw [List.any_eq_false]
      intro z hz
      obtain ⟨a, ha, rfl⟩ := List.getElem_of_mem hz
      have := q2 a (by omega)
      have e : l.getD a 0 = l[a] := by simp [List.getD, ha]
      rw [e] at this
      simp [this]

theorem areIn_val (k : Nat) (l : List Int) (many lo hi : Int) (hk : l.length + 1 ≤ k) (hl : (l.length : Int) ≤ 1099511627776) : impl_areIn k l many lo hi = some (decide ((l.length : Int) = many ∧ ∀ z ∈ l, lo ≤ z ∧ z ≤ hi)) := by
  unfold impl_areIn impl_size
  by_cases h : (l.length : Int) = many
  · rw [decide_eq_true h, if_pos rfl, anyF_val k l (fun a0 => some (impl_areIn_c1 a0 lo hi)) (fun z => !decide (lo ≤ z ∧ z ≤ hi)) (fun z _ => by unfold impl_areIn_c1; rw [in_eq]) hk hl]
    simp only [Option.bind_some]
    congr 1
    rw [Bool.eq_iff_iff, decide_eq_true_iff, Bool.not_eq_true', List.any_eq_false]
    constructor
    · intro q
      exact ⟨h, fun z hz => by simpa using q z hz⟩
    · rintro ⟨_, q⟩ z hz
      simpa using q z hz
  · rw [decide_eq_false h]
    simp [h]

def bs (l : List UInt8) : ByteArray := ⟨l.toArray⟩

theorem bs_app (x : ByteArray) (a b : List UInt8) : (x ++ bs a) ++ bs b = x ++ bs (a ++ b) := by
  apply ByteArray.ext
  simp only [bs, ByteArray.data_append]
  rw [Array.append_assoc]
  simp

theorem bs_nil (x : ByteArray) : x ++ bs [] = x := by
  apply ByteArray.ext
  simp [bs, ByteArray.data_append]

theorem bs_size (a : List UInt8) : (bs a).size = a.length := by simp [bs, ByteArray.size]

theorem bs_list (a : List UInt8) : (bs a).data.toList = a := by simp [bs]

/-- A digit. -/
def dg (c : Int) : UInt8 := toByte (48 + c)

theorem dec_one (n : Int) (hn : 0 ≤ n ∧ n < 10) (k : Nat) : spec_l01Dec (k + 1) n = some (bs [dg n]) := by
  rw [spec_l01Dec, spec_l01Dec_body]
  have h1 : ¬ n < 0 := by omega
  have h2 : n < 10 := by omega
  simp only [h1, h2, decide_true, decide_false, Bool.false_eq_true, if_false, if_true]
  rw [w64_id (by omega)]; rfl

theorem dec_fuel (n : Int) (hn : 0 ≤ n ∧ n < 100) (k : Nat) : spec_l01Dec (k + 2) n = spec_l01Dec 2 n := by
  show spec_l01Dec_body (spec_l01Dec (k + 1)) (k + 1) n = spec_l01Dec_body (spec_l01Dec 1) 1 n
  unfold spec_l01Dec_body
  have h1 : ¬ n < 0 := by omega
  by_cases h2 : n < 10
  · simp only [h1, h2, decide_true, decide_false, Bool.false_eq_true, if_false, if_true]
  · have e : n.tdiv 10 = n / 10 := Int.tdiv_eq_ediv_of_nonneg hn.1
    have hq : 0 ≤ n / 10 ∧ n / 10 < 10 := by omega
    simp only [h1, h2, decide_false, Bool.false_eq_true, if_false]
    rw [e, w64_id (by omega), dec_one _ hq k, dec_one _ hq 0]

theorem dec_both (n : Int) (hn : 0 ≤ n ∧ n < 18) (k : Nat) (hk : 2 ≤ k) : ∃ d : ByteArray, d.size ≤ 2 ∧ spec_l01Dec k n = some d ∧ impl_decimal n = some d := by
  obtain ⟨k, rfl⟩ : ∃ k', k = k' + 2 := ⟨k - 2, by omega⟩
  rw [dec_fuel n (by omega)]
  obtain ⟨m, rfl⟩ := nat_of hn.1
  have : ∀ m : Nat, m < 18 → spec_l01Dec 2 (m : Int) = impl_decimal (m : Int) ∧ (impl_decimal (m : Int)).isSome = true ∧ ((impl_decimal (m : Int)).getD ByteArray.empty).size ≤ 2 := by decide +kernel
  obtain ⟨h1, h2, h3⟩ := this m (by omega)
  obtain ⟨d, hd⟩ := Option.isSome_iff_exists.1 h2
  rw [hd] at h1 h3
  exact ⟨d, h3, h1, hd⟩

theorem cc_lt (x : Col) (h : x.is) (i j : Int) (h0 : 0 ≤ i) (hij : i < j) (hj : j < x.p) : 0 ≤ x.cc i j ∧ x.cc i j < 4 := by
  obtain ⟨hp, hk, hE⟩ := h
  have hlt := eN_lt (i := i.toNat) (j := j.toNat) (n := x.p.toNat) (by omega) (by omega) (by omega)
  have h136 := eN_136 (i := i.toNat) (j := j.toNat) (by omega) (by omega) (by omega)
  have hT : tE x = (tri x.p.toNat : Int) := by
    unfold tE
    obtain ⟨m, hm⟩ := nat_of (show 0 ≤ x.p by omega)
    rw [hm]
    have : ∀ m : Nat, m < 18 → w64 ((w64 ((m : Int) * (w64 ((m : Int) - 1)))).tdiv 2) = (tri m : Int) := by decide +kernel
    rw [Int.toNat_natCast]
    exact this m (by omega)
  have := (hE (eN i.toNat j.toNat : Nat) (by omega) (by omega)).1 (by rw [hT]; omega)
  unfold Col.cc
  rw [Int.toNat_natCast] at this
  refine ⟨by omega, ?_⟩
  have h2 : ((x.get (eN i.toNat j.toNat)).toNat : Int) = ((x.e.get (eN i.toNat j.toNat)).toNat : Int) := rfl
  omega

/-- The row of point j; the first rows. -/
def rowT (x : Col) (j : Nat) : List UInt8 := (List.range j).map fun i : Nat => dg (x.cc i j)

def rowsT (x : Col) (m : Nat) : List (List UInt8) := (List.range m).map fun t => rowT x (t + 1)

theorem rowT_succ (f : Nat → UInt8) (m : Nat) : (List.range (m + 1)).map f = (List.range m).map f ++ [f m] := by simp [List.range_succ]

theorem rowsT_succ (x : Col) (m : Nat) : rowsT x (m + 1) = rowsT x m ++ [rowT x (m + 1)] := by simp [rowsT, List.range_succ]

theorem join_snoc (xs : List (List UInt8)) (y sep : List UInt8) (h : xs ≠ []) : Lib.join (xs ++ [y]) sep = Lib.join xs sep ++ sep ++ y := by
  cases xs with
  | nil => exact absurd rfl h
  | cons a l =>
    rw [List.cons_append, Lib.join_cons, Lib.join_cons]
    simp [Lib.joinTail, List.append_assoc]

def jT (x : Col) (m : Nat) : List UInt8 := Lib.join (rowsT x m) [44]

theorem jT_one (x : Col) : jT x 1 = rowT x 1 := by unfold jT rowsT; simp [Lib.join_one]

theorem jT_succ (x : Col) (m : Nat) (h : 1 ≤ m) : jT x (m + 1) = jT x m ++ [44] ++ rowT x (m + 1) := by
  unfold jT
  rw [rowsT_succ, join_snoc]
  intro e
  have : (rowsT x m).length = m := by simp [rowsT]
  rw [e] at this; simp at this; omega

theorem jT_len (x : Col) (m : Nat) (h : m ≤ 16) : (jT x m).length ≤ 18 * m := by
  induction m with
  | zero => simp [jT, rowsT, Lib.join_nil]
  | succ m ih =>
    by_cases h1 : m = 0
    · subst h1; rw [jT_one]; simp [rowT]
    · rw [jT_succ x m (by omega)]
      have := ih (by omega)
      simp [rowT]; omega

theorem specRow (x : Col) (hx : x.is) (m : Nat) (h1 : 1 ≤ m) (hm : (m : Int) < x.p) (s : ByteArray) (hs : s.size ≤ 400) (k : Nat) (hk : 40 ≤ k) : spec_l01Text_l1 k x m k s 0 = some (s ++ bs (rowT x m)) := by
  have hp := hx.1
  have := loopI (f := fun k' i (s : ByteArray) => spec_l01Text_l1 k x m k' s i) (m : Int) 0 (fun i r => i ≤ m ∧ r = s ++ bs ((List.range i.toNat).map fun i : Nat => dg (x.cc i m))) (fun r => r = s ++ bs (rowT x m)) ?_ ?_ k 0 s (by omega) (by omega) ⟨by omega, by simp [bs_nil]⟩
  · obtain ⟨r, e, rfl⟩ := this
    exact e
  · rintro k' i r h0 h1 ⟨_, q⟩
    left
    obtain ⟨a, rfl⟩ := nat_of h0
    have hc := cc_lt x hx a m (by omega) h1 hm
    have e1 : r.size ≤ 420 := by
      have e0 := bs_size ((List.range (a : Int).toNat).map fun i : Nat => dg (x.cc i m))
      rw [List.length_map, List.length_range, Int.toNat_natCast] at e0
      rw [q, ByteArray.size_append, Int.toNat_natCast, e0]; omega
    refine ⟨s ++ bs ((List.range (a + 1)).map fun i : Nat => dg (x.cc i m)), ?_, by omega, by rw [show ((a : Int) + 1).toNat = a + 1 by omega]⟩
    show spec_l01Text_l1 k x m (k' + 1) r a = _
    obtain ⟨k2, rfl⟩ : ∃ k2, k = k2 + 1 := ⟨k - 1, by omega⟩
    rw [spec_l01Text_l1, if_pos (decide_eq_true h1), specAt_eq x a m (by omega) h1 (by omega) (by omega), Option.bind_some, dec_one _ (by omega), Option.bind_some, w64_succ h0 h1 (by omega), if_pos (by rw [bs_size]; simp; omega), q, Int.toNat_natCast, bs_app, rowT_succ]
  · rintro k' i r h0 h1 ⟨q0, q⟩
    obtain rfl : i = m := by omega
    refine ⟨r, ?_, by rw [q, Int.toNat_natCast]; rfl⟩
    show spec_l01Text_l1 k x m (k' + 1) r m = _
    rw [spec_l01Text_l1]; simp

theorem specText (x : Col) (hx : x.is) (s : ByteArray) (hs : s.size ≤ 10) (k : Nat) (hk : 40 ≤ k) : spec_l01Text_l0 k x k s 1 = some (s ++ bs (jT x (x.p - 1).toNat)) := by
  have hp := hx.1
  have := loopI (f := fun k' j (s : ByteArray) => spec_l01Text_l0 k x k' s j) x.p 1 (fun j r => j ≤ x.p ∧ r = s ++ bs (jT x (j - 1).toNat)) (fun r => r = s ++ bs (jT x (x.p - 1).toNat)) ?_ ?_ k 1 s (by omega) (by omega) ⟨by omega, by simp [jT, rowsT, Lib.join_nil, bs_nil]⟩
  · obtain ⟨r, e, rfl⟩ := this
    exact e
  · rintro k' j r h0 h1 ⟨_, q⟩
    left
    obtain ⟨m, rfl⟩ : ∃ m : Nat, j = (m : Int) + 1 := ⟨(j - 1).toNat, by omega⟩
    rw [show ((m : Int) + 1 - 1).toNat = m by omega] at q
    have hl := jT_len x m (by omega)
    refine ⟨s ++ bs (jT x (m + 1)), ?_, by omega, by rw [show ((m : Int) + 1 + 1 - 1).toNat = m + 1 by omega]⟩
    show spec_l01Text_l0 k x (k' + 1) r ((m : Int) + 1) = _
    have hr : r.size ≤ 10 + 18 * m := by rw [q, ByteArray.size_append, bs_size]; omega
    have hrow := fun (t : ByteArray) (ht : t.size ≤ 400) => specRow x hx (m + 1) (by omega) (by omega) t ht k hk
    rw [spec_l01Text_l0, if_pos (decide_eq_true h1), w64_succ (by omega) h1 (by omega)]
    by_cases hm : m = 0
    · subst hm
      have : ¬ (1 : Int) < ((0 : Nat) : Int) + 1 := by omega
      rw [if_neg (by simp), Option.bind_some]
      have e := hrow r (by omega)
      rw [show ((0 + 1 : Nat) : Int) = ((0 : Nat) : Int) + 1 by omega] at e
      rw [e, Option.bind_some, q, jT_one]
      have : jT x 0 = [] := by simp [jT, rowsT, Lib.join_nil]
      rw [this, bs_app]; rfl
    · have h2 : (1 : Int) < (m : Int) + 1 := by omega
      have e44 : (⟨#[44]⟩ : ByteArray) = bs [44] := rfl
      rw [if_pos (decide_eq_true h2), e44, if_pos (by rw [bs_size]; show r.size + 1 ≤ 1099511627776; omega), Option.bind_some]
      have e := hrow (r ++ bs [44]) (by rw [ByteArray.size_append, bs_size]; show r.size + 1 ≤ 400; omega)
      rw [show ((m + 1 : Nat) : Int) = (m : Int) + 1 by omega] at e
      rw [e, Option.bind_some, q, bs_app, bs_app, jT_succ x m (by omega), List.append_assoc]
  · rintro k' j r h0 h1 ⟨q0, q⟩
    obtain rfl : j = x.p := by omega
    refine ⟨r, ?_, q⟩
    show spec_l01Text_l0 k x (k' + 1) r x.p = _
    rw [spec_l01Text_l0]; simp

theorem implRow (x : Col) (hx : x.is) (m : Nat) (hm : (m : Int) < x.p) (k : Nat) (hk : 40 ≤ k) : impl_Colouring_text_l1 x m k 0 [] = some (rowT x m) := by
  have hp := hx.1
  have := loopI (f := fun k' i (s : List UInt8) => impl_Colouring_text_l1 x m k' i s) (m : Int) 0 (fun i r => i ≤ m ∧ r = (List.range i.toNat).map fun i : Nat => dg (x.cc i m)) (fun r => r = rowT x m) ?_ ?_ k 0 [] (by omega) (by omega) ⟨by omega, by simp⟩
  · obtain ⟨r, e, rfl⟩ := this
    exact e
  · rintro k' i r h0 h1 ⟨_, q⟩
    left
    obtain ⟨a, rfl⟩ := nat_of h0
    have hc := cc_lt x hx a m (by omega) h1 hm
    have e1 : r.length ≤ 20 := by rw [q, List.length_map, List.length_range]; omega
    refine ⟨(List.range (a + 1)).map fun i : Nat => dg (x.cc i m), ?_, by omega, by rw [show ((a : Int) + 1).toNat = a + 1 by omega]⟩
    show impl_Colouring_text_l1 x m (k' + 1) a r = _
    rw [impl_Colouring_text_l1, if_pos (decide_eq_true h1), implAt_eq x a m (by omega) h1 (by omega) (by omega), Option.bind_some, w64_succ h0 h1 (by omega), if_pos (by simp; omega), w64_id (n := 48 + x.cc a m) (by omega), q, Int.toNat_natCast, rowT_succ]
    rfl
  · rintro k' i r h0 h1 ⟨q0, q⟩
    obtain rfl : i = m := by omega
    refine ⟨r, ?_, by rw [q, Int.toNat_natCast]; rfl⟩
    show impl_Colouring_text_l1 x m (k' + 1) m r = _
    rw [impl_Colouring_text_l1]; simp

theorem implRows (x : Col) (hx : x.is) (k : Nat) (hk : 40 ≤ k) : impl_Colouring_text_l0 k x k 1 [] = some ((rowsT x (x.p - 1).toNat).map bs) := by
  have hp := hx.1
  have := loopI (f := fun k' j (s : List ByteArray) => impl_Colouring_text_l0 k x k' j s) x.p 1 (fun j r => j ≤ x.p ∧ r = (rowsT x (j - 1).toNat).map bs) (fun r => r = (rowsT x (x.p - 1).toNat).map bs) ?_ ?_ k 1 [] (by omega) (by omega) ⟨by omega, by simp [rowsT]⟩
  · obtain ⟨r, e, rfl⟩ := this
    exact e
  · rintro k' j r h0 h1 ⟨_, q⟩
    left
    obtain ⟨m, rfl⟩ : ∃ m : Nat, j = (m : Int) + 1 := ⟨(j - 1).toNat, by omega⟩
    rw [show ((m : Int) + 1 - 1).toNat = m by omega] at q
    refine ⟨(rowsT x (m + 1)).map bs, ?_, by omega, by rw [show ((m : Int) + 1 + 1 - 1).toNat = m + 1 by omega]⟩
    show impl_Colouring_text_l0 k x (k' + 1) ((m : Int) + 1) r = _
    have e := implRow x hx (m + 1) (by omega) k hk
    rw [show ((m + 1 : Nat) : Int) = (m : Int) + 1 by omega] at e
    have hr : r.length = m := by rw [q, List.length_map]; simp [rowsT]
    rw [impl_Colouring_text_l0, if_pos (decide_eq_true h1), w64_succ (by omega) h1 (by omega), e, Option.bind_some, if_pos (by simp; omega), Option.bind_some, rowsT_succ, List.map_append, q]
    rfl
  · rintro k' j r h0 h1 ⟨q0, q⟩
    obtain rfl : j = x.p := by omega
    refine ⟨r, ?_, q⟩
    show impl_Colouring_text_l0 k x (k' + 1) x.p r = _
    rw [impl_Colouring_text_l0]; simp

theorem texts (x : Col) (hx : x.is) (k : Nat) (hk : 40 ≤ k) : ∃ t, spec_l01Text k x = some t ∧ impl_Colouring_text k x = some t := by
  have hp := hx.1
  have hq := hx.2.1
  unfold spec_l01Text impl_Colouring_text
  obtain ⟨a, a1, a2, a3⟩ := dec_both x.p (by omega) k (by omega)
  obtain ⟨b, b1, b2, b3⟩ := dec_both x.k (by omega) k (by omega)
  have e44 : (⟨#[44]⟩ : ByteArray) = bs [44] := rfl
  have e58 : (⟨#[58]⟩ : ByteArray) = bs [58] := rfl
  have s1 : (a ++ bs [44]).size ≤ 3 := by rw [ByteArray.size_append, bs_size]; show a.size + 1 ≤ 3; omega
  have s2 : ((a ++ bs [44]) ++ b).size ≤ 5 := by rw [ByteArray.size_append]; omega
  have s3 : (((a ++ bs [44]) ++ b) ++ bs [58]).size ≤ 6 := by rw [ByteArray.size_append, bs_size]; show _ + 1 ≤ 6; omega
  have hl := jT_len x (x.p - 1).toNat (by omega)
  have hj : joinL ((rowsT x (x.p - 1).toNat).map bs) (bs [44]) = jT x (x.p - 1).toNat := by
    unfold joinL jT
    rw [List.map_map, bs_list]
    congr 1
    refine (List.map_congr_left fun l _ => ?_).trans (List.map_id _)
    exact bs_list l
  have hjs : joinS ((rowsT x (x.p - 1).toNat).map bs) (bs [44]) = some (bs (jT x (x.p - 1).toNat)) := by
    unfold joinS
    rw [hj, if_pos ⟨by simp [rowsT]; omega, by omega⟩]; rfl
  refine ⟨(((a ++ bs [44]) ++ b) ++ bs [58]) ++ bs (jT x (x.p - 1).toNat), ?_, ?_⟩
  · rw [a2, Option.bind_some, e44, e58, if_pos (by rw [bs_size]; show a.size + 1 ≤ 1099511627776; omega), b2, Option.bind_some, if_pos (by omega), if_pos (by rw [bs_size]; show _ + 1 ≤ 1099511627776; omega), specText x hx _ (by omega) k hk]
    rfl
  · rw [implRows x hx k hk, Option.bind_some, a3, Option.bind_some, e44, e58, if_pos (by rw [bs_size]; show a.size + 1 ≤ 1099511627776; omega), b3, Option.bind_some, if_pos (by omega), if_pos (by rw [bs_size]; show _ + 1 ≤ 1099511627776; omega), hjs, Option.bind_some, if_pos (by rw [bs_size (jT x (x.p - 1).toNat)]; omega)]

end Go.Proofs.YtfhdihekehlkiaaGreatDoor
