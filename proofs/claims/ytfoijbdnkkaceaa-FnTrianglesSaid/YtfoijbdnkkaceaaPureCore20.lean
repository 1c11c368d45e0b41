/- Plain laws, collected out of own texts. No conditions beyond those that each lemma states. -/
import Derived.Test.YtfoijbdnkkaceaaPKit
import Derived.Test.YtfoijbdnkkaceaaPBits
import Derived.Test.YtfoijbdnkkaceaaGen20
set_option linter.unusedVariables false
set_option linter.unusedSimpArgs false
namespace Go.Proofs.Ytfoijbdnkkaceaa
open Go Go.RowKit Ab

theorem in_eq (a b c : Int) : impl_in a b c = decide (b ≤ a ∧ a ≤ c) := by
  unfold impl_in letO
  by_cases h : b ≤ a <;> by_cases h' : a ≤ c <;> simp [h, h']

theorem specIn_eq (a b c : Int) : spec_l01In a b c = decide (b ≤ a ∧ a ≤ c) := by
  unfold spec_l01In letO
  by_cases h : b ≤ a <;> by_cases h' : a ≤ c <;> simp [h, h']

def tE (x : Col) : Int := w64 ((w64 (x.p * (w64 (x.p - 1)))).tdiv 2)

def okE (x : Col) (j : Int) : Prop := (j < tE x → ((x.get j.toNat).toNat : Int) < x.k) ∧ (tE x ≤ j → ((x.get j.toNat).toNat : Int) = 0)

/-- Numbers in range, colours in range on the edges, zero behind them. -/
def Col.is (x : Col) : Prop := (1 ≤ x.p ∧ x.p ≤ 17) ∧ (1 ≤ x.k ∧ x.k ≤ 4) ∧ ∀ j, 0 ≤ j → j < 136 → okE x j

open Classical in
theorem specIs_eq (k : Nat) (h : 137 ≤ k) (x : Col) : spec_l01Is k x = some (decide x.is) := by
  unfold spec_l01Is
  rw [specIn_eq, specIn_eq]
  by_cases hp : 1 ≤ x.p ∧ x.p ≤ 17
  · by_cases hk : 1 ≤ x.k ∧ x.k ≤ 4
    · have := loopAll (f := fun k' i => spec_l01Is_l0 k x k' i) 136 false (okE x) 0
        (fun k' i h0 h1 hq => by
          show spec_l01Is_l0 k x (k' + 1) i = _
          rw [spec_l01Is_l0, w64_succ h0 h1 (by omega)]
          obtain ⟨q1, q2⟩ := hq
          change (i < tE x → _) at q1
          by_cases hc : i < tE x
          · have e1 := q1 hc
            have e2 : ¬ tE x ≤ i := by omega
            have e3 : ¬ x.k ≤ ((x.get i.toNat).toNat : Int) := by omega
            unfold tE at hc e2
            simp [h0, h1, hc, e2, e3]
          · have e1 := q2 (by omega)
            have e2 : tE x ≤ i := by omega
            unfold tE at hc e2
            simp [h0, h1, hc, e2, e1])
        (fun k' i h0 h1 hq => by
          show spec_l01Is_l0 k x (k' + 1) i = _
          rw [spec_l01Is_l0]
          by_cases hc : i < tE x
          · have e2 : ¬ tE x ≤ i := by omega
            have e3 : x.k ≤ ((x.get i.toNat).toNat : Int) := by
              apply Int.not_lt.1
              intro e; exact hq ⟨fun _ => e, fun h => (e2 h).elim⟩
            unfold tE at hc e2
            simp [h0, h1, hc, e2, e3]
          · have e2 : tE x ≤ i := by omega
            have e3 : ¬ ((x.get i.toNat).toNat : Int) = 0 := by
              intro e; exact hq ⟨fun h => (hc h).elim, fun _ => e⟩
            unfold tE at hc e2
            have e5 : ¬ (x.get i.toNat).toNat = 0 := by omega
            simp [h0, h1, hc, e2, e5])
        (fun k' i h1 => by
          show spec_l01Is_l0 k x (k' + 1) i = _
          rw [spec_l01Is_l0]
          have : ¬ i < 136 := by omega
          simp [this]) k 0 (by omega) (by omega)
      simp only [hp, hk, decide_true, Bool.not_true, Bool.false_eq_true, if_false, letO, and_self]
      rw [this]
      by_cases ha : ∀ j, 0 ≤ j → j < 136 → okE x j
      · have : x.is := ⟨hp, hk, ha⟩
        rw [if_pos ha]; simp [this]
      · have : ¬ x.is := fun h => ha h.2.2
        simp only [if_neg ha, this]
        simp
    · have : ¬ x.is := fun h => hk h.2.1
      simp [hp, hk, letO, this]
  · have : ¬ x.is := fun h => hp h.1
    simp [hp, letO, this]

open Classical in
theorem isColouring_eq (k : Nat) (h : 137 ≤ k) (x : Col) : impl_Colouring_isColouring k x = some (decide x.is) := by
  unfold impl_Colouring_isColouring
  rw [in_eq, in_eq]
  by_cases hp : 1 ≤ x.p ∧ x.p ≤ 17
  · by_cases hk : 1 ≤ x.k ∧ x.k ≤ 4
    · have := loopAll (f := fun k' i => impl_Colouring_isColouring_l0 k x k' i) 136 false (okE x) 0
        (fun k' i h0 h1 hq => by
          show impl_Colouring_isColouring_l0 k x (k' + 1) i = _
          rw [impl_Colouring_isColouring_l0, w64_succ h0 h1 (by omega)]
          obtain ⟨q1, q2⟩ := hq
          change (i < tE x → ((x.e.get i.toNat).toNat : Int) < x.k) at q1
          change (tE x ≤ i → ((x.e.get i.toNat).toNat : Int) = 0) at q2
          change (if _ then _ else _) = _
          have hE : impl_Colouring_edges x = tE x := rfl
          by_cases hc : i < tE x
          · have e1 := q1 hc
            have e2 : ¬ tE x ≤ i := by omega
            have e3 : ¬ x.k ≤ ((x.e.get i.toNat).toNat : Int) := by omega
            simp [h0, h1, hc, e2, e3, hE, letO]
          · have e1 := q2 (by omega)
            have e2 : tE x ≤ i := by omega
            have e3 : ¬ x.k ≤ ((x.e.get i.toNat).toNat : Int) := by omega
            rw [e1] at e3
            simp [h0, h1, hc, e2, e1, e3, hE, letO])
        (fun k' i h0 h1 hq => by
          show impl_Colouring_isColouring_l0 k x (k' + 1) i = _
          rw [impl_Colouring_isColouring_l0]
          have hE : impl_Colouring_edges x = tE x := rfl
          by_cases e3 : x.k ≤ ((x.e.get i.toNat).toNat : Int)
          · simp [h0, h1, e3, letO]
          · have e2 : tE x ≤ i := by
              apply Int.not_lt.1
              intro hc; exact hq ⟨fun _ => by change ((x.e.get i.toNat).toNat : Int) < x.k; omega, fun h => by omega⟩
            have e4 : ¬ ((x.e.get i.toNat).toNat : Int) = 0 := by
              intro e; exact hq ⟨fun h => by omega, fun _ => e⟩
            have e5 : ¬ (x.e.get i.toNat).toNat = 0 := by omega
            simp [h0, h1, e2, e3, e5, hE, letO])
        (fun k' i h1 => by
          show impl_Colouring_isColouring_l0 k x (k' + 1) i = _
          rw [impl_Colouring_isColouring_l0]
          have : ¬ i < 136 := by omega
          simp [this]) k 0 (by omega) (by omega)
      simp only [hp, hk, decide_true, Bool.not_true, Bool.false_eq_true, if_false, letO, and_self]
      rw [this]
      by_cases ha : ∀ j, 0 ≤ j → j < 136 → okE x j
      · have : x.is := ⟨hp, hk, ha⟩
        rw [if_pos ha]; simp [this]
      · have : ¬ x.is := fun h => ha h.2.2
        simp only [if_neg ha, this]
        simp
    · have : ¬ x.is := fun h => hk h.2.1
      simp [hp, hk, letO, this]
  · have : ¬ x.is := fun h => hp h.1
    simp [hp, letO, this]

theorem number_eq (i j : Int) (hi : 0 ≤ i ∧ i < 17) (hj : 0 ≤ j ∧ j < 17) : impl_number i j = (eN i.toNat j.toNat : Int) := by
  have : ∀ i, i < 17 → ∀ j, j < 17 → impl_number (i : Nat) (j : Nat) = (eN i j : Int) := by decide +kernel
  have h := this i.toNat (by omega) j.toNat (by omega)
  rwa [Int.toNat_of_nonneg hi.1, Int.toNat_of_nonneg hj.1] at h

theorem edge_eq (i j : Int) (hi : 0 ≤ i ∧ i < 17) (hj : 0 ≤ j ∧ j < 17) : spec_l01Edge i j = (eN i.toNat j.toNat : Int) := by
  have : ∀ i, i < 17 → ∀ j, j < 17 → spec_l01Edge (i : Nat) (j : Nat) = (eN i j : Int) := by decide +kernel
  have h := this i.toNat (by omega) j.toNat (by omega)
  rwa [Int.toNat_of_nonneg hi.1, Int.toNat_of_nonneg hj.1] at h

def Col.cc (x : Col) (i j : Int) : Int := ((x.e.get (eN i.toNat j.toNat)).toNat : Int)

theorem specAt_eq (x : Col) (i j : Int) (h0 : 0 ≤ i) (h : i < j) (hj : 0 ≤ j) (hj' : j < 17) : spec_l01At x i j = some (x.cc i j) := by
  unfold spec_l01At
  rw [edge_eq i j (by omega) (by omega)]
  have := eN_136 (i := i.toNat) (j := j.toNat) (by omega) (by omega) (by omega)
  rw [if_pos (by omega)]
  rfl

abbrev li (l : List Int) (i : Int) : Int := l.getD i.toNat 0

def inP (x : Col) (l : List Int) : Prop := ∀ i : Int, 0 ≤ i → i < l.length → 0 ≤ li l i ∧ li l i ≤ x.p - 1

def inc (l : List Int) : Prop := ∀ i : Int, 1 ≤ i → i < l.length → li l (i - 1) < li l i

open Classical in
theorem specAll_eq (k : Nat) (l : List Int) (p : Int) (hk : l.length + 1 ≤ k) (hl : (l.length : Int) ≤ 1099511627776) (hp : -9223372036854775808 ≤ p - 1 ∧ p - 1 < 9223372036854775808) : spec_l01All k l p = some (decide (∀ i : Int, 0 ≤ i → i < l.length → 0 ≤ li l i ∧ li l i ≤ p - 1)) := by
  unfold spec_l01All
  rw [loopAll (f := fun k' i => spec_l01All_l0 l p k' i) (l.length : Int) false (fun i => 0 ≤ li l i ∧ li l i ≤ p - 1) 0 ?_ ?_ ?_ k 0 (by omega) (by omega)]
  · by_cases h : ∀ i : Int, 0 ≤ i → i < l.length → 0 ≤ li l i ∧ li l i ≤ p - 1
    · rw [if_pos h]; simp only [Option.bind_some]; rw [decide_eq_true h]
    · rw [if_neg h]; simp only [Option.bind_some]; rw [decide_eq_false h]
  · intro k' i h0 h1 hq
    show spec_l01All_l0 l p (k' + 1) i = _
    rw [spec_l01All_l0, w64_succ h0 h1 (by omega), specIn_eq, w64_id hp]
    simp only [h0, h1, and_self, if_true, decide_true]
    rw [decide_eq_true (show 0 ≤ l.getD i.toNat 0 ∧ l.getD i.toNat 0 ≤ p - 1 from hq)]; simp
  · intro k' i h0 h1 hq
    show spec_l01All_l0 l p (k' + 1) i = _
    rw [spec_l01All_l0, specIn_eq, w64_id hp]
    simp only [h0, h1, and_self, if_true, decide_true]
    rw [decide_eq_false (show ¬ (0 ≤ l.getD i.toNat 0 ∧ l.getD i.toNat 0 ≤ p - 1) from hq)]; simp
  · intro k' i h1
    show spec_l01All_l0 l p (k' + 1) i = _
    rw [spec_l01All_l0]
    have : ¬ i < (l.length : Int) := by omega
    simp [this]

/-- What the reference answers to a colouring, a colour and numbers of points. -/
theorem specGiven_eq (k : Nat) (x : Col) (c : Int) (l : List Int) (hk : l.length + 137 ≤ k) (hl : (l.length : Int) ≤ 1099511627776) [Decidable x.is] [Decidable ((0 ≤ c ∧ c ≤ x.k - 1) ∧ inP x l)] :
    spec_l01Given k x c l = some (if x.is then (if (0 ≤ c ∧ c ≤ x.k - 1) ∧ inP x l then 0 else 2) else 1) := by
  classical
  unfold spec_l01Given
  rw [specIs_eq k (by omega)]
  by_cases h : x.is
  · have hp := h.1; have hkk := h.2.1
    rw [specAll_eq k l x.p (by omega) hl (by omega), specIn_eq, w64_id (by omega)]
    by_cases hc : 0 ≤ c ∧ c ≤ x.k - 1
    · by_cases hi : inP x l
      · have e : decide (∀ i : Int, 0 ≤ i → i < l.length → 0 ≤ li l i ∧ li l i ≤ x.p - 1) = true := decide_eq_true hi
        rw [e]; simp [h, hc, hi]
      · have e : decide (∀ i : Int, 0 ≤ i → i < l.length → 0 ≤ li l i ∧ li l i ≤ x.p - 1) = false := decide_eq_false hi
        rw [e]; simp [h, hc, hi]
    · simp [h, hc]
  · simp [h]

theorem inc_lt {l : List Int} (h : inc l) : ∀ (d : Nat) (i j : Int), 0 ≤ i → i < j → j < l.length → j = i + d → li l i < li l j := by
  intro d
  induction d with
  | zero => intro i j h0 h1 h2 e; omega
  | succ d ih =>
    intro i j h0 h1 h2 e
    have hs := h j (by omega) h2
    by_cases he : i = j - 1
    · rw [he]; exact hs
    · exact Int.lt_trans (ih i (j - 1) h0 (by omega) (by omega) (by omega)) hs

theorem inc_at {l : List Int} (h : inc l) {i j : Int} (h0 : 0 ≤ i) (h1 : i < j) (h2 : j < l.length) : li l i < li l j := inc_lt h (j - i).toNat i j h0 h1 h2 (by omega)

theorem getD_app' {α : Type} (l m : List α) (d : α) (i : Nat) (h : l.length ≤ i) : (l ++ m).getD i d = m.getD (i - l.length) d := by
  simp only [List.getD]; rw [List.getElem?_append_right h]

theorem cc_comm (x : Col) (i j : Int) : x.cc i j = x.cc j i := by unfold Col.cc; rw [eN_comm]

theorem implAt_ne (x : Col) (i j : Int) (h0 : 0 ≤ i) (h1 : i < 17) (hj : 0 ≤ j) (hj' : j < 17) (h : i ≠ j) : impl_Colouring_at x i j = some (x.cc i j) := by
  unfold impl_Colouring_at
  rw [number_eq i j (by omega) (by omega)]
  have := eN_136 (i := i.toNat) (j := j.toNat) (by omega) (by omega) (by omega)
  rw [if_pos (by omega)]
  rfl

/-- Numbers 0, .., n - 1 for which something holds. -/
def pick (n : Nat) (P : Nat → Bool) : List Int := ((List.range n).filter P).map Int.ofNat

theorem pick_succ (n : Nat) (P : Nat → Bool) : pick (n + 1) P = pick n P ++ (if P n then [(n : Int)] else []) := by
  unfold pick
  rw [List.range_succ, List.filter_append, List.map_append]
  by_cases h : P n <;> simp [h]

theorem pick_mem {n : Nat} {P : Nat → Bool} {z : Int} : z ∈ pick n P ↔ ∃ v : Nat, z = v ∧ v < n ∧ P v = true := by
  unfold pick
  simp only [List.mem_map, List.mem_filter, List.mem_range]
  constructor
  · rintro ⟨v, ⟨h1, h2⟩, rfl⟩; exact ⟨v, rfl, h1, h2⟩
  · rintro ⟨v, rfl, h1, h2⟩; exact ⟨v, ⟨h1, h2⟩, rfl⟩

theorem pick_pw (n : Nat) (P : Nat → Bool) : (pick n P).Pairwise (· < ·) := by
  unfold pick
  rw [List.pairwise_map]
  exact (List.Pairwise.filter _ List.pairwise_lt_range).imp fun h => by simpa using h

theorem pick_length (n : Nat) (P : Nat → Bool) : (pick n P).length ≤ n := by
  unfold pick
  rw [List.length_map]
  exact Nat.le_trans (List.length_filter_le _ _) (by simp)

theorem specAt_ne (x : Col) (i j : Int) (h0 : 0 ≤ i) (h1 : i < 17) (hj : 0 ≤ j) (hj' : j < 17) (h : i ≠ j) : spec_l01At x i j = some (x.cc i j) := by
  unfold spec_l01At
  rw [edge_eq i j ⟨h0, h1⟩ ⟨hj, hj'⟩]
  have := eN_136 (i := i.toNat) (j := j.toNat) (by omega) (by omega) (by omega)
  rw [if_pos ⟨by omega, by omega⟩]
  rfl

def bitsN (P : Nat → Bool) : Nat → Nat
  | 0 => 0
  | n + 1 => if P n then bitsN P n ||| 2 ^ n else bitsN P n

theorem bitsN_test (P : Nat → Bool) (n j : Nat) : (bitsN P n).testBit j = (decide (j < n) && P j) := by
  induction n with
  | zero => simp [bitsN]
  | succ n ih =>
    unfold bitsN
    by_cases h : P n
    · rw [if_pos h, add_bit, ih]
      by_cases e : n = j
      · subst e; simp [h]
      · have : decide (j < n + 1) = decide (j < n) := by simp; omega
        simp [e, this]
    · rw [if_neg h, ih]
      by_cases e : n = j
      · subst e; simp [h]
      · have : decide (j < n + 1) = decide (j < n) := by simp; omega
        rw [this]

theorem bitsN_lt (P : Nat → Bool) (n : Nat) : bitsN P n < 2 ^ n := bits_lt fun i h => by
  rw [bitsN_test]
  have : ¬ i < n := by omega
  simp [this]

theorem lt17 {s n : Nat} (h : s < 2 ^ n) (hn : n ≤ 17) : s < 2 ^ 17 := Nat.lt_of_lt_of_le h (Nat.pow_le_pow_right (by omega) hn)

theorem lt63 {s : Nat} (h : s < 2 ^ 17) : s < 2 ^ 63 := Nat.lt_of_lt_of_le h (by decide)

theorem points_eq (T : Nat) (hT : T < 2 ^ 63) (k : Nat) (hk : 70 ≤ k) : spec_l01Points k T = some (pick 62 fun v => T.testBit v) := by
  unfold spec_l01Points
  have := loopI (f := fun k' i (s : List Int) => spec_l01Points_l0 T k' i s) 62 0 (fun i s => i ≤ 62 ∧ s = pick i.toNat fun v => T.testBit v) (fun r => r = pick 62 fun v => T.testBit v) ?_ ?_ k 0 [] (by omega) (by omega) ⟨by omega, rfl⟩
  · obtain ⟨r, e, rfl⟩ := this
    rw [e]; rfl
  · intro k' i s h0 h1 ⟨_, q⟩
    left
    obtain ⟨m, rfl⟩ := nat_of h0
    refine ⟨_, ?_, by omega, rfl⟩
    show spec_l01Points_l0 T (k' + 1) m s = _
    have e0 : ((m : Int) + 1).toNat = m + 1 := by omega
    have hl := pick_length m fun v => T.testBit v
    rw [spec_l01Points_l0, w64_succ h0 h1 (by omega), e0, u64_id (by omega), pick_succ, q, bit_eq hT (by omega)]
    simp only [Int.toNat_natCast] at *
    have hl' : (pick m fun v => T.testBit v).length + 1 ≤ 1099511627776 := by omega
    by_cases hb : T.testBit m
    · simp [h1, hb, hl']
    · simp [h1, hb]
  · intro k' i s h0 h1 ⟨q1, q2⟩
    have : i = 62 := by omega
    subst this
    refine ⟨s, ?_, q2⟩
    show spec_l01Points_l0 T (k' + 1) 62 s = _
    rw [spec_l01Points_l0]; simp

theorem like_refl (k : Nat) (l : List Int) (hk : l.length + 1 ≤ k) (hl : (l.length : Int) ≤ 1099511627776) : laws_likeInts k l l = some true := by
  unfold laws_likeInts
  have := loopAll (f := fun k' i => laws_likeInts_l0 l l k' i) (l.length : Int) false (fun _ => True) 0
    (fun k' i h0 h1 _ => by
      show laws_likeInts_l0 l l (k' + 1) i = _
      rw [laws_likeInts_l0, w64_succ h0 h1 (by omega)]
      simp [h0, h1])
    (fun k' i h0 h1 hq => (hq trivial).elim)
    (fun k' i h1 => by
      show laws_likeInts_l0 l l (k' + 1) i = _
      rw [laws_likeInts_l0]
      have : ¬ i < (l.length : Int) := by omega
      simp [this]) k 0 (by omega) (by omega)
  rw [this]; simp

open Classical in
theorem index_eq (k : Nat) (l : List Int) (v : Int) (h : l.length + 1 ≤ k) (hl : (l.length : Int) ≤ 1099511627776) : slices_Contains k l v = some (decide (∃ a, a < l.length ∧ l.getD a 0 = v)) := by
  unfold slices_Contains slices_Index
  have := loopI (f := fun k' i (_ : Unit) => slices_Index_l0 l v k' i) (l.length : Int) 0 (fun i _ => ∀ a, a < i.toNat → l.getD a 0 ≠ v)
    (fun r => ((∃ a, a < l.length ∧ l.getD a 0 = v) ∧ ∃ i, r = .inr i ∧ 0 ≤ i) ∨ (¬ (∃ a, a < l.length ∧ l.getD a 0 = v)) ∧ r = .inl ()) ?_ ?_ k 0 () (by omega) (by omega) (fun a h => by omega)
  · obtain ⟨r, e, h⟩ := this
    rw [e]
    rcases h with ⟨hd, i, rfl, hi⟩ | ⟨hd, rfl⟩
    · simp [hi, -List.getD_eq_getElem?_getD, hd]
    · simp [-List.getD_eq_getElem?_getD, hd]
  · intro k' i _ h0 h1 hq
    obtain ⟨m, rfl⟩ := nat_of h0
    have hm : m < l.length := by omega
    by_cases e : v = l.getD m 0
    · right
      refine ⟨.inr m, ?_, .inl ⟨⟨m, hm, e.symm⟩, m, rfl, h0⟩⟩
      show slices_Index_l0 l v (k' + 1) m = _
      rw [slices_Index_l0]
      simp [hm, -List.getD_eq_getElem?_getD, ← e]
    · left
      refine ⟨(), ?_, ?_⟩
      · show slices_Index_l0 l v (k' + 1) m = _
        rw [slices_Index_l0, w64_succ h0 h1 (by omega)]
        simp [hm, -List.getD_eq_getElem?_getD, e]
      · intro a ha
        by_cases h : a = m
        · subst h; exact fun h => e h.symm
        · exact hq a (by omega)
  · intro k' i _ h0 h1 hq
    refine ⟨.inl (), ?_, .inr ⟨fun ⟨a, ha, he⟩ => hq a (by omega) he, rfl⟩⟩
    show slices_Index_l0 l v (k' + 1) i = _
    rw [slices_Index_l0]
    have : ¬ i < (l.length : Int) := by omega
    simp [this]

theorem rows9_refl (k : Nat) (T : List (List Int)) (hk : T.length + 1 ≤ k) (hl : (T.length : Int) ≤ 1099511627776) (hr : ∀ l ∈ T, l.length + 1 ≤ k ∧ (l.length : Int) ≤ 1099511627776) : laws_rows9 k T T = some true := by
  unfold laws_rows9
  have := loopAll (f := fun k' i => laws_rows9_l0 k T T k' i) (T.length : Int) false (fun _ => True) 0
    (fun k' i h0 h1 _ => by
      show laws_rows9_l0 k T T (k' + 1) i = _
      have hlt : i.toNat < T.length := by omega
      have hm : T.getD i.toNat [] ∈ T := by
        have e : T.getD i.toNat [] = T[i.toNat] := by simp [List.getD, hlt]
        rw [e]; exact List.getElem_mem hlt
      rw [laws_rows9_l0, w64_succ h0 h1 (by omega), like_refl k _ (hr _ hm).1 (hr _ hm).2]
      simp [h0, h1])
    (fun k' i h0 h1 hq => (hq trivial).elim)
    (fun k' i h1 => by
      show laws_rows9_l0 k T T (k' + 1) i = _
      rw [laws_rows9_l0]
      have : ¬ i < (T.length : Int) := by omega
      simp [this]) k 0 (by omega) (by omega)
  rw [this]; simp

end Go.Proofs.Ytfoijbdnkkaceaa
