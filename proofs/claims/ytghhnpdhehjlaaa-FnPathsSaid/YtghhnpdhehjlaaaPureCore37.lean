/- Plain laws, collected out of own texts. No conditions beyond those that each lemma states. -/
import Derived.Test.YtghhnpdhehjlaaaPKit
import Derived.Test.YtghhnpdhehjlaaaPBits
import Derived.Test.YtghhnpdhehjlaaaClqB
import Derived.Test.YtghhnpdhehjlaaaTri
import Derived.Test.YtghhnpdhehjlaaaGen37
set_option linter.unusedVariables false
set_option linter.unusedSimpArgs false
namespace Go.Proofs.Ytghhnpdhehjlaaa
open Go Go.RowKit Ab

theorem in_eq (a b c : Int) : impl_in a b c = decide (b ≤ a ∧ a ≤ c) := by
  unfold impl_in letO
  by_cases h : b ≤ a <;> by_cases h' : a ≤ c <;> simp [h, h']

theorem specIn_eq (a b c : Int) : spec_l01In a b c = decide (b ≤ a ∧ a ≤ c) := by
  unfold spec_l01In letO
  by_cases h : b ≤ a <;> by_cases h' : a ≤ c <;> simp [h, h']

def tE (x : Col) : Int := w64 ((w64 (x.p * (w64 (x.p - 1)))).tdiv 2)

def okE (x : Col) (j : Int) : Prop := (j < tE x → ((x.get j.toNat).toNat : Int) < x.k) ∧ (tE x ≤ j → ((x.get j.toNat).toNat : Int) = 0)

/-- Numbers in range, colours in range on the edges, zero behind them. -/
def Col.is (x : Col) : Prop := (1 ≤ x.p ∧ x.p ≤ 17) ∧ (1 ≤ x.k ∧ x.k ≤ 4) ∧ ∀ j, 0 ≤ j → j < 136 → okE x j

open Classical in
theorem specIs_eq (k : Nat) (h : 137 ≤ k) (x : Col) : spec_l01Is k x = some (decide x.is) := by
  unfold spec_l01Is
  rw [specIn_eq, specIn_eq]
  by_cases hp : 1 ≤ x.p ∧ x.p ≤ 17
  · by_cases hk : 1 ≤ x.k ∧ x.k ≤ 4
    · have := loopAll (f := fun k' i => spec_l01Is_l0 k x k' i) 136 false (okE x) 0
        (fun k' i h0 h1 hq => by
          show spec_l01Is_l0 k x (k' + 1) i = _
          rw [spec_l01Is_l0, w64_succ h0 h1 (by omega)]
          obtain ⟨q1, q2⟩ := hq
          change (i < tE x → _) at q1
          by_cases hc : i < tE x
          · have e1 := q1 hc
            have e2 : ¬ tE x ≤ i := by omega
            have e3 : ¬ x.k ≤ ((x.get i.toNat).toNat : Int) := by omega
            unfold tE at hc e2
            simp [h0, h1, hc, e2, e3]
          · have e1 := q2 (by omega)
            have e2 : tE x ≤ i := by omega
            unfold tE at hc e2
            simp [h0, h1, hc, e2, e1])
        (fun k' i h0 h1 hq => by
          show spec_l01Is_l0 k x (k' + 1) i = _
          rw [spec_l01Is_l0]
          by_cases hc : i < tE x
          · have e2 : ¬ tE x ≤ i := by omega
            have e3 : x.k ≤ ((x.get i.toNat).toNat : Int) := by
              apply Int.not_lt.1
              intro e; exact hq ⟨fun _ => e, fun h => (e2 h).elim⟩
            unfold tE at hc e2
            simp [h0, h1, hc, e2, e3]
          · have e2 : tE x ≤ i := by omega
            have e3 : ¬ ((x.get i.toNat).toNat : Int) = 0 := by
              intro e; exact hq ⟨fun h => (hc h).elim, fun _ => e⟩
            unfold tE at hc e2
            have e5 : ¬ (x.get i.toNat).toNat = 0 := by omega
            simp [h0, h1, hc, e2, e5])
        (fun k' i h1 => by
          show spec_l01Is_l0 k x (k' + 1) i = _
          rw [spec_l01Is_l0]
          have : ¬ i < 136 := by omega
          simp [this]) k 0 (by omega) (by omega)
      simp only [hp, hk, decide_true, Bool.not_true, Bool.false_eq_true, if_false, letO, and_self]
      rw [this]
      by_cases ha : ∀ j, 0 ≤ j → j < 136 → okE x j
      · have : x.is := ⟨hp, hk, ha⟩
        rw [if_pos ha]; simp [this]
      · have : ¬ x.is := fun h => ha h.2.2
        simp only [if_neg ha, this]
        simp
    · have : ¬ x.is := fun h => hk h.2.1
      simp [hp, hk, letO, this]
  · have : ¬ x.is := fun h => hp h.1
    simp [hp, letO, this]

open Classical in
theorem isColouring_eq (k : Nat) (h : 137 ≤ k) (x : Col) : impl_Colouring_isColouring k x = some (decide x.is) := by
  unfold impl_Colouring_isColouring
  rw [in_eq, in_eq]
  by_cases hp : 1 ≤ x.p ∧ x.p ≤ 17
  · by_cases hk : 1 ≤ x.k ∧ x.k ≤ 4
    · have := loopAll (f := fun k' i => impl_Colouring_isColouring_l0 k x k' i) 136 false (okE x) 0
        (fun k' i h0 h1 hq => by
          show impl_Colouring_isColouring_l0 k x (k' + 1) i = _
          rw [impl_Colouring_isColouring_l0, w64_succ h0 h1 (by omega)]
          obtain ⟨q1, q2⟩ := hq
          change (i < tE x → ((x.e.get i.toNat).toNat : Int) < x.k) at q1
          change (tE x ≤ i → ((x.e.get i.toNat).toNat : Int) = 0) at q2
          change (if _ then _ else _) = _
          have hE : impl_Colouring_edges x = tE x := rfl
          by_cases hc : i < tE x
          · have e1 := q1 hc
            have e2 : ¬ tE x ≤ i := by omega
            have e3 : ¬ x.k ≤ ((x.e.get i.toNat).toNat : Int) := by omega
            simp [h0, h1, hc, e2, e3, hE, letO]
          · have e1 := q2 (by omega)
            have e2 : tE x ≤ i := by omega
            have e3 : ¬ x.k ≤ ((x.e.get i.toNat).toNat : Int) := by omega
            rw [e1] at e3
            simp [h0, h1, hc, e2, e1, e3, hE, letO])
        (fun k' i h0 h1 hq => by
          show impl_Colouring_isColouring_l0 k x (k' + 1) i = _
          rw [impl_Colouring_isColouring_l0]
          have hE : impl_Colouring_edges x = tE x := rfl
          by_cases e3 : x.k ≤ ((x.e.get i.toNat).toNat : Int)
          · simp [h0, h1, e3, letO]
          · have e2 : tE x ≤ i := by
              apply Int.not_lt.1
              intro hc; exact hq ⟨fun _ => by change ((x.e.get i.toNat).toNat : Int) < x.k; omega, fun h => by omega⟩
            have e4 : ¬ ((x.e.get i.toNat).toNat : Int) = 0 := by
              intro e; exact hq ⟨fun h => by omega, fun _ => e⟩
            have e5 : ¬ (x.e.get i.toNat).toNat = 0 := by omega
            simp [h0, h1, e2, e3, e5, hE, letO])
        (fun k' i h1 => by
          show impl_Colouring_isColouring_l0 k x (k' + 1) i = _
          rw [impl_Colouring_isColouring_l0]
          have : ¬ i < 136 := by omega
          simp [this]) k 0 (by omega) (by omega)
      simp only [hp, hk, decide_true, Bool.not_true, Bool.false_eq_true, if_false, letO, and_self]
      rw [this]
      by_cases ha : ∀ j, 0 ≤ j → j < 136 → okE x j
      · have : x.is := ⟨hp, hk, ha⟩
        rw [if_pos ha]; simp [this]
      · have : ¬ x.is := fun h => ha h.2.2
        simp only [if_neg ha, this]
        simp
    · have : ¬ x.is := fun h => hk h.2.1
      simp [hp, hk, letO, this]
  · have : ¬ x.is := fun h => hp h.1
    simp [hp, letO, this]

theorem number_eq (i j : Int) (hi : 0 ≤ i ∧ i < 17) (hj : 0 ≤ j ∧ j < 17) : impl_number i j = (eN i.toNat j.toNat : Int) := by
  have : ∀ i, i < 17 → ∀ j, j < 17 → impl_number (i : Nat) (j : Nat) = (eN i j : Int) := by decide +kernel
  have h := this i.toNat (by omega) j.toNat (by omega)
  rwa [Int.toNat_of_nonneg hi.1, Int.toNat_of_nonneg hj.1] at h

theorem edge_eq (i j : Int) (hi : 0 ≤ i ∧ i < 17) (hj : 0 ≤ j ∧ j < 17) : spec_l01Edge i j = (eN i.toNat j.toNat : Int) := by
  have : ∀ i, i < 17 → ∀ j, j < 17 → spec_l01Edge (i : Nat) (j : Nat) = (eN i j : Int) := by decide +kernel
  have h := this i.toNat (by omega) j.toNat (by omega)
  rwa [Int.toNat_of_nonneg hi.1, Int.toNat_of_nonneg hj.1] at h

def Col.cc (x : Col) (i j : Int) : Int := ((x.e.get (eN i.toNat j.toNat)).toNat : Int)

theorem specAt_eq (x : Col) (i j : Int) (h0 : 0 ≤ i) (h : i < j) (hj : 0 ≤ j) (hj' : j < 17) : spec_l01At x i j = some (x.cc i j) := by
  unfold spec_l01At
  rw [edge_eq i j (by omega) (by omega)]
  have := eN_136 (i := i.toNat) (j := j.toNat) (by omega) (by omega) (by omega)
  rw [if_pos (by omega)]
  rfl

abbrev li (l : List Int) (i : Int) : Int := l.getD i.toNat 0

def inP (x : Col) (l : List Int) : Prop := ∀ i : Int, 0 ≤ i → i < l.length → 0 ≤ li l i ∧ li l i ≤ x.p - 1

open Classical in
theorem specAll_eq (k : Nat) (l : List Int) (p : Int) (hk : l.length + 1 ≤ k) (hl : (l.length : Int) ≤ 1099511627776) (hp : -9223372036854775808 ≤ p - 1 ∧ p - 1 < 9223372036854775808) : spec_l01All k l p = some (decide (∀ i : Int, 0 ≤ i → i < l.length → 0 ≤ li l i ∧ li l i ≤ p - 1)) := by
  unfold spec_l01All
  rw [loopAll (f := fun k' i => spec_l01All_l0 l p k' i) (l.length : Int) false (fun i => 0 ≤ li l i ∧ li l i ≤ p - 1) 0 ?_ ?_ ?_ k 0 (by omega) (by omega)]
  · by_cases h : ∀ i : Int, 0 ≤ i → i < l.length → 0 ≤ li l i ∧ li l i ≤ p - 1
    · rw [if_pos h]; simp only [Option.bind_some]; rw [decide_eq_true h]
    · rw [if_neg h]; simp only [Option.bind_some]; rw [decide_eq_false h]
  · intro k' i h0 h1 hq
    show spec_l01All_l0 l p (k' + 1) i = _
    rw [spec_l01All_l0, w64_succ h0 h1 (by omega), specIn_eq, w64_id hp]
    simp only [h0, h1, and_self, if_true, decide_true]
    rw [decide_eq_true (show 0 ≤ l.getD i.toNat 0 ∧ l.getD i.toNat 0 ≤ p - 1 from hq)]; simp
  · intro k' i h0 h1 hq
    show spec_l01All_l0 l p (k' + 1) i = _
    rw [spec_l01All_l0, specIn_eq, w64_id hp]
    simp only [h0, h1, and_self, if_true, decide_true]
    rw [decide_eq_false (show ¬ (0 ≤ l.getD i.toNat 0 ∧ l.getD i.toNat 0 ≤ p - 1) from hq)]; simp
  · intro k' i h1
    show spec_l01All_l0 l p (k' + 1) i = _
    rw [spec_l01All_l0]
    have : ¬ i < (l.length : Int) := by omega
    simp [this]

/-- What the reference answers to a colouring, a colour and numbers of points. -/
theorem specGiven_eq (k : Nat) (x : Col) (c : Int) (l : List Int) (hk : l.length + 137 ≤ k) (hl : (l.length : Int) ≤ 1099511627776) [Decidable x.is] [Decidable ((0 ≤ c ∧ c ≤ x.k - 1) ∧ inP x l)] :
    spec_l01Given k x c l = some (if x.is then (if (0 ≤ c ∧ c ≤ x.k - 1) ∧ inP x l then 0 else 2) else 1) := by
  classical
  unfold spec_l01Given
  rw [specIs_eq k (by omega)]
  by_cases h : x.is
  · have hp := h.1; have hkk := h.2.1
    rw [specAll_eq k l x.p (by omega) hl (by omega), specIn_eq, w64_id (by omega)]
    by_cases hc : 0 ≤ c ∧ c ≤ x.k - 1
    · by_cases hi : inP x l
      · have e : decide (∀ i : Int, 0 ≤ i → i < l.length → 0 ≤ li l i ∧ li l i ≤ x.p - 1) = true := decide_eq_true hi
        rw [e]; simp [h, hc, hi]
      · have e : decide (∀ i : Int, 0 ≤ i → i < l.length → 0 ≤ li l i ∧ li l i ≤ x.p - 1) = false := decide_eq_false hi
        rw [e]; simp [h, hc, hi]
    · simp [h, hc]
  · simp [h]

theorem cc_comm (x : Col) (i j : Int) : x.cc i j = x.cc j i := by unfold Col.cc; rw [eN_comm]

theorem implAt_ne (x : Col) (i j : Int) (h0 : 0 ≤ i) (h1 : i < 17) (hj : 0 ≤ j) (hj' : j < 17) (h : i ≠ j) : impl_Colouring_at x i j = some (x.cc i j) := by
  unfold impl_Colouring_at
  rw [number_eq i j (by omega) (by omega)]
  have := eN_136 (i := i.toNat) (j := j.toNat) (by omega) (by omega) (by omega)
  rw [if_pos (by omega)]
  rfl

theorem specAt_ne (x : Col) (i j : Int) (h0 : 0 ≤ i) (h1 : i < 17) (hj : 0 ≤ j) (hj' : j < 17) (h : i ≠ j) : spec_l01At x i j = some (x.cc i j) := by
  unfold spec_l01At
  rw [edge_eq i j ⟨h0, h1⟩ ⟨hj, hj'⟩]
  have := eN_136 (i := i.toNat) (j := j.toNat) (by omega) (by omega) (by omega)
  rw [if_pos ⟨by omega, by omega⟩]
  rfl

def bitsN (P : Nat → Bool) : Nat → Nat
  | 0 => 0
  | n + 1 => if P n then bitsN P n ||| 2 ^ n else bitsN P n

theorem bitsN_test (P : Nat → Bool) (n j : Nat) : (bitsN P n).testBit j = (decide (j < n) && P j) := by
  induction n with
  | zero => simp [bitsN]
  | succ n ih =>
    unfold bitsN
    by_cases h : P n
    · rw [if_pos h, add_bit, ih]
      by_cases e : n = j
      · subst e; simp [h]
      · have : decide (j < n + 1) = decide (j < n) := by simp; omega
        simp [e, this]
    · rw [if_neg h, ih]
      by_cases e : n = j
      · subst e; simp [h]
      · have : decide (j < n + 1) = decide (j < n) := by simp; omega
        rw [this]

theorem bitsN_lt (P : Nat → Bool) (n : Nat) : bitsN P n < 2 ^ n := bits_lt fun i h => by
  rw [bitsN_test]
  have : ¬ i < n := by omega
  simp [this]

theorem lt17 {s n : Nat} (h : s < 2 ^ n) (hn : n ≤ 17) : s < 2 ^ 17 := Nat.lt_of_lt_of_le h (Nat.pow_le_pow_right (by omega) hn)

theorem lt63 {s : Nat} (h : s < 2 ^ 17) : s < 2 ^ 63 := Nat.lt_of_lt_of_le h (by decide)

theorem code_cases {k : Nat} (hk : 5000 ≤ k) (x : Col) : (x.is → impl_Colouring_code k x (some true) = some 0 ∧ impl_Colouring_code k x (some false) = some 2) ∧ (¬ x.is → ∀ b, impl_Colouring_code k x (some b) = some 1) := by
  unfold impl_Colouring_code
  rw [isColouring_eq k (by omega)]
  constructor
  · intro h; simp [h]
  · intro h b; simp [h]

theorem given_cases {k : Nat} (hk : 5000 ≤ k) (x : Col) (c : Int) : (x.is → 0 ≤ c ∧ c ≤ x.k - 1 → spec_l01Given k x c [] = some 0) ∧ (x.is → ¬ (0 ≤ c ∧ c ≤ x.k - 1) → spec_l01Given k x c [] = some 2) ∧ (¬ x.is → spec_l01Given k x c [] = some 1) := by
  classical
  have hin : inP x [] := fun i h0 h1 => by simp at h1; omega
  have hg := specGiven_eq k x c [] (by simp; omega) (by simp)
  refine ⟨fun h hc => ?_, fun h hc => ?_, fun h => ?_⟩
  · rw [if_pos h, if_pos ⟨hc, hin⟩] at hg; exact hg
  · rw [if_pos h, if_neg (fun q => hc q.1)] at hg; exact hg
  · rw [if_neg h] at hg; exact hg

open Classical in
theorem index_eq (k : Nat) (l : List Int) (v : Int) (h : l.length + 1 ≤ k) (hl : (l.length : Int) ≤ 1099511627776) : slices_Contains k l v = some (decide (∃ a, a < l.length ∧ l.getD a 0 = v)) := by
  unfold slices_Contains slices_Index
  have := loopI (f := fun k' i (_ : Unit) => slices_Index_l0 l v k' i) (l.length : Int) 0 (fun i _ => ∀ a, a < i.toNat → l.getD a 0 ≠ v)
    (fun r => ((∃ a, a < l.length ∧ l.getD a 0 = v) ∧ ∃ i, r = .inr i ∧ 0 ≤ i) ∨ (¬ (∃ a, a < l.length ∧ l.getD a 0 = v)) ∧ r = .inl ()) ?_ ?_ k 0 () (by omega) (by omega) (fun a h => by omega)
  · obtain ⟨r, e, h⟩ := this
    rw [e]
    rcases h with ⟨hd, i, rfl, hi⟩ | ⟨hd, rfl⟩
    · simp [hi, -List.getD_eq_getElem?_getD, hd]
    · simp [-List.getD_eq_getElem?_getD, hd]
  · intro k' i _ h0 h1 hq
    obtain ⟨m, rfl⟩ := nat_of h0
    have hm : m < l.length := by omega
    by_cases e : v = l.getD m 0
    · right
      refine ⟨.inr m, ?_, .inl ⟨⟨m, hm, e.symm⟩, m, rfl, h0⟩⟩
      show slices_Index_l0 l v (k' + 1) m = _
      rw [slices_Index_l0]
      simp [hm, -List.getD_eq_getElem?_getD, ← e]
    · left
      refine ⟨(), ?_, ?_⟩
      · show slices_Index_l0 l v (k' + 1) m = _
        rw [slices_Index_l0, w64_succ h0 h1 (by omega)]
        simp [hm, -List.getD_eq_getElem?_getD, e]
      · intro a ha
        by_cases h : a = m
        · subst h; exact fun h => e h.symm
        · exact hq a (by omega)
  · intro k' i _ h0 h1 hq
    refine ⟨.inl (), ?_, .inr ⟨fun ⟨a, ha, he⟩ => hq a (by omega) he, rfl⟩⟩
    show slices_Index_l0 l v (k' + 1) i = _
    rw [slices_Index_l0]
    have : ¬ i < (l.length : Int) := by omega
    simp [this]

theorem like_refl (k : Nat) (l : List Int) (hk : l.length + 1 ≤ k) (hl : (l.length : Int) ≤ 1099511627776) : laws_likeInts k l l = some true := by
  unfold laws_likeInts
  have := loopAll (f := fun k' i => laws_likeInts_l0 l l k' i) (l.length : Int) false (fun _ => True) 0
    (fun k' i h0 h1 _ => by
      show laws_likeInts_l0 l l (k' + 1) i = _
      rw [laws_likeInts_l0, w64_succ h0 h1 (by omega)]
      simp [h0, h1])
    (fun k' i h0 h1 hq => (hq trivial).elim)
    (fun k' i h1 => by
      show laws_likeInts_l0 l l (k' + 1) i = _
      rw [laws_likeInts_l0]
      have : ¬ i < (l.length : Int) := by omega
      simp [this]) k 0 (by omega) (by omega)
  rw [this]; simp

theorem spl_one (cs : List Int) (n : Nat) (c : Int) (h : n < cs.length) : (splicedL cs (0 + n) ([c].length) [c]).length = cs.length ∧ (splicedL cs (0 + n) ([c].length) [c]).take (n + 1) = cs.take n ++ [c] := by
  constructor
  · rw [splicedL_length _ _ _ _ (by simp; omega)]
  · unfold splicedL
    rw [Nat.zero_add]
    rw [List.take_append_of_le_length (by simp; omega), List.take_of_length_le (by simp; omega)]
    simp

def aB (x : Col) (c a b : Int) : Bool := decide (a ≠ b ∧ x.cc a b = c)

theorem aB_comm (x : Col) (c a b : Int) : aB x c a b = aB x c b a := by
  unfold aB
  rw [cc_comm x a b]
  by_cases h : a = b
  · subst h; rfl
  · have : ¬ b = a := fun e => h e.symm
    simp [h, this]

theorem aB_irr (x : Col) (c a : Int) : aB x c a a = false := by simp [aB]

/-- All points, and all cliques of a colour. -/
def pts (x : Col) : List Int := ir 0 x.p.toNat

/-- The neighbours of a point, as bits. -/
def nb (x : Col) (c : Int) (p : Nat) : Nat := bitsN (fun j => aB x c (p : Int) (j : Int)) x.p.toNat

theorem nb_test (x : Col) (c : Int) (p j : Nat) : (nb x c p).testBit j = (decide (j < x.p.toNat) && aB x c (p : Int) (j : Int)) := bitsN_test _ _ _

theorem nb_lt (x : Col) (hp : 1 ≤ x.p ∧ x.p ≤ 17) (c : Int) (p : Nat) : nb x c p < 2 ^ 63 := lt63 (lt17 (bitsN_lt _ _) (by omega))

theorem around_nb (k : Nat) (x : Col) (hx : 1 ≤ x.p ∧ x.p ≤ 17) (hk : 20 ≤ k) (c : Int) (i : Nat) (hi : (i : Int) < x.p) : spec_l01Around k x i c = some ((nb x c i : Nat) : Int) := by
  unfold spec_l01Around nb
  generalize hP : (fun j : Nat => aB x c (i : Int) (j : Int)) = P
  have hP' : ∀ j : Nat, P j = aB x c (i : Int) (j : Int) := fun j => by rw [← hP]
  have := loopI (f := fun k t (s : Int) => spec_l01Around_l0 x i c k s t) x.p 0 (fun t s => t ≤ x.p ∧ s = ((bitsN P t.toNat : Nat) : Int)) (fun r => r = ((bitsN P x.p.toNat : Nat) : Int)) ?_ ?_ k 0 0 (by omega) (by omega) ⟨by omega, rfl⟩
  · obtain ⟨r, e, rfl⟩ := this
    rw [e]; rfl
  · intro k t s h0 h1 ⟨_, q⟩
    left
    obtain ⟨m, rfl⟩ := nat_of h0
    refine ⟨_, ?_, by omega, rfl⟩
    show spec_l01Around_l0 x i c (k + 1) s m = _
    have e0 : ((m : Int) + 1).toNat = m + 1 := by omega
    rw [spec_l01Around_l0, w64_succ h0 h1 (by omega), e0, u64_id (by omega)]
    simp only [Int.toNat_natCast] at q
    have hb := lt63 (lt17 (bitsN_lt P m) (by omega))
    have hor := bOr_nat (a := bitsN P m) (b := 2 ^ m) hb (Nat.pow_lt_pow_right (by omega) (by omega))
    simp only [h1, decide_true, if_true]
    have hPm := hP' m
    unfold aB at hPm
    by_cases e : m = i
    · subst e
      simp only [ne_eq, not_true_eq_false, false_and, decide_false] at hPm
      simp [hPm, bitsN, q]
    · have e' : ¬ (m : Int) = i := by omega
      have e'' : ¬ (i : Int) = m := by omega
      rw [specAt_ne x i m (by omega) (by omega) (by omega) (by omega) (by omega)]
      by_cases h : x.cc i m = c
      · simp only [ne_eq, e'', not_false_eq_true, h, and_self, decide_true] at hPm
        simp only [e', h, decide_false, Bool.not_false, if_true, Option.bind_some, decide_true, h0, q]
        rw [bShl_one (by omega), hor]
        simp [bitsN, hPm]
      · simp only [ne_eq, e'', not_false_eq_true, h, and_false, decide_false] at hPm
        simp [e', h, bitsN, hPm, q]
  · intro k t s h0 h1 ⟨q1, q2⟩
    have : t = x.p := by omega
    subst this
    refine ⟨s, ?_, q2⟩
    show spec_l01Around_l0 x i c (k + 1) s x.p = _
    rw [spec_l01Around_l0]; simp

def rws (x : Col) (c : Int) (n : Nat) : List Int := (List.range n).map fun i => ((nb x c i : Nat) : Int)

theorem rws_length (x : Col) (c : Int) (n : Nat) : (rws x c n).length = n := by simp [rws]

theorem rws_get (x : Col) (c : Int) (n i : Nat) (h : i < n) : (rws x c n).getD i 0 = ((nb x c i : Nat) : Int) := by simp [rws, List.getD, h]

theorem rws_succ (x : Col) (c : Int) (n : Nat) : rws x c (n + 1) = rws x c n ++ [((nb x c n : Nat) : Int)] := by simp [rws, List.range_succ]

theorem rows_val {k : Nat} (hk : 5000 ≤ k) (x : Col) (hp : 1 ≤ x.p ∧ x.p ≤ 17) (c : Int) : spec_l02Rows k x c = some (rws x c x.p.toNat) := by
  unfold spec_l02Rows
  have := loopI (f := fun k' i (s : List Int) => spec_l02Rows_l0 k x c k' i s) x.p 0 (fun i s => i ≤ x.p ∧ s = rws x c i.toNat) (fun r => r = rws x c x.p.toNat) ?_ ?_ k 0 [] (by omega) (by omega) ⟨by omega, rfl⟩
  · obtain ⟨r, e, rfl⟩ := this
    rw [e]; rfl
  · intro k' i s h0 h1 ⟨_, q⟩
    left
    obtain ⟨m, rfl⟩ := nat_of h0
    refine ⟨_, ?_, by omega, rfl⟩
    show spec_l02Rows_l0 k x c (k' + 1) m s = _
    have e0 : ((m : Int) + 1).toNat = m + 1 := by omega
    simp only [Int.toNat_natCast] at q
    have hl : s.length + ([((nb x c m : Nat) : Int)]).length ≤ 1099511627776 := by rw [q, rws_length]; simp; omega
    rw [spec_l02Rows_l0, w64_succ h0 h1 (by omega), e0, around_nb k x hp (by omega) c m h1, rws_succ, ← q]
    simp only [h1, decide_true, if_true, Option.bind_some, hl]
  · intro k' i s h0 h1 ⟨q1, q2⟩
    have : i = x.p := by omega
    subst this
    refine ⟨s, ?_, q2⟩
    show spec_l02Rows_l0 k x c (k' + 1) x.p s = _
    rw [spec_l02Rows_l0]; simp

theorem ones_loop : ∀ (m s : Nat) (cnt : Int) (k : Nat), s < 2 ^ m → m ≤ 60 → m < k → 0 ≤ cnt → cnt + m ≤ 1000 → spec_l01Ones_l0 k (s : Int) cnt = some (cnt + (mem s 0 m).length) := by
  intro m
  induction m with
  | zero =>
    intro s cnt k hs hm hk h0 h1
    obtain ⟨k, rfl⟩ : ∃ q, k = q + 1 := ⟨k - 1, by omega⟩
    have : s = 0 := by simpa using hs
    subst this
    rw [spec_l01Ones_l0, mem_end (by omega)]; simp
  | succ m ih =>
    intro s cnt k hs hm hk h0 h1
    obtain ⟨k, rfl⟩ : ∃ q, k = q + 1 := ⟨k - 1, by omega⟩
    rw [spec_l01Ones_l0]
    by_cases h : s = 0
    · subst h
      have : mem 0 0 (m + 1) = [] := by
        unfold mem
        rw [List.filter_eq_nil_iff]
        intro a _; simp
      rw [this]; simp
    · have hp : (0 : Int) < (s : Int) := by omega
      have hb : s < 2 ^ 61 := Nat.lt_of_lt_of_le hs (Nat.pow_le_pow_right (by omega) (by omega))
      have e1 : (s : Int).tdiv 2 = ((s / 2 : Nat) : Int) := by rw [Int.tdiv_eq_ediv_of_nonneg (by omega)]; omega
      have e2 : (s : Int).tmod 2 = ((s % 2 : Nat) : Int) := by rw [Int.tmod_eq_emod_of_nonneg (by omega)]; omega
      rw [decide_eq_true hp, if_pos rfl, e1, e2, w64_id (by omega), w64_id (by omega), ih (s / 2) _ k (by rw [Nat.pow_succ] at hs; omega) (by omega) (by omega) (by omega) (by omega), mem_half]
      congr 1
      rw [Int.natCast_add]
      omega

theorem ones_val {k n s : Nat} (hk : 100 ≤ k) (hn : n ≤ 60) (hs : s < 2 ^ n) : spec_l01Ones k (s : Int) = some ((mem s 0 n).length : Int) := by
  unfold spec_l01Ones
  rw [ones_loop n s 0 k hs hn (by omega) (by omega) (by omega)]
  simp

/-- All points of which something is so. -/
theorem that_val {k : Nat} (x : Col) (hp : 1 ≤ x.p ∧ x.p ≤ 17) (hk : 20 ≤ k) (so : Int → Option Bool) (S : Int → Bool) (hs : ∀ a : Nat, (a : Int) < x.p → so a = some (S a)) : impl_Colouring_that k x so = some ((ir 0 x.p.toNat).filter S) := by
  have snoc : ∀ j, ir 0 (j + 1) = ir 0 j ++ [(j : Int)] := fun j => by
    unfold ir
    rw [show j + 1 - 0 = j + 1 by omega, List.range'_concat]
    simp
  unfold impl_Colouring_that
  have := loopI (f := fun k' i (s : List Int) => impl_Colouring_that_l0 x so k' i s) x.p 0 (fun i s => i ≤ x.p ∧ s = (ir 0 i.toNat).filter S) (fun r => r = (ir 0 x.p.toNat).filter S) ?_ ?_ k 0 [] (by omega) (by omega) ⟨by omega, rfl⟩
  · obtain ⟨r, e, rfl⟩ := this
    rw [e]; rfl
  · intro k' i s h0 h1 ⟨_, q⟩
    left
    obtain ⟨m, rfl⟩ := nat_of h0
    refine ⟨_, ?_, by omega, rfl⟩
    show impl_Colouring_that_l0 x so (k' + 1) m s = _
    have e0 : ((m : Int) + 1).toNat = m + 1 := by omega
    simp only [Int.toNat_natCast] at q
    have hl : s.length ≤ m := by
      rw [q]
      exact Nat.le_trans (List.length_filter_le _ _) (by rw [ir_length]; omega)
    have hl' : s.length + ([(m : Int)]).length ≤ 1099511627776 := by simp; omega
    rw [impl_Colouring_that_l0, w64_succ h0 h1 (by omega), e0, hs m h1, snoc, List.filter_append, ← q]
    cases hS : S m with
    | true =>
      have : [(m : Int)].filter S = [(m : Int)] := by simp [hS]
      rw [this]
      simp only [h1, decide_true, if_true, Option.bind_some, if_pos hl']
    | false => simp [h1, hS]
  · intro k' i s h0 h1 ⟨q1, q2⟩
    have : i = x.p := by omega
    subst this
    refine ⟨s, ?_, q2⟩
    show impl_Colouring_that_l0 x so (k' + 1) x.p s = _
    rw [impl_Colouring_that_l0]; simp

theorem neigh_val {k : Nat} (x : Col) (hp : 1 ≤ x.p ∧ x.p ≤ 17) (hk : 20 ≤ k) (c : Int) (a : Nat) (ha : (a : Int) < x.p) : impl_Colouring_neighbours k x a c = some ((pts x).filter (aB x c a)) := by
  unfold impl_Colouring_neighbours
  rw [that_val x hp hk (fun a0 => impl_Colouring_neighbours_c1 a0 x a c) (aB x c a) fun b hb => by
    unfold impl_Colouring_neighbours_c1 impl_Colouring_joins aB
    by_cases e : (a : Int) = b
    · rw [decide_eq_true e]
      have : ¬ ((a : Int) ≠ (b : Int) ∧ x.cc a b = c) := fun h => h.1 e
      rw [decide_eq_false this]
      simp
    · rw [decide_eq_false e, implAt_ne x a b (by omega) (by omega) (by omega) (by omega) e]
      simp [e]]
  rfl

end Go.Proofs.Ytghhnpdhehjlaaa
