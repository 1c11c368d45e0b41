/- Plain laws, collected out of own texts. No conditions beyond those that each lemma states. -/
import Derived.Test.YtghhnpdhehjlaaaGreatPKit
import Derived.Test.YtghhnpdhehjlaaaGreatPBits
import Derived.Test.YtghhnpdhehjlaaaGreatClqB
import Derived.Test.YtghhnpdhehjlaaaGreatTri
import Derived.Test.YtghhnpdhehjlaaaGreatGen39
import Derived.Test.YtghhnpdhehjlaaaGreatNb
set_option linter.unusedVariables false
set_option linter.unusedSimpArgs false
namespace Go.Proofs.YtghhnpdhehjlaaaGreat
open Go Go.RowKit Ab

theorem in_eq (a b c : Int) : impl_in a b c = decide (b ≤ a ∧ a ≤ c) := by
  unfold impl_in letO
  by_cases h : b ≤ a <;> by_cases h' : a ≤ c <;> simp [h, h']

theorem specIn_eq (a b c : Int) : spec_l01In a b c = decide (b ≤ a ∧ a ≤ c) := by
  unfold spec_l01In letO
  by_cases h : b ≤ a <;> by_cases h' : a ≤ c <;> simp [h, h']

def tE (x : Col) : Int := w64 ((w64 (x.p * (w64 (x.p - 1)))).tdiv 2)

def okE (x : Col) (j : Int) : Prop := (j < tE x → ((x.get j.toNat).toNat : Int) < x.k) ∧ (tE x ≤ j → ((x.get j.toNat).toNat : Int) = 0)

/-- Numbers in range, colours in range on the edges, zero behind them. -/
def Col.is (x : Col) : Prop := (1 ≤ x.p ∧ x.p ≤ 17) ∧ (1 ≤ x.k ∧ x.k ≤ 4) ∧ ∀ j, 0 ≤ j → j < 136 → okE x j

open Classical in
theorem specIs_eq (k : Nat) (h : 137 ≤ k) (x : Col) : spec_l01Is k x = some (decide x.is) := by
  unfold spec_l01Is
  rw [specIn_eq, specIn_eq]
  by_cases hp : 1 ≤ x.p ∧ x.p ≤ 17
  · by_cases hk : 1 ≤ x.k ∧ x.k ≤ 4
    · have := loopAll (f := fun k' i => spec_l01Is_l0 k x k' i) 136 false (okE x) 0
        (fun k' i h0 h1 hq => by
          show spec_l01Is_l0 k x (k' + 1) i = _
          rw [spec_l01Is_l0, w64_succ h0 h1 (by omega)]
          obtain ⟨q1, q2⟩ := hq
          change (i < tE x → _) at q1
          by_cases hc : i < tE x
          · have e1 := q1 hc
            have e2 : ¬ tE x ≤ i := by omega
            have e3 : ¬ x.k ≤ ((x.get i.toNat).toNat : Int) := by omega
            unfold tE at hc e2
            simp [h0, h1, hc, e2, e3]
          · have e1 := q2 (by omega)
            have e2 : tE x ≤ i := by omega
            unfold tE at hc e2
            simp [h0, h1, hc, e2, e1])
        (fun k' i h0 h1 hq => by
          show spec_l01Is_l0 k x (k' + 1) i = _
          rw [spec_l01Is_l0]
          by_cases hc : i < tE x
          · have e2 : ¬ tE x ≤ i := by omega
            have e3 : x.k ≤ ((x.get i.toNat).toNat : Int) := by
              apply Int.not_lt.1
              intro e; exact hq ⟨fun _ => e, fun h => (e2 h).elim⟩
            unfold tE at hc e2
            simp [h0, h1, hc, e2, e3]
          · have e2 : tE x ≤ i := by omega
            have e3 : ¬ ((x.get i.toNat).toNat : Int) = 0 := by
              intro e; exact hq ⟨fun h => (hc h).elim, fun _ => e⟩
            unfold tE at hc e2
            have e5 : ¬ (x.get i.toNat).toNat = 0 := by omega
            simp [h0, h1, hc, e2, e5])
        (fun k' i h1 => by
          show spec_l01Is_l0 k x (k' + 1) i = _
          rw [spec_l01Is_l0]
          have : ¬ i < 136 := by omega
          simp [this]) k 0 (by omega) (by omega)
      simp only [hp, hk, decide_true, Bool.not_true, Bool.false_eq_true, if_false, letO, and_self]
      rw [this]
      by_cases ha : ∀ j, 0 ≤ j → j < 136 → okE x j
      · have : x.is := ⟨hp, hk, ha⟩
        rw [if_pos ha]; simp [this]
      · have : ¬ x.is := fun h => ha h.2.2
        simp only [if_neg ha, this]
        simp
    · have : ¬ x.is := fun h => hk h.2.1
      simp [hp, hk, letO, this]
  · have : ¬ x.is := fun h => hp h.1
    simp [hp, letO, this]

open Classical in
theorem isColouring_eq (k : Nat) (h : 137 ≤ k) (x : Col) : impl_Colouring_isColouring k x = some (decide x.is) := by
  unfold impl_Colouring_isColouring
  rw [in_eq, in_eq]
  by_cases hp : 1 ≤ x.p ∧ x.p ≤ 17
  · by_cases hk : 1 ≤ x.k ∧ x.k ≤ 4
    · have := loopAll (f := fun k' i => impl_Colouring_isColouring_l0 k x k' i) 136 false (okE x) 0
        (fun k' i h0 h1 hq => by
          show impl_Colouring_isColouring_l0 k x (k' + 1) i = _
          rw [impl_Colouring_isColouring_l0, w64_succ h0 h1 (by omega)]
          obtain ⟨q1, q2⟩ := hq
          change (i < tE x → ((x.e.get i.toNat).toNat : Int) < x.k) at q1
          change (tE x ≤ i → ((x.e.get i.toNat).toNat : Int) = 0) at q2
          change (if _ then _ else _) = _
          have hE : impl_Colouring_edges x = tE x := rfl
          by_cases hc : i < tE x
          · have e1 := q1 hc
            have e2 : ¬ tE x ≤ i := by omega
            have e3 : ¬ x.k ≤ ((x.e.get i.toNat).toNat : Int) := by omega
            simp [h0, h1, hc, e2, e3, hE, letO]
          · have e1 := q2 (by omega)
            have e2 : tE x ≤ i := by omega
            have e3 : ¬ x.k ≤ ((x.e.get i.toNat).toNat : Int) := by omega
            rw [e1] at e3
            simp [h0, h1, hc, e2, e1, e3, hE, letO])
        (fun k' i h0 h1 hq => by
          show impl_Colouring_isColouring_l0 k x (k' + 1) i = _
          rw [impl_Colouring_isColouring_l0]
          have hE : impl_Colouring_edges x = tE x := rfl
          by_cases e3 : x.k ≤ ((x.e.get i.toNat).toNat : Int)
          · simp [h0, h1, e3, letO]
          · have e2 : tE x ≤ i := by
              apply Int.not_lt.1
              intro hc; exact hq ⟨fun _ => by change ((x.e.get i.toNat).toNat : Int) < x.k; omega, fun h => by omega⟩
            have e4 : ¬ ((x.e.get i.toNat).toNat : Int) = 0 := by
              intro e; exact hq ⟨fun h => by omega, fun _ => e⟩
            have e5 : ¬ (x.e.get i.toNat).toNat = 0 := by omega
            simp [h0, h1, e2, e3, e5, hE, letO])
        (fun k' i h1 => by
          show impl_Colouring_isColouring_l0 k x (k' + 1) i = _
          rw [impl_Colouring_isColouring_l0]
          have : ¬ i < 136 := by omega
          simp [this]) k 0 (by omega) (by omega)
      simp only [hp, hk, decide_true, Bool.not_true, Bool.false_eq_true, if_false, letO, and_self]
      rw [this]
      by_cases ha : ∀ j, 0 ≤ j → j < 136 → okE x j
      · have : x.is := ⟨hp, hk, ha⟩
        rw [if_pos ha]; simp [this]
      · have : ¬ x.is := fun h => ha h.2.2
        simp only [if_neg ha, this]
        simp
    · have : ¬ x.is := fun h => hk h.2.1
      simp [hp, hk, letO, this]
  · have : ¬ x.is := fun h => hp h.1
    simp [hp, letO, this]

theorem number_eq (i j : Int) (hi : 0 ≤ i ∧ i < 17) (hj : 0 ≤ j ∧ j < 17) : impl_number i j = (eN i.toNat j.toNat : Int) := by
  have : ∀ i, i < 17 → ∀ j, j < 17 → impl_number (i : Nat) (j : Nat) = (eN i j : Int) := by decide +kernel
  have h := this i.toNat (by omega) j.toNat (by omega)
  rwa [Int.toNat_of_nonneg hi.1, Int.toNat_of_nonneg hj.1] at h

theorem edge_eq (i j : Int) (hi : 0 ≤ i ∧ i < 17) (hj : 0 ≤ j ∧ j < 17) : spec_l01Edge i j = (eN i.toNat j.toNat : Int) := by
  have : ∀ i, i < 17 → ∀ j, j < 17 → spec_l01Edge (i : Nat) (j : Nat) = (eN i j : Int) := by decide +kernel
  have h := this i.toNat (by omega) j.toNat (by omega)
  rwa [Int.toNat_of_nonneg hi.1, Int.toNat_of_nonneg hj.1] at h

def Col.cc (x : Col) (i j : Int) : Int := ((x.e.get (eN i.toNat j.toNat)).toNat : Int)

theorem specAt_eq (x : Col) (i j : Int) (h0 : 0 ≤ i) (h : i < j) (hj : 0 ≤ j) (hj' : j < 17) : spec_l01At x i j = some (x.cc i j) := by
  unfold spec_l01At
  rw [edge_eq i j (by omega) (by omega)]
  have := eN_136 (i := i.toNat) (j := j.toNat) (by omega) (by omega) (by omega)
  rw [if_pos (by omega)]
  rfl

abbrev li (l : List Int) (i : Int) : Int := l.getD i.toNat 0

def inP (x : Col) (l : List Int) : Prop := ∀ i : Int, 0 ≤ i → i < l.length → 0 ≤ li l i ∧ li l i ≤ x.p - 1

def inc (l : List Int) : Prop := ∀ i : Int, 1 ≤ i → i < l.length → li l (i - 1) < li l i

open Classical in
theorem isSet_eq (k : Nat) (x : Col) (h : x.is) (l : List Int) (hk : l.length + 1 ≤ k) (hl : (l.length : Int) ≤ 1099511627776) : impl_Colouring_isSet k x l = some (decide (inP x l ∧ inc l)) := by
  have hp := h.1
  unfold impl_Colouring_isSet
  rw [loopAll (f := fun k' i => impl_Colouring_isSet_l0 x l k' i) (l.length : Int) false (fun i => (0 ≤ li l i ∧ li l i ≤ x.p - 1) ∧ (0 < i → li l (i - 1) < li l i)) 0 ?_ ?_ ?_ k 0 (by omega) (by omega)]
  · have e : (∀ i : Int, 0 ≤ i → i < l.length → (0 ≤ li l i ∧ li l i ≤ x.p - 1) ∧ (0 < i → li l (i - 1) < li l i)) ↔ inP x l ∧ inc l :=
      ⟨fun h => ⟨fun i h0 h1 => (h i h0 h1).1, fun i h0 h1 => (h i (by omega) h1).2 (by omega)⟩, fun h i h0 h1 => ⟨h.1 i h0 h1, fun h2 => h.2 i (by omega) h1⟩⟩
    by_cases hq : inP x l ∧ inc l
    · rw [if_pos (e.2 hq), decide_eq_true hq]; rfl
    · rw [if_neg (fun h => hq (e.1 h)), decide_eq_false hq]; rfl
  · intro k' i h0 h1 hq
    show impl_Colouring_isSet_l0 x l (k' + 1) i = _
    rw [impl_Colouring_isSet_l0, w64_succ (by omega) h1 (by omega)]
    unfold impl_Colouring_has
    rw [in_eq, w64_id (by omega), decide_eq_true (show 0 ≤ l.getD i.toNat 0 ∧ l.getD i.toNat 0 ≤ x.p - 1 from hq.1)]
    by_cases hi : 0 < i
    · have e := hq.2 hi
      have e : ¬ l.getD i.toNat 0 ≤ l.getD (i - 1).toNat 0 := Int.not_le.2 e
      rw [w64_id (show -9223372036854775808 ≤ i - 1 ∧ i - 1 < 9223372036854775808 by omega)]
      simp only [h1, h0, hi, e, decide_true, decide_false, Bool.not_true, Bool.false_eq_true, if_true, if_false, and_self]
      rw [if_pos (show 0 ≤ i - 1 ∧ i - 1 < (l.length : Int) by omega)]
      rfl
    · simp only [h1, h0, hi, decide_true, decide_false, Bool.not_true, Bool.false_eq_true, if_true, if_false, and_self]
      rfl
  · intro k' i h0 h1 hq
    show impl_Colouring_isSet_l0 x l (k' + 1) i = _
    rw [impl_Colouring_isSet_l0]
    unfold impl_Colouring_has
    rw [in_eq, w64_id (show -9223372036854775808 ≤ x.p - 1 ∧ x.p - 1 < 9223372036854775808 by omega)]
    by_cases ha : 0 ≤ l.getD i.toNat 0 ∧ l.getD i.toNat 0 ≤ x.p - 1
    · have hi : 0 < i := by
        apply Int.not_le.1
        intro hi; exact hq ⟨ha, fun h => by omega⟩
      have e : l.getD i.toNat 0 ≤ l.getD (i - 1).toNat 0 := by
        apply Int.not_lt.1
        intro e; exact hq ⟨ha, fun _ => e⟩
      rw [w64_id (show -9223372036854775808 ≤ i - 1 ∧ i - 1 < 9223372036854775808 by omega), decide_eq_true ha]
      simp only [h1, h0, hi, e, decide_true, Bool.not_true, Bool.false_eq_true, if_true, if_false, and_self]
      rw [if_pos (show 0 ≤ i - 1 ∧ i - 1 < (l.length : Int) by omega)]
      rfl
    · rw [decide_eq_false ha]
      simp only [h1, h0, decide_true, Bool.not_false, if_true, and_self]
      rfl
  · intro k' i h1
    show impl_Colouring_isSet_l0 x l (k' + 1) i = _
    rw [impl_Colouring_isSet_l0]
    have : ¬ i < (l.length : Int) := by omega
    simp [this]

theorem getD_app' {α : Type} (l m : List α) (d : α) (i : Nat) (h : l.length ≤ i) : (l ++ m).getD i d = m.getD (i - l.length) d := by
  simp only [List.getD]; rw [List.getElem?_append_right h]

theorem cc_comm (x : Col) (i j : Int) : x.cc i j = x.cc j i := by unfold Col.cc; rw [eN_comm]

theorem implAt_ne (x : Col) (i j : Int) (h0 : 0 ≤ i) (h1 : i < 17) (hj : 0 ≤ j) (hj' : j < 17) (h : i ≠ j) : impl_Colouring_at x i j = some (x.cc i j) := by
  unfold impl_Colouring_at
  rw [number_eq i j (by omega) (by omega)]
  have := eN_136 (i := i.toNat) (j := j.toNat) (by omega) (by omega) (by omega)
  rw [if_pos (by omega)]
  rfl

theorem specAt_ne (x : Col) (i j : Int) (h0 : 0 ≤ i) (h1 : i < 17) (hj : 0 ≤ j) (hj' : j < 17) (h : i ≠ j) : spec_l01At x i j = some (x.cc i j) := by
  unfold spec_l01At
  rw [edge_eq i j ⟨h0, h1⟩ ⟨hj, hj'⟩]
  have := eN_136 (i := i.toNat) (j := j.toNat) (by omega) (by omega) (by omega)
  rw [if_pos ⟨by omega, by omega⟩]
  rfl

def bitsN (P : Nat → Bool) : Nat → Nat
  | 0 => 0
  | n + 1 => if P n then bitsN P n ||| 2 ^ n else bitsN P n

theorem bitsN_test (P : Nat → Bool) (n j : Nat) : (bitsN P n).testBit j = (decide (j < n) && P j) := by
  induction n with
  | zero => simp [bitsN]
  | succ n ih =>
    unfold bitsN
    by_cases h : P n
    · rw [if_pos h, add_bit, ih]
      by_cases e : n = j
      · subst e; simp [h]
      · have : decide (j < n + 1) = decide (j < n) := by simp; omega
        simp [e, this]
    · rw [if_neg h, ih]
      by_cases e : n = j
      · subst e; simp [h]
      · have : decide (j < n + 1) = decide (j < n) := by simp; omega
        rw [this]

theorem bitsN_lt (P : Nat → Bool) (n : Nat) : bitsN P n < 2 ^ n := bits_lt fun i h => by
  rw [bitsN_test]
  have : ¬ i < n := by omega
  simp [this]

theorem lt17 {s n : Nat} (h : s < 2 ^ n) (hn : n ≤ 17) : s < 2 ^ 17 := Nat.lt_of_lt_of_le h (Nat.pow_le_pow_right (by omega) hn)

theorem lt63 {s : Nat} (h : s < 2 ^ 17) : s < 2 ^ 63 := Nat.lt_of_lt_of_le h (by decide)

theorem like_refl (k : Nat) (l : List Int) (hk : l.length + 1 ≤ k) (hl : (l.length : Int) ≤ 1099511627776) : laws_likeInts k l l = some true := by
  unfold laws_likeInts
  have := loopAll (f := fun k' i => laws_likeInts_l0 l l k' i) (l.length : Int) false (fun _ => True) 0
    (fun k' i h0 h1 _ => by
      show laws_likeInts_l0 l l (k' + 1) i = _
      rw [laws_likeInts_l0, w64_succ h0 h1 (by omega)]
      simp [h0, h1])
    (fun k' i h0 h1 hq => (hq trivial).elim)
    (fun k' i h1 => by
      show laws_likeInts_l0 l l (k' + 1) i = _
      rw [laws_likeInts_l0]
      have : ¬ i < (l.length : Int) := by omega
      simp [this]) k 0 (by omega) (by omega)
  rw [this]; simp

theorem code_cases {k : Nat} (hk : 5000 ≤ k) (x : Col) : (x.is → impl_Colouring_code k x (some true) = some 0 ∧ impl_Colouring_code k x (some false) = some 2) ∧ (¬ x.is → ∀ b, impl_Colouring_code k x (some b) = some 1) := by
  unfold impl_Colouring_code
  rw [isColouring_eq k (by omega)]
  constructor
  · intro h; simp [h]
  · intro h b; simp [h]

def mapL (m : Nat) (f : Nat → Int) : List Int := (List.range m).map f

theorem mapL_length (m : Nat) (f : Nat → Int) : (mapL m f).length = m := by simp [mapL]

theorem mapL_succ (m : Nat) (f : Nat → Int) : mapL (m + 1) f = mapL m f ++ [f m] := by simp [mapL, List.range_succ]

theorem mapL_get (m : Nat) (f : Nat → Int) (i : Nat) (h : i < m) : (mapL m f).getD i 0 = f i := by simp [mapL, List.getD, h]

/-- A loop that collects a list. -/
theorem collect (F : Nat → Int → List Int → Option (List Int)) (m : Nat) (f : Nat → Int) (hstep : ∀ (k' i : Nat) (s : List Int), i < m → s.length ≤ i → F (k' + 1) i s = F k' ((i + 1 : Nat) : Int) (s ++ [f i])) (hfin : ∀ (k' : Nat) (s : List Int), F (k' + 1) m s = some s) (k : Nat) (hk : m < k) : F k 0 [] = some (mapL m f) := by
  have key : ∀ (d i k : Nat), m - i = d → i ≤ m → d < k → F k i (mapL i f) = some (mapL m f) := by
    intro d
    induction d with
    | zero =>
      intro i k h1 h2 h3
      obtain ⟨k, rfl⟩ : ∃ q, k = q + 1 := ⟨k - 1, by omega⟩
      obtain rfl : i = m := by omega
      exact hfin k _
    | succ d ih =>
      intro i k h1 h2 h3
      obtain ⟨k, rfl⟩ : ∃ q, k = q + 1 := ⟨k - 1, by omega⟩
      rw [hstep k i _ (by omega) (by rw [mapL_length]; exact Nat.le_refl _), ← mapL_succ]
      exact ih (i + 1) k (by omega) (by omega) (by omega)
  exact key m 0 k (by omega) (by omega) hk

/-! ### Walks that stop -/
def runL {α σ : Type} (cb : α → σ → Option (Bool × σ)) : List α → σ → Option (Bool × σ)
  | [], s => some (true, s)
  | a :: t, s => (cb a s).bind fun r => if r.1 then runL cb t r.2 else some (false, r.2)
theorem runL_app {α σ : Type} (cb : α → σ → Option (Bool × σ)) (b : List α) : ∀ (a : List α) (s : σ), runL cb (a ++ b) s = (runL cb a s).bind fun r => if r.1 then runL cb b r.2 else some (false, r.2)
  | [], s => by simp [runL]
  | x :: a, s => by
    rw [List.cons_append, runL, runL]
    cases h : cb x s with
    | none => rfl
    | some r =>
      simp only [Option.bind_some]
      by_cases hr : r.1 = true
      · rw [if_pos hr, if_pos hr]; exact runL_app cb b a r.2
      · rw [if_neg hr, if_neg hr]; simp

/-! ### Points joined with all of a list -/
def aB (x : Col) (c a b : Int) : Bool := decide (a ≠ b ∧ x.cc a b = c)
theorem aB_comm (x : Col) (c a b : Int) : aB x c a b = aB x c b a := by
  unfold aB
  rw [cc_comm x a b]
  by_cases h : a = b
  · subst h; rfl
  · have : ¬ b = a := fun e => h e.symm
    simp [h, this]
theorem aB_irr (x : Col) (c a : Int) : aB x c a a = false := by simp [aB]
def goesB (x : Col) (c : Int) (l : List Int) (q : Int) : Bool := l.all fun i => aB x c i q
def inR (l : List Int) : Prop := ∀ z ∈ l, 0 ≤ z ∧ z < 17

theorem goes_val (k : Nat) (x : Col) (c : Int) (l : List Int) (q : Int) (hk : l.length + 1 ≤ k) (hl : (l.length : Int) ≤ 1099511627776) (hr : inR l) (hq : 0 ≤ q ∧ q < 17) : impl_Colouring_goesWith k x c l q = some (goesB x c l q) := by
  unfold impl_Colouring_goesWith slices_ContainsFunc slices_IndexFunc
  have hget : ∀ i : Nat, i < l.length → l.getD i 0 ∈ l := fun i hi => by
    have e : l.getD i 0 = l[i] := by simp [List.getD, hi]
    rw [e]; exact List.getElem_mem hi
  have hj : ∀ i : Nat, i < l.length → impl_Colouring_goesWith_c1 (l.getD i 0) x q c = some (!decide (l.getD i 0 ≠ q ∧ x.cc (l.getD i 0) q = c)) := by
    intro i hi
    have hz := hr _ (hget i hi)
    generalize l.getD i 0 = v at hz
    unfold impl_Colouring_goesWith_c1 impl_Colouring_joins
    by_cases e : v = q
    · subst e; simp
    · rw [implAt_ne x v q hz.1 hz.2 hq.1 hq.2 e]
      simp [e]
  have := loopI (f := fun k' i (_ : Unit) => slices_IndexFunc_l0 l (fun a0 => impl_Colouring_goesWith_c1 a0 x q c) k' i) (l.length : Int) 0
    (fun i _ => i ≤ l.length ∧ ∀ a : Nat, (a : Int) < i → (l.getD a 0 ≠ q ∧ x.cc (l.getD a 0) q = c)) (fun r => (goesB x c l q = true ∧ r = .inl ()) ∨ (goesB x c l q = false ∧ ∃ i : Int, 0 ≤ i ∧ r = .inr i)) ?_ ?_ k 0 () (by omega) (by omega) ⟨by omega, fun a h => by omega⟩
  · obtain ⟨r, e, h⟩ := this
    rw [e]
    rcases h with ⟨h, rfl⟩ | ⟨h, i, hi, rfl⟩
    · simp [h]
    · simp [h, hi]
  · intro k' i _ h0 h1 ⟨_, q2⟩
    obtain ⟨m, rfl⟩ := nat_of h0
    have hm : m < l.length := by omega
    by_cases hc : l.getD m 0 ≠ q ∧ x.cc (l.getD m 0) q = c
    · left
      refine ⟨(), ?_, by omega, fun a ha => ?_⟩
      · show slices_IndexFunc_l0 l _ (k' + 1) m = _
        rw [slices_IndexFunc_l0, w64_succ h0 h1 (by omega)]
        have := hj m hm
        rw [decide_eq_true hc] at this
        simp only [Int.toNat_natCast, h1, h0, decide_true, if_true, and_self, this, Option.bind_some, Bool.not_true, Bool.false_eq_true, if_false]
      · by_cases e : a = m
        · subst e; exact hc
        · exact q2 a (by omega)
    · right
      refine ⟨.inr m, ?_, .inr ⟨?_, m, h0, rfl⟩⟩
      · show slices_IndexFunc_l0 l _ (k' + 1) m = _
        rw [slices_IndexFunc_l0]
        have := hj m hm
        rw [decide_eq_false hc] at this
        simp only [Int.toNat_natCast, h1, h0, decide_true, if_true, and_self, this, Option.bind_some, Bool.not_false]
      · unfold goesB
        rw [List.all_eq_false]
        exact ⟨_, hget m hm, by unfold aB; simpa using hc⟩
  · intro k' i _ h0 h1 ⟨q1, q2⟩
    refine ⟨.inl (), ?_, .inl ⟨?_, rfl⟩⟩
    · show slices_IndexFunc_l0 l _ (k' + 1) i = _
      rw [slices_IndexFunc_l0]
      have : ¬ i < (l.length : Int) := by omega
      simp [this]
    · unfold goesB
      rw [List.all_eq_true]
      intro z hz
      obtain ⟨a, ha, rfl⟩ := List.getElem_of_mem hz
      have := q2 a (by omega)
      have e : l.getD a 0 = l[a] := by simp [List.getD, ha]
      rw [e] at this
      exact decide_eq_true this

/-! ### Points with which a clique goes on -/
def fromL (l : List Int) : Int := if 0 < l.length then l.getD (l.length - 1) 0 + 1 else 0
theorem fromL_snoc (l : List Int) (q : Int) : fromL (l ++ [q]) = q + 1 := by
  unfold fromL
  rw [if_pos (by simp)]
  have : (l ++ [q]).length - 1 = l.length := by simp
  rw [this, getD_app' _ _ _ _ (Nat.le_refl _)]
  simp
/-- The points with which a clique goes on. -/
def fr (x : Col) (c : Int) (l : List Int) : List Int := (ir (fromL l).toNat x.p.toNat).filter fun q => goesB x c l q
theorem goesB_snoc (x : Col) (c : Int) (l : List Int) (q z : Int) : goesB x c (l ++ [q]) z = (goesB x c l z && aB x c q z) := by
  unfold goesB; simp
theorem fr_snoc (x : Col) (c : Int) (l : List Int) (q : Nat) : fr x c (l ++ [(q : Int)]) = ((ir (q + 1) x.p.toNat).filter fun z => goesB x c l z).filter (aB x c q) := by
  unfold fr
  rw [fromL_snoc, show ((q : Int) + 1).toNat = q + 1 by omega, List.filter_filter]
  apply List.filter_congr
  intro z _
  rw [goesB_snoc, Bool.and_comm]
theorem fr_nil (x : Col) (c : Int) : fr x c [] = ir 0 x.p.toNat := by
  exact List.filter_eq_self.2 fun a _ => rfl

/-! ### A walk over all cliques, as the program does it -/
theorem clq_run {σ : Type} (x : Col) (hp : 1 ≤ x.p ∧ x.p ≤ 17) (c : Int) (cb : List Int → σ → Option (Bool × σ)) (F : Nat → List Int → σ → Option (Bool × σ)) (L : Nat → List Int → Nat → Int → σ → Option (Sum σ (Bool × σ)))
    (hF : ∀ k l s, l.length ≤ 100 → F (k + 1) l s = (cb l s).bind fun r => if !r.1 then some (false, r.2) else
      ((if decide (0 < (l.length : Int)) then (if 0 ≤ w64 ((l.length : Int) - 1) ∧ w64 ((l.length : Int) - 1) < (l.length : Int) then some (w64 ((l.getD (w64 ((l.length : Int) - 1)).toNat 0) + 1)) else none) else some 0) : Option (Int)).bind fun f => (L k l k f r.2).bind fun os => (match os with | .inl s => some (true, s) | .inr rr => some rr))
    (hL : ∀ k l k0 q s, l.length ≤ 100 → L k l (k0 + 1) q s = (if q < x.p then ((impl_Colouring_goesWith k x c l q).bind fun g => if g then (F k (l ++ [q]) s).bind fun r => if r.1 then L k l k0 (w64 (q + 1)) r.2 else some (.inr (false, r.2)) else L k l k0 (w64 (q + 1)) s) else some (.inl s))) :
    ∀ (d k : Nat) (l : List Int) (s : σ), inR l → l.length + d ≤ 100 → 0 ≤ fromL l → fromL l ≤ x.p → x.p - fromL l < d → d + 100 ≤ k → F k l s = runL cb (([] :: ac (aB x c) (fr x c l)).map (l ++ ·)) s := by
  intro d
  induction d with
  | zero => intro k l s _ _ _ h1 h2; omega
  | succ d ih =>
    intro k l s hr hlen h0 h1 h2 hk
    obtain ⟨k, rfl⟩ : ∃ q, k = q + 1 := ⟨k - 1, by omega⟩
    rw [hF k l s (by omega), List.map_cons, List.append_nil, runL]
    cases hcb : cb l s with
    | none => rfl
    | some r =>
      simp only [Option.bind_some]
      by_cases hr1 : r.1 = true
      · rw [hr1]
        simp only [Bool.not_true, Bool.false_eq_true, if_false, if_true]
        have hfrom : ((if decide (0 < (l.length : Int)) then (if 0 ≤ w64 ((l.length : Int) - 1) ∧ w64 ((l.length : Int) - 1) < (l.length : Int) then some (w64 ((l.getD (w64 ((l.length : Int) - 1)).toNat 0) + 1)) else none) else some 0) : Option (Int)) = some (fromL l) := by
          unfold fromL
          by_cases hp0 : 0 < l.length
          · have e : ((l.length : Int) - 1).toNat = l.length - 1 := by omega
            have hz : 0 ≤ l.getD (l.length - 1) 0 ∧ l.getD (l.length - 1) 0 < 17 := by
              have e2 : l.getD (l.length - 1) 0 = l[l.length - 1] := by simp [List.getD, show l.length - 1 < l.length by omega]
              rw [e2]; exact hr _ (List.getElem_mem _)
            rw [w64_id (n := (l.length : Int) - 1) (by omega), e, if_pos (by simpa using hp0), if_pos (by omega), w64_id (by omega), if_pos hp0]
          · have : ¬ 0 < (l.length : Int) := by omega
            simp [hp0, this]
        rw [hfrom]
        simp only [Option.bind_some]
        have loop : ∀ (k0 : Nat) (q : Nat) (s : σ), (x.p - q).toNat < k0 → fromL l ≤ q → (q : Int) ≤ x.p → L k l k0 q s = (runL cb ((ac (aB x c) ((ir q x.p.toNat).filter fun z => goesB x c l z)).map (l ++ ·)) s).bind fun r => if r.1 then some (.inl r.2) else some (.inr (false, r.2)) := by
          intro k0
          induction k0 with
          | zero => intro q s h; omega
          | succ k0 ihq =>
            intro q s g0 g1 g2
            rw [hL k l k0 q s (by omega)]
            by_cases hq : (q : Int) < x.p
            · rw [if_pos hq, ir_next (by omega), List.filter_cons, goes_val k x c l q (by omega) (by omega) hr (by omega)]
              simp only [Option.bind_some]
              have hnext : ∀ s, L k l k0 (w64 ((q : Int) + 1)) s = (runL cb ((ac (aB x c) ((ir (q + 1) x.p.toNat).filter fun z => goesB x c l z)).map (l ++ ·)) s).bind fun r => if r.1 then some (.inl r.2) else some (.inr (false, r.2)) := fun s => by
                rw [w64_id (by omega)]
                exact ihq (q + 1) s (by omega) (by omega) (by omega)
              by_cases hg : goesB x c l (q : Int) = true
              · have hrec := ih k (l ++ [(q : Int)]) s (fun z hz => by
                  rcases List.mem_append.1 hz with hz | hz
                  · exact hr z hz
                  · simp at hz; omega) (by simp; omega) (by rw [fromL_snoc]; omega) (by rw [fromL_snoc]; omega) (by rw [fromL_snoc]; omega) (by omega)
                rw [hg]
                simp only [if_true]
                rw [hrec, ac_cons, List.map_append, runL_app, List.map_map, fr_snoc]
                have hfun : ((fun x => l ++ x) ∘ fun x => (q : Int) :: x) = fun x => (l ++ [(q : Int)]) ++ x := by
                  funext z; simp
                rw [hfun]
                cases hrun : runL cb (([] :: ac (aB x c) (List.filter (aB x c q) (List.filter (fun z => goesB x c l z) (ir (q + 1) x.p.toNat)))).map fun x => (l ++ [(q : Int)]) ++ x) s with
                | none => rfl
                | some r =>
                  simp only [Option.bind_some]
                  by_cases hr2 : r.1 = true
                  · rw [hr2]
                    simp only [if_true]
                    exact hnext r.2
                  · have hr3 : r.1 = false := by simpa using hr2
                    rw [hr3]
                    simp
              · rw [if_neg hg, if_neg hg]
                exact hnext s
            · rw [ir_end (by omega), if_neg hq]
              simp [ac_nil, runL]
        obtain ⟨f, hf⟩ := nat_of h0
        rw [hf, loop k f r.2 (by omega) (by omega) (by omega)]
        have e : fr x c l = (ir f x.p.toNat).filter fun z => goesB x c l z := by
          unfold fr
          rw [hf]; rfl
        rw [e]
        cases hrun : runL cb ((ac (aB x c) ((ir f x.p.toNat).filter fun z => goesB x c l z)).map (l ++ ·)) r.2 with
        | none => rfl
        | some z =>
          simp only [Option.bind_some]
          by_cases hz : z.1 = true
          · rw [if_pos hz]
            simp only [Option.bind_some]
            rw [← hz]
          · have hz' : z.1 = false := by simpa using hz
            rw [if_neg hz]
            simp only [Option.bind_some]
            rw [← hz']
      · have hr3 : r.1 = false := by simpa using hr1
        rw [hr3]
        simp

/-- All points, and all cliques of a colour. -/
def pts (x : Col) : List Int := ir 0 x.p.toNat
def acl (x : Col) (c : Int) : List (List Int) := [] :: ac (aB x c) (pts x)

theorem clq_all {σ : Type} (x : Col) (hp : 1 ≤ x.p ∧ x.p ≤ 17) (c : Int) (cb : List Int → σ → Option (Bool × σ)) (F : Nat → List Int → σ → Option (Bool × σ)) (L : Nat → List Int → Nat → Int → σ → Option (Sum σ (Bool × σ)))
    (hF : ∀ k l s, l.length ≤ 100 → F (k + 1) l s = (cb l s).bind fun r => if !r.1 then some (false, r.2) else
      ((if decide (0 < (l.length : Int)) then (if 0 ≤ w64 ((l.length : Int) - 1) ∧ w64 ((l.length : Int) - 1) < (l.length : Int) then some (w64 ((l.getD (w64 ((l.length : Int) - 1)).toNat 0) + 1)) else none) else some 0) : Option (Int)).bind fun f => (L k l k f r.2).bind fun os => (match os with | .inl s => some (true, s) | .inr rr => some rr))
    (hL : ∀ k l k0 q s, l.length ≤ 100 → L k l (k0 + 1) q s = (if q < x.p then ((impl_Colouring_goesWith k x c l q).bind fun g => if g then (F k (l ++ [q]) s).bind fun r => if r.1 then L k l k0 (w64 (q + 1)) r.2 else some (.inr (false, r.2)) else L k l k0 (w64 (q + 1)) s) else some (.inl s)))
    (k : Nat) (hk : 120 ≤ k) (s : σ) : F k [] s = runL cb (acl x c) s := by
  rw [clq_run x hp c cb F L hF hL 20 k [] s (fun z hz => by simp at hz) (by simp) (by simp [fromL]) (by simp [fromL]; omega) (by simp [fromL]; omega) (by omega), fr_nil]
  have : (([] :: ac (aB x c) (ir 0 x.p.toNat)).map fun z => ([] : List Int) ++ z) = [] :: ac (aB x c) (ir 0 x.p.toNat) := by
    conv => rhs; rw [← List.map_id ([] :: ac (aB x c) (ir 0 x.p.toNat))]
    rfl
  rw [this]; rfl

/-! ### The first list of some length -/
theorem run_grt : ∀ (Ls : List (List Int)) (s : List Int), runL (fun l s => some (impl_Colouring_greatest_c1 l s)) Ls s = some (true, grt Ls s)
  | [], s => rfl
  | a :: t, s => by
    rw [runL]
    simp only [Option.bind_some]
    have e : impl_Colouring_greatest_c1 a s = (true, if s.length < a.length then a else s) := by
      unfold impl_Colouring_greatest_c1 letO
      by_cases h : s.length < a.length
      · have : (s.length : Int) < a.length := by omega
        simp [h, this]
      · have : ¬ (s.length : Int) < a.length := by omega
        simp [h, this]
    rw [e]
    simp only [if_true]
    rw [run_grt t]; rfl

theorem greatest_eq {k : Nat} (hk : 5000 ≤ k) (x : Col) (hp : 1 ≤ x.p ∧ x.p ≤ 17) (c : Int) : impl_Colouring_greatest k x c = some (grt (acl x c) []) := by
  unfold impl_Colouring_greatest
  have := clq_all x hp c (fun l s => some (impl_Colouring_greatest_c1 l s)) (fun k l s => impl_Colouring_cliques_on_greatest_c1 k x c l s) (fun k l k0 q s => impl_Colouring_cliques_on_greatest_c1_l0 k (impl_Colouring_cliques_on_greatest_c1 k) x c l k0 q s)
    (fun k l s _ => by
      show impl_Colouring_cliques_on_greatest_c1 (k + 1) x c l s = _
      rw [impl_Colouring_cliques_on_greatest_c1, impl_Colouring_cliques_on_greatest_c1_body]
      simp only [Option.bind_some]
      congr 1; congr 1; funext f; congr 1; funext os; cases os <;> rfl) (fun k l k0 q s hl => by
      rw [impl_Colouring_cliques_on_greatest_c1_l0]
      by_cases hq : q < x.p
      · simp only [hq, decide_true, if_true]
        cases impl_Colouring_goesWith k x c l q with
        | none => rfl
        | some g =>
          cases g with
          | false => simp
          | true =>
            have hl1 : l.length ≤ 1099511627776 := by omega
            have hl2 : l.length + 1 ≤ 1099511627776 := by omega
            cases l with
            | nil => 
              simp only [Option.bind_some, if_true, List.isEmpty_nil, List.length_cons, List.length_nil, List.nil_append]
              cases impl_Colouring_cliques_on_greatest_c1 k x c [q] s with
              | none => rfl
              | some r => cases h : r.1 <;> simp [h]
            | cons a t =>
              simp only [Option.bind_some, if_true, List.isEmpty_cons, Bool.false_eq_true, if_false, cloneA, hl1, List.length_singleton, hl2]
              cases impl_Colouring_cliques_on_greatest_c1 k x c ((a :: t) ++ [q]) s with
              | none => rfl
              | some r => cases h : r.1 <;> simp [h]
      · simp [hq]) k (by omega) []
  rw [show impl_Colouring_cliques_on_greatest_c1 k x c [] [] = _ from this, run_grt]
  rfl

theorem run_firstOf (m : Int) : ∀ (Ls : List (List Int)) (out : List Int), runL (fun l s => some (impl_Colouring_firstOf_c1 l m s)) Ls out = some (match Ls.find? (fun l => !decide ((l.length : Int) < m)) with | some l => (false, l) | none => (true, out))
  | [], out => rfl
  | a :: t, out => by
    rw [runL, List.find?_cons]
    simp only [Option.bind_some]
    unfold impl_Colouring_firstOf_c1 impl_size
    by_cases h : (a.length : Int) < m
    · simp only [h, decide_true, Bool.not_true, if_true]
      exact run_firstOf m t out
    · simp only [h, decide_false, Bool.not_false, if_false, Bool.false_eq_true]

theorem firstOf_eq {k : Nat} (hk : 5000 ≤ k) (x : Col) (hp : 1 ≤ x.p ∧ x.p ≤ 17) (c m : Int) : impl_Colouring_firstOf k x c m = some (match (acl x c).find? (fun l => !decide ((l.length : Int) < m)) with | some l => (l, true) | none => ([], false)) := by
  unfold impl_Colouring_firstOf
  have := clq_all x hp c (fun l s => some (impl_Colouring_firstOf_c1 l m s)) (fun k l s => impl_Colouring_cliques_on_firstOf_c1 k x c l m s) (fun k l k0 q s => impl_Colouring_cliques_on_firstOf_c1_l0 k (impl_Colouring_cliques_on_firstOf_c1 k) x c l m k0 q s)
    (fun k l s _ => by
      show impl_Colouring_cliques_on_firstOf_c1 (k + 1) x c l m s = _
      rw [impl_Colouring_cliques_on_firstOf_c1, impl_Colouring_cliques_on_firstOf_c1_body]
      simp only [Option.bind_some]
      congr 1; congr 1; funext f; congr 1; funext os; cases os <;> rfl) (fun k l k0 q s hl => by
      rw [impl_Colouring_cliques_on_firstOf_c1_l0]
      by_cases hq : q < x.p
      · simp only [hq, decide_true, if_true]
        cases impl_Colouring_goesWith k x c l q with
        | none => rfl
        | some g =>
          cases g with
          | false => simp
          | true =>
            have hl1 : l.length ≤ 1099511627776 := by omega
            have hl2 : l.length + 1 ≤ 1099511627776 := by omega
            cases l with
            | nil => 
              simp only [Option.bind_some, if_true, List.isEmpty_nil, List.length_cons, List.length_nil, List.nil_append]
              cases impl_Colouring_cliques_on_firstOf_c1 k x c [q] m s with
              | none => rfl
              | some r => cases h : r.1 <;> simp [h]
            | cons a t =>
              simp only [Option.bind_some, if_true, List.isEmpty_cons, Bool.false_eq_true, if_false, cloneA, hl1, List.length_singleton, hl2]
              cases impl_Colouring_cliques_on_firstOf_c1 k x c ((a :: t) ++ [q]) m s with
              | none => rfl
              | some r => cases h : r.1 <;> simp [h]
      · simp [hq]) k (by omega) []
  rw [show impl_Colouring_cliques_on_firstOf_c1 k x c [] m [] = _ from this, run_firstOf]
  cases (acl x c).find? (fun l => !decide ((l.length : Int) < m)) <;> rfl

/-- The first clique that has so many points is the first one of so many. -/
theorem find_cl (x : Col) (c : Int) (m : Nat) : (acl x c).find? (fun l => !decide ((l.length : Int) < (m : Int))) = (cl (aB x c) m (pts x)).head? := by
  have key : ∀ (vs : List Int) (m : Nat), ([] :: ac (aB x c) vs).find? (fun l => !decide (l.length < m)) = ([] :: ac (aB x c) vs).find? (fun l => decide (l.length = m)) := by
    intro vs
    induction vs using len_ind with
    | _ vs ih =>
      intro m
      cases m with
      | zero => simp
      | succ m =>
        rw [List.find?_cons_of_neg (by simp), List.find?_cons_of_neg (by simp)]
        cases vs with
        | nil => rw [ac_nil]; rfl
        | cons v t =>
          have h1 := ih _ (flt_lt (aB x c) v t) m
          have h2 := ih t (by simp) (m + 1)
          rw [List.find?_cons_of_neg (by simp), List.find?_cons_of_neg (by simp)] at h2
          rw [ac_cons, List.find?_append, List.find?_append, List.find?_map, List.find?_map]
          have e1 : (fun l : List Int => !decide (l.length < m + 1)) ∘ (fun z => v :: z) = fun l => !decide (l.length < m) := by funext z; simp
          have e2 : (fun l : List Int => decide (l.length = m + 1)) ∘ (fun z => v :: z) = fun l => decide (l.length = m) := by funext z; simp
          rw [e1, e2, h1, h2]
  have e : (fun l : List Int => !decide ((l.length : Int) < (m : Int))) = fun l => !decide (l.length < m) := by
    funext l
    by_cases h : l.length < m
    · have : (l.length : Int) < m := by omega
      simp [h, this]
    · have : ¬ (l.length : Int) < m := by omega
      simp [h, this]
  unfold acl
  rw [e, key, ← List.head?_filter, ac_filter]

theorem firstOf_cl {k : Nat} (hk : 5000 ≤ k) (x : Col) (hp : 1 ≤ x.p ∧ x.p ≤ 17) (c : Int) (m : Nat) : impl_Colouring_firstOf k x c m = some (match (cl (aB x c) m (pts x)).head? with | some l => (l, true) | none => ([], false)) := by
  rw [firstOf_eq hk x hp c m, find_cl]

theorem anyF_val (k : Nat) (l : List Int) (f : Int → Option Bool) (S : Int → Bool) (hf : ∀ z ∈ l, f z = some (S z)) (hk : l.length + 1 ≤ k) (hl : (l.length : Int) ≤ 1099511627776) : slices_ContainsFunc k l f = some (l.any S) := by
  unfold slices_ContainsFunc slices_IndexFunc
  have hget : ∀ i : Nat, i < l.length → l.getD i 0 ∈ l := fun i hi => by
    have e : l.getD i 0 = l[i] := by simp [List.getD, hi]
    rw [e]; exact List.getElem_mem hi
  have := loopI (f := fun k' i (_ : Unit) => slices_IndexFunc_l0 l f k' i) (l.length : Int) 0
    (fun i _ => i ≤ l.length ∧ ∀ a : Nat, (a : Int) < i → S (l.getD a 0) = false) (fun r => (l.any S = false ∧ r = .inl ()) ∨ (l.any S = true ∧ ∃ i : Int, 0 ≤ i ∧ r = .inr i)) ?_ ?_ k 0 () (by omega) (by omega) ⟨by omega, fun a h => by omega⟩
  · obtain ⟨r, e, h⟩ := this
    rw [e]
    rcases h with ⟨h, rfl⟩ | ⟨h, i, hi, rfl⟩
    · simp [h]
    · simp [h, hi]
  · intro k' i _ h0 h1 ⟨_, q2⟩
    obtain ⟨m, rfl⟩ := nat_of h0
    have hm : m < l.length := by omega
    have hj := hf _ (hget m hm)
    cases hc : S (l.getD m 0) with
    | false =>
      left
      rw [hc] at hj
      refine ⟨(), ?_, by omega, fun a ha => ?_⟩
      · show slices_IndexFunc_l0 l _ (k' + 1) m = _
        rw [slices_IndexFunc_l0, w64_succ h0 h1 (by omega)]
        simp only [Int.toNat_natCast, h1, h0, decide_true, if_true, and_self, hj, Option.bind_some, Bool.false_eq_true, if_false]
      · by_cases e : a = m
        · subst e; exact hc
        · exact q2 a (by omega)
    | true =>
      right
      rw [hc] at hj
      refine ⟨.inr m, ?_, .inr ⟨?_, m, h0, rfl⟩⟩
      · show slices_IndexFunc_l0 l _ (k' + 1) m = _
        rw [slices_IndexFunc_l0]
        simp only [Int.toNat_natCast, h1, h0, decide_true, if_true, and_self, hj, Option.bind_some]
      · rw [List.any_eq_true]
        exact ⟨_, hget m hm, hc⟩
  · intro k' i _ h0 h1 ⟨q1, q2⟩
    refine ⟨.inl (), ?_, .inl ⟨?_, rfl⟩⟩
    · show slices_IndexFunc_l0 l _ (k' + 1) i = _
      rw [slices_IndexFunc_l0]
      have : ¬ i < (l.length : Int) := by omega
      simp [this]
    · rw [List.any_eq_false]
      intro z hz
      obtain ⟨a, ha, rfl⟩ := List.getElem_of_mem hz
      have := q2 a (by omega)
      have e : l.getD a 0 = l[a] := by simp [List.getD, ha]
      rw [e] at this
      simp [this]

theorem areIn_val (k : Nat) (l : List Int) (many lo hi : Int) (hk : l.length + 1 ≤ k) (hl : (l.length : Int) ≤ 1099511627776) : impl_areIn k l many lo hi = some (decide ((l.length : Int) = many ∧ ∀ z ∈ l, lo ≤ z ∧ z ≤ hi)) := by
  unfold impl_areIn impl_size
  by_cases h : (l.length : Int) = many
  · rw [decide_eq_true h, if_pos rfl, anyF_val k l (fun a0 => some (impl_areIn_c1 a0 lo hi)) (fun z => !decide (lo ≤ z ∧ z ≤ hi)) (fun z _ => by unfold impl_areIn_c1; rw [in_eq]) hk hl]
    simp only [Option.bind_some]
    congr 1
    rw [Bool.eq_iff_iff, decide_eq_true_iff, Bool.not_eq_true', List.any_eq_false]
    constructor
    · intro q
      exact ⟨h, fun z hz => by simpa using q z hz⟩
    · rintro ⟨_, q⟩ z hz
      simpa using q z hz
  · rw [decide_eq_false h]
    simp [h]

/-- Sizes that no clique has. -/
def avoidsP (x : Col) (sizes : List Int) : Prop := ∀ c : Nat, c < sizes.length → cl (aB x (c : Int)) (sizes.getD c 0).toNat (pts x) = []

open Classical in
theorem avoids_loop {k : Nat} (hk : 5000 ≤ k) (x : Col) (hp : 1 ≤ x.p ∧ x.p ≤ 17) (sizes : List Int) (hs : ∀ z ∈ sizes, 1 ≤ z ∧ z ≤ 17) (hl : sizes.length ≤ 1000) : impl_Colouring_avoids k x sizes = some (decide (avoidsP x sizes)) := by
  unfold impl_Colouring_avoids
  have hget : ∀ i : Nat, i < sizes.length → sizes.getD i 0 ∈ sizes := fun i hi => by
    have e : sizes.getD i 0 = sizes[i] := by simp [List.getD, hi]
    rw [e]; exact List.getElem_mem hi
  have hf : ∀ i : Nat, i < sizes.length → impl_Colouring_firstOf k x i (sizes.getD i 0) = some (match (cl (aB x i) (sizes.getD i 0).toNat (pts x)).head? with | some l => (l, true) | none => ([], false)) := fun i hi => by
    have h1 := hs _ (hget i hi)
    have := firstOf_cl hk x hp i (sizes.getD i 0).toNat
    rw [show (((sizes.getD i 0).toNat : Nat) : Int) = sizes.getD i 0 by omega] at this
    exact this
  have := loopAll (f := fun k' i => impl_Colouring_avoids_l0 k x sizes k' i) (sizes.length : Int) false (fun i => cl (aB x i) (sizes.getD i.toNat 0).toNat (pts x) = []) 0
    (fun k' i h0 h1 hq => by
      obtain ⟨m, rfl⟩ := nat_of h0
      show impl_Colouring_avoids_l0 k x sizes (k' + 1) m = _
      have e := hf m (by omega)
      rw [Int.toNat_natCast] at hq
      rw [hq] at e
      rw [impl_Colouring_avoids_l0, w64_succ h0 h1 (by omega), Int.toNat_natCast, e]
      simp only [h1, h0, decide_true, if_true, and_self, List.head?_nil, Option.bind_some, Bool.false_eq_true, if_false])
    (fun k' i h0 h1 hq => by
      obtain ⟨m, rfl⟩ := nat_of h0
      show impl_Colouring_avoids_l0 k x sizes (k' + 1) m = _
      have e := hf m (by omega)
      rw [Int.toNat_natCast] at hq
      rw [impl_Colouring_avoids_l0, Int.toNat_natCast, e]
      cases hh : cl (aB x m) (sizes.getD m 0).toNat (pts x) with
      | nil => exact absurd hh hq
      | cons a t => simp only [h1, h0, decide_true, if_true, and_self, List.head?_cons, Option.bind_some])
    (fun k' i h1 => by
      show impl_Colouring_avoids_l0 k x sizes (k' + 1) i = _
      rw [impl_Colouring_avoids_l0]
      have : ¬ i < (sizes.length : Int) := by omega
      simp [this]) k 0 (by omega) (by omega)
  rw [this]
  have e : (∀ j : Int, 0 ≤ j → j < (sizes.length : Int) → cl (aB x j) (sizes.getD j.toNat 0).toNat (pts x) = []) ↔ avoidsP x sizes := by
    constructor
    · intro h c hc
      have := h c (by omega) (by omega)
      rwa [Int.toNat_natCast] at this
    · intro h j h0 h1
      have := h j.toNat (by omega)
      rwa [show ((j.toNat : Nat) : Int) = j by omega] at this
  by_cases q : avoidsP x sizes
  · rw [if_pos (e.2 q), decide_eq_true q]; rfl
  · rw [if_neg (fun z => q (e.1 z)), decide_eq_false q]; rfl

theorem sizesCode_val {k : Nat} (hk : 5000 ≤ k) (x : Col) (sizes : List Int) (hl : sizes.length ≤ 1000) (b : Bool) : (¬ x.is → impl_Colouring_sizesCode k x sizes (some b) = some 1) ∧ (x.is → impl_Colouring_sizesCode k x sizes (some b) = some (if ((sizes.length : Int) = x.k ∧ ∀ z ∈ sizes, 1 ≤ z ∧ z ≤ 17) ∧ b = true then 0 else 2)) := by
  unfold impl_Colouring_sizesCode impl_Colouring_sizesCode_c1 impl_areForbidden impl_Colouring_code
  rw [areIn_val k sizes x.k 1 17 (by omega) (by omega), isColouring_eq k (by omega)]
  constructor
  · intro h; simp [h]
  · intro h
    simp only [h, decide_true, Option.bind_some, Bool.not_true, Bool.false_eq_true, if_false]
    by_cases q : (sizes.length : Int) = x.k ∧ ∀ z ∈ sizes, 1 ≤ z ∧ z ≤ 17
    · rw [decide_eq_true q]
      cases b
      · simp
      · simp only [if_true, Option.bind_some, Bool.not_true, Bool.false_eq_true, if_false, and_true]
        rw [if_pos q]
    · rw [decide_eq_false q]
      simp only [Bool.false_eq_true, if_false, Option.bind_some, Bool.not_false, if_true]
      rw [if_neg (fun z => q z.1)]

open Classical in
theorem implAvoids_val {k : Nat} (hk : 5000 ≤ k) (x : Col) (sizes : List Int) (hl : sizes.length ≤ 1000) : (¬ x.is → impl_AvoidsSizes k x sizes = some (false, 1)) ∧ (x.is → ¬ ((sizes.length : Int) = x.k ∧ ∀ z ∈ sizes, 1 ≤ z ∧ z ≤ 17) → impl_AvoidsSizes k x sizes = some (false, 2)) ∧ (x.is → ((sizes.length : Int) = x.k ∧ ∀ z ∈ sizes, 1 ≤ z ∧ z ≤ 17) → impl_AvoidsSizes k x sizes = some (decide (avoidsP x sizes), 0)) := by
  obtain ⟨c1, c2⟩ := sizesCode_val hk x sizes hl true
  unfold impl_AvoidsSizes impl_always
  refine ⟨fun h => ?_, fun h q => ?_, fun h q => ?_⟩
  · rw [c1 h]; simp
  · rw [c2 h, if_neg (fun z => q z.1)]; simp
  · rw [c2 h, if_pos ⟨q, rfl⟩, avoids_loop hk x h.1 sizes q.2 hl]; simp

/-- The neighbours of a point, as bits. -/
def nb (x : Col) (c : Int) (p : Nat) : Nat := bitsN (fun j => aB x c (p : Int) (j : Int)) x.p.toNat
theorem nb_test (x : Col) (c : Int) (p j : Nat) : (nb x c p).testBit j = (decide (j < x.p.toNat) && aB x c (p : Int) (j : Int)) := bitsN_test _ _ _
theorem nb_lt (x : Col) (hp : 1 ≤ x.p ∧ x.p ≤ 17) (c : Int) (p : Nat) : nb x c p < 2 ^ 63 := lt63 (lt17 (bitsN_lt _ _) (by omega))

theorem around_nb (k : Nat) (x : Col) (hx : 1 ≤ x.p ∧ x.p ≤ 17) (hk : 20 ≤ k) (c : Int) (i : Nat) (hi : (i : Int) < x.p) : spec_l01Around k x i c = some ((nb x c i : Nat) : Int) := by
  unfold spec_l01Around nb
  generalize hP : (fun j : Nat => aB x c (i : Int) (j : Int)) = P
  have hP' : ∀ j : Nat, P j = aB x c (i : Int) (j : Int) := fun j => by rw [← hP]
  have := loopI (f := fun k t (s : Int) => spec_l01Around_l0 x i c k s t) x.p 0 (fun t s => t ≤ x.p ∧ s = ((bitsN P t.toNat : Nat) : Int)) (fun r => r = ((bitsN P x.p.toNat : Nat) : Int)) ?_ ?_ k 0 0 (by omega) (by omega) ⟨by omega, rfl⟩
  · obtain ⟨r, e, rfl⟩ := this
    rw [e]; rfl
  · intro k t s h0 h1 ⟨_, q⟩
    left
    obtain ⟨m, rfl⟩ := nat_of h0
    refine ⟨_, ?_, by omega, rfl⟩
    show spec_l01Around_l0 x i c (k + 1) s m = _
    have e0 : ((m : Int) + 1).toNat = m + 1 := by omega
    rw [spec_l01Around_l0, w64_succ h0 h1 (by omega), e0, u64_id (by omega)]
    simp only [Int.toNat_natCast] at q
    have hb := lt63 (lt17 (bitsN_lt P m) (by omega))
    have hor := bOr_nat (a := bitsN P m) (b := 2 ^ m) hb (Nat.pow_lt_pow_right (by omega) (by omega))
    simp only [h1, decide_true, if_true]
    have hPm := hP' m
    unfold aB at hPm
    by_cases e : m = i
    · subst e
      simp only [ne_eq, not_true_eq_false, false_and, decide_false] at hPm
      simp [hPm, bitsN, q]
    · have e' : ¬ (m : Int) = i := by omega
      have e'' : ¬ (i : Int) = m := by omega
      rw [specAt_ne x i m (by omega) (by omega) (by omega) (by omega) (by omega)]
      by_cases h : x.cc i m = c
      · simp only [ne_eq, e'', not_false_eq_true, h, and_self, decide_true] at hPm
        simp only [e', h, decide_false, Bool.not_false, if_true, Option.bind_some, decide_true, h0, q]
        rw [bShl_one (by omega), hor]
        simp [bitsN, hPm]
      · simp only [ne_eq, e'', not_false_eq_true, h, and_false, decide_false] at hPm
        simp [e', h, bitsN, hPm, q]
  · intro k t s h0 h1 ⟨q1, q2⟩
    have : t = x.p := by omega
    subst this
    refine ⟨s, ?_, q2⟩
    show spec_l01Around_l0 x i c (k + 1) s x.p = _
    rw [spec_l01Around_l0]; simp

def rws (x : Col) (c : Int) (n : Nat) : List Int := (List.range n).map fun i => ((nb x c i : Nat) : Int)
theorem rws_length (x : Col) (c : Int) (n : Nat) : (rws x c n).length = n := by simp [rws]
theorem rws_get (x : Col) (c : Int) (n i : Nat) (h : i < n) : (rws x c n).getD i 0 = ((nb x c i : Nat) : Int) := by simp [rws, List.getD, h]
theorem rws_succ (x : Col) (c : Int) (n : Nat) : rws x c (n + 1) = rws x c n ++ [((nb x c n : Nat) : Int)] := by simp [rws, List.range_succ]

theorem rows_val {k : Nat} (hk : 5000 ≤ k) (x : Col) (hp : 1 ≤ x.p ∧ x.p ≤ 17) (c : Int) : spec_l02Rows k x c = some (rws x c x.p.toNat) := by
  unfold spec_l02Rows
  have := loopI (f := fun k' i (s : List Int) => spec_l02Rows_l0 k x c k' i s) x.p 0 (fun i s => i ≤ x.p ∧ s = rws x c i.toNat) (fun r => r = rws x c x.p.toNat) ?_ ?_ k 0 [] (by omega) (by omega) ⟨by omega, rfl⟩
  · obtain ⟨r, e, rfl⟩ := this
    rw [e]; rfl
  · intro k' i s h0 h1 ⟨_, q⟩
    left
    obtain ⟨m, rfl⟩ := nat_of h0
    refine ⟨_, ?_, by omega, rfl⟩
    show spec_l02Rows_l0 k x c (k' + 1) m s = _
    have e0 : ((m : Int) + 1).toNat = m + 1 := by omega
    simp only [Int.toNat_natCast] at q
    have hl : s.length + ([((nb x c m : Nat) : Int)]).length ≤ 1099511627776 := by rw [q, rws_length]; simp; omega
    rw [spec_l02Rows_l0, w64_succ h0 h1 (by omega), e0, around_nb k x hp (by omega) c m h1, rws_succ, ← q]
    simp only [h1, decide_true, if_true, Option.bind_some, hl]
  · intro k' i s h0 h1 ⟨q1, q2⟩
    have : i = x.p := by omega
    subst this
    refine ⟨s, ?_, q2⟩
    show spec_l02Rows_l0 k x c (k' + 1) x.p s = _
    rw [spec_l02Rows_l0]; simp

/-! ### Bits that are counted -/
theorem ones_loop : ∀ (m s : Nat) (cnt : Int) (k : Nat), s < 2 ^ m → m ≤ 60 → m < k → 0 ≤ cnt → cnt + m ≤ 1000 → spec_l01Ones_l0 k (s : Int) cnt = some (cnt + (mem s 0 m).length) := by
  intro m
  induction m with
  | zero =>
    intro s cnt k hs hm hk h0 h1
    obtain ⟨k, rfl⟩ : ∃ q, k = q + 1 := ⟨k - 1, by omega⟩
    have : s = 0 := by simpa using hs
    subst this
    rw [spec_l01Ones_l0, mem_end (by omega)]; simp
  | succ m ih =>
    intro s cnt k hs hm hk h0 h1
    obtain ⟨k, rfl⟩ : ∃ q, k = q + 1 := ⟨k - 1, by omega⟩
    rw [spec_l01Ones_l0]
    by_cases h : s = 0
    · subst h
      have : mem 0 0 (m + 1) = [] := by
        unfold mem
        rw [List.filter_eq_nil_iff]
        intro a _; simp
      rw [this]; simp
    · have hp : (0 : Int) < (s : Int) := by omega
      have hb : s < 2 ^ 61 := Nat.lt_of_lt_of_le hs (Nat.pow_le_pow_right (by omega) (by omega))
      have e1 : (s : Int).tdiv 2 = ((s / 2 : Nat) : Int) := by rw [Int.tdiv_eq_ediv_of_nonneg (by omega)]; omega
      have e2 : (s : Int).tmod 2 = ((s % 2 : Nat) : Int) := by rw [Int.tmod_eq_emod_of_nonneg (by omega)]; omega
      rw [decide_eq_true hp, if_pos rfl, e1, e2, w64_id (by omega), w64_id (by omega), ih (s / 2) _ k (by rw [Nat.pow_succ] at hs; omega) (by omega) (by omega) (by omega) (by omega), mem_half]
      congr 1
      rw [Int.natCast_add]
      omega
theorem ones_val {k n s : Nat} (hk : 100 ≤ k) (hn : n ≤ 60) (hs : s < 2 ^ n) : spec_l01Ones k (s : Int) = some ((mem s 0 n).length : Int) := by
  unfold spec_l01Ones
  rw [ones_loop n s 0 k hs hn (by omega) (by omega) (by omega)]
  simp

/-! ### Cliques that are counted -/
section
variable (x : Col) (hp : 1 ≤ x.p ∧ x.p ≤ 17) (c : Int)
include hp

theorem sp_lt {s : Nat} (hs : s < 2 ^ x.p.toNat) : s < 2 ^ 63 := lt63 (lt17 hs (by omega))

/-! ### Cliques that are listed -/
theorem gobit {s p : Nat} (hs : s < 2 ^ x.p.toNat) (hpn : p < x.p.toNat) :
    bShl .i64 (bShr .i64 (bAnd .i64 (s : Int) ((nb x c p : Nat) : Int)) (p : Int)) (p : Int) = (((s &&& nb x c p) >>> p <<< p : Nat) : Int) ∧ (s &&& nb x c p) >>> p <<< p < 2 ^ x.p.toNat ∧
    mem ((s &&& nb x c p) >>> p <<< p) 0 x.p.toNat = (mem s (p + 1) x.p.toNat).filter (aB x c p) := by
  have hle : (s &&& nb x c p) >>> p <<< p ≤ s := by
    rw [Nat.shiftLeft_eq, Nat.shiftRight_eq_div_pow]
    exact Nat.le_trans (Nat.div_mul_le_self _ _) Nat.and_le_left
  have ht : ∀ i, ((s &&& nb x c p) >>> p <<< p).testBit i = (decide (p ≤ i) && (s.testBit i && (nb x c p).testBit i)) := fun i => by
    rw [Nat.testBit_shiftLeft, Nat.testBit_shiftRight, Nat.testBit_and]
    by_cases h : p ≤ i
    · have : p + (i - p) = i := by omega
      simp [h, this]
    · simp [h]
  refine ⟨?_, Nat.lt_of_le_of_lt hle hs, ?_⟩
  · rw [bAnd_nat (sp_lt x hp hs) (nb_lt x hp c p), bShr_nat (by omega), bShl_nat (by omega) (Nat.lt_of_le_of_lt hle (sp_lt x hp hs))]
  · rw [mem_low (p := p + 1) fun i hi => by
      rw [ht, nb_test]
      by_cases e : i = p
      · subst e; simp [aB_irr]
      · have : ¬ p ≤ i := by omega
        simp [this]]
    refine mem_flt fun i h1 h2 => ?_
    rw [ht, nb_test]
    have : p ≤ i := by omega
    simp [h2, this]

theorem spec_go (most : Nat) (hmost : most ≤ 1000) (m : Nat) (hm : m ≤ 100) : ∀ (j : Nat) (b : List Int) (s : Nat) (out : List (List Int)) (k : Nat), b.length + j = m → s < 2 ^ x.p.toNat → out.length < most → j + 200 ≤ k →
    spec_l02Go k (rws x c x.p.toNat) b (s : Int) (m : Int) out (most : Int) = some ((out ++ (cl (aB x c) j (mem s 0 x.p.toNat)).map (b ++ ·)).take most) := by
  intro j
  induction j with
  | zero =>
    intro b s out k hj hs hout hk
    obtain ⟨k, rfl⟩ : ∃ q, k = q + 1 := ⟨k - 1, by omega⟩
    have hbm : (b.length : Int) = (m : Int) := by omega
    have h1 : ([] : List Int).length + b.length ≤ 1099511627776 := by simp; omega
    have h2 : out.length + ([b]).length ≤ 1099511627776 := by simp; omega
    rw [spec_l02Go, spec_l02Go_body, decide_eq_true hbm, if_pos rfl, spec_l01Own, if_pos h1, cl_zero]
    simp only [Option.bind_some, List.nil_append, if_pos h2, List.map_cons, List.map_nil, List.append_nil]
    rw [List.take_of_length_le (by simp; omega)]
  | succ j ih =>
    intro b s0 out k hj hs0 hout hk
    obtain ⟨k, rfl⟩ : ∃ q, k = q + 1 := ⟨k - 1, by omega⟩
    have hbm : ¬ (b.length : Int) = (m : Int) := by omega
    have hones := ones_val (k := k) (by omega) (show x.p.toNat ≤ 60 by omega) hs0
    have hlen := mem_length s0 0 x.p.toNat
    rw [spec_l02Go, spec_l02Go_body, decide_eq_false hbm, if_neg (by simp), hones]
    simp only [Option.bind_some]
    rw [w64_id (by omega)]
    by_cases ho : (b.length : Int) + ((mem s0 0 x.p.toNat).length : Int) < (m : Int)
    · rw [decide_eq_true ho, if_pos rfl, cl_short _ _ _ (by omega)]
      simp only [List.map_nil, List.append_nil]
      rw [List.take_of_length_le (by omega)]
    · rw [decide_eq_false ho, if_neg (by simp)]
      have loop : ∀ (d p f : Nat) (cur : List (List Int)), x.p.toNat - p = d → d < f → p ≤ x.p.toNat → cur.length ≤ most →
          spec_l02Go_l0 (spec_l02Go k) (rws x c x.p.toNat) b (s0 : Int) (m : Int) (most : Int) f (p : Int) cur = some ((cur ++ (cl (aB x c) (j + 1) (mem s0 p x.p.toNat)).map (b ++ ·)).take most) := by
        intro d
        induction d with
        | zero =>
          intro p f cur hd hf hpn hc
          obtain ⟨f, rfl⟩ : ∃ q, f = q + 1 := ⟨f - 1, by omega⟩
          have hpe : ¬ (p : Int) < ((rws x c x.p.toNat).length : Int) := by rw [rws_length]; omega
          rw [spec_l02Go_l0, decide_eq_false hpe, mem_end (by omega), cl_nil]
          simp only [letO, Bool.false_eq_true, if_false, Option.bind_some, List.map_nil, List.append_nil]
          rw [List.take_of_length_le (by omega)]
        | succ d ihd =>
          intro p f cur hd hf hpn hc
          obtain ⟨f, rfl⟩ : ∃ q, f = q + 1 := ⟨f - 1, by omega⟩
          have hpl : (p : Int) < ((rws x c x.p.toNat).length : Int) := by rw [rws_length]; omega
          rw [spec_l02Go_l0, decide_eq_true hpl]
          by_cases hfull : (cur.length : Int) < (most : Int)
          · rw [decide_eq_true hfull]
            simp only [letO, if_true, Option.bind_some]
            rw [u64_id (by omega), bit_eq (sp_lt x hp hs0) (by omega), Int.toNat_natCast, rws_get x c _ p (by omega), w64_id (n := (p : Int) + 1) (by omega), show (p : Int) + 1 = ((p + 1 : Nat) : Int) by omega]
            have hp0 : (0 : Int) ≤ p := by omega
            by_cases hb : s0.testBit p = true
            · obtain ⟨b1, b2, b3⟩ := gobit x hp c hs0 (show p < x.p.toNat by omega)
              have h1 : ([] : List Int).length + b.length ≤ 1099511627776 := by simp; omega
              have h2 : b.length + ([(p : Int)]).length ≤ 1099511627776 := by simp; omega
              have hself := ih (b ++ [(p : Int)]) ((s0 &&& nb x c p) >>> p <<< p) cur k (by simp; omega) b2 (by omega) (by omega)
              simp only [hb, if_true, decide_true, hp0, hpl, and_self, Int.toNat_natCast, spec_l01Own, if_pos h1, Option.bind_some, List.nil_append, if_pos h2, b1, hself]
              rw [ihd (p + 1) f _ (by omega) (by omega) (by omega) (by rw [List.length_take]; omega), take_take_app, List.append_assoc, mem_yes (by omega) hb, cl_cons, List.map_append, List.map_map, b3]
              have hfun : ((fun z => b ++ z) ∘ fun z => (p : Int) :: z) = fun z => (b ++ [(p : Int)]) ++ z := by funext z; simp
              rw [hfun]
            · have hb' : s0.testBit p = false := by simpa using hb
              simp only [hb', Bool.false_eq_true, if_false, hp0, if_true, Option.bind_some, show ¬ (0 : Int) = 1 by decide, decide_false]
              rw [ihd (p + 1) f cur (by omega) (by omega) (by omega) hc, mem_no (by omega) hb']
          · rw [decide_eq_false hfull]
            simp only [letO, Bool.false_eq_true, if_true, if_false, Option.bind_some]
            rw [List.take_append_of_le_length (by omega), List.take_of_length_le (by omega)]
      have := loop x.p.toNat 0 k out (by omega) (by omega) (by omega) (by omega)
      rw [show ((0 : Nat) : Int) = 0 from rfl] at this
      rw [this]; rfl

theorem whole_bits : w64 ((bShl .i64 1 (IntKind.u64.wrap x.p)) - 1) = ((2 ^ x.p.toNat - 1 : Nat) : Int) ∧ 2 ^ x.p.toNat - 1 < 2 ^ x.p.toNat ∧ (0 : Int) ≤ IntKind.u64.wrap x.p := by
  obtain ⟨n, hn⟩ := nat_of (show 0 ≤ x.p by omega)
  have h2 : 2 ^ n < 2 ^ 18 := Nat.pow_lt_pow_right (by omega) (by omega)
  have h0 : 0 < 2 ^ n := Nat.two_pow_pos n
  rw [u64_id (by omega), hn, bShl_one (by omega)]
  simp only [Int.toNat_natCast]
  refine ⟨?_, by omega, by omega⟩
  rw [w64_id (by omega)]; omega

theorem spec_list {k : Nat} (hk : 5000 ≤ k) (m most : Nat) (hm : m ≤ 100) (h1 : 1 ≤ most) (hmost : most ≤ 1000) : spec_l02List k x c (m : Int) (most : Int) = some ((cl (aB x c) m (pts x)).take most) := by
  obtain ⟨w1, w2, w3⟩ := whole_bits x hp
  unfold spec_l02List
  rw [rows_val hk x hp c]
  simp only [Option.bind_some, if_pos w3, w1]
  rw [spec_go x hp c most hmost m hm m [] (2 ^ x.p.toNat - 1) [] k (by simp) w2 (by simp; omega) (by omega), mem_all]
  simp only [Option.bind_some, List.nil_append, List.map_id']
  rfl
end

theorem acl_filter (x : Col) (c : Int) (m : Nat) : (acl x c).filter (fun l => decide (l.length = m)) = cl (aB x c) m (pts x) := ac_filter _ _ _

theorem mem_getD {l : List Int} {x : Int} : x ∈ l ↔ ∃ a, a < l.length ∧ l.getD a 0 = x := by
  constructor
  · intro h
    obtain ⟨a, ha, e⟩ := List.getElem_of_mem h
    exact ⟨a, ha, by simp [List.getD, ha, e]⟩
  · rintro ⟨a, ha, rfl⟩
    simp [List.getD, ha]

/-- The first one of the greatest cliques. -/
def isGrt (x : Col) (c : Int) (w : Nat) (l : List Int) : Prop := 1 ≤ w ∧ w ≤ 17 ∧ (cl (aB x c) w (pts x)).head? = some l ∧ cl (aB x c) (w + 1) (pts x) = []

theorem pts_len (x : Col) (hp : 1 ≤ x.p ∧ x.p ≤ 17) : 1 ≤ (pts x).length ∧ (pts x).length ≤ 17 := by unfold pts; rw [ir_length]; omega

theorem pts_cons (x : Col) (hp : 1 ≤ x.p ∧ x.p ≤ 17) : ∃ t, pts x = 0 :: t := ⟨ir 1 x.p.toNat, by unfold pts; rw [ir_next (by omega)]; rfl⟩

theorem cl_ne_le (x : Col) (hp : 1 ≤ x.p ∧ x.p ≤ 17) (c : Int) (m : Nat) (h : cl (aB x c) m (pts x) ≠ []) : m ≤ 17 := by
  rcases Nat.lt_or_ge (pts x).length m with q | q
  · exact absurd (cl_short _ _ m q) h
  · have := pts_len x hp; omega

theorem grt_is {x : Col} {c : Int} {w : Nat} {l : List Int} (h : isGrt x c w l) : grt (acl x c) [] = l := by
  obtain ⟨h1, _, h3, h4⟩ := h
  refine grt_first w (acl x c) [] l (fun a ha => ?_) (by simp; omega) ?_
  · rcases Nat.lt_or_ge w a.length with q | q
    · exfalso
      have hm := (mem_ac (aB x c) (pts x) a).1 ha
      have hin : a ∈ cl (aB x c) a.length (pts x) := (mem_cl _ _ _ _).2 ⟨hm.1, hm.2, rfl⟩
      have : cl (aB x c) (w + 1) (pts x) ≠ [] := cl_down _ _ (w + 1) (a.length - (w + 1)) (by
        rw [show w + 1 + (a.length - (w + 1)) = a.length by omega]
        intro e; rw [e] at hin; simp at hin)
      exact this h4
    · exact q
  · rw [← List.head?_filter, acl_filter]; exact h3

theorem specGreatest_val {k : Nat} (hk : 5000 ≤ k) (x : Col) (hp : 1 ≤ x.p ∧ x.p ≤ 17) (c : Int) : ∃ w l, spec_l02Greatest k x c = some l ∧ isGrt x c w l := by
  unfold spec_l02Greatest
  have loop : ∀ (d w : Nat) (l : List Int) (f : Nat), 18 - w = d → d < f → 1 ≤ w → (cl (aB x c) w (pts x)).head? = some l → ∃ w' l', spec_l02Greatest_l0 k x c f l = some l' ∧ isGrt x c w' l' := by
    intro d
    induction d with
    | zero =>
      intro w l f hd hf hw hl
      exfalso
      have : cl (aB x c) w (pts x) ≠ [] := fun e => by rw [e] at hl; simp at hl
      have := cl_ne_le x hp c w this
      omega
    | succ d ih =>
      intro w l f hd hf hw hl
      obtain ⟨f, rfl⟩ : ∃ q, f = q + 1 := ⟨f - 1, by omega⟩
      have hne : cl (aB x c) w (pts x) ≠ [] := fun e => by rw [e] at hl; simp at hl
      have hw17 := cl_ne_le x hp c w hne
      have hlen : l.length = w := cl_len _ _ _ l (List.mem_of_mem_head? (by rw [hl]; rfl))
      have hsp := spec_list x hp c hk (w + 1) 1 (by omega) (by omega) (by omega)
      rw [spec_l02Greatest_l0, hlen, w64_id (by omega), show ((w : Int) + 1) = ((w + 1 : Nat) : Int) by omega, show (1 : Int) = ((1 : Nat) : Int) from rfl, hsp]
      simp only [Option.bind_some]
      cases hq : cl (aB x c) (w + 1) (pts x) with
      | nil => exact ⟨w, l, by simp, hw, hw17, hl, hq⟩
      | cons a t =>
        have : (((a :: t).take 1).length : Int) ≠ 0 := by simp
        have h0 : (0 : Int) ≤ 0 ∧ (0 : Int) < (((a :: t).take 1).length : Int) := by simp
        rw [decide_eq_false this, if_neg (by simp), if_pos h0]
        have hg : ((a :: t).take 1).getD (0 : Int).toNat [] = a := by simp
        rw [hg]
        exact ih (w + 1) a f (by omega) (by omega) (by omega) (by rw [hq]; rfl)
  obtain ⟨t, ht⟩ := pts_cons x hp
  obtain ⟨w, l, e, h⟩ := loop 17 1 [0] k (by omega) (by omega) (by omega) (by rw [ht, cl_cons, cl_zero]; rfl)
  exact ⟨w, l, by rw [e]; rfl, h⟩

/-- All points of a list are joined. -/
def isC (x : Col) (c : Int) (l : List Int) : Prop := ∀ a b : Nat, a < b → b < l.length → aB x c (l.getD a 0) (l.getD b 0) = true

theorem getD_el {l : List Int} {i : Nat} (h : i < l.length) : l.getD i 0 = l[i] := by simp [List.getD, h]

theorem getD_mem {l : List Int} {i : Nat} (h : i < l.length) : l.getD i 0 ∈ l := by
  have e : l.getD i 0 = l[i] := by simp [List.getD, h]
  rw [e]; exact List.getElem_mem h

theorem inP_inR {x : Col} (hp : x.p ≤ 17) {l : List Int} (h : inP x l) : inR l := fun z hz => by
  obtain ⟨i, hi, rfl⟩ := List.getElem_of_mem hz
  have := h i (by omega) (by omega)
  have e : li l i = l[i] := by unfold li; simp [List.getD, hi]
  rw [e] at this; omega

theorem goesB_take (x : Col) (c : Int) (l : List Int) (i : Nat) (h : i < l.length) : goesB x c (l.take i) (l.getD i 0) = true ↔ ∀ a : Nat, a < i → aB x c (l.getD a 0) (l.getD i 0) = true := by
  unfold goesB
  rw [List.all_eq_true]
  constructor
  · intro q a ha
    have e : l.getD a 0 = (l.take i)[a]'(by simp; omega) := by simp [List.getD, show a < l.length by omega]
    rw [e]
    exact q _ (List.getElem_mem _)
  · intro q z hz
    obtain ⟨a, ha, rfl⟩ := List.getElem_of_mem hz
    simp at ha
    have e : (l.take i)[a]'(by simp; omega) = l.getD a 0 := by simp [List.getD, show a < l.length by omega]
    rw [e]
    exact q a (by omega)

open Classical in
theorem implIsC {k : Nat} (hk : 5000 ≤ k) (x : Col) (hp : 1 ≤ x.p ∧ x.p ≤ 17) (c : Int) (l : List Int) (hl : l.length ≤ 1000) (hr : inR l) : impl_Colouring_isClique k x c l = some (decide (isC x c l)) := by
  unfold impl_Colouring_isClique
  have key : ∀ (i : Int), 0 ≤ i → i < l.length → impl_Colouring_goesWith k x c ((l.take i.toNat).drop 0) (l.getD i.toNat 0) = some (decide (∀ a : Nat, (a : Int) < i → aB x c (l.getD a 0) (l.getD i.toNat 0) = true)) := fun i h0 h1 => by
    obtain ⟨m, rfl⟩ := nat_of h0
    rw [List.drop_zero, Int.toNat_natCast]
    rw [goes_val k x c (l.take m) (l.getD m 0) (by simp; omega) (by simp; omega) (fun z hz => hr z (List.mem_of_mem_take hz)) (hr _ (getD_mem (by omega)))]
    congr 1
    have := goesB_take x c l m (by omega)
    cases hq : goesB x c (l.take m) (l.getD m 0) with
    | true => rw [hq] at this; exact (decide_eq_true fun a ha => this.1 rfl a (by omega)).symm
    | false => rw [hq] at this; exact (decide_eq_false fun q => by have := this.2 fun a ha => q a (by omega); simp at this).symm
  have := loopAll (f := fun k' i => impl_Colouring_isClique_l0 k x c l k' i) (l.length : Int) false (fun i => ∀ a : Nat, (a : Int) < i → aB x c (l.getD a 0) (l.getD i.toNat 0) = true) 0
    (fun k' i h0 h1 hq => by
      show impl_Colouring_isClique_l0 k x c l (k' + 1) i = _
      have h2 : i ≤ (l.length : Int) := by omega
      rw [impl_Colouring_isClique_l0, w64_succ h0 h1 (by omega), key i h0 h1, decide_eq_true hq]
      simp only [h1, h0, decide_true, if_true, and_self, h2, Int.le_refl, Nat.le_refl, Option.bind_some, Bool.not_true, Bool.false_eq_true, if_false])
    (fun k' i h0 h1 hq => by
      show impl_Colouring_isClique_l0 k x c l (k' + 1) i = _
      have h2 : i ≤ (l.length : Int) := by omega
      rw [impl_Colouring_isClique_l0, key i h0 h1, decide_eq_false hq]
      simp only [h1, h0, decide_true, if_true, and_self, h2, Int.le_refl, Nat.le_refl, Option.bind_some, Bool.not_false])
    (fun k' i h1 => by
      show impl_Colouring_isClique_l0 k x c l (k' + 1) i = _
      rw [impl_Colouring_isClique_l0]
      have : ¬ i < (l.length : Int) := by omega
      simp [this]) k 0 (by omega) (by omega)
  rw [this]
  have e : (∀ j : Int, 0 ≤ j → j < (l.length : Int) → ∀ a : Nat, (a : Int) < j → aB x c (l.getD a 0) (l.getD j.toNat 0) = true) ↔ isC x c l := by
    constructor
    · intro h a b hab hb
      have := h b (by omega) (by omega) a (by omega)
      rwa [Int.toNat_natCast] at this
    · intro h j h0 h1 a ha
      exact h a j.toNat (by omega) (by omega)
  by_cases q : isC x c l
  · rw [if_pos (e.2 q), decide_eq_true q]; rfl
  · rw [if_neg (fun z => q (e.1 z)), decide_eq_false q]; rfl

theorem pw_inc {l : List Int} (h : l.Pairwise (· < ·)) : inc l := by
  intro i h0 h1
  rw [List.pairwise_iff_getElem] at h
  have := h (i - 1).toNat i.toNat (by omega) (by omega) (by omega)
  unfold li
  have e1 : l.getD (i - 1).toNat 0 = l[(i - 1).toNat]'(by omega) := getD_el _
  have e2 : l.getD i.toNat 0 = l[i.toNat]'(by omega) := by simp [List.getD, show i.toNat < l.length by omega]
  rw [e1, e2]
  exact this

/-- A listed clique is one. -/
theorem cl_good {x : Col} (hx : x.is) {c : Int} {m : Nat} {l : List Int} (h : l ∈ cl (aB x c) m (pts x)) : inP x l ∧ inc l ∧ isC x c l ∧ l.length = m := by
  obtain ⟨h1, h2, h3⟩ := (mem_cl _ _ _ _).1 h
  have hpw : l.Pairwise (· < ·) := (ir_pw 0 x.p.toNat).sublist h1
  refine ⟨fun i h0 h4 => ?_, pw_inc hpw, fun a b hab hb => ?_, h3⟩
  · have hm : li l i ∈ pts x := h1.subset (by unfold li; exact getD_mem (by omega))
    unfold pts at hm
    rw [mem_ir] at hm
    have := hx.1; omega
  · rw [List.pairwise_iff_getElem] at h2
    have := h2 a b (by omega) hb hab
    have e1 : l.getD a 0 = l[a]'(by omega) := by simp [List.getD, show a < l.length by omega]
    have e2 : l.getD b 0 = l[b] := by simp [List.getD, hb]
    rw [e1, e2]; exact this

theorem hasColour_val {x : Col} (h : x.is) (c : Int) : impl_Colouring_hasColour x c = decide (0 ≤ c ∧ c ≤ x.k - 1) := by
  unfold impl_Colouring_hasColour
  have := h.2.1
  rw [in_eq, w64_id (by omega)]

def szOK (x : Col) (sizes : List Int) : Prop := (sizes.length : Int) = x.k ∧ ∀ z ∈ sizes, 1 ≤ z ∧ z ≤ 17

theorem sz_get {x : Col} {sizes : List Int} (h : szOK x sizes) {c : Nat} (hc : (c : Int) < x.k) : 1 ≤ sizes.getD c 0 ∧ sizes.getD c 0 ≤ 17 ∧ c < sizes.length := by
  have := h.1
  have hl : c < sizes.length := by omega
  have := h.2 _ (mem_getD.2 ⟨c, hl, rfl⟩)
  omega

open Classical in
noncomputable def eC (x : Col) (sizes : List Int) : Int := if x.is then (if szOK x sizes then 0 else 2) else 1

open Classical in
noncomputable def eS (x : Col) (sizes : List Int) (lim : Int) : Int := if eC x sizes = 0 then (if avoidsP x sizes then (if lim < x.p then 3 else 0) else 5) else eC x sizes

theorem eC_zero {x : Col} {sizes : List Int} (h : eC x sizes = 0) : x.is ∧ szOK x sizes := by
  unfold eC at h
  split at h
  · split at h
    · exact ⟨by assumption, by assumption⟩
    · omega
  · omega

theorem is_range {x : Col} (h : x.is) : (1 ≤ x.p ∧ x.p ≤ 17) ∧ 1 ≤ x.k ∧ x.k ≤ 4 := ⟨h.1, h.2.1⟩

theorem implExt_val {k : Nat} (hk : 5000 ≤ k) (x : Col) (sizes : List Int) (hl : sizes.length ≤ 1000) (lim : Int) : impl_Colouring_extendingCode k x sizes (some true) lim = some (eS x sizes lim) := by
  classical
  unfold impl_Colouring_extendingCode eS eC
  obtain ⟨s1, s2⟩ := sizesCode_val hk x sizes hl true
  by_cases h : x.is
  · obtain ⟨hp, hk4⟩ := is_range h
    by_cases h2 : szOK x sizes
    · have e1 : impl_Colouring_sizesCode k x sizes (some true) = some 0 := by rw [s2 h, if_pos ⟨h2, rfl⟩]
      rw [e1, Option.bind_some, if_neg (by simp), if_pos h, if_pos h2, if_pos rfl, avoids_loop hk x hp sizes h2.2 hl, Option.bind_some]
      by_cases h3 : avoidsP x sizes
      · rw [if_neg (by simpa using h3), if_pos h3]
        by_cases h4 : lim < x.p
        · rw [if_pos (decide_eq_true h4), if_pos h4]
        · rw [if_neg (by simpa using h4), if_neg h4]
      · rw [if_pos (by simpa using h3), if_neg h3]
    · have e1 : impl_Colouring_sizesCode k x sizes (some true) = some 2 := by rw [s2 h, if_neg (fun q => h2 q.1)]
      rw [e1, Option.bind_some, if_pos (by simp), if_pos h, if_neg h2, if_neg (by omega)]
  · rw [s1 h, Option.bind_some, if_pos (by simp), if_neg h, if_neg (by omega)]

theorem cliques_val {k : Nat} (hk : 5000 ≤ k) {x : Col} (h : x.is) : impl_CliqueNumbers k x = some (some (mapL x.k.toNat fun c => ((grt (acl x c) []).length : Int)), 0) := by
  have hkk := h.2.1
  have ek : ((x.k.toNat : Nat) : Int) = x.k := by omega
  unfold impl_CliqueNumbers impl_always
  rw [((code_cases hk x).1 h).1]
  unfold impl_Colouring_cliqueNumbers
  have := collect (fun k' i s => impl_Colouring_cliqueNumbers_l0 k x k' i s) x.k.toNat (fun c => ((grt (acl x c) []).length : Int)) (fun k' i s hi hl => by
    have h1 : (i : Int) < x.k := by omega
    have hl' : s.length + ([(impl_size (grt (acl x i) []))]).length ≤ 1099511627776 := by simp; omega
    rw [impl_Colouring_cliqueNumbers_l0, greatest_eq hk x h.1 i, w64_id (by omega)]
    simp only [h1, decide_true, if_true, Option.bind_some, hl']
    rfl) (fun k' s => by rw [ek, impl_Colouring_cliqueNumbers_l0]; simp) k (by omega)
  simp only [Option.bind_some, decide_true, Bool.not_true, Bool.false_eq_true, if_false, this]

def pad (s : List Int) : List Int := splicedL ([0, 0, 0, 0] : List Int) 0 4 s
theorem pad_eq {s : List Int} (h : s.length ≤ 4) : pad s = s ++ ([0, 0, 0, 0] : List Int).drop s.length := by
  unfold pad splicedL
  rw [List.take_zero, List.nil_append, List.take_of_length_le h, Nat.zero_add, Nat.min_eq_left h]
theorem pad_length {s : List Int} (h : s.length ≤ 4) : (pad s).length = 4 := by
  rw [pad_eq h]; simp; omega
theorem pad_back {s : List Int} (h : wfs s) : (pad s).filter (fun x => !decide (x = 0)) = s := by
  rw [pad_eq h.len, List.filter_append]
  have e1 : s.filter (fun x => !decide (x = 0)) = s := List.filter_eq_self.2 fun z hz => by
    have := h.rg z hz
    have : ¬ z = 0 := by omega
    simp [this]
  have e2 : ((([0, 0, 0, 0] : List Int).drop s.length).filter (fun x => !decide (x = 0))) = [] := List.filter_eq_nil_iff.2 fun z hz => by
    have := List.mem_of_mem_drop hz
    simp at this
    simp [this]
  rw [e1, e2, List.append_nil]
theorem pad_ok {s : List Int} (h : wfs s) : okK (.l (pad s)) = true := by
  unfold okK
  rw [List.all_eq_true]
  intro z hz
  rw [pad_eq h.len] at hz
  rcases List.mem_append.1 hz with hz | hz
  · have := h.rg z hz; simp [okI]; omega
  · have := List.mem_of_mem_drop hz
    simp at this
    subst this; decide

/-- What the table holds. -/
def GN (M : List (MK × Int)) : Prop := ∀ key v, lookM M (.l key) = some v → ∃ t, wfs t ∧ pad t = key ∧ v = nb8 t
theorem GN_nil : GN [] := fun u v h => by simp [lookM] at h
theorem GN_put {M : List (MK × Int)} (h : GN M) {s : List Int} (hs : wfs s) : GN ((MK.l (pad s), nb8 s) :: M) := by
  intro t v hv
  unfold lookM at hv
  cases e : (MK.l (pad s)).beq (MK.l t) with
  | true =>
    rw [e, cond_true] at hv
    have := (MK.beq_iff _ _).1 e
    simp at this
    exact ⟨s, hs, this, (Option.some.inj hv).symm⟩
  | false => rw [e, cond_false] at hv; exact h t v hv

def cB : Nat → Nat
  | 0 => 2
  | n + 1 => 2 + 4 * cB n
theorem cB_max : ∀ n, n ≤ 24 → cB n ≤ 2000000000000000 := by decide
theorem cB_two (n : Nat) : 2 ≤ cB n := by cases n <;> simp [cB]
theorem p4_max : ∀ n, n ≤ 24 → 8 * 4 ^ n ≤ 4000000000000000 := by decide
theorem ph_le : ∀ s : List Int, (∀ z ∈ s, 1 ≤ z ∧ z ≤ 8) → ph s ≤ 6 * s.length
  | [], _ => by simp [ph]
  | a :: s, h => by
    have h1 := ph_le s fun z hz => h z (List.mem_cons_of_mem _ hz)
    have h2 := h a (List.mem_cons_self ..)
    rw [ph, List.length_cons]; omega
theorem mz_le : ∀ s : List Int, (∀ z ∈ s, 1 ≤ z ∧ z ≤ 8) → mz s ≤ 8 * s.length
  | [], _ => by simp [mz]
  | a :: s, h => by
    have h1 := mz_le s fun z hz => h z (List.mem_cons_of_mem _ hz)
    have h2 := h a (List.mem_cons_self ..)
    rw [mz, List.length_cons]; omega
theorem wfs.ph24 {s : List Int} (h : wfs s) : ph s ≤ 24 := by
  have := ph_le s h.rg
  have := h.len
  omega
theorem wfs.small {s : List Int} (h : wfs s) : 1 ≤ nb8 s ∧ nb8 s ≤ 4000000000000000 := by
  have h1 := nb8_range _ s rfl h
  have h2 := p4_max _ h.ph24
  generalize 4 ^ ph s = q at *
  omega

def owN (s : List Int) (i : Nat) : List Int := (List.range i).map fun j => nb8 (sorted (dcr s j))
theorem owN_succ (s : List Int) (i : Nat) : owN s (i + 1) = owN s i ++ [nb8 (sorted (dcr s i))] := by simp [owN, List.range_succ]
theorem evn_snoc (l : List Int) (a : Int) : evn (l ++ [a]) = (evn l && decide (a.tmod 2 = 0)) := by simp [evn]
theorem owN_rg {s : List Int} (h : wfs s) (h3 : ∀ z ∈ s, 3 ≤ z) {i : Nat} (hi : i ≤ s.length) : 0 ≤ sm (owN s i) ∧ sm (owN s i) ≤ 16000000000000000 := by
  have hz : ∀ z ∈ owN s i, 1 ≤ z ∧ z ≤ 4000000000000000 := fun z hz => by
    obtain ⟨j, hj, rfl⟩ := List.mem_map.1 hz
    rw [List.mem_range] at hj
    exact (h.step (i := j) (by omega) (h3 _ (getD_mem' (by omega)))).1.small
  have hl : (owN s i).length = i := by simp [owN]
  have h1 := sm_le _ 4000000000000000 fun z h => (hz z h).2
  have h2 := sm_ge _ 0 fun z h => by have := hz z h; omega
  rw [hl] at h1 h2
  have := h.len
  omega

theorem nb_val : ∀ (n : Nat) (s : List Int) (k : Nat) (M : List (MK × Int)), mz s = n → wfs s → n + 50 ≤ k → GN M → M.length + cB (ph s) < 4000000000000000000 →
    ∃ M', impl_neighbourBound k s M = some (nb8 s, M') ∧ GN M' ∧ M'.length + (if (rst s).length < s.length then 0 else 1) ≤ M.length + cB (ph s) := by
  intro n
  induction n using Nat.strongRecOn with
  | _ n ih =>
  intro s k M hn h hk hG hM
  obtain ⟨k, rfl⟩ : ∃ k', k = k' + 1 := ⟨k - 1, by omega⟩
  have hpl := pad_length h.len
  have hpo := pad_ok h
  have hc2 := cB_two (ph s)
  have hl4 := h.len
  have hl1 : 1 ≤ s.length := by
    cases s with
    | nil => exact absurd rfl h.ne
    | cons _ _ => simp
  have hne : s.isEmpty = false := by
    cases s with
    | nil => exact absurd rfl h.ne
    | cons _ _ => rfl
  have hsm := h.small
  have hcB := cB_max _ h.ph24
  rw [impl_neighbourBound]
  unfold impl_neighbourBound_body
  have epad : splicedL ([0, 0, 0, 0] : List Int) 0 4 s = pad s := rfl
  rw [epad, if_pos hpl, if_pos ⟨hpo, hpl⟩]
  cases hlk : lookM M (.l (pad s)) with
  | some v =>
    obtain ⟨t, ht, e1, e2⟩ := hG _ _ hlk
    have : t = s := by rw [← pad_back ht, e1, pad_back h]
    subst this
    simp only [Option.isSome_some, if_true, Option.getD_some]
    exact ⟨M, by rw [e2], hG, by split <;> omega⟩
  | none =>
    have hcl : cloneA s = some s := by unfold cloneA; rw [if_pos (by omega)]
    have hdel : delI s = some (rst s) := by unfold delI; rw [if_pos (by omega)]; rfl
    simp only [Option.isSome_none, Bool.false_eq_true, if_false]
    rw [hne, if_neg (by simp), hcl, Option.bind_some, hdel, Option.bind_some, if_pos (by omega)]
    have e := nb8_eq h
    have hgo : ∀ (X : Option (Int × List (MK × Int))) (M1 : List (MK × Int)), X = some (nb8 s, M1) → GN M1 → M1.length + 1 + (if (rst s).length < s.length then 0 else 1) ≤ M.length + cB (ph s) →
        ∃ M', (X.bind fun s34 => (if (pad s).length = 4 then (if (okK (MK.l (pad s)) = true ∧ (pad s).length = 4) ∧ okI s34.1 = true ∧ s34.2.length < 4611686018427387904 then some (s34.1, ((MK.l (pad s), s34.1) :: s34.2)) else none) else none)) = some (nb8 s, M') ∧ GN M' ∧ M'.length + (if (rst s).length < s.length then 0 else 1) ≤ M.length + cB (ph s) := by
      rintro X M1 rfl hG1 hl
      have hok : okI (nb8 s) = true := by simp [okI]; omega
      have hlt : M1.length < 4611686018427387904 := by omega
      rw [Option.bind_some, if_pos hpl, if_pos ⟨⟨hpo, hpl⟩, hok, hlt⟩]
      exact ⟨_, rfl, GN_put hG1 h, by rw [List.length_cons]; omega⟩
    unfold nbB at e
    by_cases h1 : s.getD 0 0 = 1
    · rw [if_pos h1] at e
      refine hgo _ M ?_ hG (by split <;> omega)
      rw [show (0 : Int).toNat = 0 from rfl, decide_eq_true h1, if_pos rfl, e]
    rw [if_neg h1] at e
    rw [show (0 : Int).toNat = 0 from rfl, decide_eq_false h1, if_neg (by simp)]
    by_cases h2 : (rst s).length = 0
    · rw [if_pos h2] at e
      refine hgo _ M ?_ hG (by split <;> omega)
      rw [decide_eq_true (by omega), if_pos rfl, e]
    rw [if_neg h2] at e
    rw [decide_eq_false (by omega), if_neg (by simp)]
    by_cases h3 : (rst s).length = 1
    · rw [if_pos h3] at e
      refine hgo _ M ?_ hG (by split <;> omega)
      rw [decide_eq_true (by omega), if_pos rfl, if_pos (by omega), e]
    rw [if_neg h3] at e
    rw [decide_eq_false (by omega), if_neg (by simp)]
    have hr := rst_mz s
    by_cases h4 : (rst s).length < s.length
    · rw [if_pos h4] at e
      have hrr : ¬ (rst (rst s)).length < (rst s).length := by
        have : rst (rst s) = rst s := List.filter_eq_self.2 fun z hz => (List.mem_filter.1 hz).2
        rw [this]; omega
      obtain ⟨M1, e1, hG1, hl1'⟩ := ih (mz (rst s)) (by omega) (rst s) k M rfl (h.rest h2) (by omega) hG (by rw [hr.2.1]; exact hM)
      rw [if_neg hrr, hr.2.1] at hl1'
      refine hgo _ M1 ?_ hG1 (by rw [if_pos h4]; omega)
      rw [decide_eq_true (by omega), if_pos rfl, e1, Option.bind_some, e]
    · rw [if_neg h4] at e
      rw [decide_eq_false (by omega), if_neg (by simp)]
      have h33 := h.three h1 h4
      have hl2 : 2 ≤ s.length := by omega
      have hph : 1 ≤ ph s := by
        obtain ⟨_, _, h5⟩ := h.step (i := 0) (by omega) (h33 _ (getD_mem' (by omega)))
        omega
      have hcs : cB (ph s) = 2 + 4 * cB (ph s - 1) := by
        obtain ⟨q, hq⟩ : ∃ q, ph s = q + 1 := ⟨ph s - 1, by omega⟩
        rw [hq]; rfl
      obtain ⟨res, f1, M1, hres, hG1, hM1⟩ := loopI (fun k' i (σ : Int × Bool × List (MK × Int)) => impl_neighbourBound_l0 (impl_neighbourBound k) s k' σ.1 σ.2.1 i σ.2.2) (s.length : Int) 0
        (fun i σ => ∃ im : Nat, i = im ∧ im ≤ s.length ∧ σ.1 = sm (owN s im) ∧ σ.2.1 = evn (owN s im) ∧ GN σ.2.2 ∧ σ.2.2.length ≤ M.length + im * cB (ph s - 1))
        (fun r => ∃ M1, r = (sm (owN s s.length), evn (owN s s.length), M1) ∧ GN M1 ∧ M1.length ≤ M.length + s.length * cB (ph s - 1))
        (fun k' i σ h0 hb hI => by
          obtain ⟨im, rfl, him, e1, e2, hGσ, hlσ⟩ := hI
          left
          have hi : im < s.length := by omega
          obtain ⟨w1, w2, w3⟩ := h.step hi (h33 _ (getD_mem' hi))
          have hr0 := owN_rg h h33 (i := im) (by omega)
          have hw := w1.small
          have hg3 := h.rg _ (getD_mem' hi)
          have hmul : im * cB (ph s - 1) + cB (ph s - 1) = (im + 1) * cB (ph s - 1) := by rw [Nat.succ_mul]
          have hmul2 : (im + 1) * cB (ph s - 1) ≤ 4 * cB (ph s - 1) := Nat.mul_le_mul_right _ (by omega)
          have hwi : w64 ((im : Int) + 1) = ((im : Int) + 1) := w64_id (by omega)
          obtain ⟨M1, e3, hG1, hl1'⟩ := ih (mz (sorted (dcr s im))) (by omega) (sorted (dcr s im)) k σ.2.2 rfl w1 (by omega) hGσ (by rw [show ph (sorted (dcr s im)) = ph s - 1 by omega]; omega)
          rw [show ph (sorted (dcr s im)) = ph s - 1 by omega] at hl1'
          have hdc : s.set (im : Int).toNat (w64 ((s.getD (im : Int).toNat 0) - 1)) = dcr s im := by
            rw [Int.toNat_natCast, w64_id (by omega)]; rfl
          have hso : sortI (dcr s im) = some (sorted (dcr s im)) := by
            unfold sortI; rw [if_pos (by rw [dcr_length]; omega)]
          rw [impl_neighbourBound_l0, decide_eq_true hb, if_pos rfl, hne, if_neg (by simp), hcl, Option.bind_some, if_pos (by omega), if_pos (by omega), hdc, hso, Option.bind_some, e3]
          simp only [Option.bind_some]
          rw [e1, e2, hwi, w64_id (by omega)]
          refine ⟨(sm (owN s (im + 1)), evn (owN s (im + 1)), M1), ?_, im + 1, by omega, by omega, rfl, rfl, hG1, by
            have : M1.length ≤ σ.2.2.length + cB (ph s - 1) := by omega
            simp only; omega⟩
          rw [owN_succ, sm_app, evn_snoc]
          cases evn (owN s im) <;> simp [sm])
        (fun k' i σ h0 hb hI => by
          obtain ⟨im, rfl, him, e1, e2, hGσ, hlσ⟩ := hI
          have : im = s.length := by omega
          subst this
          rw [impl_neighbourBound_l0, decide_eq_false (by omega), if_neg (by simp)]
          exact ⟨_, rfl, σ.2.2, by rw [e1, e2], hGσ, hlσ⟩)
        k 0 (0, true, M) (by omega) (by omega) ⟨0, rfl, by omega, rfl, rfl, hG, by simp⟩
      try simp only at f1
      rw [hres] at f1
      have how : owN s s.length = ow nb8 s := rfl
      have hr0 := owN_rg h h33 (i := s.length) (by omega)
      have hmul3 : s.length * cB (ph s - 1) ≤ 4 * cB (ph s - 1) := Nat.mul_le_mul_right _ hl4
      refine hgo _ M1 ?_ hG1 (by rw [if_neg h4]; omega)
      rw [f1, Option.bind_some]
      unfold tot at e
      rw [← how] at e
      have hw1 : w64 (2 - impl_size s) = 2 - s.length := by unfold impl_size; rw [w64_id (by omega)]
      simp only [letO]
      rw [hw1, w64_id (n := sm (owN s s.length) + (2 - (s.length : Int))) (by omega)]
      by_cases h5 : s.length = 2 ∧ evn (owN s s.length) = true
      · rw [if_pos h5] at e
        rw [decide_eq_true (by omega), if_pos rfl, h5.2, if_pos rfl, w64_id (by omega), e]
      · rw [if_neg h5, Int.sub_zero] at e
        have : (if decide ((s.length : Int) = 2) = true then evn (owN s s.length) else false) = false := by
          by_cases h6 : s.length = 2
          · rw [decide_eq_true (by omega), if_pos rfl]
            cases h7 : evn (owN s s.length)
            · rfl
            · exact absurd ⟨h6, h7⟩ h5
          · rw [decide_eq_false (by omega), if_neg (by simp)]
        rw [this, if_neg (by simp), e]

/-- The program's bound by neighbours. -/
theorem implNb_val {k : Nat} (hk : 5000 ≤ k) (sizes : List Int) (hl : sizes.length ≤ 1000) : impl_NeighbourBound k sizes = some (if (1 ≤ sizes.length ∧ sizes.length ≤ 4) ∧ ∀ z ∈ sizes, 1 ≤ z ∧ z ≤ 8 then (if 1000000000 < nb8 (sorted sizes) then (0, 3) else (nb8 (sorted sizes), 0)) else (0, 2)) := by
  unfold impl_NeighbourBound impl_size
  rw [in_eq, areIn_val k sizes _ 1 8 (by omega) (by omega)]
  by_cases h1 : 1 ≤ sizes.length ∧ sizes.length ≤ 4
  · rw [decide_eq_true (show 1 ≤ (sizes.length : Int) ∧ (sizes.length : Int) ≤ 4 by omega)]
    by_cases h2 : ∀ z ∈ sizes, 1 ≤ z ∧ z ≤ 8
    · have hp := srt_perm sizes
      have hw : wfs (sorted sizes) := ⟨fun e => by
        have := hp.length_eq
        rw [e] at this
        simp at this; omega, by rw [hp.length_eq]; exact h1.2, srt_pw _, fun z hz => h2 z (hp.mem_iff.1 hz)⟩
      have hmz := mz_le _ hw.rg
      have hwl := hw.len
      have hcB := cB_max _ hw.ph24
      obtain ⟨M', e1, _, _⟩ := nb_val _ (sorted sizes) k [] rfl hw (by omega) GN_nil (by simp; omega)
      have hso : sortedI sizes = some (sorted sizes) := by unfold sortedI; rw [if_pos (by omega)]
      have hcc : (1 ≤ sizes.length ∧ sizes.length ≤ 4) ∧ ∀ z ∈ sizes, 1 ≤ z ∧ z ≤ 8 := ⟨h1, h2⟩
      have hdd : (sizes.length : Int) = (sizes.length : Int) ∧ ∀ z ∈ sizes, 1 ≤ z ∧ z ≤ 8 := ⟨rfl, h2⟩
      rw [if_pos hcc, decide_eq_true hdd]
      simp only [Bool.not_true, Bool.false_eq_true, if_false, Option.bind_some]
      rw [hso, Option.bind_some, e1, Option.bind_some]
      by_cases h3 : 1000000000 < nb8 (sorted sizes)
      · rw [decide_eq_true h3, if_pos rfl, if_pos h3]
      · rw [decide_eq_false h3, if_neg (by simp), if_neg h3]
    · have hcc : ¬ ((1 ≤ sizes.length ∧ sizes.length ≤ 4) ∧ ∀ z ∈ sizes, 1 ≤ z ∧ z ≤ 8) := fun h => h2 h.2
      have hdd : ¬ ((sizes.length : Int) = (sizes.length : Int) ∧ ∀ z ∈ sizes, 1 ≤ z ∧ z ≤ 8) := fun h => h2 h.2
      rw [if_neg hcc, decide_eq_false hdd]
      rfl
  · have hcc : ¬ ((1 ≤ sizes.length ∧ sizes.length ≤ 4) ∧ ∀ z ∈ sizes, 1 ≤ z ∧ z ≤ 8) := fun h => h1 h.1
    rw [if_neg hcc, decide_eq_false (show ¬ (1 ≤ (sizes.length : Int) ∧ (sizes.length : Int) ≤ 4) by omega)]
    rfl

def okS (s : Src) : Prop := 0 ≤ s.i ∧ s.c.length ≤ 4096

theorem mask_range (a : Int) : 0 ≤ bAnd .u64 a 16777215 ∧ bAnd .u64 a 16777215 ≤ 16777215 := by
  unfold bAnd
  have e : (BitVec.ofInt IntKind.u64.bits a &&& BitVec.ofInt IntKind.u64.bits 16777215).toNat ≤ 16777215 := by
    show (BitVec.ofInt 64 a &&& BitVec.ofInt 64 16777215).toNat ≤ 16777215
    rw [BitVec.toNat_and]
    have : (BitVec.ofInt 64 16777215).toNat = 16777215 := by decide
    rw [this]
    exact Nat.and_le_right
  generalize (BitVec.ofInt IntKind.u64.bits a &&& BitVec.ofInt IntKind.u64.bits 16777215).toNat = m at e
  rw [u64_id (by omega)]
  omega

theorem next_ok (s : Src) (n : Int) (h : okS s) : ∃ v s', spec_l01Next s n = some (v, s') ∧ okS s' ∧ (1 ≤ n → 0 ≤ v ∧ v < n) ∧ (n < 1 → v = 0) := by
  unfold spec_l01Next
  obtain ⟨h0, h1⟩ := h
  by_cases hn : n < 1
  · exact ⟨0, s, by simp [hn], ⟨h0, h1⟩, fun h => by omega, fun _ => rfl⟩
  · generalize IntKind.u64.wrap ((IntKind.u64.wrap (s.h * 6364136223846793005)) + 1442695040888963407) = hh
    have hm := mask_range (bShr .u64 hh 33)
    generalize bAnd .u64 (bShr .u64 hh 33) 16777215 = v at hm
    have hn0 : n ≠ 0 := by omega
    have key : ∀ w : Int, 0 ≤ w → (1 ≤ n → 0 ≤ w.tmod n ∧ w.tmod n < n) := fun w hw hn => ⟨Int.tmod_nonneg n hw, Int.tmod_lt_of_pos w (by omega)⟩
    by_cases hi : s.i < (s.c.length : Int)
    · have hb : ((s.c.getD s.i.toNat 0).toNat : Int) < 256 := by have := (s.c.getD s.i.toNat 0).toNat_lt; omega
      refine ⟨(w64 (w64 v + ((s.c.getD s.i.toNat 0).toNat : Int))).tmod n, ⟨s.c, w64 (s.i + 1), hh⟩, ?_, ⟨?_, h1⟩, key _ ?_, fun h => by omega⟩
      · simp only [hn, decide_false, Bool.false_eq_true, if_false, hi, decide_true, if_true, h0, and_self, Option.bind_some, hn0, ne_eq, not_false_eq_true]
      · rw [w64_id (by omega)]; show 0 ≤ s.i + 1; omega
      · rw [w64_id (n := v) (by omega), w64_id (by omega)]; omega
    · refine ⟨(w64 v).tmod n, ⟨s.c, s.i, hh⟩, ?_, ⟨h0, h1⟩, key _ ?_, fun h => by omega⟩
      · simp only [hn, decide_false, Bool.false_eq_true, if_false, hi, Option.bind_some, hn0, ne_eq, not_false_eq_true, if_true]
      · rw [w64_id (by omega)]; omega

theorem pick_ok (s : Src) (l : List Int) (h : okS s) (hl : 1 ≤ l.length) : ∃ v s', spec_l01Pick s l = some (v, s') ∧ okS s' ∧ v ∈ l := by
  unfold spec_l01Pick
  obtain ⟨v, s', e, hs, hv, _⟩ := next_ok s l.length h
  obtain ⟨v0, v1⟩ := hv (by omega)
  have hlt : v.toNat < l.length := by omega
  refine ⟨l.getD v.toNat 0, s', ?_, hs, by simp [List.getD, hlt]⟩
  rw [e]
  simp [v0, v1]

theorem from_ok {k : Nat} (hk : 5000 ≤ k) (c : List UInt8) (hc : c.length ≤ 4096) : ∃ s, spec_l01From k c = some s ∧ okS s := by
  unfold spec_l01From
  have := loopI (f := fun k' i (s : Src) => spec_l01From_l0 c k' i s) (c.length : Int) 0 (fun i s => s.i = 0 ∧ s.c = c) (fun s => okS s) ?_ ?_ k 0 ⟨c, 0, IntKind.u64.wrap (13621 + (IntKind.u64.wrap (c.length : Int)))⟩ (by omega) (by omega) ⟨rfl, rfl⟩
  · obtain ⟨s, e, h⟩ := this
    exact ⟨s, by rw [e]; rfl, h⟩
  · rintro k' i s h0 h1 ⟨q1, q2⟩
    left
    refine ⟨⟨s.c, s.i, IntKind.u64.wrap ((IntKind.u64.wrap ((IntKind.u64.wrap (s.h * 1099511628211)) + ((c.getD i.toNat 0).toNat : Int))) + 193)⟩, ?_, q1, q2⟩
    show spec_l01From_l0 c (k' + 1) i s = _
    rw [spec_l01From_l0, w64_succ h0 h1 (by omega)]
    have h2 : i < 4096 := by omega
    simp only [letO, h1, h2, decide_true, if_true, Option.bind_some, h0, and_self]
  · rintro k' i s h0 h1 ⟨q1, q2⟩
    have hn : ¬ i < (c.length : Int) := by omega
    refine ⟨s, ?_, by rw [q1]; exact Int.le_refl _, by rw [q2]; exact hc⟩
    show spec_l01From_l0 c (k' + 1) i s = _
    rw [spec_l01From_l0]
    simp [letO, hn]

def isOrd (n : Nat) (l : List Int) : Prop := l.length = n ∧ l.Nodup ∧ ∀ z ∈ l, 0 ≤ z ∧ z < n

theorem order_ok {k : Nat} (hk : 5000 ≤ k) (s : Src) (n : Nat) (h : okS s) (hn : n ≤ 1000) : ∃ l s', spec_l01DrawOrder k s n = some (l, s') ∧ okS s' ∧ isOrd n l := by
  unfold spec_l01DrawOrder
  have := loopI (f := fun k' i (t : Src × List Int) => spec_l01DrawOrder_l0 n k' i t.1 t.2) (n : Int) 0 (fun i t => i ≤ n ∧ okS t.1 ∧ isOrd i.toNat t.2) (fun t => okS t.1 ∧ isOrd n t.2) ?_ ?_ k 0 (s, []) (by omega) (by omega) ⟨by omega, h, rfl, by simp, by simp⟩
  · obtain ⟨⟨s', l⟩, e, h1, h2⟩ := this
    simp only at e
    exact ⟨l, s', by rw [e]; rfl, h1, h2⟩
  · rintro k' i ⟨t, l⟩ h0 h1 ⟨_, q1, q2, q3, q4⟩
    left
    obtain ⟨m, rfl⟩ := nat_of h0
    simp only [Int.toNat_natCast] at q1 q2 q3 q4
    obtain ⟨v, t', e, ht, hv, _⟩ := next_ok t ((m : Int) + 1) q1
    obtain ⟨v0, v1⟩ := hv (by omega)
    have hperm : ((l.take v.toNat ++ [(m : Int)]) ++ l.drop v.toNat).Perm ((m : Int) :: l) := by
      rw [List.append_assoc]
      refine List.perm_middle.trans (List.Perm.cons _ ?_)
      show (l.take v.toNat ++ l.drop v.toNat).Perm l
      rw [List.take_append_drop]
    refine ⟨(t', (l.take v.toNat ++ [(m : Int)]) ++ l.drop v.toNat), ?_, by omega, ht, ?_, ?_, ?_⟩
    · show spec_l01DrawOrder_l0 n (k' + 1) m t l = _
      rw [spec_l01DrawOrder_l0, w64_succ h0 h1 (by omega), e]
      have e1 : v ≤ ((l.length : Nat) : Int) := by omega
      have e2 : ((l.drop 0).take (v.toNat - 0)) = l.take v.toNat := by simp
      have e3 : (l.drop v.toNat).take (l.length - v.toNat) = l.drop v.toNat := by rw [List.take_of_length_le (by simp)]
      have e4 : spec_l01Own (l.take v.toNat) = some (l.take v.toNat) := by
        unfold spec_l01Own
        rw [if_pos (by simp; omega)]; rfl
      simp only [h1, decide_true, if_true, Option.bind_some, v0, e1, Int.le_refl, Nat.le_refl, and_self, e2, e3, e4]
      have f1 : (l.take v.toNat).length + ([(m : Int)]).length ≤ 1099511627776 := by simp; omega
      have f2 : (l.take v.toNat ++ [(m : Int)]).length + (l.drop v.toNat).length ≤ 1099511627776 := by simp; omega
      first
        | rw [if_pos f1, if_pos f2]
        | rw [if_pos f2]
    · simp only
      rw [hperm.length_eq]
      simp only [List.length_cons, q2]; omega
    · simp only
      rw [hperm.nodup_iff, List.nodup_cons]
      exact ⟨fun hm => by have := q4 _ hm; omega, q3⟩
    · intro z hz
      simp only at hz
      rw [hperm.mem_iff, List.mem_cons] at hz
      have e1 : ((m : Int) + 1).toNat = m + 1 := by omega
      rw [e1]
      rcases hz with rfl | hz
      · omega
      · have := q4 z hz; omega
  · rintro k' i ⟨t, l⟩ h0 h1 ⟨q0, q1, q2⟩
    have : i = n := by omega
    subst this
    refine ⟨(t, l), ?_, q1, by simpa using q2⟩
    show spec_l01DrawOrder_l0 n (k' + 1) n t l = _
    rw [spec_l01DrawOrder_l0]; simp

theorem isOrd.two {n : Nat} {l : List Int} (h : isOrd n l) (hn : 2 ≤ n) : ∃ a b, l.getD 0 0 = a ∧ l.getD 1 0 = b ∧ a ≠ b ∧ (0 ≤ a ∧ a < n) ∧ (0 ≤ b ∧ b < n) := by
  obtain ⟨h1, h2, h3⟩ := h
  match l, h1 with
  | a :: b :: t, _ =>
    refine ⟨a, b, rfl, rfl, fun e => ?_, h3 a (by simp), h3 b (by simp)⟩
    rw [List.nodup_cons] at h2
    exact h2.1 (by simp [e])
  | [a], h1 => simp at h1; omega
  | [], h1 => simp at h1; omega

theorem isOrd.ne {n : Nat} {l : List Int} (h : isOrd n l) {i j : Nat} (hi : i < n) (hj : j < n) (hij : i ≠ j) : l.getD i 0 ≠ l.getD j 0 := by
  obtain ⟨h1, h2, h3⟩ := h
  have e1 : l.getD i 0 = l[i]'(by omega) := by simp [List.getD, show i < l.length by omega]
  have e2 : l.getD j 0 = l[j]'(by omega) := by simp [List.getD, show j < l.length by omega]
  rw [e1, e2]
  exact fun e => hij ((List.getElem_inj h2).1 e)

theorem isOrd.get {n : Nat} {l : List Int} (h : isOrd n l) {i : Nat} (hi : i < n) : 0 ≤ l.getD i 0 ∧ l.getD i 0 < n := by
  obtain ⟨h1, h2, h3⟩ := h
  have e1 : l.getD i 0 = l[i]'(by omega) := by simp [List.getD, show i < l.length by omega]
  rw [e1]
  exact h3 _ (List.getElem_mem _)

theorem edge_ok {a b : Int} (ha : 0 ≤ a ∧ a < 17) (hb : 0 ≤ b ∧ b < 17) (h : a ≠ b) : 0 ≤ spec_l01Edge a b ∧ spec_l01Edge a b < 136 := by
  rw [edge_eq a b ha hb]
  have := eN_136 (i := a.toNat) (j := b.toNat) (by omega) (by omega) (by omega)
  omega

theorem half_ok (n : Int) (h : 1 ≤ n ∧ n ≤ 17) : 0 ≤ w64 ((w64 (n * (w64 (n - 1)))).tdiv 2) ∧ w64 ((w64 (n * (w64 (n - 1)))).tdiv 2) ≤ 136 := by
  have key : ∀ m : Nat, m ≤ 17 → 1 ≤ m → 0 ≤ w64 ((w64 ((m : Int) * (w64 ((m : Int) - 1)))).tdiv 2) ∧ w64 ((w64 ((m : Int) * (w64 ((m : Int) - 1)))).tdiv 2) ≤ 136 := by decide +kernel
  obtain ⟨m, rfl⟩ := nat_of (show 0 ≤ n by omega)
  exact key m (by omega) (by omega)

theorem drawOf_ok {k : Nat} (hk : 5000 ≤ k) (s : Src) (n c : Int) (h : okS s) (hn : 1 ≤ n ∧ n ≤ 17) : ∃ x s', spec_l01DrawOf k s n c = some (x, s') ∧ okS s' ∧ x.p = n ∧ x.k = c := by
  unfold spec_l01DrawOf
  obtain ⟨v, s1, e, hs, _⟩ := next_ok s c h
  rw [e]
  simp only [Option.bind_some]
  have hE := half_ok n hn
  have := loopI (f := fun k' i (t : Src × Col) => spec_l01DrawOf_l0 n c (v, s1) k' i t.1 t.2) (w64 ((w64 (n * (w64 (n - 1)))).tdiv 2)) 0 (fun i t => okS t.1 ∧ t.2.p = n ∧ t.2.k = c) (fun t => okS t.1 ∧ t.2.p = n ∧ t.2.k = c) ?_ ?_ k 0 (s1, ⟨n, c, B136.zero⟩) (by omega) (by omega) ⟨hs, rfl, rfl⟩
  · obtain ⟨⟨s', x⟩, e, h1, h2, h3⟩ := this
    simp only at e
    exact ⟨x, s', by rw [e]; rfl, h1, h2, h3⟩
  · rintro k' i ⟨t, x⟩ h0 h1 ⟨q1, q2, q3⟩
    left
    obtain ⟨a, t1, e1, ht1, _⟩ := next_ok t c q1
    obtain ⟨b, t2, e2, ht2, _⟩ := next_ok t1 5 ht1
    have hi : i < 136 := by omega
    by_cases hb : b = 0
    · refine ⟨(t2, x.set i.toNat (toByte v)), ?_, ht2, q2, q3⟩
      show spec_l01DrawOf_l0 n c (v, s1) (k' + 1) i t x = _
      rw [spec_l01DrawOf_l0, w64_succ h0 h1 (by omega), e1]
      simp only [Option.bind_some, e2, h1, decide_true, if_true, hb, h0, hi, and_self]
    · refine ⟨(t2, x.set i.toNat (toByte a)), ?_, ht2, q2, q3⟩
      show spec_l01DrawOf_l0 n c (v, s1) (k' + 1) i t x = _
      rw [spec_l01DrawOf_l0, w64_succ h0 h1 (by omega), e1]
      simp only [Option.bind_some, e2, h1, decide_true, if_true, hb, decide_false, Bool.false_eq_true, if_false, h0, hi, and_self]
  · rintro k' i ⟨t, x⟩ h0 h1 q
    refine ⟨(t, x), ?_, q⟩
    show spec_l01DrawOf_l0 n c (v, s1) (k' + 1) i t x = _
    rw [spec_l01DrawOf_l0]
    have : ¬ i < w64 ((w64 (n * (w64 (n - 1)))).tdiv 2) := by omega
    simp [this]

theorem circle_ok {k : Nat} (hk : 5000 ≤ k) (n : Int) (hn : 1 ≤ n ∧ n ≤ 17) (l : List Int) (hl : l.length ≤ 100) : ∃ x, spec_l01Circle k n l = some x ∧ x.p = n ∧ x.k = 2 := by
  unfold spec_l01Circle
  have := loopI (f := fun k' j (y : Col) => spec_l01Circle_l0 k n l k' j y) n 1 (fun j y => y.p = n ∧ y.k = 2) (fun y => y.p = n ∧ y.k = 2) ?_ ?_ k 1 ⟨n, 2, B136.zero⟩ (by omega) (by omega) ⟨rfl, rfl⟩
  · obtain ⟨y, e, h⟩ := this
    exact ⟨y, by rw [e]; rfl, h⟩
  · rintro k' j y h0 h1 ⟨q1, q2⟩
    left
    have := loopI (f := fun k' i (y : Col) => spec_l01Circle_l1 k l j k' i y) j 0 (fun i y => y.p = n ∧ y.k = 2) (fun y => y.p = n ∧ y.k = 2) ?_ ?_ k 0 y (by omega) (by omega) ⟨q1, q2⟩
    · obtain ⟨y', e, h⟩ := this
      refine ⟨y', ?_, h⟩
      show spec_l01Circle_l0 k n l (k' + 1) j y = _
      rw [spec_l01Circle_l0, w64_succ (by omega) h1 (by omega), e]
      simp [h1]
    · rintro k'' i z g0 g1 ⟨p1, p2⟩
      left
      have := loopI (f := fun k' t (b : UInt8) => spec_l01Circle_l2 l j i k' b t) (l.length : Int) 0 (fun _ _ => True) (fun _ => True) ?_ ?_ k 0 (1 : UInt8) (by omega) (by omega) trivial
      · obtain ⟨b, e, _⟩ := this
        have he := edge_ok (a := i) (b := j) (by omega) (by omega) (by omega)
        refine ⟨z.set (spec_l01Edge i j).toNat b, ?_, p1, p2⟩
        show spec_l01Circle_l1 k l j (k'' + 1) i z = _
        rw [spec_l01Circle_l1, w64_succ g0 g1 (by omega), e]
        simp only [g1, decide_true, if_true, Option.bind_some, he.1, he.2, and_self]
      · intro k3 t b t0 t1 _
        left
        by_cases hc : l.getD t.toNat 0 = w64 (j - i)
        · refine ⟨0, ?_, trivial⟩
          show spec_l01Circle_l2 l j i (k3 + 1) b t = _
          rw [spec_l01Circle_l2, w64_succ t0 t1 (by omega)]
          simp only [t1, t0, decide_true, if_true, and_self, hc, Option.bind_some]
        · refine ⟨b, ?_, trivial⟩
          show spec_l01Circle_l2 l j i (k3 + 1) b t = _
          rw [spec_l01Circle_l2, w64_succ t0 t1 (by omega)]
          simp only [t1, t0, decide_true, if_true, and_self, hc, decide_false, Bool.false_eq_true, if_false, Option.bind_some]
      · intro k3 t b t0 t1 _
        refine ⟨b, ?_, trivial⟩
        show spec_l01Circle_l2 l j i (k3 + 1) b t = _
        rw [spec_l01Circle_l2]
        have : ¬ t < (l.length : Int) := by omega
        simp [this]
    · rintro k'' i z g0 g1 q
      refine ⟨z, ?_, q⟩
      show spec_l01Circle_l1 k l j (k'' + 1) i z = _
      rw [spec_l01Circle_l1]
      have : ¬ i < j := by omega
      simp [this]
  · rintro k' j y h0 h1 q
    refine ⟨y, ?_, q⟩
    show spec_l01Circle_l0 k n l (k' + 1) j y = _
    rw [spec_l01Circle_l0]
    have : ¬ j < n := by omega
    simp [this]

theorem xor_ok (i j : Nat) (hi : i < 16) (hj : j < 16) : 0 ≤ bXor .i64 (i : Int) (j : Int) ∧ bXor .i64 (i : Int) (j : Int) < 16 := by
  rw [bXor_nat (by omega) (by omega)]
  have := Nat.xor_lt_two_pow (x := i) (y := j) (n := 4) hi hj
  omega

theorem sixteen_ok {k : Nat} (hk : 5000 ≤ k) : ∃ x, spec_l01Named_l0 k k 1 (⟨16, 3, B136.zero⟩ : Col) = some x ∧ x.p = 16 := by
  have := loopI (f := fun k' j (y : Col) => spec_l01Named_l0 k k' j y) 16 1 (fun j y => y.p = 16) (fun y => y.p = 16) ?_ ?_ k 1 ⟨16, 3, B136.zero⟩ (by omega) (by omega) rfl
  · exact this
  · intro k' j y h0 h1 q
    left
    have := loopI (f := fun k' i (y : Col) => spec_l01Named_l1 j k' i y) j 0 (fun i y => y.p = 16) (fun y => y.p = 16) ?_ ?_ k 0 y (by omega) (by omega) q
    · obtain ⟨y', e, h⟩ := this
      refine ⟨y', ?_, h⟩
      show spec_l01Named_l0 k (k' + 1) j y = _
      rw [spec_l01Named_l0, w64_succ (by omega) h1 (by omega), e]
      simp [h1]
    · intro k'' i z g0 g1 p
      left
      have he := edge_ok (a := i) (b := j) (by omega) (by omega) (by omega)
      have hx := xor_ok i.toNat j.toNat (by omega) (by omega)
      rw [Int.toNat_of_nonneg g0, Int.toNat_of_nonneg (show 0 ≤ j by omega)] at hx
      refine ⟨z.set (spec_l01Edge i j).toNat (([0, 0, 1, 1, 2, 2, 2, 1, 0, 2, 0, 1, 0, 1, 2, 0] : List UInt8).getD (bXor .i64 i j).toNat 0), ?_, p⟩
      show spec_l01Named_l1 j (k'' + 1) i z = _
      rw [spec_l01Named_l1, w64_succ g0 g1 (by omega)]
      rw [if_pos (by simpa using g1), if_pos ⟨hx.1, by simpa using hx.2⟩, if_pos he]
    · intro k'' i z g0 g1 q
      refine ⟨z, ?_, q⟩
      show spec_l01Named_l1 j (k'' + 1) i z = _
      rw [spec_l01Named_l1]
      have : ¬ i < j := by omega
      simp [this]
  · intro k' j y h0 h1 q
    refine ⟨y, ?_, q⟩
    show spec_l01Named_l0 k (k' + 1) j y = _
    rw [spec_l01Named_l0]
    have : ¬ j < 16 := by omega
    simp [this]

theorem named5_ok {k : Nat} (hk : 5000 ≤ k) : ∃ x, spec_l01Named k (⟨#[112, 101, 110, 116, 97, 103, 111, 110]⟩ : ByteArray) = some (x, true) ∧ x.p = 5 := by
  obtain ⟨x, e, hx, _⟩ := circle_ok hk 5 (by omega) [1, 4] (by simp)
  refine ⟨x, ?_, hx⟩
  unfold spec_l01Named
  rw [if_pos (by decide), e]
  rfl

theorem named_ok {k : Nat} (hk : 5000 ≤ k) (j : Nat) (hj : j < 5) : ∃ x, spec_l01Named k (spec_l01Names.getD j ByteArray.empty) = some (x, true) ∧ 5 ≤ x.p ∧ x.p ≤ 17 := by
  have hc : j = 0 ∨ j = 1 ∨ j = 2 ∨ j = 3 ∨ j = 4 := by omega
  unfold spec_l01Named
  rcases hc with rfl | rfl | rfl | rfl | rfl
  · obtain ⟨x, e, hx, _⟩ := circle_ok hk 5 (by omega) [1, 4] (by simp)
    refine ⟨x, ?_, by omega, by omega⟩
    rw [if_pos (by decide), e]; rfl
  · obtain ⟨x, e, hx, _⟩ := circle_ok hk 8 (by omega) [1, 4, 7] (by simp)
    refine ⟨x, ?_, by omega, by omega⟩
    rw [if_neg (by decide), if_pos (by decide), e]; rfl
  · obtain ⟨x, e, hx, _⟩ := circle_ok hk 13 (by omega) [1, 5, 8, 12] (by simp)
    refine ⟨x, ?_, by omega, by omega⟩
    rw [if_neg (by decide), if_neg (by decide), if_pos (by decide), e]; rfl
  · obtain ⟨x, e, hx, _⟩ := circle_ok hk 17 (by omega) [1, 2, 4, 8, 9, 13, 15, 16] (by simp)
    refine ⟨x, ?_, by omega, by omega⟩
    rw [if_neg (by decide), if_neg (by decide), if_neg (by decide), if_pos (by decide), e]; rfl
  · obtain ⟨x, e, hx⟩ := sixteen_ok hk
    refine ⟨x, ?_, by omega, by omega⟩
    rw [if_neg (by decide), if_neg (by decide), if_neg (by decide), if_neg (by decide), if_pos (by decide), e]; rfl

theorem renamed_ok {k : Nat} (hk : 5000 ≤ k) (x : Col) (l : List Int) (hp : 1 ≤ x.p ∧ x.p ≤ 17) (hl : isOrd x.p.toNat l) : ∃ y, spec_l01Renamed k x l = some y ∧ y.p = x.p ∧ y.k = x.k := by
  unfold spec_l01Renamed
  have hll := hl.1
  have := loopI (f := fun k' j (y : Col) => spec_l01Renamed_l0 k x l k' j y) x.p 1 (fun j y => y.p = x.p ∧ y.k = x.k) (fun y => y.p = x.p ∧ y.k = x.k) ?_ ?_ k 1 ⟨x.p, x.k, B136.zero⟩ (by omega) (by omega) ⟨rfl, rfl⟩
  · obtain ⟨y, e, h⟩ := this
    exact ⟨y, by rw [e]; rfl, h⟩
  · rintro k' j y h0 h1 ⟨q1, q2⟩
    left
    have := loopI (f := fun k' i (y : Col) => spec_l01Renamed_l1 x l j k' i y) j 0 (fun i y => y.p = x.p ∧ y.k = x.k) (fun y => y.p = x.p ∧ y.k = x.k) ?_ ?_ k 0 y (by omega) (by omega) ⟨q1, q2⟩
    · obtain ⟨y', e, h⟩ := this
      refine ⟨y', ?_, h⟩
      show spec_l01Renamed_l0 k x l (k' + 1) j y = _
      rw [spec_l01Renamed_l0, w64_succ (by omega) h1 (by omega), e]
      simp [h1]
    · rintro k'' i z g0 g1 ⟨p1, p2⟩
      left
      have hne := hl.ne (i := i.toNat) (j := j.toNat) (by omega) (by omega) (by omega)
      have hi := hl.get (i := i.toNat) (by omega)
      have hj := hl.get (i := j.toNat) (by omega)
      have he := edge_ok (a := l.getD i.toNat 0) (b := l.getD j.toNat 0) (by omega) (by omega) hne
      refine ⟨z.set (spec_l01Edge (l.getD i.toNat 0) (l.getD j.toNat 0)).toNat (toByte (x.cc i j)), ?_, p1, p2⟩
      show spec_l01Renamed_l1 x l j (k'' + 1) i z = _
      rw [spec_l01Renamed_l1, w64_succ g0 g1 (by omega), specAt_eq x i j g0 g1 (by omega) (by omega)]
      have a1 : i < (l.length : Int) := by omega
      have a2 : j < (l.length : Int) := by omega
      have a3 : 0 ≤ j := by omega
      simp only [g1, decide_true, if_true, g0, a1, a2, a3, and_self, Option.bind_some, he.1, he.2]
    · rintro k'' i z g0 g1 q
      refine ⟨z, ?_, q⟩
      show spec_l01Renamed_l1 x l j (k'' + 1) i z = _
      rw [spec_l01Renamed_l1]
      have : ¬ i < j := by omega
      simp [this]
  · rintro k' j y h0 h1 q
    refine ⟨y, ?_, q⟩
    show spec_l01Renamed_l0 k x l (k' + 1) j y = _
    rw [spec_l01Renamed_l0]
    have : ¬ j < x.p := by omega
    simp [this]

theorem with_ok (x : Col) (a b c : Int) (ha : 0 ≤ a ∧ a < 17) (hb : 0 ≤ b ∧ b < 17) (h : a ≠ b) : ∃ y, spec_l01With x a b c = some y ∧ y.p = x.p ∧ y.k = x.k := by
  unfold spec_l01With
  rw [if_pos (edge_ok ha hb h)]
  exact ⟨_, rfl, rfl, rfl⟩

theorem few_ok {k : Nat} (hk : 5000 ≤ k) (s : Src) (x : Col) (h : okS s) (hp : 5 ≤ x.p ∧ x.p ≤ 17) : ∀ (m : Nat) (k' : Nat), m < k' → m ≤ 10 → ∀ (s : Src) (x : Col), okS s → 5 ≤ x.p ∧ x.p ≤ 17 → ∃ s' y, spec_l01Draw_l0 k k' m s x = some (s', y) ∧ okS s' ∧ 5 ≤ y.p ∧ y.p ≤ 17 := by
  intro m
  induction m with
  | zero =>
    intro k' hk' _ s x h hp
    obtain ⟨k', rfl⟩ : ∃ q, k' = q + 1 := ⟨k' - 1, by omega⟩
    exact ⟨s, x, by rw [spec_l01Draw_l0]; simp, h, hp⟩
  | succ m ih =>
    intro k' hk' hm s x h hp
    obtain ⟨k', rfl⟩ : ∃ q, k' = q + 1 := ⟨k' - 1, by omega⟩
    obtain ⟨n, hn⟩ := nat_of (show 0 ≤ x.p by omega)
    obtain ⟨l, s1, e1, hs1, hl⟩ := order_ok hk s n h (by omega)
    obtain ⟨a, b, ea, eb, hab, ha, hb⟩ := hl.two (by omega)
    obtain ⟨v, s2, e2, hs2, _⟩ := next_ok s1 x.k hs1
    obtain ⟨y, e3, hy, _⟩ := with_ok x a b v (by omega) (by omega) hab
    obtain ⟨s', z, e4, h4⟩ := ih k' (by omega) (by omega) s2 y hs2 (by omega)
    refine ⟨s', z, ?_, h4⟩
    have hpos : (0 : Int) < ((m + 1 : Nat) : Int) := by omega
    have hl1 := hl.1
    have c0 : (0 : Int) < (l.length : Int) := by omega
    have c1 : (1 : Int) < (l.length : Int) := by omega
    rw [spec_l01Draw_l0, hn, e1]
    have g0 : l.getD (0 : Int).toNat 0 = a := ea
    have g1 : l.getD (1 : Int).toNat 0 = b := eb
    have ew : w64 (((m + 1 : Nat) : Int) - 1) = (m : Int) := by rw [w64_id (by omega)]; omega
    simp only [hpos, decide_true, if_true, Option.bind_some, c0, c1, g0, g1, e2, e3, ew, e4, Int.le_refl, and_self, show (0 : Int) ≤ 1 by omega]

theorem small_ok {k : Nat} (hk : 5000 ≤ k) (s : Src) (h : okS s) : ∃ x s', spec_l01Small k s = some (x, s') ∧ okS s' := by
  unfold spec_l01Small
  obtain ⟨v, s1, e1, hs1, _⟩ := next_ok s 5 h
  rw [e1]
  simp only [Option.bind_some]
  by_cases hv : v = 0
  · obtain ⟨x, e2', hx5⟩ := named5_ok hk
    obtain ⟨l, s2, e3, hs2, hl⟩ := order_ok hk s1 5 hs1 (by omega)
    obtain ⟨y, e4, _⟩ := renamed_ok hk x l (by omega) (by rw [hx5]; exact hl)
    refine ⟨y, s2, ?_, hs2⟩
    have e3' : spec_l01DrawOrder k s1 5 = some (l, s2) := e3
    simp only [hv, decide_true, if_true, e2', e3', e4, Option.bind_some]
  · obtain ⟨a, s2, e2, hs2, ha, _⟩ := next_ok s1 6 hs1
    obtain ⟨b, s3, e3, hs3, _⟩ := pick_ok s2 [1, 2, 2, 2, 3, 4] hs2 (by simp)
    have := ha (by omega)
    obtain ⟨x, s4, e4, hs4, _⟩ := drawOf_ok hk s3 (w64 (1 + a)) b hs3 (by rw [w64_id (by omega)]; omega)
    exact ⟨x, s4, by simp only [hv, decide_false, Bool.false_eq_true, if_false, e2, e3, e4, Option.bind_some], hs4⟩

theorem draw_ok {k : Nat} (hk : 5000 ≤ k) (s : Src) (h : okS s) : ∃ x s', spec_l01Draw k s = some (x, s') ∧ okS s' := by
  unfold spec_l01Draw
  obtain ⟨v, s1, e1, hs1, _⟩ := next_ok s 4 h
  rw [e1]
  simp only [Option.bind_some]
  by_cases h0 : v = 0
  · have hlen : (spec_l01Names.length : Int) = 5 := rfl
    obtain ⟨a, s2, e2, hs2, ha, _⟩ := next_ok s1 5 hs1
    have ha' := ha (by omega)
    obtain ⟨x, e3, hx⟩ := named_ok hk a.toNat (by omega)
    obtain ⟨n, hn⟩ := nat_of (show 0 ≤ x.p by omega)
    obtain ⟨l, s3, e4, hs3, hl⟩ := order_ok hk s2 n hs2 (by omega)
    obtain ⟨y, e5, hy, _⟩ := renamed_ok hk x l (by omega) (by rw [hn]; exact hl)
    obtain ⟨b, s4, e6, hs4, _⟩ := next_ok s3 2 hs3
    by_cases hb : b = 0
    · obtain ⟨m, s5, e7, hs5, hm, _⟩ := next_ok s4 3 hs4
      have hm' := hm (by omega)
      obtain ⟨q, hq⟩ := nat_of hm'.1
      obtain ⟨s6, z, e8, hs6, _⟩ := few_ok hk s5 y hs5 (by omega) q k (by omega) (by omega) s5 y hs5 (by omega)
      exact ⟨z, s6, by simp only [h0, hb, hn, hq, decide_true, if_true, hlen, e2, ha'.1, ha'.2, and_self, e3, e4, e5, e6, e7, e8, Option.bind_some], hs6⟩
    · exact ⟨y, s4, by simp only [h0, hb, hn, decide_true, if_true, decide_false, Bool.false_eq_true, if_false, hlen, e2, ha'.1, ha'.2, and_self, e3, e4, e5, e6, Option.bind_some], hs4⟩
  · by_cases h1 : v = 1
    · obtain ⟨a, s2, e2, hs2, ha, _⟩ := next_ok s1 17 hs1
      have ha' := ha (by omega)
      obtain ⟨b, s3, e3, hs3, _⟩ := pick_ok s2 [2, 2, 3, 4] hs2 (by simp)
      obtain ⟨x, s4, e4, hs4, _⟩ := drawOf_ok hk s3 (w64 (1 + a)) b hs3 (by rw [w64_id (by omega)]; omega)
      refine ⟨x, s4, ?_, hs4⟩
      have h10 : ¬ ((1 : Int) = 0) := by omega
      simp only [h1, h10, decide_true, if_true, decide_false, Bool.false_eq_true, if_false, e2, e3, e4, Option.bind_some]
    · obtain ⟨x, s2, e2, hs2⟩ := small_ok hk s1 hs1
      exact ⟨x, s2, by simp only [h0, h1, decide_false, Bool.false_eq_true, if_false, e2, Option.bind_some], hs2⟩

theorem bad_ok (s : Src) (x : Col) (h : okS s) : ∃ y s', spec_l01Bad s x = some (y, s') ∧ okS s' := by
  unfold spec_l01Bad
  obtain ⟨v, s1, e1, hs1, _⟩ := next_ok s 50 h
  rw [e1]
  simp only [Option.bind_some]
  by_cases h0 : v = 0
  · obtain ⟨a, s2, e2, hs2, _⟩ := pick_ok s1 [0, 18, -1, w64 (x.p - 1)] hs1 (by simp)
    exact ⟨⟨a, x.k, x.e⟩, s2, by simp only [h0, decide_true, if_true, e2, Option.bind_some], hs2⟩
  · by_cases h1 : v = 1
    · obtain ⟨a, s2, e2, hs2, _⟩ := pick_ok s1 [0, 5, -1] hs1 (by simp)
      have h10 : ¬ ((1 : Int) = 0) := by omega
      exact ⟨⟨x.p, a, x.e⟩, s2, by simp only [h1, h10, decide_true, if_true, decide_false, Bool.false_eq_true, if_false, e2, Option.bind_some], hs2⟩
    · by_cases h2 : v = 2
      · obtain ⟨a, s2, e2, hs2, ha, _⟩ := next_ok s1 136 hs1
        have ha' := ha (by omega)
        obtain ⟨b, s3, e3, hs3, _⟩ := pick_ok s2 [1, 4, 200] hs2 (by simp)
        have h20 : ¬ ((2 : Int) = 0) := by omega
        have h21 : ¬ ((2 : Int) = 1) := by omega
        exact ⟨x.set a.toNat (toByte b), s3, by simp only [h2, h20, h21, decide_true, if_true, decide_false, Bool.false_eq_true, if_false, e2, e3, ha'.1, ha'.2, and_self, Option.bind_some], hs3⟩
      · exact ⟨x, s1, by simp only [h0, h1, h2, decide_false, Bool.false_eq_true, if_false, Option.bind_some], hs1⟩

theorem spoil_ok {k : Nat} (hk : 5000 ≤ k) (s : Src) (h : okS s) : ∃ x s', spec_l01Spoil k s = some (x, s') ∧ okS s' := by
  unfold spec_l01Spoil
  obtain ⟨x, s1, e1, hs1⟩ := draw_ok hk s h
  obtain ⟨y, s2, e2, hs2⟩ := bad_ok s1 x hs1
  exact ⟨y, s2, by rw [e1]; simp only [Option.bind_some, e2], hs2⟩

end Go.Proofs.YtghhnpdhehjlaaaGreat
