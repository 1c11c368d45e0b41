/- Plain laws, collected out of own texts. No conditions beyond those that each lemma states. -/
import Derived.Test.YtldgmcghdohmeaaPKit
import Derived.Test.YtldgmcghdohmeaaPBits
import Derived.Test.YtldgmcghdohmeaaMk
import Derived.Test.YtldgmcghdohmeaaClqB
import Derived.Test.YtldgmcghdohmeaaExts
import Derived.Test.YtldgmcghdohmeaaGen41
set_option linter.unusedVariables false
set_option linter.unusedSimpArgs false
namespace Go.Proofs.Ytldgmcghdohmeaa
open Go Go.RowKit Ab

theorem in_eq (a b c : Int) : impl_in a b c = decide (b ≤ a ∧ a ≤ c) := by
  unfold impl_in letO
  by_cases h : b ≤ a <;> by_cases h' : a ≤ c <;> simp [h, h']

theorem specIn_eq (a b c : Int) : spec_l01In a b c = decide (b ≤ a ∧ a ≤ c) := by
  unfold spec_l01In letO
  by_cases h : b ≤ a <;> by_cases h' : a ≤ c <;> simp [h, h']

def tE (x : Col) : Int := w64 ((w64 (x.p * (w64 (x.p - 1)))).tdiv 2)

def okE (x : Col) (j : Int) : Prop := (j < tE x → ((x.get j.toNat).toNat : Int) < x.k) ∧ (tE x ≤ j → ((x.get j.toNat).toNat : Int) = 0)

/-- Numbers in range, colours in range on the edges, zero behind them. -/
def Col.is (x : Col) : Prop := (1 ≤ x.p ∧ x.p ≤ 17) ∧ (1 ≤ x.k ∧ x.k ≤ 4) ∧ ∀ j, 0 ≤ j → j < 136 → okE x j

open Classical in
theorem specIs_eq (k : Nat) (h : 137 ≤ k) (x : Col) : spec_l01Is k x = some (decide x.is) := by
  unfold spec_l01Is
  rw [specIn_eq, specIn_eq]
  by_cases hp : 1 ≤ x.p ∧ x.p ≤ 17
  · by_cases hk : 1 ≤ x.k ∧ x.k ≤ 4
    · have := loopAll (f := fun k' i => spec_l01Is_l0 k x k' i) 136 false (okE x) 0
        (fun k' i h0 h1 hq => by
          show spec_l01Is_l0 k x (k' + 1) i = _
          rw [spec_l01Is_l0, w64_succ h0 h1 (by omega)]
          obtain ⟨q1, q2⟩ := hq
          change (i < tE x → _) at q1
          by_cases hc : i < tE x
          · have e1 := q1 hc
            have e2 : ¬ tE x ≤ i := by omega
            have e3 : ¬ x.k ≤ ((x.get i.toNat).toNat : Int) := by omega
            unfold tE at hc e2
            simp [h0, h1, hc, e2, e3]
          · have e1 := q2 (by omega)
            have e2 : tE x ≤ i := by omega
            unfold tE at hc e2
            simp [h0, h1, hc, e2, e1])
        (fun k' i h0 h1 hq => by
          show spec_l01Is_l0 k x (k' + 1) i = _
          rw [spec_l01Is_l0]
          by_cases hc : i < tE x
          · have e2 : ¬ tE x ≤ i := by omega
            have e3 : x.k ≤ ((x.get i.toNat).toNat : Int) := by
              apply Int.not_lt.1
              intro e; exact hq ⟨fun _ => e, fun h => (e2 h).elim⟩
            unfold tE at hc e2
            simp [h0, h1, hc, e2, e3]
          · have e2 : tE x ≤ i := by omega
            have e3 : ¬ ((x.get i.toNat).toNat : Int) = 0 := by
              intro e; exact hq ⟨fun h => (hc h).elim, fun _ => e⟩
            unfold tE at hc e2
            have e5 : ¬ (x.get i.toNat).toNat = 0 := by omega
            simp [h0, h1, hc, e2, e5])
        (fun k' i h1 => by
          show spec_l01Is_l0 k x (k' + 1) i = _
          rw [spec_l01Is_l0]
          have : ¬ i < 136 := by omega
          simp [this]) k 0 (by omega) (by omega)
      simp only [hp, hk, decide_true, Bool.not_true, Bool.false_eq_true, if_false, letO, and_self]
      rw [this]
      by_cases ha : ∀ j, 0 ≤ j → j < 136 → okE x j
      · have : x.is := ⟨hp, hk, ha⟩
        rw [if_pos ha]; simp [this]
      · have : ¬ x.is := fun h => ha h.2.2
        simp only [if_neg ha, this]
        simp
    · have : ¬ x.is := fun h => hk h.2.1
      simp [hp, hk, letO, this]
  · have : ¬ x.is := fun h => hp h.1
    simp [hp, letO, this]

open Classical in
theorem isColouring_eq (k : Nat) (h : 137 ≤ k) (x : Col) : impl_Colouring_isColouring k x = some (decide x.is) := by
  unfold impl_Colouring_isColouring
  rw [in_eq, in_eq]
  by_cases hp : 1 ≤ x.p ∧ x.p ≤ 17
  · by_cases hk : 1 ≤ x.k ∧ x.k ≤ 4
    · have := loopAll (f := fun k' i => impl_Colouring_isColouring_l0 k x k' i) 136 false (okE x) 0
        (fun k' i h0 h1 hq => by
          show impl_Colouring_isColouring_l0 k x (k' + 1) i = _
          rw [impl_Colouring_isColouring_l0, w64_succ h0 h1 (by omega)]
          obtain ⟨q1, q2⟩ := hq
          change (i < tE x → ((x.e.get i.toNat).toNat : Int) < x.k) at q1
          change (tE x ≤ i → ((x.e.get i.toNat).toNat : Int) = 0) at q2
          change (if _ then _ else _) = _
          have hE : impl_Colouring_edges x = tE x := rfl
          by_cases hc : i < tE x
          · have e1 := q1 hc
            have e2 : ¬ tE x ≤ i := by omega
            have e3 : ¬ x.k ≤ ((x.e.get i.toNat).toNat : Int) := by omega
            simp [h0, h1, hc, e2, e3, hE, letO]
          · have e1 := q2 (by omega)
            have e2 : tE x ≤ i := by omega
            have e3 : ¬ x.k ≤ ((x.e.get i.toNat).toNat : Int) := by omega
            rw [e1] at e3
            simp [h0, h1, hc, e2, e1, e3, hE, letO])
        (fun k' i h0 h1 hq => by
          show impl_Colouring_isColouring_l0 k x (k' + 1) i = _
          rw [impl_Colouring_isColouring_l0]
          have hE : impl_Colouring_edges x = tE x := rfl
          by_cases e3 : x.k ≤ ((x.e.get i.toNat).toNat : Int)
          · simp [h0, h1, e3, letO]
          · have e2 : tE x ≤ i := by
              apply Int.not_lt.1
              intro hc; exact hq ⟨fun _ => by change ((x.e.get i.toNat).toNat : Int) < x.k; omega, fun h => by omega⟩
            have e4 : ¬ ((x.e.get i.toNat).toNat : Int) = 0 := by
              intro e; exact hq ⟨fun h => by omega, fun _ => e⟩
            have e5 : ¬ (x.e.get i.toNat).toNat = 0 := by omega
            simp [h0, h1, e2, e3, e5, hE, letO])
        (fun k' i h1 => by
          show impl_Colouring_isColouring_l0 k x (k' + 1) i = _
          rw [impl_Colouring_isColouring_l0]
          have : ¬ i < 136 := by omega
          simp [this]) k 0 (by omega) (by omega)
      simp only [hp, hk, decide_true, Bool.not_true, Bool.false_eq_true, if_false, letO, and_self]
      rw [this]
      by_cases ha : ∀ j, 0 ≤ j → j < 136 → okE x j
      · have : x.is := ⟨hp, hk, ha⟩
        rw [if_pos ha]; simp [this]
      · have : ¬ x.is := fun h => ha h.2.2
        simp only [if_neg ha, this]
        simp
    · have : ¬ x.is := fun h => hk h.2.1
      simp [hp, hk, letO, this]
  · have : ¬ x.is := fun h => hp h.1
    simp [hp, letO, this]

theorem number_eq (i j : Int) (hi : 0 ≤ i ∧ i < 17) (hj : 0 ≤ j ∧ j < 17) : impl_number i j = (eN i.toNat j.toNat : Int) := by
  have : ∀ i, i < 17 → ∀ j, j < 17 → impl_number (i : Nat) (j : Nat) = (eN i j : Int) := by decide +kernel
  have h := this i.toNat (by omega) j.toNat (by omega)
  rwa [Int.toNat_of_nonneg hi.1, Int.toNat_of_nonneg hj.1] at h

theorem edge_eq (i j : Int) (hi : 0 ≤ i ∧ i < 17) (hj : 0 ≤ j ∧ j < 17) : spec_l01Edge i j = (eN i.toNat j.toNat : Int) := by
  have : ∀ i, i < 17 → ∀ j, j < 17 → spec_l01Edge (i : Nat) (j : Nat) = (eN i j : Int) := by decide +kernel
  have h := this i.toNat (by omega) j.toNat (by omega)
  rwa [Int.toNat_of_nonneg hi.1, Int.toNat_of_nonneg hj.1] at h

def Col.cc (x : Col) (i j : Int) : Int := ((x.e.get (eN i.toNat j.toNat)).toNat : Int)

theorem getD_app' {α : Type} (l m : List α) (d : α) (i : Nat) (h : l.length ≤ i) : (l ++ m).getD i d = m.getD (i - l.length) d := by
  simp only [List.getD]; rw [List.getElem?_append_right h]

theorem cc_comm (x : Col) (i j : Int) : x.cc i j = x.cc j i := by unfold Col.cc; rw [eN_comm]

theorem implAt_ne (x : Col) (i j : Int) (h0 : 0 ≤ i) (h1 : i < 17) (hj : 0 ≤ j) (hj' : j < 17) (h : i ≠ j) : impl_Colouring_at x i j = some (x.cc i j) := by
  unfold impl_Colouring_at
  rw [number_eq i j (by omega) (by omega)]
  have := eN_136 (i := i.toNat) (j := j.toNat) (by omega) (by omega) (by omega)
  rw [if_pos (by omega)]
  rfl

theorem specAt_ne (x : Col) (i j : Int) (h0 : 0 ≤ i) (h1 : i < 17) (hj : 0 ≤ j) (hj' : j < 17) (h : i ≠ j) : spec_l01At x i j = some (x.cc i j) := by
  unfold spec_l01At
  rw [edge_eq i j ⟨h0, h1⟩ ⟨hj, hj'⟩]
  have := eN_136 (i := i.toNat) (j := j.toNat) (by omega) (by omega) (by omega)
  rw [if_pos ⟨by omega, by omega⟩]
  rfl

def bitsN (P : Nat → Bool) : Nat → Nat
  | 0 => 0
  | n + 1 => if P n then bitsN P n ||| 2 ^ n else bitsN P n

theorem bitsN_test (P : Nat → Bool) (n j : Nat) : (bitsN P n).testBit j = (decide (j < n) && P j) := by
  induction n with
  | zero => simp [bitsN]
  | succ n ih =>
    unfold bitsN
    by_cases h : P n
    · rw [if_pos h, add_bit, ih]
      by_cases e : n = j
      · subst e; simp [h]
      · have : decide (j < n + 1) = decide (j < n) := by simp; omega
        simp [e, this]
    · rw [if_neg h, ih]
      by_cases e : n = j
      · subst e; simp [h]
      · have : decide (j < n + 1) = decide (j < n) := by simp; omega
        rw [this]

theorem bitsN_lt (P : Nat → Bool) (n : Nat) : bitsN P n < 2 ^ n := bits_lt fun i h => by
  rw [bitsN_test]
  have : ¬ i < n := by omega
  simp [this]

theorem lt17 {s n : Nat} (h : s < 2 ^ n) (hn : n ≤ 17) : s < 2 ^ 17 := Nat.lt_of_lt_of_le h (Nat.pow_le_pow_right (by omega) hn)

theorem lt63 {s : Nat} (h : s < 2 ^ 17) : s < 2 ^ 63 := Nat.lt_of_lt_of_le h (by decide)

theorem mem_getD {l : List Int} {x : Int} : x ∈ l ↔ ∃ a, a < l.length ∧ l.getD a 0 = x := by
  constructor
  · intro h
    obtain ⟨a, ha, e⟩ := List.getElem_of_mem h
    exact ⟨a, ha, by simp [List.getD, ha, e]⟩
  · rintro ⟨a, ha, rfl⟩
    simp [List.getD, ha]

theorem toByteA136_eq (k : Nat) (h : 137 ≤ k) (x : B136) : laws_toByteA136 k x = some x := by
  unfold laws_toByteA136
  obtain ⟨s', e, hs⟩ := loopFold (f := fun k i s => laws_toByteA136_l0 x k i s) 136 (fun i s => s.set i.toNat (x.get i.toNat)) (fun s => s) 0
    (fun k i s h0 h1 => by
      show laws_toByteA136_l0 x (k + 1) i s = _
      rw [laws_toByteA136_l0, w64_succ h0 h1 (by omega)]
      simp [h0, h1])
    (fun k i s h => by
      show laws_toByteA136_l0 x (k + 1) i s = _
      rw [laws_toByteA136_l0]
      have : ¬ i < 136 := by omega
      simp [this])
    (fun i s => ∀ j : Nat, (j : Int) < i → s.get j = x.get j)
    (fun i s h0 h1 hs j hj => by
      rw [B136.get_set _ _ _ _ (by omega)]
      split
      · next h => rw [h]
      · next h => exact hs j (by omega)) k 0 B136.zero (by omega) (by omega) (by omega) (fun j hj => by omega)
  rw [e]
  have : s' = x := B136.ext_get (fun i hi => hs i (by omega))
  rw [this]; rfl

theorem toColouring_eq (k : Nat) (h : 137 ≤ k) (x : Col) : laws_toColouring k x = some x := by
  unfold laws_toColouring
  rw [toByteA136_eq k h]; rfl

theorem toInt64S_eq (k : Nat) (l : List Int) (h : l.length + 1 ≤ k) (hl : (l.length : Int) ≤ 1099511627776) : laws_toInt64S k l = some l := by
  unfold laws_toInt64S
  rw [if_pos ⟨by omega, by omega, hl⟩]
  have := loopI (f := fun k i s => laws_toInt64S_l0 l k i s) (l.length : Int) 0 (fun i (s : List Int) => s.length = l.length ∧ ∀ j : Nat, (j : Int) < i → s.getD j 0 = l.getD j 0) (fun y => y = l) ?_ ?_ k 0 (List.replicate (l.length : Int).toNat 0) (by omega) (by omega) ⟨by simp, fun j hj => by omega⟩
  · obtain ⟨r, e, rfl⟩ := this
    rw [e]; rfl
  · intro k i s h0 h1 ⟨q1, q2⟩
    left
    refine ⟨s.set i.toNat (l.getD i.toNat 0), ?_, by simp [q1], ?_⟩
    · show laws_toInt64S_l0 l (k + 1) i s = _
      rw [laws_toInt64S_l0, w64_succ h0 h1 (by omega)]
      have : i < (s.length : Int) := by omega
      simp [h0, h1, this]
    · intro j hj
      by_cases e : i.toNat = j
      · subst e
        simp [List.getD, List.getElem?_set, show i.toNat < s.length by omega]
      · have := q2 j (by omega)
        simp only [List.getD] at this ⊢
        rw [List.getElem?_set_ne e, this]
  · intro k i s h0 h1 ⟨q1, q2⟩
    refine ⟨s, ?_, ?_⟩
    · show laws_toInt64S_l0 l (k + 1) i s = _
      rw [laws_toInt64S_l0]
      have : ¬ i < (l.length : Int) := by omega
      simp [this]
    · refine List.ext_getElem q1 fun j hj hj' => ?_
      have := q2 j (by omega)
      simpa [List.getD, hj, hj'] using this

theorem eqInts_refl (k : Nat) (x : List Int) (h : x.length + 1 ≤ k) (hx : (x.length : Int) ≤ 1099511627776) : laws_eqInt64S k x x = some true := by
  unfold laws_eqInt64S
  have := loopAll (f := fun k' i => laws_eqInt64S_l0 x x k' i) (x.length : Int) false (fun _ => True) 0
    (fun k' i h0 h1 _ => by
      show laws_eqInt64S_l0 x x (k' + 1) i = _
      rw [laws_eqInt64S_l0, w64_succ h0 h1 (by omega)]
      simp [h0, h1])
    (fun k' i h0 h1 hq => (hq trivial).elim)
    (fun k' i h1 => by
      show laws_eqInt64S_l0 x x (k' + 1) i = _
      rw [laws_eqInt64S_l0]
      have : ¬ i < (x.length : Int) := by omega
      simp [this]) k 0 (by omega) (by omega)
  rw [this]; simp

/-- 1, 2, 3, .. -/
def marked (n : Nat) : List Int := (List.range n).map fun i : Nat => 1 + (i : Int)

theorem marked_length (n : Nat) : (marked n).length = n := by simp [marked]

theorem marked_get (n i : Nat) (h : i < n) : (marked n).getD i 0 = 1 + i := by simp [marked, List.getD, h]

theorem mark_eq (k : Nat) (l : List Int) (hk : l.length + 1 ≤ k) (hl : (l.length : Int) ≤ 1099511627776) : laws_markInt64S k l 1 = some ((1 : Int) + l.length, marked l.length) := by
  unfold laws_markInt64S
  have := loopI (f := fun k i (s : Int × List Int) => laws_markInt64S_l0 k s.1 i s.2) (l.length : Int) 0 (fun i s => s.2.length = l.length ∧ s.1 = 1 + i ∧ i ≤ l.length ∧ ∀ j : Nat, (j : Int) < i → s.2.getD j 0 = 1 + j)
    (fun r => r = (1 + (l.length : Int), marked l.length)) ?_ ?_ k 0 (1, l) (by omega) (by omega) ⟨rfl, rfl, by omega, fun j h => by omega⟩
  · obtain ⟨r, e, rfl⟩ := this
    rw [e]; rfl
  · intro k i s h0 h1 ⟨q1, q2, _, q4⟩
    left
    refine ⟨(1 + i + 1, s.2.set i.toNat s.1), ?_, by simp [q1], by simp; omega, by omega, ?_⟩
    · show laws_markInt64S_l0 (k + 1) s.1 i s.2 = _
      rw [laws_markInt64S_l0, q1, w64_succ h0 h1 (by omega), q2, w64_id (by omega)]
      simp [h0, h1]
    · intro j hj
      by_cases e : i.toNat = j
      · subst e
        simp only [List.getD, List.getElem?_set_self (show i.toNat < s.2.length by omega), Option.getD_some, q2]
        omega
      · have := q4 j (by omega)
        simp only [List.getD] at this ⊢
        rw [List.getElem?_set_ne e, this]
  · intro k i s h0 h1 ⟨q1, q2, q3, q4⟩
    have hi : i = l.length := by omega
    have e2 : s.2 = marked l.length := by
      refine List.ext_getElem (by rw [q1, marked_length]) fun j hj hj' => ?_
      have h1 := q4 j (by omega)
      have h2 := marked_get l.length j (by omega)
      simp only [List.getD, List.getElem?_eq_getElem hj, Option.getD_some] at h1
      simp only [List.getD, List.getElem?_eq_getElem hj', Option.getD_some] at h2
      rw [h1, h2]
    refine ⟨_, ?_, rfl⟩
    show laws_markInt64S_l0 (k + 1) s.1 i s.2 = _
    rw [laws_markInt64S_l0, q1, e2, q2, hi]
    have : ¬ (l.length : Int) < (l.length : Int) := by omega
    simp only [this, decide_false, Bool.false_eq_true, if_false]

/-! ### Walks that stop -/
def runL {α σ : Type} (cb : α → σ → Option (Bool × σ)) : List α → σ → Option (Bool × σ)
  | [], s => some (true, s)
  | a :: t, s => (cb a s).bind fun r => if r.1 then runL cb t r.2 else some (false, r.2)
theorem runL_app {α σ : Type} (cb : α → σ → Option (Bool × σ)) (b : List α) : ∀ (a : List α) (s : σ), runL cb (a ++ b) s = (runL cb a s).bind fun r => if r.1 then runL cb b r.2 else some (false, r.2)
  | [], s => by simp [runL]
  | x :: a, s => by
    rw [List.cons_append, runL, runL]
    cases h : cb x s with
    | none => rfl
    | some r =>
      simp only [Option.bind_some]
      by_cases hr : r.1 = true
      · rw [if_pos hr, if_pos hr]; exact runL_app cb b a r.2
      · rw [if_neg hr, if_neg hr]; simp

/-! ### Points joined with all of a list -/
def aB (x : Col) (c a b : Int) : Bool := decide (a ≠ b ∧ x.cc a b = c)
theorem aB_comm (x : Col) (c a b : Int) : aB x c a b = aB x c b a := by
  unfold aB
  rw [cc_comm x a b]
  by_cases h : a = b
  · subst h; rfl
  · have : ¬ b = a := fun e => h e.symm
    simp [h, this]
def goesB (x : Col) (c : Int) (l : List Int) (q : Int) : Bool := l.all fun i => aB x c i q
def inR (l : List Int) : Prop := ∀ z ∈ l, 0 ≤ z ∧ z < 17

theorem goes_val (k : Nat) (x : Col) (c : Int) (l : List Int) (q : Int) (hk : l.length + 1 ≤ k) (hl : (l.length : Int) ≤ 1099511627776) (hr : inR l) (hq : 0 ≤ q ∧ q < 17) : impl_Colouring_goesWith k x c l q = some (goesB x c l q) := by
  unfold impl_Colouring_goesWith slices_ContainsFunc slices_IndexFunc
  have hget : ∀ i : Nat, i < l.length → l.getD i 0 ∈ l := fun i hi => by
    have e : l.getD i 0 = l[i] := by simp [List.getD, hi]
    rw [e]; exact List.getElem_mem hi
  have hj : ∀ i : Nat, i < l.length → impl_Colouring_goesWith_c1 (l.getD i 0) x q c = some (!decide (l.getD i 0 ≠ q ∧ x.cc (l.getD i 0) q = c)) := by
    intro i hi
    have hz := hr _ (hget i hi)
    generalize l.getD i 0 = v at hz
    unfold impl_Colouring_goesWith_c1 impl_Colouring_joins
    by_cases e : v = q
    · subst e; simp
    · rw [implAt_ne x v q hz.1 hz.2 hq.1 hq.2 e]
      simp [e]
  have := loopI (f := fun k' i (_ : Unit) => slices_IndexFunc_l0 l (fun a0 => impl_Colouring_goesWith_c1 a0 x q c) k' i) (l.length : Int) 0
    (fun i _ => i ≤ l.length ∧ ∀ a : Nat, (a : Int) < i → (l.getD a 0 ≠ q ∧ x.cc (l.getD a 0) q = c)) (fun r => (goesB x c l q = true ∧ r = .inl ()) ∨ (goesB x c l q = false ∧ ∃ i : Int, 0 ≤ i ∧ r = .inr i)) ?_ ?_ k 0 () (by omega) (by omega) ⟨by omega, fun a h => by omega⟩
  · obtain ⟨r, e, h⟩ := this
    rw [e]
    rcases h with ⟨h, rfl⟩ | ⟨h, i, hi, rfl⟩
    · simp [h]
    · simp [h, hi]
  · intro k' i _ h0 h1 ⟨_, q2⟩
    obtain ⟨m, rfl⟩ := nat_of h0
    have hm : m < l.length := by omega
    by_cases hc : l.getD m 0 ≠ q ∧ x.cc (l.getD m 0) q = c
    · left
      refine ⟨(), ?_, by omega, fun a ha => ?_⟩
      · show slices_IndexFunc_l0 l _ (k' + 1) m = _
        rw [slices_IndexFunc_l0, w64_succ h0 h1 (by omega)]
        have := hj m hm
        rw [decide_eq_true hc] at this
        simp only [Int.toNat_natCast, h1, h0, decide_true, if_true, and_self, this, Option.bind_some, Bool.not_true, Bool.false_eq_true, if_false]
      · by_cases e : a = m
        · subst e; exact hc
        · exact q2 a (by omega)
    · right
      refine ⟨.inr m, ?_, .inr ⟨?_, m, h0, rfl⟩⟩
      · show slices_IndexFunc_l0 l _ (k' + 1) m = _
        rw [slices_IndexFunc_l0]
        have := hj m hm
        rw [decide_eq_false hc] at this
        simp only [Int.toNat_natCast, h1, h0, decide_true, if_true, and_self, this, Option.bind_some, Bool.not_false]
      · unfold goesB
        rw [List.all_eq_false]
        exact ⟨_, hget m hm, by unfold aB; simpa using hc⟩
  · intro k' i _ h0 h1 ⟨q1, q2⟩
    refine ⟨.inl (), ?_, .inl ⟨?_, rfl⟩⟩
    · show slices_IndexFunc_l0 l _ (k' + 1) i = _
      rw [slices_IndexFunc_l0]
      have : ¬ i < (l.length : Int) := by omega
      simp [this]
    · unfold goesB
      rw [List.all_eq_true]
      intro z hz
      obtain ⟨a, ha, rfl⟩ := List.getElem_of_mem hz
      have := q2 a (by omega)
      have e : l.getD a 0 = l[a] := by simp [List.getD, ha]
      rw [e] at this
      exact decide_eq_true this

/-! ### Points with which a clique goes on -/
def fromL (l : List Int) : Int := if 0 < l.length then l.getD (l.length - 1) 0 + 1 else 0
theorem fromL_snoc (l : List Int) (q : Int) : fromL (l ++ [q]) = q + 1 := by
  unfold fromL
  rw [if_pos (by simp)]
  have : (l ++ [q]).length - 1 = l.length := by simp
  rw [this, getD_app' _ _ _ _ (Nat.le_refl _)]
  simp
/-- The points with which a clique goes on. -/
def fr (x : Col) (c : Int) (l : List Int) : List Int := (ir (fromL l).toNat x.p.toNat).filter fun q => goesB x c l q
theorem goesB_snoc (x : Col) (c : Int) (l : List Int) (q z : Int) : goesB x c (l ++ [q]) z = (goesB x c l z && aB x c q z) := by
  unfold goesB; simp
theorem fr_snoc (x : Col) (c : Int) (l : List Int) (q : Nat) : fr x c (l ++ [(q : Int)]) = ((ir (q + 1) x.p.toNat).filter fun z => goesB x c l z).filter (aB x c q) := by
  unfold fr
  rw [fromL_snoc, show ((q : Int) + 1).toNat = q + 1 by omega, List.filter_filter]
  apply List.filter_congr
  intro z _
  rw [goesB_snoc, Bool.and_comm]
theorem fr_nil (x : Col) (c : Int) : fr x c [] = ir 0 x.p.toNat := by
  exact List.filter_eq_self.2 fun a _ => rfl

/-! ### A walk over all cliques, as the program does it -/
theorem clq_run {σ : Type} (x : Col) (hp : 1 ≤ x.p ∧ x.p ≤ 17) (c : Int) (cb : List Int → σ → Option (Bool × σ)) (F : Nat → List Int → σ → Option (Bool × σ)) (L : Nat → List Int → Nat → Int → σ → Option (Sum σ (Bool × σ)))
    (hF : ∀ k l s, l.length ≤ 100 → F (k + 1) l s = (cb l s).bind fun r => if !r.1 then some (false, r.2) else
      ((if decide (0 < (l.length : Int)) then (if 0 ≤ w64 ((l.length : Int) - 1) ∧ w64 ((l.length : Int) - 1) < (l.length : Int) then some (w64 ((l.getD (w64 ((l.length : Int) - 1)).toNat 0) + 1)) else none) else some 0) : Option (Int)).bind fun f => (L k l k f r.2).bind fun os => (match os with | .inl s => some (true, s) | .inr rr => some rr))
    (hL : ∀ k l k0 q s, l.length ≤ 100 → L k l (k0 + 1) q s = (if q < x.p then ((impl_Colouring_goesWith k x c l q).bind fun g => if g then (F k (l ++ [q]) s).bind fun r => if r.1 then L k l k0 (w64 (q + 1)) r.2 else some (.inr (false, r.2)) else L k l k0 (w64 (q + 1)) s) else some (.inl s))) :
    ∀ (d k : Nat) (l : List Int) (s : σ), inR l → l.length + d ≤ 100 → 0 ≤ fromL l → fromL l ≤ x.p → x.p - fromL l < d → d + 100 ≤ k → F k l s = runL cb (([] :: ac (aB x c) (fr x c l)).map (l ++ ·)) s := by
  intro d
  induction d with
  | zero => intro k l s _ _ _ h1 h2; omega
  | succ d ih =>
    intro k l s hr hlen h0 h1 h2 hk
    obtain ⟨k, rfl⟩ : ∃ q, k = q + 1 := ⟨k - 1, by omega⟩
    rw [hF k l s (by omega), List.map_cons, List.append_nil, runL]
    cases hcb : cb l s with
    | none => rfl
    | some r =>
      simp only [Option.bind_some]
      by_cases hr1 : r.1 = true
      · rw [hr1]
        simp only [Bool.not_true, Bool.false_eq_true, if_false, if_true]
        have hfrom : ((if decide (0 < (l.length : Int)) then (if 0 ≤ w64 ((l.length : Int) - 1) ∧ w64 ((l.length : Int) - 1) < (l.length : Int) then some (w64 ((l.getD (w64 ((l.length : Int) - 1)).toNat 0) + 1)) else none) else some 0) : Option (Int)) = some (fromL l) := by
          unfold fromL
          by_cases hp0 : 0 < l.length
          · have e : ((l.length : Int) - 1).toNat = l.length - 1 := by omega
            have hz : 0 ≤ l.getD (l.length - 1) 0 ∧ l.getD (l.length - 1) 0 < 17 := by
              have e2 : l.getD (l.length - 1) 0 = l[l.length - 1] := by simp [List.getD, show l.length - 1 < l.length by omega]
              rw [e2]; exact hr _ (List.getElem_mem _)
            rw [w64_id (n := (l.length : Int) - 1) (by omega), e, if_pos (by simpa using hp0), if_pos (by omega), w64_id (by omega), if_pos hp0]
          · have : ¬ 0 < (l.length : Int) := by omega
            simp [hp0, this]
        rw [hfrom]
        simp only [Option.bind_some]
        have loop : ∀ (k0 : Nat) (q : Nat) (s : σ), (x.p - q).toNat < k0 → fromL l ≤ q → (q : Int) ≤ x.p → L k l k0 q s = (runL cb ((ac (aB x c) ((ir q x.p.toNat).filter fun z => goesB x c l z)).map (l ++ ·)) s).bind fun r => if r.1 then some (.inl r.2) else some (.inr (false, r.2)) := by
          intro k0
          induction k0 with
          | zero => intro q s h; omega
          | succ k0 ihq =>
            intro q s g0 g1 g2
            rw [hL k l k0 q s (by omega)]
            by_cases hq : (q : Int) < x.p
            · rw [if_pos hq, ir_next (by omega), List.filter_cons, goes_val k x c l q (by omega) (by omega) hr (by omega)]
              simp only [Option.bind_some]
              have hnext : ∀ s, L k l k0 (w64 ((q : Int) + 1)) s = (runL cb ((ac (aB x c) ((ir (q + 1) x.p.toNat).filter fun z => goesB x c l z)).map (l ++ ·)) s).bind fun r => if r.1 then some (.inl r.2) else some (.inr (false, r.2)) := fun s => by
                rw [w64_id (by omega)]
                exact ihq (q + 1) s (by omega) (by omega) (by omega)
              by_cases hg : goesB x c l (q : Int) = true
              · have hrec := ih k (l ++ [(q : Int)]) s (fun z hz => by
                  rcases List.mem_append.1 hz with hz | hz
                  · exact hr z hz
                  · simp at hz; omega) (by simp; omega) (by rw [fromL_snoc]; omega) (by rw [fromL_snoc]; omega) (by rw [fromL_snoc]; omega) (by omega)
                rw [hg]
                simp only [if_true]
                rw [hrec, ac_cons, List.map_append, runL_app, List.map_map, fr_snoc]
                have hfun : ((fun x => l ++ x) ∘ fun x => (q : Int) :: x) = fun x => (l ++ [(q : Int)]) ++ x := by
                  funext z; simp
                rw [hfun]
                cases hrun : runL cb (([] :: ac (aB x c) (List.filter (aB x c q) (List.filter (fun z => goesB x c l z) (ir (q + 1) x.p.toNat)))).map fun x => (l ++ [(q : Int)]) ++ x) s with
                | none => rfl
                | some r =>
                  simp only [Option.bind_some]
                  by_cases hr2 : r.1 = true
                  · rw [hr2]
                    simp only [if_true]
                    exact hnext r.2
                  · have hr3 : r.1 = false := by simpa using hr2
                    rw [hr3]
                    simp
              · rw [if_neg hg, if_neg hg]
                exact hnext s
            · rw [ir_end (by omega), if_neg hq]
              simp [ac_nil, runL]
        obtain ⟨f, hf⟩ := nat_of h0
        rw [hf, loop k f r.2 (by omega) (by omega) (by omega)]
        have e : fr x c l = (ir f x.p.toNat).filter fun z => goesB x c l z := by
          unfold fr
          rw [hf]; rfl
        rw [e]
        cases hrun : runL cb ((ac (aB x c) ((ir f x.p.toNat).filter fun z => goesB x c l z)).map (l ++ ·)) r.2 with
        | none => rfl
        | some z =>
          simp only [Option.bind_some]
          by_cases hz : z.1 = true
          · rw [if_pos hz]
            simp only [Option.bind_some]
            rw [← hz]
          · have hz' : z.1 = false := by simpa using hz
            rw [if_neg hz]
            simp only [Option.bind_some]
            rw [← hz']
      · have hr3 : r.1 = false := by simpa using hr1
        rw [hr3]
        simp

/-- All points, and all cliques of a colour. -/
def pts (x : Col) : List Int := ir 0 x.p.toNat
def acl (x : Col) (c : Int) : List (List Int) := [] :: ac (aB x c) (pts x)

theorem clq_all {σ : Type} (x : Col) (hp : 1 ≤ x.p ∧ x.p ≤ 17) (c : Int) (cb : List Int → σ → Option (Bool × σ)) (F : Nat → List Int → σ → Option (Bool × σ)) (L : Nat → List Int → Nat → Int → σ → Option (Sum σ (Bool × σ)))
    (hF : ∀ k l s, l.length ≤ 100 → F (k + 1) l s = (cb l s).bind fun r => if !r.1 then some (false, r.2) else
      ((if decide (0 < (l.length : Int)) then (if 0 ≤ w64 ((l.length : Int) - 1) ∧ w64 ((l.length : Int) - 1) < (l.length : Int) then some (w64 ((l.getD (w64 ((l.length : Int) - 1)).toNat 0) + 1)) else none) else some 0) : Option (Int)).bind fun f => (L k l k f r.2).bind fun os => (match os with | .inl s => some (true, s) | .inr rr => some rr))
    (hL : ∀ k l k0 q s, l.length ≤ 100 → L k l (k0 + 1) q s = (if q < x.p then ((impl_Colouring_goesWith k x c l q).bind fun g => if g then (F k (l ++ [q]) s).bind fun r => if r.1 then L k l k0 (w64 (q + 1)) r.2 else some (.inr (false, r.2)) else L k l k0 (w64 (q + 1)) s) else some (.inl s)))
    (k : Nat) (hk : 120 ≤ k) (s : σ) : F k [] s = runL cb (acl x c) s := by
  rw [clq_run x hp c cb F L hF hL 20 k [] s (fun z hz => by simp at hz) (by simp) (by simp [fromL]) (by simp [fromL]; omega) (by simp [fromL]; omega) (by omega), fr_nil]
  have : (([] :: ac (aB x c) (ir 0 x.p.toNat)).map fun z => ([] : List Int) ++ z) = [] :: ac (aB x c) (ir 0 x.p.toNat) := by
    conv => rhs; rw [← List.map_id ([] :: ac (aB x c) (ir 0 x.p.toNat))]
    rfl
  rw [this]; rfl

/-! ### The first list of some length -/
theorem run_firstOf (m : Int) : ∀ (Ls : List (List Int)) (out : List Int), runL (fun l s => some (impl_Colouring_firstOf_c1 l m s)) Ls out = some (match Ls.find? (fun l => !decide ((l.length : Int) < m)) with | some l => (false, l) | none => (true, out))
  | [], out => rfl
  | a :: t, out => by
    rw [runL, List.find?_cons]
    simp only [Option.bind_some]
    unfold impl_Colouring_firstOf_c1 impl_size
    by_cases h : (a.length : Int) < m
    · simp only [h, decide_true, Bool.not_true, if_true]
      exact run_firstOf m t out
    · simp only [h, decide_false, Bool.not_false, if_false, Bool.false_eq_true]

theorem firstOf_eq {k : Nat} (hk : 2000000 ≤ k) (x : Col) (hp : 1 ≤ x.p ∧ x.p ≤ 17) (c m : Int) : impl_Colouring_firstOf k x c m = some (match (acl x c).find? (fun l => !decide ((l.length : Int) < m)) with | some l => (l, true) | none => ([], false)) := by
  unfold impl_Colouring_firstOf
  have := clq_all x hp c (fun l s => some (impl_Colouring_firstOf_c1 l m s)) (fun k l s => impl_Colouring_cliques_on_firstOf_c1 k x c l m s) (fun k l k0 q s => impl_Colouring_cliques_on_firstOf_c1_l0 k (impl_Colouring_cliques_on_firstOf_c1 k) x c l m k0 q s)
    (fun k l s _ => by
      show impl_Colouring_cliques_on_firstOf_c1 (k + 1) x c l m s = _
      rw [impl_Colouring_cliques_on_firstOf_c1, impl_Colouring_cliques_on_firstOf_c1_body]
      simp only [Option.bind_some]
      congr 1; congr 1; funext f; congr 1; funext os; cases os <;> rfl) (fun k l k0 q s hl => by
      rw [impl_Colouring_cliques_on_firstOf_c1_l0]
      by_cases hq : q < x.p
      · simp only [hq, decide_true, if_true]
        cases impl_Colouring_goesWith k x c l q with
        | none => rfl
        | some g =>
          cases g with
          | false => simp
          | true =>
            have hl1 : l.length ≤ 1099511627776 := by omega
            have hl2 : l.length + 1 ≤ 1099511627776 := by omega
            cases l with
            | nil => 
              simp only [Option.bind_some, if_true, List.isEmpty_nil, List.length_cons, List.length_nil, List.nil_append]
              cases impl_Colouring_cliques_on_firstOf_c1 k x c [q] m s with
              | none => rfl
              | some r => cases h : r.1 <;> simp [h]
            | cons a t =>
              simp only [Option.bind_some, if_true, List.isEmpty_cons, Bool.false_eq_true, if_false, cloneA, hl1, List.length_singleton, hl2]
              cases impl_Colouring_cliques_on_firstOf_c1 k x c ((a :: t) ++ [q]) m s with
              | none => rfl
              | some r => cases h : r.1 <;> simp [h]
      · simp [hq]) k (by omega) []
  rw [show impl_Colouring_cliques_on_firstOf_c1 k x c [] m [] = _ from this, run_firstOf]
  cases (acl x c).find? (fun l => !decide ((l.length : Int) < m)) <;> rfl

/-- The first clique that has so many points is the first one of so many. -/
theorem find_cl (x : Col) (c : Int) (m : Nat) : (acl x c).find? (fun l => !decide ((l.length : Int) < (m : Int))) = (cl (aB x c) m (pts x)).head? := by
  have key : ∀ (vs : List Int) (m : Nat), ([] :: ac (aB x c) vs).find? (fun l => !decide (l.length < m)) = ([] :: ac (aB x c) vs).find? (fun l => decide (l.length = m)) := by
    intro vs
    induction vs using len_ind with
    | _ vs ih =>
      intro m
      cases m with
      | zero => simp
      | succ m =>
        rw [List.find?_cons_of_neg (by simp), List.find?_cons_of_neg (by simp)]
        cases vs with
        | nil => rw [ac_nil]; rfl
        | cons v t =>
          have h1 := ih _ (flt_lt (aB x c) v t) m
          have h2 := ih t (by simp) (m + 1)
          rw [List.find?_cons_of_neg (by simp), List.find?_cons_of_neg (by simp)] at h2
          rw [ac_cons, List.find?_append, List.find?_append, List.find?_map, List.find?_map]
          have e1 : (fun l : List Int => !decide (l.length < m + 1)) ∘ (fun z => v :: z) = fun l => !decide (l.length < m) := by funext z; simp
          have e2 : (fun l : List Int => decide (l.length = m + 1)) ∘ (fun z => v :: z) = fun l => decide (l.length = m) := by funext z; simp
          rw [e1, e2, h1, h2]
  have e : (fun l : List Int => !decide ((l.length : Int) < (m : Int))) = fun l => !decide (l.length < m) := by
    funext l
    by_cases h : l.length < m
    · have : (l.length : Int) < m := by omega
      simp [h, this]
    · have : ¬ (l.length : Int) < m := by omega
      simp [h, this]
  unfold acl
  rw [e, key, ← List.head?_filter, ac_filter]

theorem firstOf_cl {k : Nat} (hk : 2000000 ≤ k) (x : Col) (hp : 1 ≤ x.p ∧ x.p ≤ 17) (c : Int) (m : Nat) : impl_Colouring_firstOf k x c m = some (match (cl (aB x c) m (pts x)).head? with | some l => (l, true) | none => ([], false)) := by
  rw [firstOf_eq hk x hp c m, find_cl]

theorem anyF_val (k : Nat) (l : List Int) (f : Int → Option Bool) (S : Int → Bool) (hf : ∀ z ∈ l, f z = some (S z)) (hk : l.length + 1 ≤ k) (hl : (l.length : Int) ≤ 1099511627776) : slices_ContainsFunc k l f = some (l.any S) := by
  unfold slices_ContainsFunc slices_IndexFunc
  have hget : ∀ i : Nat, i < l.length → l.getD i 0 ∈ l := fun i hi => by
    have e : l.getD i 0 = l[i] := by simp [List.getD, hi]
    rw [e]; exact List.getElem_mem hi
  have := loopI (f := fun k' i (_ : Unit) => slices_IndexFunc_l0 l f k' i) (l.length : Int) 0
    (fun i _ => i ≤ l.length ∧ ∀ a : Nat, (a : Int) < i → S (l.getD a 0) = false) (fun r => (l.any S = false ∧ r = .inl ()) ∨ (l.any S = true ∧ ∃ i : Int, 0 ≤ i ∧ r = .inr i)) ?_ ?_ k 0 () (by omega) (by omega) ⟨by omega, fun a h => by omega⟩
  · obtain ⟨r, e, h⟩ := this
    rw [e]
    rcases h with ⟨h, rfl⟩ | ⟨h, i, hi, rfl⟩
    · simp [h]
    · simp [h, hi]
  · intro k' i _ h0 h1 ⟨_, q2⟩
    obtain ⟨m, rfl⟩ := nat_of h0
    have hm : m < l.length := by omega
    have hj := hf _ (hget m hm)
    cases hc : S (l.getD m 0) with
    | false =>
      left
      rw [hc] at hj
      refine ⟨(), ?_, by omega, fun a ha => ?_⟩
      · show slices_IndexFunc_l0 l _ (k' + 1) m = _
        rw [slices_IndexFunc_l0, w64_succ h0 h1 (by omega)]
        simp only [Int.toNat_natCast, h1, h0, decide_true, if_true, and_self, hj, Option.bind_some, Bool.false_eq_true, if_false]
      · by_cases e : a = m
        · subst e; exact hc
        · exact q2 a (by omega)
    | true =>
      right
      rw [hc] at hj
      refine ⟨.inr m, ?_, .inr ⟨?_, m, h0, rfl⟩⟩
      · show slices_IndexFunc_l0 l _ (k' + 1) m = _
        rw [slices_IndexFunc_l0]
        simp only [Int.toNat_natCast, h1, h0, decide_true, if_true, and_self, hj, Option.bind_some]
      · rw [List.any_eq_true]
        exact ⟨_, hget m hm, hc⟩
  · intro k' i _ h0 h1 ⟨q1, q2⟩
    refine ⟨.inl (), ?_, .inl ⟨?_, rfl⟩⟩
    · show slices_IndexFunc_l0 l _ (k' + 1) i = _
      rw [slices_IndexFunc_l0]
      have : ¬ i < (l.length : Int) := by omega
      simp [this]
    · rw [List.any_eq_false]
      intro z hz
      obtain ⟨a, ha, rfl⟩ := List.getElem_of_mem hz
      have := q2 a (by omega)
      have e : l.getD a 0 = l[a] := by simp [List.getD, ha]
      rw [e] at this
      simp [this]

theorem areIn_val (k : Nat) (l : List Int) (many lo hi : Int) (hk : l.length + 1 ≤ k) (hl : (l.length : Int) ≤ 1099511627776) : impl_areIn k l many lo hi = some (decide ((l.length : Int) = many ∧ ∀ z ∈ l, lo ≤ z ∧ z ≤ hi)) := by
  unfold impl_areIn impl_size
  by_cases h : (l.length : Int) = many
  · rw [decide_eq_true h, if_pos rfl, anyF_val k l (fun a0 => some (impl_areIn_c1 a0 lo hi)) (fun z => !decide (lo ≤ z ∧ z ≤ hi)) (fun z _ => by unfold impl_areIn_c1; rw [in_eq]) hk hl]
    simp only [Option.bind_some]
    congr 1
    rw [Bool.eq_iff_iff, decide_eq_true_iff, Bool.not_eq_true', List.any_eq_false]
    constructor
    · intro q
      exact ⟨h, fun z hz => by simpa using q z hz⟩
    · rintro ⟨_, q⟩ z hz
      simpa using q z hz
  · rw [decide_eq_false h]
    simp [h]

/-- Sizes that no clique has. -/
def avoidsP (x : Col) (sizes : List Int) : Prop := ∀ c : Nat, c < sizes.length → cl (aB x (c : Int)) (sizes.getD c 0).toNat (pts x) = []

open Classical in
theorem avoids_loop {k : Nat} (hk : 2000000 ≤ k) (x : Col) (hp : 1 ≤ x.p ∧ x.p ≤ 17) (sizes : List Int) (hs : ∀ z ∈ sizes, 1 ≤ z ∧ z ≤ 17) (hl : sizes.length ≤ 1048576) : impl_Colouring_avoids k x sizes = some (decide (avoidsP x sizes)) := by
  unfold impl_Colouring_avoids
  have hget : ∀ i : Nat, i < sizes.length → sizes.getD i 0 ∈ sizes := fun i hi => by
    have e : sizes.getD i 0 = sizes[i] := by simp [List.getD, hi]
    rw [e]; exact List.getElem_mem hi
  have hf : ∀ i : Nat, i < sizes.length → impl_Colouring_firstOf k x i (sizes.getD i 0) = some (match (cl (aB x i) (sizes.getD i 0).toNat (pts x)).head? with | some l => (l, true) | none => ([], false)) := fun i hi => by
    have h1 := hs _ (hget i hi)
    have := firstOf_cl hk x hp i (sizes.getD i 0).toNat
    rw [show (((sizes.getD i 0).toNat : Nat) : Int) = sizes.getD i 0 by omega] at this
    exact this
  have := loopAll (f := fun k' i => impl_Colouring_avoids_l0 k x sizes k' i) (sizes.length : Int) false (fun i => cl (aB x i) (sizes.getD i.toNat 0).toNat (pts x) = []) 0
    (fun k' i h0 h1 hq => by
      obtain ⟨m, rfl⟩ := nat_of h0
      show impl_Colouring_avoids_l0 k x sizes (k' + 1) m = _
      have e := hf m (by omega)
      rw [Int.toNat_natCast] at hq
      rw [hq] at e
      rw [impl_Colouring_avoids_l0, w64_succ h0 h1 (by omega), Int.toNat_natCast, e]
      simp only [h1, h0, decide_true, if_true, and_self, List.head?_nil, Option.bind_some, Bool.false_eq_true, if_false])
    (fun k' i h0 h1 hq => by
      obtain ⟨m, rfl⟩ := nat_of h0
      show impl_Colouring_avoids_l0 k x sizes (k' + 1) m = _
      have e := hf m (by omega)
      rw [Int.toNat_natCast] at hq
      rw [impl_Colouring_avoids_l0, Int.toNat_natCast, e]
      cases hh : cl (aB x m) (sizes.getD m 0).toNat (pts x) with
      | nil => exact absurd hh hq
      | cons a t => simp only [h1, h0, decide_true, if_true, and_self, List.head?_cons, Option.bind_some])
    (fun k' i h1 => by
      show impl_Colouring_avoids_l0 k x sizes (k' + 1) i = _
      rw [impl_Colouring_avoids_l0]
      have : ¬ i < (sizes.length : Int) := by omega
      simp [this]) k 0 (by omega) (by omega)
  rw [this]
  have e : (∀ j : Int, 0 ≤ j → j < (sizes.length : Int) → cl (aB x j) (sizes.getD j.toNat 0).toNat (pts x) = []) ↔ avoidsP x sizes := by
    constructor
    · intro h c hc
      have := h c (by omega) (by omega)
      rwa [Int.toNat_natCast] at this
    · intro h j h0 h1
      have := h j.toNat (by omega)
      rwa [show ((j.toNat : Nat) : Int) = j by omega] at this
  by_cases q : avoidsP x sizes
  · rw [if_pos (e.2 q), decide_eq_true q]; rfl
  · rw [if_neg (fun z => q (e.1 z)), decide_eq_false q]; rfl

theorem sizesCode_val {k : Nat} (hk : 2000000 ≤ k) (x : Col) (sizes : List Int) (hl : sizes.length ≤ 1048576) (b : Bool) : (¬ x.is → impl_Colouring_sizesCode k x sizes (some b) = some 1) ∧ (x.is → impl_Colouring_sizesCode k x sizes (some b) = some (if ((sizes.length : Int) = x.k ∧ ∀ z ∈ sizes, 1 ≤ z ∧ z ≤ 17) ∧ b = true then 0 else 2)) := by
  unfold impl_Colouring_sizesCode impl_Colouring_sizesCode_c1 impl_areForbidden impl_Colouring_code
  rw [areIn_val k sizes x.k 1 17 (by omega) (by omega), isColouring_eq k (by omega)]
  constructor
  · intro h; simp [h]
  · intro h
    simp only [h, decide_true, Option.bind_some, Bool.not_true, Bool.false_eq_true, if_false]
    by_cases q : (sizes.length : Int) = x.k ∧ ∀ z ∈ sizes, 1 ≤ z ∧ z ≤ 17
    · rw [decide_eq_true q]
      cases b
      · simp
      · simp only [if_true, Option.bind_some, Bool.not_true, Bool.false_eq_true, if_false, and_true]
        rw [if_pos q]
    · rw [decide_eq_false q]
      simp only [Bool.false_eq_true, if_false, Option.bind_some, Bool.not_false, if_true]
      rw [if_neg (fun z => q z.1)]

/-- The neighbours of a point, as bits. -/
def nb (x : Col) (c : Int) (p : Nat) : Nat := bitsN (fun j => aB x c (p : Int) (j : Int)) x.p.toNat

theorem nb_test (x : Col) (c : Int) (p j : Nat) : (nb x c p).testBit j = (decide (j < x.p.toNat) && aB x c (p : Int) (j : Int)) := bitsN_test _ _ _

theorem nb_lt (x : Col) (hp : 1 ≤ x.p ∧ x.p ≤ 17) (c : Int) (p : Nat) : nb x c p < 2 ^ 63 := lt63 (lt17 (bitsN_lt _ _) (by omega))

theorem around_nb (k : Nat) (x : Col) (hx : 1 ≤ x.p ∧ x.p ≤ 17) (hk : 20 ≤ k) (c : Int) (i : Nat) (hi : (i : Int) < x.p) : spec_l01Around k x i c = some ((nb x c i : Nat) : Int) := by
  unfold spec_l01Around nb
  generalize hP : (fun j : Nat => aB x c (i : Int) (j : Int)) = P
  have hP' : ∀ j : Nat, P j = aB x c (i : Int) (j : Int) := fun j => by rw [← hP]
  have := loopI (f := fun k t (s : Int) => spec_l01Around_l0 x i c k s t) x.p 0 (fun t s => t ≤ x.p ∧ s = ((bitsN P t.toNat : Nat) : Int)) (fun r => r = ((bitsN P x.p.toNat : Nat) : Int)) ?_ ?_ k 0 0 (by omega) (by omega) ⟨by omega, rfl⟩
  · obtain ⟨r, e, rfl⟩ := this
    rw [e]; rfl
  · intro k t s h0 h1 ⟨_, q⟩
    left
    obtain ⟨m, rfl⟩ := nat_of h0
    refine ⟨_, ?_, by omega, rfl⟩
    show spec_l01Around_l0 x i c (k + 1) s m = _
    have e0 : ((m : Int) + 1).toNat = m + 1 := by omega
    rw [spec_l01Around_l0, w64_succ h0 h1 (by omega), e0, u64_id (by omega)]
    simp only [Int.toNat_natCast] at q
    have hb := lt63 (lt17 (bitsN_lt P m) (by omega))
    have hor := bOr_nat (a := bitsN P m) (b := 2 ^ m) hb (Nat.pow_lt_pow_right (by omega) (by omega))
    simp only [h1, decide_true, if_true]
    have hPm := hP' m
    unfold aB at hPm
    by_cases e : m = i
    · subst e
      simp only [ne_eq, not_true_eq_false, false_and, decide_false] at hPm
      simp [hPm, bitsN, q]
    · have e' : ¬ (m : Int) = i := by omega
      have e'' : ¬ (i : Int) = m := by omega
      rw [specAt_ne x i m (by omega) (by omega) (by omega) (by omega) (by omega)]
      by_cases h : x.cc i m = c
      · simp only [ne_eq, e'', not_false_eq_true, h, and_self, decide_true] at hPm
        simp only [e', h, decide_false, Bool.not_false, if_true, Option.bind_some, decide_true, h0, q]
        rw [bShl_one (by omega), hor]
        simp [bitsN, hPm]
      · simp only [ne_eq, e'', not_false_eq_true, h, and_false, decide_false] at hPm
        simp [e', h, bitsN, hPm, q]
  · intro k t s h0 h1 ⟨q1, q2⟩
    have : t = x.p := by omega
    subst this
    refine ⟨s, ?_, q2⟩
    show spec_l01Around_l0 x i c (k + 1) s x.p = _
    rw [spec_l01Around_l0]; simp

theorem ones_loop : ∀ (m s : Nat) (cnt : Int) (k : Nat), s < 2 ^ m → m ≤ 60 → m < k → 0 ≤ cnt → cnt + m ≤ 1000 → spec_l01Ones_l0 k (s : Int) cnt = some (cnt + (mem s 0 m).length) := by
  intro m
  induction m with
  | zero =>
    intro s cnt k hs hm hk h0 h1
    obtain ⟨k, rfl⟩ : ∃ q, k = q + 1 := ⟨k - 1, by omega⟩
    have : s = 0 := by simpa using hs
    subst this
    rw [spec_l01Ones_l0, mem_end (by omega)]; simp
  | succ m ih =>
    intro s cnt k hs hm hk h0 h1
    obtain ⟨k, rfl⟩ : ∃ q, k = q + 1 := ⟨k - 1, by omega⟩
    rw [spec_l01Ones_l0]
    by_cases h : s = 0
    · subst h
      have : mem 0 0 (m + 1) = [] := by
        unfold mem
        rw [List.filter_eq_nil_iff]
        intro a _; simp
      rw [this]; simp
    · have hp : (0 : Int) < (s : Int) := by omega
      have hb : s < 2 ^ 61 := Nat.lt_of_lt_of_le hs (Nat.pow_le_pow_right (by omega) (by omega))
      have e1 : (s : Int).tdiv 2 = ((s / 2 : Nat) : Int) := by rw [Int.tdiv_eq_ediv_of_nonneg (by omega)]; omega
      have e2 : (s : Int).tmod 2 = ((s % 2 : Nat) : Int) := by rw [Int.tmod_eq_emod_of_nonneg (by omega)]; omega
      rw [decide_eq_true hp, if_pos rfl, e1, e2, w64_id (by omega), w64_id (by omega), ih (s / 2) _ k (by rw [Nat.pow_succ] at hs; omega) (by omega) (by omega) (by omega) (by omega), mem_half]
      congr 1
      rw [Int.natCast_add]
      omega

theorem ones_val {k n s : Nat} (hk : 100 ≤ k) (hn : n ≤ 60) (hs : s < 2 ^ n) : spec_l01Ones k (s : Int) = some ((mem s 0 n).length : Int) := by
  unfold spec_l01Ones
  rw [ones_loop n s 0 k hs hn (by omega) (by omega) (by omega)]
  simp

theorem joins_val (x : Col) (p q c : Int) (hp : 0 ≤ p ∧ p < 17) (hq : 0 ≤ q ∧ q < 17) : impl_Colouring_joins x p q c = some (aB x c p q) := by
  unfold impl_Colouring_joins aB
  by_cases e : p = q
  · subst e; simp
  · rw [implAt_ne x p q hp.1 hp.2 hq.1 hq.2 e]
    simp [e]

/-! ### The program's -/
theorem rest_val (x : Col) (c : Int) (pts : List Int) (hr : inR pts) (hl : pts.length ≤ 17) (i : Nat) (hi : i < pts.length) (k : Nat) (hk : 20 ≤ k) :
    impl_Colouring_hasClique_l1 x c pts i k 0 [] = some ((pts.drop (i + 1)).filter fun q => aB x c (pts.getD i 0) q) := by
  have hw : w64 ((i : Int) + 1) = ((i + 1 : Nat) : Int) := by rw [w64_id (by omega)]; omega
  have hgr : ∀ j : Nat, j < pts.length → 0 ≤ pts.getD j 0 ∧ pts.getD j 0 < 17 := fun j hj => hr _ (mem_getD.2 ⟨j, hj, rfl⟩)
  obtain ⟨R, hR⟩ : ∃ R, R = pts.drop (i + 1) := ⟨_, rfl⟩
  have hRr : ∀ j : Nat, j < R.length → 0 ≤ R.getD j 0 ∧ R.getD j 0 < 17 := fun j hj => by
    have hsub : ∀ z ∈ R, z ∈ pts := fun z hz => by rw [hR] at hz; exact List.mem_of_mem_drop hz
    exact hr _ (hsub _ (mem_getD.2 ⟨j, hj, rfl⟩))
  have hRl : R.length ≤ 17 := by rw [hR, List.length_drop]; omega
  have hpi := hgr i hi
  have := loopI (f := fun k' j (s : List Int) => impl_Colouring_hasClique_l1 x c pts i k' j s) (R.length : Int) 0 (fun j s => j ≤ R.length ∧ s = (R.take j.toNat).filter fun q => aB x c (pts.getD i 0) q) (fun s => s = R.filter fun q => aB x c (pts.getD i 0) q) ?_ ?_ k 0 [] (by omega) (by omega) ⟨by omega, by simp⟩
  · obtain ⟨s, e, rfl⟩ := this
    rw [← hR]; exact e
  · rintro k' j s h0 h1 ⟨q1, rfl⟩
    left
    refine ⟨(R.take (j + 1).toNat).filter fun q => aB x c (pts.getD i 0) q, ?_, by omega, rfl⟩
    show impl_Colouring_hasClique_l1 x c pts i (k' + 1) j _ = _
    rw [impl_Colouring_hasClique_l1, hw, Int.toNat_natCast, List.take_length, ← hR, Int.toNat_natCast, w64_succ h0 h1 (by omega)]
    rw [if_pos (decide_eq_true h1), if_pos ⟨h0, h1⟩, joins_val x _ _ c hpi (hRr j.toNat (by omega)), Option.bind_some]
    have eR : R[j.toNat]'(by omega) = R.getD j.toNat 0 := by simp [show j.toNat < R.length by omega]
    rw [show (j + 1).toNat = j.toNat + 1 by omega, List.take_succ_eq_append_getElem (show j.toNat < R.length by omega), List.filter_append, eR]
    have hlen : ((R.take j.toNat).filter fun q => aB x c (pts.getD i 0) q).length ≤ 17 := Nat.le_trans (List.length_filter_le _ _) (by simp; omega)
    cases hb : aB x c (pts.getD i 0) (R.getD j.toNat 0) with
    | true =>
      have hf : [R.getD j.toNat 0].filter (fun q => aB x c (pts.getD i 0) q) = [R.getD j.toNat 0] := by rw [List.filter_cons, if_pos hb]; rfl
      rw [if_pos rfl, if_pos (by simp only [List.length_singleton]; omega), hf]; rfl
    | false =>
      have hf : [R.getD j.toNat 0].filter (fun q => aB x c (pts.getD i 0) q) = [] := by rw [List.filter_cons, if_neg (by rw [hb]; simp)]; rfl
      rw [if_neg (by simp), hf, List.append_nil]; rfl
  · rintro k' j s h0 h1 ⟨q1, rfl⟩
    refine ⟨R.filter fun q => aB x c (pts.getD i 0) q, ?_, rfl⟩
    show impl_Colouring_hasClique_l1 x c pts i (k' + 1) j _ = _
    rw [impl_Colouring_hasClique_l1, hw, Int.toNat_natCast, List.take_length, ← hR, if_neg (by simp only [decide_eq_true_eq]; omega), show j.toNat = R.length by omega, List.take_length]

theorem hasClique_val (x : Col) (c : Int) : ∀ (m : Nat) (pts : List Int), inR pts → pts.length ≤ 17 → ∀ k, m + 50 ≤ k → impl_Colouring_hasClique k x c m pts = some (decide (cl (aB x c) m pts ≠ [])) := by
  intro m
  induction m with
  | zero =>
    intro pts _ _ k hk
    obtain ⟨k, rfl⟩ : ∃ q, k = q + 1 := ⟨k - 1, by omega⟩
    rw [impl_Colouring_hasClique, impl_Colouring_hasClique_body, cl_zero]
    simp
  | succ m ih =>
    intro pts hr hl k hk
    obtain ⟨k, rfl⟩ : ∃ q, k = q + 1 := ⟨k - 1, by omega⟩
    rw [impl_Colouring_hasClique, impl_Colouring_hasClique_body, if_neg (by simp only [decide_eq_true_eq]; omega)]
    unfold impl_size
    by_cases hs : (pts.length : Int) < ((m + 1 : Nat) : Int)
    · rw [if_pos (decide_eq_true hs), cl_short _ pts (m + 1) (by omega)]; simp
    · rw [if_neg (by simpa using hs)]
      have hw : w64 (((m + 1 : Nat) : Int) - 1) = (m : Int) := by rw [w64_id (by omega)]; omega
      have := loopI (f := fun k' j (_ : Unit) => impl_Colouring_hasClique_l0 k (impl_Colouring_hasClique k) x c ((m + 1 : Nat) : Int) pts k' j) (pts.length : Int) 0
        (fun j _ => j ≤ pts.length ∧ (cl (aB x c) (m + 1) pts ≠ [] ↔ cl (aB x c) (m + 1) (pts.drop j.toNat) ≠ [])) (fun r => r = if cl (aB x c) (m + 1) pts ≠ [] then .inr true else .inl ()) ?_ ?_ k 0 () (by omega) (by omega) ⟨by omega, by simp⟩
      · obtain ⟨r, e, rfl⟩ := this
        rw [e]
        by_cases h : cl (aB x c) (m + 1) pts ≠ [] <;> simp [h]
      · rintro k' j _ h0 h1 ⟨q1, q2⟩
        obtain ⟨i, rfl⟩ : ∃ i : Nat, j = i := ⟨j.toNat, by omega⟩
        have hi : i < pts.length := by omega
        rw [Int.toNat_natCast] at q2
        have hd : pts.drop i = pts.getD i 0 :: pts.drop (i + 1) := by
          rw [List.drop_eq_getElem_cons hi]; simp [hi]
        rw [hd, cl_cons] at q2
        have hrest : inR ((pts.drop (i + 1)).filter fun q => aB x c (pts.getD i 0) q) := fun z hz => hr z (List.mem_of_mem_drop (List.mem_filter.1 hz).1)
        have hrl : ((pts.drop (i + 1)).filter fun q => aB x c (pts.getD i 0) q).length ≤ 17 := Nat.le_trans (List.length_filter_le _ _) (by rw [List.length_drop]; omega)
        have hih := ih _ hrest hrl k (by omega)
        have hstep : impl_Colouring_hasClique_l0 k (impl_Colouring_hasClique k) x c ((m + 1 : Nat) : Int) pts (k' + 1) i = (if cl (aB x c) m ((pts.drop (i + 1)).filter fun q => aB x c (pts.getD i 0) q) ≠ [] then some (.inr true) else impl_Colouring_hasClique_l0 k (impl_Colouring_hasClique k) x c ((m + 1 : Nat) : Int) pts k' ((i : Int) + 1)) := by
          rw [impl_Colouring_hasClique_l0, if_pos (decide_eq_true h1), if_pos ⟨h0, h1⟩, w64_succ h0 h1 (by omega), if_pos ⟨by omega, by omega, by omega⟩, rest_val x c pts hr hl i hi k (by omega), Option.bind_some, hw, hih]
          by_cases h : cl (aB x c) m ((pts.drop (i + 1)).filter fun q => aB x c (pts.getD i 0) q) ≠ []
          · rw [decide_eq_true h, if_pos h]; rfl
          · rw [decide_eq_false h, if_neg h]; rfl
        by_cases h : cl (aB x c) m ((pts.drop (i + 1)).filter fun q => aB x c (pts.getD i 0) q) ≠ []
        · right
          refine ⟨.inr true, ?_, ?_⟩
          · show impl_Colouring_hasClique_l0 k (impl_Colouring_hasClique k) x c ((m + 1 : Nat) : Int) pts (k' + 1) i = _
            rw [hstep, if_pos h]
          · rw [if_pos]
            rw [q2]
            intro h2
            have := List.append_eq_nil_iff.1 h2
            exact h (List.map_eq_nil_iff.1 this.1)
        · left
          refine ⟨(), ?_, by omega, ?_⟩
          · show impl_Colouring_hasClique_l0 k (impl_Colouring_hasClique k) x c ((m + 1 : Nat) : Int) pts (k' + 1) i = _
            rw [hstep, if_neg h]
          · rw [q2, show ((i : Int) + 1).toNat = i + 1 by omega]
            have h' : cl (aB x c) m ((pts.drop (i + 1)).filter fun q => aB x c (pts.getD i 0) q) = [] := Classical.not_not.1 h
            have h'' : cl (aB x c) m ((pts.drop (i + 1)).filter (aB x c (pts.getD i 0))) = [] := h'
            rw [h'']
            simp
      · rintro k' j _ h0 h1 ⟨q1, q2⟩
        have hj : j = pts.length := by omega
        subst hj
        rw [Int.toNat_natCast, List.drop_length, cl_nil] at q2
        refine ⟨.inl (), ?_, by rw [if_neg (by rw [q2]; simp)]⟩
        show impl_Colouring_hasClique_l0 k (impl_Colouring_hasClique k) x c ((m + 1 : Nat) : Int) pts (k' + 1) _ = _
        rw [impl_Colouring_hasClique_l0]; simp

theorem hasClique_neg (x : Col) (c m : Int) (pts : List Int) (k : Nat) (hk : 1 ≤ k) (hm : m ≤ 0) : impl_Colouring_hasClique k x c m pts = some true := by
  obtain ⟨k, rfl⟩ : ∃ q, k = q + 1 := ⟨k - 1, by omega⟩
  rw [impl_Colouring_hasClique, impl_Colouring_hasClique_body, if_pos (decide_eq_true hm)]

/-! ### The reference's -/
theorem xor_sub {s p : Nat} (hb : s.testBit p = true) (hlow : ∀ i, i < p → s.testBit i = false) : (s ^^^ 2 ^ p) + 2 ^ p = s := by
  have hm : s % 2 ^ (p + 1) = 2 ^ p := by
    apply bits_eq
    intro i
    rw [Nat.testBit_mod_two_pow, Nat.testBit_two_pow]
    by_cases h1 : i < p
    · rw [hlow i h1]
      have : ¬ p = i := by omega
      simp [this]
    · by_cases h2 : p = i
      · subst h2; simp [hb]
      · have : ¬ i < p + 1 := by omega
        simp [this, h2]
  have hx : s ^^^ 2 ^ p = 2 ^ (p + 1) * (s / 2 ^ (p + 1)) := by
    apply bits_eq
    intro i
    rw [Nat.testBit_xor, Nat.testBit_two_pow, Nat.testBit_two_pow_mul, Nat.testBit_div_two_pow]
    by_cases h1 : i < p
    · rw [hlow i h1]
      have h3 : ¬ p = i := by omega
      have h4 : ¬ i ≥ p + 1 := by omega
      simp [h3, h4]
    · by_cases h2 : p = i
      · subst h2
        have h4 : ¬ p ≥ p + 1 := by omega
        rw [hb, decide_eq_false h4]; simp
      · have h4 : i ≥ p + 1 := by omega
        rw [show i - (p + 1) + (p + 1) = i by omega]
        simp [h2, h4]
  have hd := Nat.div_add_mod s (2 ^ (p + 1))
  rw [hm] at hd
  rw [hx]
  exact hd

section
variable (x : Col) (hp : 1 ≤ x.p ∧ x.p ≤ 17) (c : Int)
include hp
theorem sp63 {s : Nat} (hs : s < 2 ^ x.p.toNat) : s < 2 ^ 63 := lt63 (lt17 hs (by omega))

theorem takebit {s p : Nat} (hs : s < 2 ^ x.p.toNat) (hpn : p < x.p.toNat) (hb : s.testBit p = true) (hlow : ∀ i, i < p → s.testBit i = false) :
    w64 ((s : Int) - bShl .i64 1 (p : Int)) = ((s ^^^ 2 ^ p : Nat) : Int) ∧ bAnd .i64 ((s ^^^ 2 ^ p : Nat) : Int) ((nb x c p : Nat) : Int) = (((s ^^^ 2 ^ p) &&& nb x c p : Nat) : Int) ∧ s ^^^ 2 ^ p < 2 ^ x.p.toNat ∧
    (s ^^^ 2 ^ p) &&& nb x c p < 2 ^ x.p.toNat ∧ (∀ i, i < p + 1 → (s ^^^ 2 ^ p).testBit i = false) ∧ mem s p x.p.toNat = (p : Int) :: mem (s ^^^ 2 ^ p) (p + 1) x.p.toNat ∧
    mem ((s ^^^ 2 ^ p) &&& nb x c p) 0 x.p.toNat = (mem (s ^^^ 2 ^ p) (p + 1) x.p.toNat).filter (aB x c p) := by
  have h2 : 2 ^ p < 2 ^ x.p.toNat := Nat.pow_lt_pow_right (by omega) hpn
  have hx := Nat.xor_lt_two_pow hs h2
  have ht : ∀ i, (s ^^^ 2 ^ p).testBit i = (s.testBit i && !decide (p = i)) := fun i => by
    rw [Nat.testBit_xor, Nat.testBit_two_pow]
    by_cases e : p = i
    · subst e; simp [hb]
    · simp [e]
  have hlow' : ∀ i, i < p + 1 → (s ^^^ 2 ^ p).testBit i = false := fun i hi => by
    rw [ht]
    by_cases e : p = i
    · simp [e]
    · rw [hlow i (by omega)]; simp
  have hsum : (s ^^^ 2 ^ p) + 2 ^ p = s := xor_sub hb hlow
  refine ⟨?_, bAnd_nat (sp63 x hp hx) (nb_lt x hp c p), hx, Nat.lt_of_le_of_lt Nat.and_le_left hx, hlow', ?_, ?_⟩
  · rw [bShl_one (by omega)]
    have h63 := sp63 x hp hs
    have e63 : (2 : Nat) ^ 63 = 9223372036854775808 := by decide
    rw [e63] at h63
    generalize 2 ^ p = u at *
    generalize s ^^^ u = v at *
    rw [w64_id (by omega)]
    omega
  · rw [mem_yes hpn hb]
    congr 1
    exact mem_congr fun i h1 h2 => by rw [ht]; have : ¬ p = i := by omega
                                      simp [this]
  · rw [mem_low (p := p + 1) fun i hi => by rw [Nat.testBit_and, hlow' i hi]; rfl]
    refine mem_flt fun i h1 h2 => ?_
    rw [Nat.testBit_and, nb_test]
    simp [h2]

theorem clique3_val : ∀ (m s k : Nat), s < 2 ^ x.p.toNat → m + 200 ≤ k → spec_l03Clique k x c (s : Int) (m : Int) = some (decide (cl (aB x c) m (mem s 0 x.p.toNat) ≠ [])) := by
  intro m
  induction m with
  | zero =>
    intro s k hs hk
    obtain ⟨k, rfl⟩ : ∃ q, k = q + 1 := ⟨k - 1, by omega⟩
    rw [spec_l03Clique, spec_l03Clique_body, cl_zero]
    simp
  | succ m ih =>
    intro s0 k hs0 hk
    obtain ⟨k, rfl⟩ : ∃ q, k = q + 1 := ⟨k - 1, by omega⟩
    rw [spec_l03Clique, spec_l03Clique_body, if_neg (by simp only [decide_eq_true_eq]; omega), ones_val (n := x.p.toNat) (by omega) (by omega) hs0, Option.bind_some]
    by_cases hs : ((mem s0 0 x.p.toNat).length : Int) < ((m + 1 : Nat) : Int)
    · rw [if_pos (decide_eq_true hs), cl_short _ _ (m + 1) (by omega)]; simp
    rw [if_neg (by simpa using hs)]
    have hml := mem_length s0 0 x.p.toNat
    have hw : w64 (((m + 1 : Nat) : Int) - 1) = (m : Int) := by rw [w64_id (by omega)]; omega
    have loop : ∀ (d p s : Nat) (f : Nat), x.p.toNat - p = d → d < f → p ≤ x.p.toNat → s < 2 ^ x.p.toNat → (∀ i, i < p → s.testBit i = false) →
        spec_l03Clique_l0 k (spec_l03Clique k) x c ((m + 1 : Nat) : Int) f (s : Int) (p : Int) = some (if cl (aB x c) (m + 1) (mem s p x.p.toNat) ≠ [] then .inr true else .inl ()) := by
      intro d
      induction d with
      | zero =>
        intro p s f hd hf hpn hs hlow
        obtain ⟨f, rfl⟩ : ∃ q, f = q + 1 := ⟨f - 1, by omega⟩
        rw [spec_l03Clique_l0, if_neg (by simp only [decide_eq_true_eq]; omega), mem_end (by omega), cl_nil]
        simp
      | succ d ihd =>
        intro p s f hd hf hpn hs hlow
        obtain ⟨f, rfl⟩ : ∃ q, f = q + 1 := ⟨f - 1, by omega⟩
        have hpx : p < x.p.toNat := by omega
        have hu : IntKind.u64.wrap (p : Int) = p := u64_id (by omega)
        have hw2 : w64 ((p : Int) + 1) = ((p + 1 : Nat) : Int) := by rw [w64_id (by omega)]; omega
        rw [spec_l03Clique_l0, if_pos (decide_eq_true (by omega)), hu, if_pos (by omega), bit_eq (sp63 x hp hs) (by omega), hw2]
        cases hb : s.testBit p with
        | false =>
          simp only [Bool.false_eq_true, if_false, decide_true, if_true, Option.bind_some]
          rw [ihd (p + 1) s f (by omega) (by omega) (by omega) hs (fun i hi => by
            by_cases e : i = p
            · subst e; exact hb
            · exact hlow i (by omega)), mem_no hpx hb]
        | true =>
          obtain ⟨t1, t2, t3, t4, t5, t6, t7⟩ := takebit x hp c hs hpx hb hlow
          rw [if_pos rfl, if_neg (by simp), if_pos (by omega), around_nb k x hp (by omega) c p (by omega), Option.bind_some, t1, t2, hw, ih _ k t4 (by omega), Option.bind_some, t6, cl_cons, ← t7]
          by_cases h : cl (aB x c) m (mem ((s ^^^ 2 ^ p) &&& nb x c p) 0 x.p.toNat) ≠ []
          · rw [decide_eq_true h, if_pos rfl]
            simp [h]
          · have h' := Classical.not_not.1 h
            rw [decide_eq_false h, if_neg (by simp), Option.bind_some]
            dsimp only
            rw [ihd (p + 1) _ f (by omega) (by omega) (by omega) t3 t5, h']
            simp
    have := loop x.p.toNat 0 s0 k (by omega) (by omega) (by omega) hs0 (fun i hi => by omega)
    rw [show ((0 : Nat) : Int) = 0 from rfl] at this
    rw [this]
    by_cases h : cl (aB x c) (m + 1) (mem s0 0 x.p.toNat) ≠ [] <;> simp [h]
end

/-- Those of the points of l that go with the next one in a colour. -/
def nearL (x : Col) (l : List Int) (c : Nat) : List Int := (ir 0 l.length).filter fun p => decide (l.getD p.toNat 0 = (c : Int)) && aB x c p l.length
def okX (x : Col) (sizes l : List Int) (c : Nat) : Bool := decide (cl (aB x c) (sizes.getD c 0 - 2).toNat (nearL x l c) = [])

theorem ir_split {n N : Nat} (h : n ≤ N) : ir 0 N = ir 0 n ++ ir n N := by
  unfold ir
  rw [← List.map_append]
  congr 1
  have := @List.range'_append_1 0 n (N - n)
  rw [Nat.zero_add] at this
  rw [Nat.sub_zero, Nat.sub_zero, this, show n + (N - n) = N by omega]
theorem nearL_inR {x : Col} {l : List Int} {c : Nat} (hl : l.length ≤ 17) : inR (nearL x l c) ∧ (nearL x l c).length ≤ 17 := by
  constructor
  · intro z hz
    have := mem_ir.1 (List.mem_filter.1 hz).1
    omega
  · have := List.length_filter_le (fun p : Int => decide (l.getD p.toNat 0 = (c : Int)) && aB x c p l.length) (ir 0 l.length)
    rw [ir_length] at this
    unfold nearL
    omega

def szOK (x : Col) (sizes : List Int) : Prop := (sizes.length : Int) = x.k ∧ ∀ z ∈ sizes, 1 ≤ z ∧ z ≤ 17
theorem sz_get {x : Col} {sizes : List Int} (h : szOK x sizes) {c : Nat} (hc : (c : Int) < x.k) : 1 ≤ sizes.getD c 0 ∧ sizes.getD c 0 ≤ 17 ∧ c < sizes.length := by
  have := h.1
  have hl : c < sizes.length := by omega
  have := h.2 _ (mem_getD.2 ⟨c, hl, rfl⟩)
  omega

theorem has_okX {x : Col} {sizes : List Int} (h : szOK x sizes) {c : Nat} (hc : (c : Int) < x.k) (l : List Int) (hl : l.length ≤ 17) (k : Nat) (hk : 100 ≤ k) :
    impl_Colouring_hasClique k x c (w64 (sizes.getD c 0 - 2)) (nearL x l c) = some (!okX x sizes l c) := by
  obtain ⟨h1, h2, h3⟩ := sz_get h hc
  obtain ⟨n1, n2⟩ := nearL_inR (x := x) (c := c) hl
  rw [w64_id (by omega)]
  unfold okX
  by_cases h0 : sizes.getD c 0 - 2 ≤ 0
  · rw [hasClique_neg x c _ _ k (by omega) h0, show (sizes.getD c 0 - 2).toNat = 0 by omega, cl_zero]
    simp
  · obtain ⟨m, hm⟩ : ∃ m : Nat, sizes.getD c 0 - 2 = m := ⟨(sizes.getD c 0 - 2).toNat, by omega⟩
    rw [hm, Int.toNat_natCast, hasClique_val x c m _ n1 n2 k (by omega)]
    by_cases e : cl (aB x c) m (nearL x l c) = [] <;> simp [e]

/-! ### A walk that stops -/
def runT {α σ : Type} (cb : α → σ → Bool × σ) : List α → σ → Bool × σ
  | [], s => (true, s)
  | a :: t, s => if (cb a s).1 then runT cb t (cb a s).2 else (false, (cb a s).2)
theorem runT_app {α σ : Type} (cb : α → σ → Bool × σ) (B : List α) : ∀ (A : List α) (s : σ), runT cb (A ++ B) s = if (runT cb A s).1 then runT cb B (runT cb A s).2 else (false, (runT cb A s).2)
  | [], s => by simp [runT]
  | a :: t, s => by
    rw [List.cons_append, runT, runT]
    by_cases h : (cb a s).1 = true
    · rw [if_pos h, if_pos h, runT_app cb B t]
    · rw [if_neg h, if_neg h]; simp
theorem runT_nil {α σ : Type} (cb : α → σ → Bool × σ) (s : σ) : runT cb [] s = (true, s) := rfl
theorem runT_one {α σ : Type} (cb : α → σ → Bool × σ) (a : α) (s : σ) : runT cb [a] s = cb a s := by
  rw [runT]
  cases h : (cb a s).1 with
  | true => rw [if_pos rfl, runT_nil, ← h]
  | false => rw [if_neg (by simp), ← h]

theorem spl_one (cs : List Int) (n : Nat) (c : Int) (h : n < cs.length) : (splicedL cs (0 + n) ([c].length) [c]).length = cs.length ∧ (splicedL cs (0 + n) ([c].length) [c]).take (n + 1) = cs.take n ++ [c] := by
  constructor
  · rw [splicedL_length _ _ _ _ (by simp; omega)]
  · unfold splicedL
    rw [Nat.zero_add]
    rw [List.take_append_of_le_length (by simp; omega), List.take_of_length_le (by simp; omega)]
    simp

/-! ### The walk for ExtensionList_c1 -/
theorem near_ExtensionList_c1 (x : Col) (hp : 1 ≤ x.p ∧ x.p ≤ 17) (cs0 cs : List Int) (n c : Nat) (h0' : n ≤ cs0.length) (h1' : n ≤ cs.length) (hn : n ≤ 16) (k : Nat) (hk : 20 ≤ k) :
    impl_Colouring_extensions_on_ExtensionList_c1_l1 x cs0 n c cs k 0 [] = some (nearL x (cs.take n) c) := by
  have hsz : impl_size ((cs0.drop 0).take n) = (n : Int) := by unfold impl_size; simp; omega
  have hlen : (cs.take n).length = n := by simp; omega
  have := loopI (f := fun k' j (s : List Int) => impl_Colouring_extensions_on_ExtensionList_c1_l1 x cs0 n c cs k' j s) (n : Int) 0
    (fun j s => j ≤ n ∧ s = (ir 0 j.toNat).filter fun p => decide ((cs.take n).getD p.toNat 0 = (c : Int)) && aB x c p n) (fun s => s = nearL x (cs.take n) c) ?_ ?_ k 0 [] (by omega) (by omega) ⟨by omega, rfl⟩
  · obtain ⟨s, e, rfl⟩ := this
    exact e
  · rintro k' j s h0 h1 ⟨q1, rfl⟩
    left
    refine ⟨_, ?_, by omega, rfl⟩
    show impl_Colouring_extensions_on_ExtensionList_c1_l1 x cs0 n c cs (k' + 1) j _ = _
    obtain ⟨i, rfl⟩ : ∃ i : Nat, j = i := ⟨j.toNat, by omega⟩
    have hi : i < n := by omega
    rw [impl_Colouring_extensions_on_ExtensionList_c1_l1, hsz, if_pos (decide_eq_true h1), if_pos ⟨h0, h1, by omega⟩, w64_succ h0 h1 (by omega), joins_val x _ _ _ (by omega) (by omega), Int.toNat_natCast, show ((i : Int) + 1).toNat = i + 1 by omega]
    have hg : cs.getD (0 + i) 0 = (cs.take n).getD i 0 := by simp [List.getD, List.getElem?_take, hi]
    have hsp : ir 0 (i + 1) = ir 0 i ++ [(i : Int)] := by
      rw [ir_split (show i ≤ i + 1 by omega)]
      congr 1
      rw [ir_next (show i < i + 1 by omega), ir_end (Nat.le_refl _)]
    rw [hg, hsp, List.filter_append]
    have hll : ((ir 0 i).filter fun p => decide ((cs.take n).getD p.toNat 0 = (c : Int)) && aB x c p n).length ≤ 17 := Nat.le_trans (List.length_filter_le _ _) (by rw [ir_length]; omega)
    have key : ∀ b : Bool, (decide ((cs.take n).getD i 0 = (c : Int)) && aB x c i n) = b → [(i : Int)].filter (fun p => decide ((cs.take n).getD p.toNat 0 = (c : Int)) && aB x c p n) = if b then [(i : Int)] else [] := fun b hb => by
      rw [List.filter_cons, Int.toNat_natCast, hb]
      cases b <;> rfl
    by_cases ha : (cs.take n).getD i 0 = (c : Int)
    · rw [if_pos (decide_eq_true ha)]
      cases hb : aB x c i n with
      | true =>
        rw [key true (by rw [decide_eq_true ha, hb]; rfl), if_pos rfl, Option.bind_some, Option.bind_some, if_pos rfl, if_pos (by simp only [List.length_singleton]; omega)]; rfl
      | false =>
        rw [key false (by rw [decide_eq_true ha, hb]; rfl), Option.bind_some, Option.bind_some, if_neg (by simp)]
        simp
    · rw [if_neg (by simpa using ha), key false (by rw [decide_eq_false ha]; rfl), Option.bind_some, if_neg (by simp)]
      simp
  · rintro k' j s h0 h1 ⟨q1, rfl⟩
    refine ⟨nearL x (cs.take n) c, ?_, rfl⟩
    show impl_Colouring_extensions_on_ExtensionList_c1_l1 x cs0 n c cs (k' + 1) j _ = _
    rw [impl_Colouring_extensions_on_ExtensionList_c1_l1, if_neg (by simp only [decide_eq_true_eq]; omega)]
    unfold nearL
    rw [hlen, show j.toNat = n by omega]

theorem run_ExtensionList_c1 (x : Col) (hp : 1 ≤ x.p ∧ x.p ≤ 16) (hk4 : 0 ≤ x.k ∧ x.k ≤ 4) (sizes : List Int) (hsz : szOK x sizes) (cb : List Int → List (List Int) → Bool × List (List Int)) (Inv : List (List Int) → Prop)
    (hcb : ∀ (k : Nat) (cs : List Int) (s : List (List Int)), 100 ≤ k → cs.length = 17 → Inv s → impl_ExtensionList_c1 cs x.p.toNat s = some ((cb (cs.take x.p.toNat) s).1, cs, (cb (cs.take x.p.toNat) s).2) ∧ ((cb (cs.take x.p.toNat) s).1 = true → Inv (cb (cs.take x.p.toNat) s).2)) :
    ∀ (d : Nat) (cs : List Int) (n : Nat) (s : List (List Int)) (k : Nat), n + d = x.p.toNat → cs.length = 17 → Inv s → d + 200 ≤ k →
      ∃ cs', cs'.length = 17 ∧ cs'.take n = cs.take n ∧ impl_Colouring_extensions_on_ExtensionList_c1 k x sizes cs n s = some ((runT cb (exts x.k.toNat (okX x sizes) d (cs.take n)) s).1, cs', (runT cb (exts x.k.toNat (okX x sizes) d (cs.take n)) s).2) ∧
        ((runT cb (exts x.k.toNat (okX x sizes) d (cs.take n)) s).1 = true → Inv (runT cb (exts x.k.toNat (okX x sizes) d (cs.take n)) s).2) := by
  intro d
  induction d with
  | zero =>
    intro cs n s k hn hcs hi hk
    obtain ⟨k, rfl⟩ : ∃ q, k = q + 1 := ⟨k - 1, by omega⟩
    have hs : impl_size ((cs.drop 0).take n) = (n : Int) := by unfold impl_size; simp; omega
    rw [exts_zero, runT_one]
    have hnn : n = x.p.toNat := by omega
    subst hnn
    obtain ⟨c1, c2⟩ := hcb k cs s (by omega) hcs hi
    refine ⟨cs, hcs, rfl, ?_, c2⟩
    rw [impl_Colouring_extensions_on_ExtensionList_c1, impl_Colouring_extensions_on_ExtensionList_c1_body, hs, if_pos (decide_eq_true (by omega)), c1]
    rfl
  | succ d ih =>
    intro cs n s k hn hcs hi hk
    obtain ⟨k, rfl⟩ : ∃ q, k = q + 1 := ⟨k - 1, by omega⟩
    have hs : impl_size ((cs.drop 0).take n) = (n : Int) := by unfold impl_size; simp; omega
    rw [exts_succ]
    obtain ⟨l, hl⟩ : ∃ l, l = cs.take n := ⟨_, rfl⟩
    have hll : l.length = n := by rw [hl]; simp; omega
    rw [← hl]
    have hK : ((x.k.toNat : Nat) : Int) = x.k := by omega
    have := loopI (f := fun k' c (st : List Int × List (List Int)) => impl_Colouring_extensions_on_ExtensionList_c1_l0 k (impl_Colouring_extensions_on_ExtensionList_c1 k) x sizes cs n k' c st.1 st.2) x.k 0
      (fun c st => c ≤ x.k ∧ st.1.length = 17 ∧ st.1.take n = l ∧ runT cb (epre x.k.toNat (okX x sizes) d l c.toNat) s = (true, st.2) ∧ Inv st.2)
      (fun r => ∃ cs', cs'.length = 17 ∧ cs'.take n = l ∧ ((∃ s', r = .inl (cs', s') ∧ runT cb (epre x.k.toNat (okX x sizes) d l x.k.toNat) s = (true, s') ∧ Inv s') ∨ (∃ s', r = .inr (false, cs', s') ∧ runT cb (epre x.k.toNat (okX x sizes) d l x.k.toNat) s = (false, s')))) ?_ ?_ k 0 (cs, s) (by omega) (by omega) ⟨by omega, hcs, hl.symm, rfl, hi⟩
    · obtain ⟨r, e, cs', h1, h2, h3⟩ := this
      refine ⟨cs', h1, h2, ?_, ?_⟩
      · rw [impl_Colouring_extensions_on_ExtensionList_c1, impl_Colouring_extensions_on_ExtensionList_c1_body, hs, if_neg (by simp only [decide_eq_true_eq]; omega), e]
        rcases h3 with ⟨s', rfl, h4, _⟩ | ⟨s', rfl, h4⟩ <;> rw [h4] <;> rfl
      · rcases h3 with ⟨s', rfl, h4, h5⟩ | ⟨s', rfl, h4⟩
        · rw [h4]; intro _; exact h5
        · rw [h4]; intro h; cases h
    · rintro k' j ⟨ds, t⟩ h0 h1 ⟨q1, q2, q3, q4, q5⟩
      dsimp only at q2 q3 q4 q5
      obtain ⟨c, rfl⟩ : ∃ c : Nat, j = c := ⟨j.toNat, by omega⟩
      rw [Int.toNat_natCast] at q4
      obtain ⟨z1, z2, z3⟩ := sz_get hsz h1
      have hnear := near_ExtensionList_c1 x (by omega) cs ds n c (by omega) (by omega) (by omega) k (by omega)
      rw [q3] at hnear
      have hhas := has_okX hsz h1 l (by omega) k (by omega)
      obtain ⟨B, hB⟩ := epre_more (K := x.k.toNat) (ok := okX x sizes) (n := d) (l := l) (c + 1) (x.k.toNat - (c + 1))
      rw [show c + 1 + (x.k.toNat - (c + 1)) = x.k.toNat by omega] at hB
      have hpre := epre_succ (K := x.k.toNat) (ok := okX x sizes) (n := d) (l := l) c
      have hstep : impl_Colouring_extensions_on_ExtensionList_c1_l0 k (impl_Colouring_extensions_on_ExtensionList_c1 k) x sizes cs n (k' + 1) c ds t = ((if okX x sizes l c then (impl_Colouring_extensions_on_ExtensionList_c1 k x sizes (splicedL ds (0 + n) ([(c : Int)].length) [(c : Int)]) (n + [(c : Int)].length) t).bind fun r23 => some (!r23.1, r23.2.1, r23.2.2) else some (false, ds, t)) : Option (Bool × List Int × List (List Int))).bind fun s24 => if s24.1 then some (.inr (false, s24.2.1, s24.2.2)) else impl_Colouring_extensions_on_ExtensionList_c1_l0 k (impl_Colouring_extensions_on_ExtensionList_c1 k) x sizes cs n k' ((c : Int) + 1) s24.2.1 s24.2.2 := by
        rw [impl_Colouring_extensions_on_ExtensionList_c1_l0, if_pos (decide_eq_true h1), hnear, Option.bind_some, if_pos ⟨h0, by omega⟩, Int.toNat_natCast, hhas, Option.bind_some, w64_succ h0 h1 (by omega)]
        cases okX x sizes l c with
        | false => rfl
        | true =>
          simp only [Bool.not_true, Bool.not_false, if_true]
          rw [if_pos ⟨by simp only [List.length_singleton]; omega, by simp⟩]
          cases impl_Colouring_extensions_on_ExtensionList_c1 k x sizes (splicedL ds (0 + n) ([(c : Int)].length) [(c : Int)]) (n + [(c : Int)].length) t with
          | none => rfl
          | some r => cases hr : r.1 <;> simp [hr]
      cases hok : okX x sizes l c with
      | false =>
        left
        refine ⟨(ds, t), ?_, by omega, q2, q3, ?_, q5⟩
        · show impl_Colouring_extensions_on_ExtensionList_c1_l0 k (impl_Colouring_extensions_on_ExtensionList_c1 k) x sizes cs n (k' + 1) c ds t = _
          rw [hstep, hok]; rfl
        · rw [show ((c : Int) + 1).toNat = c + 1 by omega, hpre]
          unfold esub
          rw [hok, if_neg (by simp), List.append_nil]
          exact q4
      | true =>
        obtain ⟨p1, p2⟩ := spl_one ds n c (by omega)
        rw [q3] at p2
        obtain ⟨es, g1, g2, g3, g4⟩ := ih (splicedL ds (0 + n) ([(c : Int)].length) [(c : Int)]) (n + 1) t k (by omega) (by rw [p1, q2]) q5 (by omega)
        rw [p2] at g2 g3 g4
        have g2' : es.take n = l := by
          have : (es.take (n + 1)).take n = (l ++ [(c : Int)]).take n := by rw [g2]
          have e2 : (l ++ [(c : Int)]).take n = l := by rw [List.take_append_of_le_length (by omega), List.take_of_length_le (by omega)]
          rw [List.take_take, show min n (n + 1) = n by omega, e2] at this
          exact this
        have hsub : esub x.k.toNat (okX x sizes) d l c = exts x.k.toNat (okX x sizes) d (l ++ [(c : Int)]) := by unfold esub; rw [hok, if_pos rfl]
        have hr2 : runT cb (epre x.k.toNat (okX x sizes) d l (c + 1)) s = runT cb (exts x.k.toNat (okX x sizes) d (l ++ [(c : Int)])) t := by
          rw [hpre, runT_app, q4, hsub]; rfl
        rw [show n + [(c : Int)].length = n + 1 from rfl] at hstep
        cases hb : (runT cb (exts x.k.toNat (okX x sizes) d (l ++ [(c : Int)])) t).1 with
        | true =>
          left
          refine ⟨(es, (runT cb (exts x.k.toNat (okX x sizes) d (l ++ [(c : Int)])) t).2), ?_, by omega, g1, g2', ?_, g4 hb⟩
          · show impl_Colouring_extensions_on_ExtensionList_c1_l0 k (impl_Colouring_extensions_on_ExtensionList_c1 k) x sizes cs n (k' + 1) c ds t = _
            rw [hstep, hok, if_pos rfl, g3, hb]; rfl
          · rw [show ((c : Int) + 1).toNat = c + 1 by omega, hr2, ← hb]
        | false =>
          right
          refine ⟨.inr (false, es, (runT cb (exts x.k.toNat (okX x sizes) d (l ++ [(c : Int)])) t).2), ?_, es, g1, g2', .inr ⟨_, rfl, ?_⟩⟩
          · show impl_Colouring_extensions_on_ExtensionList_c1_l0 k (impl_Colouring_extensions_on_ExtensionList_c1 k) x sizes cs n (k' + 1) c ds t = _
            rw [hstep, hok, if_pos rfl, g3, hb]; rfl
          · rw [hB, runT_app, hr2, hb]; rfl
    · rintro k' j ⟨ds, t⟩ h0 h1 ⟨q1, q2, q3, q4, q5⟩
      dsimp only at q2 q3 q4 q5
      refine ⟨.inl (ds, t), ?_, ds, q2, q3, .inl ⟨t, rfl, ?_, q5⟩⟩
      · show impl_Colouring_extensions_on_ExtensionList_c1_l0 k (impl_Colouring_extensions_on_ExtensionList_c1 k) x sizes cs n (k' + 1) j ds t = _
        rw [impl_Colouring_extensions_on_ExtensionList_c1_l0, if_neg (by simp only [decide_eq_true_eq]; omega)]
      · rw [show x.k.toNat = j.toNat by omega]
        rw [show j.toNat = x.k.toNat by omega] at q4 ⊢
        exact q4

/-- The points of a colour in l, as a set. -/
def setN (l : List Int) (c : Nat) : Nat := bitsN (fun p => decide (l.getD p 0 = (c : Int))) l.length
theorem setN_test (l : List Int) (c j : Nat) : (setN l c).testBit j = (decide (j < l.length) && decide (l.getD j 0 = (c : Int))) := bitsN_test _ _ _
theorem setN_lt (l : List Int) (c : Nat) : setN l c < 2 ^ l.length := bitsN_lt _ _
theorem setN_nil (c : Nat) : setN [] c = 0 := by
  apply bits_eq
  intro i
  rw [setN_test, Nat.zero_testBit]; simp
theorem setN_app (l : List Int) (d c : Nat) : setN (l ++ [(d : Int)]) c = if d = c then setN l c ||| 2 ^ l.length else setN l c := by
  apply bits_eq
  intro i
  rw [setN_test]
  have hlen : (l ++ [(d : Int)]).length = l.length + 1 := by simp
  rw [hlen]
  by_cases h1 : i < l.length
  · have hg : (l ++ [(d : Int)]).getD i 0 = l.getD i 0 := by simp [List.getD, List.getElem?_append, h1]
    rw [hg]
    have h2 : ¬ l.length = i := by omega
    split
    · rw [add_bit, setN_test]; simp [h1, h2, show i < l.length + 1 by omega]
    · rw [setN_test]; simp [h1, show i < l.length + 1 by omega]
  · by_cases h2 : l.length = i
    · subst h2
      have hg : (l ++ [(d : Int)]).getD l.length 0 = (d : Int) := by simp [List.getD]
      rw [hg]
      by_cases h3 : d = c
      · rw [if_pos h3, add_bit]; simp [h3]
      · rw [if_neg h3, setN_test]
        have : ¬ (d : Int) = (c : Int) := by omega
        simp [this]
    · have h4 : ¬ i < l.length + 1 := by omega
      split
      · rw [add_bit, setN_test]; simp [h1, h2, h4]
      · rw [setN_test]; simp [h1, h4]

def setsOK (x : Col) (l sets : List Int) : Prop := (sets.length : Int) = x.k ∧ ∀ c : Nat, (c : Int) < x.k → sets.getD c 0 = ((setN l c : Nat) : Int)

theorem near_mem (x : Col) (l : List Int) (c : Nat) (hl : l.length ≤ x.p.toNat) : mem (setN l c &&& nb x c l.length) 0 x.p.toNat = nearL x l c := by
  unfold mem nearL
  rw [ir_split hl, List.filter_append]
  have h2 : (ir l.length x.p.toNat).filter (fun a => (setN l c &&& nb x c l.length).testBit a.toNat) = [] := by
    rw [List.filter_eq_nil_iff]
    intro a ha
    have := mem_ir.1 ha
    rw [Nat.testBit_and, setN_test, decide_eq_false (by omega : ¬ a.toNat < l.length)]
    simp
  rw [h2, List.append_nil]
  refine List.filter_congr fun a ha => ?_
  have hm := mem_ir.1 ha
  obtain ⟨i, rfl⟩ : ∃ i : Nat, a = i := ⟨a.toNat, by omega⟩
  rw [Int.toNat_natCast, Nat.testBit_and, setN_test, nb_test, decide_eq_true (by omega : i < l.length), decide_eq_true (by omega : i < x.p.toNat), aB_comm]
  simp

theorem skip_val {x : Col} (hp : 1 ≤ x.p ∧ x.p ≤ 17) {sizes : List Int} (h : szOK x sizes) {l sets : List Int} (hs : setsOK x l sets) {c : Nat} (hc : (c : Int) < x.k) (hl : (l.length : Int) < x.p) (k : Nat) (hk : 300 ≤ k) :
    ((if 0 ≤ (c : Int) ∧ (c : Int) < (sizes.length : Int) then (if decide ((sizes.getD (c : Int).toNat 0) < 2) then some true else (if 0 ≤ (c : Int) ∧ (c : Int) < (sets.length : Int) then (spec_l01Around k x (l.length : Int) (c : Int)).bind fun r11 => (if 0 ≤ (c : Int) ∧ (c : Int) < (sizes.length : Int) then (spec_l03Clique k x c (bAnd .i64 (sets.getD (c : Int).toNat 0) r11) (w64 ((sizes.getD (c : Int).toNat 0) - 2))).bind fun r13 => some r13 else none) else none)) else none) : Option Bool) = some (!okX x sizes l c) := by
  obtain ⟨z1, z2, z3⟩ := sz_get h hc
  rw [if_pos ⟨by omega, by omega⟩, Int.toNat_natCast]
  unfold okX
  by_cases h2 : sizes.getD c 0 < 2
  · rw [if_pos (decide_eq_true h2), show (sizes.getD c 0 - 2).toNat = 0 by omega, cl_zero]; simp
  · have h63 : setN l c < 2 ^ 63 := lt63 (lt17 (setN_lt l c) (by omega))
    have hlt : setN l c &&& nb x c l.length < 2 ^ x.p.toNat := Nat.lt_of_le_of_lt Nat.and_le_right (bitsN_lt _ _)
    obtain ⟨m, hm⟩ : ∃ m : Nat, sizes.getD c 0 - 2 = m := ⟨(sizes.getD c 0 - 2).toNat, by omega⟩
    rw [if_neg (by simpa using h2), if_pos ⟨by omega, by have := hs.1; omega⟩, around_nb k x hp (by omega) c l.length hl, Option.bind_some, if_pos ⟨by omega, by omega⟩, hs.2 c hc, bAnd_nat h63 (nb_lt x hp c _), w64_id (by omega), hm, clique3_val x hp c m _ k hlt (by omega), near_mem x l c (by omega), Int.toNat_natCast, Option.bind_some]
    by_cases e : cl (aB x c) m (nearL x l c) = [] <;> simp [e]

theorem sets_next {x : Col} {l sets : List Int} (hs : setsOK x l sets) {c : Nat} (hc : (c : Int) < x.k) (hl : l.length ≤ 17) :
    setsOK x (l ++ [(c : Int)]) (sets.set c (bOr .i64 (sets.getD c 0) (bShl .i64 1 (IntKind.u64.wrap (l.length : Int))))) := by
  have hcl : c < sets.length := by have := hs.1; omega
  refine ⟨by rw [List.length_set]; exact hs.1, fun d hd => ?_⟩
  have h63 : setN l c < 2 ^ 63 := lt63 (lt17 (setN_lt l c) hl)
  have hp63 : 2 ^ l.length < 2 ^ 63 := Nat.pow_lt_pow_right (by omega) (by omega)
  rw [setN_app]
  by_cases e : d = c
  · subst e
    rw [if_pos rfl, hs.2 d hc, u64_id (by omega), bShl_one (by omega), bOr_nat h63 hp63]
    simp [List.getD, hcl]
  · rw [if_neg (fun h => e h.symm)]
    have : (sets.set c (bOr .i64 (sets.getD c 0) (bShl .i64 1 (IntKind.u64.wrap (l.length : Int))))).getD d 0 = sets.getD d 0 := by
      simp only [List.getD, List.getElem?_set]
      rw [if_neg (fun h => e h.symm)]
    rw [this]
    exact hs.2 d hd

theorem search_val {x : Col} (hp : 1 ≤ x.p ∧ x.p ≤ 17) (hk4 : 0 ≤ x.k ∧ x.k ≤ 4) {sizes : List Int} (h : szOK x sizes) :
    ∀ (d : Nat) (l sets : List Int) (most k : Nat), l.length + d = x.p.toNat → setsOK x l sets → 1 ≤ most → most ≤ 2097152 → d + 400 ≤ k →
      spec_l05Search k x sizes l sets most = some ((exts x.k.toNat (okX x sizes) d l).take most) := by
  intro d
  induction d with
  | zero =>
    intro l sets most k hl hs hm hm2 hk
    obtain ⟨k, rfl⟩ : ∃ q, k = q + 1 := ⟨k - 1, by omega⟩
    rw [spec_l05Search, spec_l05Search_body, if_pos (decide_eq_true (by omega)), exts_zero, List.take_of_length_le (by simp; omega)]
  | succ d ih =>
    intro l sets most k hl hs hm hm2 hk
    have hs4 : sets.length ≤ 4 := by have := hs.1; omega
    obtain ⟨k, rfl⟩ : ∃ q, k = q + 1 := ⟨k - 1, by omega⟩
    rw [spec_l05Search, spec_l05Search_body, if_neg (by simp only [decide_eq_true_eq]; omega), exts_succ]
    have := loopI (f := fun k' c (st : List (List Int)) => spec_l05Search_l0 k (spec_l05Search k) x sizes l sets (most : Int) k' c st) x.k 0
      (fun c st => c ≤ x.k ∧ st = (epre x.k.toNat (okX x sizes) d l c.toNat).take most) (fun r => r = (epre x.k.toNat (okX x sizes) d l x.k.toNat).take most) ?_ ?_ k 0 [] (by omega) (by omega) ⟨by omega, by simp [epre_zero]⟩
    · obtain ⟨r, e, rfl⟩ := this
      rw [e]; rfl
    · rintro k' j st h0 h1 ⟨q1, rfl⟩
      obtain ⟨c, rfl⟩ : ∃ c : Nat, j = c := ⟨j.toNat, by omega⟩
      rw [Int.toNat_natCast]
      obtain ⟨B, hB⟩ := epre_more (K := x.k.toNat) (ok := okX x sizes) (n := d) (l := l) c (x.k.toNat - c)
      rw [show c + (x.k.toNat - c) = x.k.toNat by omega] at hB
      have hpre := epre_succ (K := x.k.toNat) (ok := okX x sizes) (n := d) (l := l) c
      by_cases hfull : ((epre x.k.toNat (okX x sizes) d l c).take most).length < most
      · left
        have hA : (epre x.k.toNat (okX x sizes) d l c).length < most := by rw [List.length_take] at hfull; omega
        have hst : (epre x.k.toNat (okX x sizes) d l c).take most = epre x.k.toNat (okX x sizes) d l c := List.take_of_length_le (by omega)
        refine ⟨(epre x.k.toNat (okX x sizes) d l (c + 1)).take most, ?_, by omega, by rw [show ((c : Int) + 1).toNat = c + 1 by omega]⟩
        show spec_l05Search_l0 k (spec_l05Search k) x sizes l sets (most : Int) (k' + 1) c _ = _
        rw [hst, hpre]
        generalize epre x.k.toNat (okX x sizes) d l c = A at hA
        rw [spec_l05Search_l0, skip_val hp h hs h1 (by omega) k (by omega), w64_succ h0 h1 (by omega)]
        simp only [letO, h1, decide_true, if_true, show (A.length : Int) < (most : Int) by omega, Option.bind_some]
        cases hok : okX x sizes l c with
        | false =>
          have hsub : esub x.k.toNat (okX x sizes) d l c = [] := by unfold esub; rw [hok, if_neg (by simp)]
          rw [hsub, List.append_nil, List.take_of_length_le (by omega)]
          simp
        | true =>
          have hsub : esub x.k.toNat (okX x sizes) d l c = exts x.k.toNat (okX x sizes) d (l ++ [(c : Int)]) := by unfold esub; rw [hok, if_pos rfl]
          have hcl : (c : Int) < (sets.length : Int) := by have := hs.1; omega
          have hu : (0 : Int) ≤ IntKind.u64.wrap (l.length : Int) := by rw [u64_id (by omega)]; omega
          have hrec := ih (l ++ [(c : Int)]) (sets.set c (bOr .i64 (sets.getD c 0) (bShl .i64 1 (IntKind.u64.wrap (l.length : Int))))) (most - A.length) k (by simp; omega) (sets_next hs h1 (by omega)) (by omega) (by omega) (by omega)
          have hmm : w64 ((most : Int) - (A.length : Int)) = ((most - A.length : Nat) : Int) := by rw [w64_id (by omega)]; omega
          simp only [Bool.not_true, Bool.false_eq_true, if_false, Option.bind_some, spec_l01Own, List.nil_append, List.length_nil, Nat.zero_add]
          rw [if_pos (by omega), Option.bind_some, if_pos ⟨h0, hcl⟩, if_pos hu, if_pos ⟨h0, hcl⟩, if_pos (by omega), Option.bind_some, if_pos (by simp; omega), Int.toNat_natCast, hmm, hrec, Option.bind_some]
          have htl : ((exts x.k.toNat (okX x sizes) d (l ++ [(c : Int)])).take (most - A.length)).length ≤ most := by rw [List.length_take]; omega
          rw [if_pos (by omega), hsub, take_app_le _ _ _ (by omega)]
          rfl
      · right
        refine ⟨(epre x.k.toNat (okX x sizes) d l c).take most, ?_, ?_⟩
        · show spec_l05Search_l0 k (spec_l05Search k) x sizes l sets (most : Int) (k' + 1) c _ = _
          rw [spec_l05Search_l0]
          have : ¬ (((epre x.k.toNat (okX x sizes) d l c).take most).length : Int) < (most : Int) := by omega
          simp only [letO, h1, decide_true, if_true, this, decide_false, Bool.false_eq_true, if_false, Option.bind_some]
        · rw [List.length_take] at hfull
          rw [hB, List.take_append_of_le_length (by omega)]
    · rintro k' j st h0 h1 ⟨q1, rfl⟩
      refine ⟨(epre x.k.toNat (okX x sizes) d l x.k.toNat).take most, ?_, rfl⟩
      show spec_l05Search_l0 k (spec_l05Search k) x sizes l sets (most : Int) (k' + 1) j _ = _
      have : ¬ j < x.k := by omega
      rw [spec_l05Search_l0, show j.toNat = x.k.toNat by omega]
      simp only [letO, this, decide_false, Bool.false_eq_true, if_false, Option.bind_some]

/-! ### Numbers by degree -/

/-! ### Codes -/
open Classical in
noncomputable def eC (x : Col) (sizes : List Int) : Int := if x.is then (if szOK x sizes then 0 else 2) else 1
open Classical in
noncomputable def eS (x : Col) (sizes : List Int) (lim : Int) : Int := if eC x sizes = 0 then (if avoidsP x sizes then (if lim < x.p then 3 else 0) else 5) else eC x sizes

theorem eC_zero {x : Col} {sizes : List Int} (h : eC x sizes = 0) : x.is ∧ szOK x sizes := by
  unfold eC at h
  split at h
  · split at h
    · exact ⟨by assumption, by assumption⟩
    · omega
  · omega
theorem eS_zero {x : Col} {sizes : List Int} {lim : Int} (h : eS x sizes lim = 0) : x.is ∧ szOK x sizes ∧ avoidsP x sizes ∧ x.p ≤ lim := by
  unfold eS at h
  split at h
  · rename_i h0
    obtain ⟨h1, h2⟩ := eC_zero h0
    split at h
    · split at h
      · omega
      · exact ⟨h1, h2, by assumption, by omega⟩
    · omega
  · exact absurd h (by assumption)
theorem is_range {x : Col} (h : x.is) : (1 ≤ x.p ∧ x.p ≤ 17) ∧ 1 ≤ x.k ∧ x.k ≤ 4 := ⟨h.1, h.2.1⟩

theorem specSizes_val (sizes : List Int) (K : Int) (k : Nat) (hk : sizes.length + 1 ≤ k) (hl : sizes.length ≤ 1048576) : spec_l05Sizes k sizes K = some (if (sizes.length : Int) = K ∧ ∀ z ∈ sizes, 1 ≤ z ∧ z ≤ 17 then 0 else 2) := by
  classical
  unfold spec_l05Sizes
  by_cases h : (sizes.length : Int) = K
  · rw [if_neg (by simpa using h), loopAll (f := fun k' i => spec_l05Sizes_l0 sizes k' i) (sizes.length : Int) 2 (fun i => 1 ≤ sizes.getD i.toNat 0 ∧ sizes.getD i.toNat 0 ≤ 17) 0 ?_ ?_ ?_ k 0 (by omega) (by omega), Option.bind_some]
    · by_cases hq : ∀ z ∈ sizes, 1 ≤ z ∧ z ≤ 17
      · rw [if_pos, if_pos ⟨h, hq⟩]
        exact fun j h0 h1 => hq _ (mem_getD.2 ⟨j.toNat, by omega, rfl⟩)
      · rw [if_neg, if_neg (fun q => hq q.2)]
        intro h2
        refine hq fun z hz => ?_
        obtain ⟨a, h3, h4⟩ := mem_getD.1 hz
        have := h2 a (by omega) (by omega)
        rw [Int.toNat_natCast, h4] at this
        exact this
    all_goals intro k' i h0
    · intro h1 hq
      show spec_l05Sizes_l0 sizes (k' + 1) i = _
      rw [spec_l05Sizes_l0, if_pos (decide_eq_true h1), if_pos ⟨h0, h1⟩, specIn_eq, decide_eq_true hq, if_neg (by simp), w64_succ h0 h1 (by omega)]
    · intro h1 hq
      show spec_l05Sizes_l0 sizes (k' + 1) i = _
      rw [spec_l05Sizes_l0, if_pos (decide_eq_true h1), if_pos ⟨h0, h1⟩, specIn_eq, decide_eq_false hq, if_pos (by simp)]
    · show spec_l05Sizes_l0 sizes (k' + 1) i = _
      rw [spec_l05Sizes_l0, if_neg (by simp only [decide_eq_true_eq]; omega)]
  · rw [if_pos (by simpa using h), if_neg (fun q => h q.1)]

theorem specCode_val {k : Nat} (hk : 2000000 ≤ k) (x : Col) (sizes : List Int) (hl : sizes.length ≤ 1048576) : spec_l05Code k x sizes = some (eC x sizes) := by
  classical
  unfold spec_l05Code eC
  rw [specIs_eq k (by omega), Option.bind_some]
  by_cases h : x.is
  · rw [if_neg (by simpa using h), specSizes_val sizes x.k k (by omega) hl, if_pos h]
    by_cases h2 : szOK x sizes
    · rw [if_pos h2, if_pos (show (sizes.length : Int) = x.k ∧ ∀ z ∈ sizes, 1 ≤ z ∧ z ≤ 17 from h2)]; rfl
    · rw [if_neg h2, if_neg (show ¬ ((sizes.length : Int) = x.k ∧ ∀ z ∈ sizes, 1 ≤ z ∧ z ≤ 17) from h2)]; rfl
  · rw [if_pos (by simpa using h), if_neg h]

theorem whole_all (x : Col) (hp : 1 ≤ x.p ∧ x.p ≤ 17) : w64 ((bShl .i64 1 (IntKind.u64.wrap x.p)) - 1) = ((2 ^ x.p.toNat - 1 : Nat) : Int) ∧ 2 ^ x.p.toNat - 1 < 2 ^ x.p.toNat ∧ (0 : Int) ≤ IntKind.u64.wrap x.p := by
  obtain ⟨n, hn⟩ := nat_of (show 0 ≤ x.p by omega)
  have h2 : 2 ^ n < 2 ^ 18 := Nat.pow_lt_pow_right (by omega) (by omega)
  have h0 : 0 < 2 ^ n := Nat.two_pow_pos n
  rw [u64_id (by omega), hn, bShl_one (by omega)]
  simp only [Int.toNat_natCast]
  refine ⟨?_, by omega, by omega⟩
  rw [w64_id (by omega)]; omega

theorem specAvoids_val {k : Nat} (hk : 2000000 ≤ k) (x : Col) (hp : 1 ≤ x.p ∧ x.p ≤ 17) (sizes : List Int) (h : szOK x sizes) (hk4 : 1 ≤ x.k ∧ x.k ≤ 4) : ∃ b, spec_l05Avoids k x sizes = some b ∧ (b = true ↔ avoidsP x sizes) := by
  classical
  obtain ⟨w1, w2, w3⟩ := whole_all x hp
  unfold spec_l05Avoids
  have hval : ∀ c : Nat, (c : Int) < x.k → spec_l03Clique k x c (w64 ((bShl .i64 1 (IntKind.u64.wrap x.p)) - 1)) (sizes.getD c 0) = some (decide (cl (aB x c) (sizes.getD c 0).toNat (pts x) ≠ [])) := fun c hc => by
    obtain ⟨z1, z2, _⟩ := sz_get h hc
    obtain ⟨m, hm⟩ : ∃ m : Nat, sizes.getD c 0 = m := ⟨(sizes.getD c 0).toNat, by omega⟩
    rw [w1, hm, clique3_val x hp c m _ k w2 (by omega), mem_all, Int.toNat_natCast]
    rfl
  rw [loopAll (f := fun k' i => spec_l05Avoids_l0 k x sizes k' i) x.k false (fun i => cl (aB x i) (sizes.getD i.toNat 0).toNat (pts x) = []) 0 ?_ ?_ ?_ k 0 (by omega) (by omega), Option.bind_some]
  · by_cases hq : avoidsP x sizes
    · refine ⟨true, ?_, by simp [hq]⟩
      rw [if_pos]
      intro j h0 h1
      have := hq j.toNat (by have := h.1; omega)
      rw [show ((j.toNat : Nat) : Int) = j by omega] at this
      exact this
    · refine ⟨false, ?_, by simp [hq]⟩
      rw [if_neg]
      intro h2
      refine hq fun c hc => ?_
      have := h2 c (by omega) (by have := h.1; omega)
      rw [Int.toNat_natCast] at this
      exact this
  all_goals intro k' i h0
  · intro h1 hq
    obtain ⟨c, rfl⟩ : ∃ c : Nat, i = c := ⟨i.toNat, by omega⟩
    show spec_l05Avoids_l0 k x sizes (k' + 1) c = _
    rw [Int.toNat_natCast] at hq
    rw [spec_l05Avoids_l0, if_pos (decide_eq_true h1), if_pos w3, if_pos ⟨h0, by have := h.1; omega⟩, Int.toNat_natCast, hval c h1, Option.bind_some, if_neg (by rw [hq]; simp), w64_succ h0 h1 (by omega)]
  · intro h1 hq
    obtain ⟨c, rfl⟩ : ∃ c : Nat, i = c := ⟨i.toNat, by omega⟩
    show spec_l05Avoids_l0 k x sizes (k' + 1) c = _
    rw [Int.toNat_natCast] at hq
    rw [spec_l05Avoids_l0, if_pos (decide_eq_true h1), if_pos w3, if_pos ⟨h0, by have := h.1; omega⟩, Int.toNat_natCast, hval c h1, Option.bind_some, if_pos (decide_eq_true hq)]
  · show spec_l05Avoids_l0 k x sizes (k' + 1) i = _
    rw [spec_l05Avoids_l0, if_neg (by simp only [decide_eq_true_eq]; omega)]

theorem specSmall_val {k : Nat} (hk : 2000000 ≤ k) (x : Col) (sizes : List Int) (hl : sizes.length ≤ 1048576) : spec_l05Small k x sizes = some (eS x sizes 12) := by
  classical
  unfold spec_l05Small spec_l05Given
  rw [specCode_val hk x sizes hl, Option.bind_some]
  unfold eS
  by_cases h : eC x sizes = 0
  · obtain ⟨hi, hz⟩ := eC_zero h
    obtain ⟨hp, hk4⟩ := is_range hi
    obtain ⟨b, e, hb⟩ := specAvoids_val hk x hp sizes hz hk4
    rw [if_pos (decide_eq_true h), e, if_pos h]
    cases b with
    | true =>
      rw [if_pos (hb.1 rfl), h]
      by_cases h12 : 12 < x.p
      · simp [letO, h12]
      · simp [letO, h12]
    | false =>
      rw [if_neg (fun q => by have := hb.2 q; cases this)]
      simp [letO]
  · rw [if_neg (by simpa using h), if_neg h]
    simp [letO, h]

theorem implExt_val {k : Nat} (hk : 2000000 ≤ k) (x : Col) (sizes : List Int) (hl : sizes.length ≤ 1048576) (lim : Int) : impl_Colouring_extendingCode k x sizes (some true) lim = some (eS x sizes lim) := by
  classical
  unfold impl_Colouring_extendingCode eS eC
  obtain ⟨s1, s2⟩ := sizesCode_val hk x sizes hl true
  by_cases h : x.is
  · obtain ⟨hp, hk4⟩ := is_range h
    by_cases h2 : szOK x sizes
    · have e1 : impl_Colouring_sizesCode k x sizes (some true) = some 0 := by rw [s2 h, if_pos ⟨h2, rfl⟩]
      rw [e1, Option.bind_some, if_neg (by simp), if_pos h, if_pos h2, if_pos rfl, avoids_loop hk x hp sizes h2.2 hl, Option.bind_some]
      by_cases h3 : avoidsP x sizes
      · rw [if_neg (by simpa using h3), if_pos h3]
        by_cases h4 : lim < x.p
        · rw [if_pos (decide_eq_true h4), if_pos h4]
        · rw [if_neg (by simpa using h4), if_neg h4]
      · rw [if_pos (by simpa using h3), if_neg h3]
    · have e1 : impl_Colouring_sizesCode k x sizes (some true) = some 2 := by rw [s2 h, if_neg (fun q => h2 q.1)]
      rw [e1, Option.bind_some, if_pos (by simp), if_pos h, if_neg h2, if_neg (by omega)]
  · rw [s1 h, Option.bind_some, if_pos (by simp), if_neg h, if_neg (by omega)]

/-! ### All extensions -/
def EX (x : Col) (sizes : List Int) : List (List Int) := exts x.k.toNat (okX x sizes) x.p.toNat []

theorem no_one {x : Col} {sizes : List Int} (hp : 1 ≤ x.p) (h : avoidsP x sizes) : ∀ z ∈ sizes, z ≠ 1 := by
  intro z hz e
  obtain ⟨c, h1, h2⟩ := mem_getD.1 hz
  have := h c h1
  rw [h2, e, show (1 : Int).toNat = 0 + 1 from rfl] at this
  unfold pts at this
  rw [ir_next (by omega : 0 < x.p.toNat), cl_cons, cl_zero] at this
  simp at this

theorem all_val {k : Nat} (hk : 2000000 ≤ k) {x : Col} (hp : 1 ≤ x.p ∧ x.p ≤ 17) (hk4 : 1 ≤ x.k ∧ x.k ≤ 4) {sizes : List Int} (h : szOK x sizes) (h1 : ∀ z ∈ sizes, z ≠ 1) (most : Nat) (hm : 1 ≤ most) (hm2 : most ≤ 2097152) :
    spec_l05All k x sizes most = some ((EX x sizes).take most) := by
  unfold spec_l05All
  have hl4 := h.1
  rw [loopAll (f := fun k' i => spec_l05All_l0 sizes k' i) (sizes.length : Int) [] (fun i => sizes.getD i.toNat 0 ≠ 1) 0 ?_ ?_ ?_ k 0 (by omega) (by omega), Option.bind_some, if_pos]
  · dsimp only
    rw [if_pos ⟨by omega, by omega, by omega⟩]
    have hs0 : setsOK x [] (List.replicate x.k.toNat (0 : Int)) := ⟨by simp; omega, fun c hc => by
      rw [setN_nil]
      simp [List.getD, List.getElem?_replicate, show c < x.k.toNat by omega]⟩
    rw [search_val hp (by omega) h x.p.toNat [] _ most k (by simp) hs0 hm hm2 (by omega)]
    rfl
  · exact fun j h0 h2 => h1 _ (mem_getD.2 ⟨j.toNat, by omega, rfl⟩)
  all_goals intro k' i h0
  · intro h2 hq
    show spec_l05All_l0 sizes (k' + 1) i = _
    rw [spec_l05All_l0, if_pos (decide_eq_true h2), if_pos ⟨h0, h2⟩, if_neg (by simpa using hq), w64_succ h0 h2 (by omega)]
  · intro h2 hq
    show spec_l05All_l0 sizes (k' + 1) i = _
    rw [spec_l05All_l0, if_pos (decide_eq_true h2), if_pos ⟨h0, h2⟩, if_pos (decide_eq_true (Classical.not_not.1 hq))]
  · show spec_l05All_l0 sizes (k' + 1) i = _
    rw [spec_l05All_l0, if_neg (by simp only [decide_eq_true_eq]; omega)]

/-! ### Numbers by degree -/

theorem EX_len {x : Col} {sizes : List Int} : ∀ e ∈ EX x sizes, e.length = x.p.toNat := fun e he => by
  have := exts_len _ _ e he
  simpa using this
/-! ### The first one -/
/-! ### Lists -/
def cbL (l : List Int) (s : List (List Int)) : Bool × List (List Int) := (decide (((s ++ [l]).length : Int) ≤ 200), s ++ [l])
theorem runL_val : ∀ (L s : List (List Int)), s.length ≤ 200 → (s.length + L.length ≤ 200 → runT cbL L s = (true, s ++ L)) ∧ (200 < s.length + L.length → (runT cbL L s).1 = false)
  | [], s, h => ⟨fun _ => by simp [runT], fun h2 => by simp at h2; omega⟩
  | a :: t, s, h => by
    rw [runT]
    by_cases h2 : s.length < 200
    · have hb : (cbL a s).1 = true := by unfold cbL; simp; omega
      have := runL_val t (s ++ [a]) (by simp; omega)
      rw [if_pos hb]
      have e2 : (cbL a s).2 = s ++ [a] := rfl
      rw [e2]
      refine ⟨fun h3 => ?_, fun h3 => this.2 (by simp at h3 ⊢; omega)⟩
      rw [this.1 (by simp at h3 ⊢; omega)]
      simp
    · have hb : (cbL a s).1 = false := by unfold cbL; simp; omega
      rw [if_neg (by rw [hb]; simp)]
      exact ⟨fun h3 => by simp at h3; omega, fun _ => rfl⟩

theorem listExt_val {k : Nat} (hk : 2000000 ≤ k) (x : Col) (sizes : List Int) (hl : sizes.length ≤ 1048576) : ∃ o c, impl_ExtensionList k x sizes = some (o, c) ∧ spec_ExtensionList k x sizes = some (o.getD [], c) ∧ (eS x sizes 12 = 0 → (c = 0 → o = some (EX x sizes))) ∧ (o.getD []).length ≤ 200 ∧ (∀ e ∈ o.getD [], e.length ≤ 100) ∧ (c ≠ 0 → o = none) ∧ (c = 0 → eS x sizes 12 = 0) := by
  unfold impl_ExtensionList spec_ExtensionList impl_always
  rw [implExt_val hk x sizes hl 12, specSmall_val hk x sizes hl, Option.bind_some, Option.bind_some]
  by_cases h : eS x sizes 12 = 0
  · obtain ⟨hi, hz, ha, h12⟩ := eS_zero h
    obtain ⟨hp, hk4⟩ := is_range hi
    rw [if_neg (by simpa using h), if_neg (by simpa using h)]
    have hall := all_val hk hp hk4 hz (no_one hp.1 ha) 201 (by omega) (by omega)
    rw [show ((201 : Nat) : Int) = 201 from rfl] at hall
    rw [hall]
    unfold impl_Colouring_extend_on_ExtensionList_c1
    obtain ⟨cs', _, _, e, _⟩ := run_ExtensionList_c1 x (by omega) (by omega) sizes hz cbL (fun s => s.length ≤ 200) (fun k cs s h1 h2 h3 => ⟨by
      unfold impl_ExtensionList_c1 cloneA cbL
      have hne : ((cs.drop 0).take x.p.toNat).isEmpty = false := by
        rw [List.drop_zero, List.isEmpty_eq_false_iff]
        intro h
        have := congrArg List.length h
        rw [List.length_take, List.length_nil] at this
        omega
      rw [hne, if_neg (by simp), if_pos (by simp; omega), Option.bind_some, if_pos (by simp; omega)]
      rfl, fun h4 => by
        have : ((s ++ [cs.take x.p.toNat]).length : Int) ≤ 200 := of_decide_eq_true h4
        show (s ++ [cs.take x.p.toNat]).length ≤ 200
        omega⟩) x.p.toNat (List.replicate 17 0) 0 [] k (by omega) (by simp) (by simp) (by omega)
    rw [e, List.take_zero]
    have hrun := runL_val (EX x sizes) [] (by simp)
    have hlen := EX_len (x := x) (sizes := sizes)
    change ∃ o c, ((some ((runT cbL (EX x sizes) []).1, cs', (runT cbL (EX x sizes) []).2)).bind _).bind _ = _ ∧ _
    generalize EX x sizes = L at *
    rw [List.length_nil, Nat.zero_add] at hrun
    by_cases h200 : L.length ≤ 200
    · refine ⟨some L, 0, ?_, ?_, fun _ _ => rfl, h200, fun e he => by have := hlen e he; omega, fun q => absurd rfl q, fun _ => h⟩
      · rw [hrun.1 h200]; rfl
      · rw [Option.bind_some, List.take_of_length_le (by omega), if_neg (by simp only [decide_eq_true_eq]; omega)]; rfl
    · refine ⟨none, 3, ?_, ?_, fun _ q => by omega, by simp, by simp, fun _ => rfl, fun q => by omega⟩
      · have := hrun.2 (by omega)
        simp only [Option.bind_some, this, Bool.not_false, if_true]
      · rw [Option.bind_some, if_pos (decide_eq_true (by rw [List.length_take]; omega))]; rfl
  · exact ⟨none, eS x sizes 12, by rw [if_pos (by simpa using h)], by rw [if_pos (by simpa using h)]; rfl, fun q => absurd q h, by simp, by simp, fun _ => rfl, fun q => absurd q h⟩

/-! ### Closed colourings -/
end Go.Proofs.Ytldgmcghdohmeaa
