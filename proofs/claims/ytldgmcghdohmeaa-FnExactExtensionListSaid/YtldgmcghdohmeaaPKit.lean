/- Plain Lean for the laws: loops that count up, whole numbers of 64 bits, edges' numbers. No program in sight. No conditions. -/
import Derived.Test.YtldgmcghdohmeaaCol
set_option linter.unusedVariables false
set_option linter.unusedSimpArgs false
namespace Go.Proofs.Ytldgmcghdohmeaa
open Go Go.RowKit Ab

theorem w64_id {n : Int} (h : -9223372036854775808 ≤ n ∧ n < 9223372036854775808) : w64 n = n := by
  show IntKind.i64.wrap n = n
  rw [IntKind.wrap_i64]; omega
theorem w64_succ {n m : Int} (h0 : 0 ≤ n) (h : n < m) (hm : m ≤ 9223372036854775807) : w64 (n + 1) = n + 1 := w64_id (by omega)
open Classical in
/-- A loop that looks for the first place where Q fails. -/
theorem loopAll {ρ : Type} (f : Nat → Int → Option (Sum Unit ρ)) (n : Int) (bad : ρ) (Q : Int → Prop) (a : Int)
    (hok : ∀ k i, a ≤ i → i < n → Q i → f (k + 1) i = f k (i + 1)) (hbad : ∀ k i, a ≤ i → i < n → ¬ Q i → f (k + 1) i = some (.inr bad))
    (hfin : ∀ k i, n ≤ i → f (k + 1) i = some (.inl ())) :
    ∀ k i, a ≤ i → (n - i).toNat < k → f k i = some (if ∀ j, i ≤ j → j < n → Q j then .inl () else .inr bad) := by
  intro k
  induction k with
  | zero => intro i h0 h; omega
  | succ k ih =>
    intro i h0 h
    by_cases hi : i < n
    · by_cases hq : Q i
      · rw [hok k i h0 hi hq, ih (i + 1) (by omega) (by omega)]
        congr 1
        have : (∀ j, i + 1 ≤ j → j < n → Q j) ↔ (∀ j, i ≤ j → j < n → Q j) := by
          constructor
          · intro h j h1 h2
            by_cases e : j = i
            · subst e; exact hq
            · exact h j (by omega) h2
          · intro h j h1 h2; exact h j (by omega) h2
        simp only [this]
      · rw [hbad k i h0 hi hq, if_neg]
        intro h; exact hq (h i (by omega) hi)
    · rw [hfin k i (by omega), if_pos]
      intro j h1 h2; omega

/-- A loop that changes a state at each place. -/
theorem loopFold {α σ : Type} (f : Nat → Int → σ → Option α) (n : Int) (g : Int → σ → σ) (e : σ → α) (a : Int)
    (hok : ∀ k i s, a ≤ i → i < n → f (k + 1) i s = f k (i + 1) (g i s)) (hfin : ∀ k i s, n ≤ i → f (k + 1) i s = some (e s)) (Inv : Int → σ → Prop)
    (hInv : ∀ i s, a ≤ i → i < n → Inv i s → Inv (i + 1) (g i s)) :
    ∀ k i s, a ≤ i → i ≤ n → (n - i).toNat < k → Inv i s → ∃ s', f k i s = some (e s') ∧ Inv n s' := by
  intro k
  induction k with
  | zero => intro i s h0 h; omega
  | succ k ih =>
    intro i s h0 h1 h hs
    by_cases hi : i < n
    · rw [hok k i s h0 hi]
      exact ih (i + 1) _ (by omega) (by omega) (by omega) (hInv i s h0 hi hs)
    · have : i = n := by omega
      subst this
      exact ⟨s, hfin k i s (by omega), hs⟩

/-- A loop with a state and exits. -/
theorem loopI {α σ : Type} (f : Nat → Int → σ → Option α) (n a : Int) (Inv : Int → σ → Prop) (Post : α → Prop)
    (hstep : ∀ k i s, a ≤ i → i < n → Inv i s → (∃ s', f (k + 1) i s = f k (i + 1) s' ∧ Inv (i + 1) s') ∨ (∃ r, f (k + 1) i s = some r ∧ Post r))
    (hfin : ∀ k i s, a ≤ i → n ≤ i → Inv i s → ∃ r, f (k + 1) i s = some r ∧ Post r) :
    ∀ k i s, a ≤ i → (n - i).toNat < k → Inv i s → ∃ r, f k i s = some r ∧ Post r := by
  intro k
  induction k with
  | zero => intro i s h0 h; omega
  | succ k ih =>
    intro i s h0 h hs
    by_cases hi : i < n
    · rcases hstep k i s h0 hi hs with ⟨s', e, hs'⟩ | h
      · rw [e]; exact ih (i + 1) s' (by omega) (by omega) hs'
      · exact h
    · exact hfin k i s h0 (by omega) hs

/-! ### Edges -/
/-- The number of the edge of two points. -/
def eN (i j : Nat) : Nat := if j < i then i * (i - 1) / 2 + j else j * (j - 1) / 2 + i
def tri (n : Nat) : Nat := n * (n - 1) / 2
theorem eN_comm (i j : Nat) : eN i j = eN j i := by
  unfold eN
  by_cases h : j < i
  · rw [if_pos h, if_neg (by omega)]
  · by_cases h' : i < j
    · rw [if_neg h, if_pos h']
    · have : i = j := by omega
      subst this; rfl
theorem eN_lt {i j n : Nat} (h : i < j) (hj : j < n) (hn : n ≤ 17) : eN i j < tri n := by
  have : ∀ n, n ≤ 17 → ∀ j, j < n → ∀ i, i < j → eN i j < tri n := by decide +kernel
  exact this n hn j hj i h
theorem tri_le {n : Nat} (h : n ≤ 17) : tri n ≤ 136 := by
  have : ∀ n, n ≤ 17 → tri n ≤ 136 := by decide +kernel
  exact this n h
theorem eN_136 {i j : Nat} (h : i ≠ j) (hi : i < 17) (hj : j < 17) : eN i j < 136 := by
  have : ∀ i, i < 17 → ∀ j, j < 17 → i ≠ j → eN i j < 136 := by decide +kernel
  exact this i hi j hj h
/-- The greater point of an edge. -/
def eHi (e : Nat) : Nat := ((List.range 16).filter fun t => decide (tri (t + 1) ≤ e)).length
theorem eN_inj {i j a b : Nat} (h : i < j) (hj : j < 17) (h' : a < b) (hb : b < 17) (e : eN i j = eN a b) : i = a ∧ j = b := by
  have this : ∀ j i : Fin 17, i.val < j.val → eHi (eN i.val j.val) = j.val := by decide +kernel
  have h1 := this ⟨j, hj⟩ ⟨i, by omega⟩ h
  have h2 := this ⟨b, hb⟩ ⟨a, by omega⟩ h'
  simp only at h1 h2
  rw [e, h2] at h1
  subst h1
  unfold eN at e
  rw [if_neg (by omega), if_neg (by omega)] at e
  exact ⟨by omega, rfl⟩
theorem eN_surj {n e : Nat} (hn : n ≤ 17) (h : e < tri n) : ∃ j, j < n ∧ ∃ i, i < j ∧ e = eN i j := by
  have : ∀ n, n ≤ 17 → ∀ e, e < tri n → ∃ j, j < n ∧ ∃ i, i < j ∧ e = eN i j := by decide +kernel
  exact this n hn e h
/-- The colour between two points. -/
def Col.c (x : Col) (i j : Nat) : UInt8 := x.e.get (eN i j)
theorem B136.get_set (x : B136) (i j : Nat) (b : UInt8) (hi : i < 136) : (x.set i b).get j = if j = i then b else x.get j := by
  unfold B136.set B136.get
  simp only [List.getD, List.getElem?_set, x.h, hi]
  by_cases h : i = j
  · subst h; simp
  · rw [if_neg h, if_neg (fun e => h e.symm)]
theorem B136.ext_get {x y : B136} (h : ∀ i, i < 136 → x.get i = y.get i) : x = y := by
  apply B136.ext'
  refine List.ext_getElem (by rw [x.h, y.h]) ?_
  intro i h1 h2
  have := h i (by rw [← x.h]; exact h1)
  simpa [B136.get, List.getD, h1, h2] using this
theorem B136.set_get (x : B136) (i : Nat) : x.set i (x.get i) = x := by
  by_cases hi : i < 136
  · apply B136.ext_get
    intro j hj
    rw [B136.get_set _ _ _ _ hi]
    split
    · next h => rw [h]
    · rfl
  · apply B136.ext'
    unfold B136.set
    simp only [List.set_eq_of_length_le (show x.l.length ≤ i by rw [x.h]; omega)]
theorem nat_of {n : Int} (h : 0 ≤ n) : ∃ m : Nat, n = m := ⟨n.toNat, by omega⟩

end Go.Proofs.Ytldgmcghdohmeaa
