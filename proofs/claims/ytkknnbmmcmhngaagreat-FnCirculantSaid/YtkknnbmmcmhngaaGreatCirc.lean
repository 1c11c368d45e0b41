/- Distances on a circle, multipliers, digits: finite facts. No program, no conditions beyond those that each lemma states. -/
import Derived.Test.YtkknnbmmcmhngaaGreatPKit
set_option linter.unusedVariables false
set_option linter.unusedSimpArgs false
namespace Go.Proofs.YtkknnbmmcmhngaaGreat
open Go Go.RowKit Ab

/-- The distance of two points of n. -/
def dst (n a b : Nat) : Nat := min (b - a + (a - b)) (n - (b - a + (a - b)))
theorem dst_range {n a b : Nat} (ha : a < n) (hb : b < n) (h : a ≠ b) : 1 ≤ dst n a b ∧ dst n a b ≤ n / 2 := by
  unfold dst
  rw [Nat.min_def]
  split <;> omega
theorem dst_comm (n a b : Nat) : dst n a b = dst n b a := by
  unfold dst
  rw [show b - a + (a - b) = a - b + (b - a) by omega]
def copr (t p : Nat) : Bool := Nat.gcd t p == 1
theorem turn_ne : ∀ p, p ≤ 17 → ∀ t, t < p → copr t p = true → ∀ d, d ≤ p / 2 → 1 ≤ d → t * d % p ≠ 0 := by
  have : ∀ p, p < 18 → ∀ t, t < p → ∀ d, d < p / 2 + 1 → (!copr t p || d == 0 || t * d % p != 0) = true := by decide +kernel
  intro p hp t ht h d hd h1 e
  have := this p (by omega) t ht d (by omega)
  rw [h, e] at this
  have : d = 0 := by simpa using this
  omega
theorem turn_dst : ∀ p, p ≤ 17 → ∀ t, t < p → copr t p = true → ∀ j, j < p → ∀ i, i < j → dst p (t * i % p) (t * j % p) = dst p 0 (t * dst p i j % p) ∧ t * i % p ≠ t * j % p := by
  have : ∀ p, p < 18 → ∀ t, t < p → ∀ j, j < p → ∀ i, i < j → (!copr t p || (dst p (t * i % p) (t * j % p) == dst p 0 (t * dst p i j % p) && t * i % p != t * j % p)) = true := by decide +kernel
  intro p hp t ht h j hj i hi
  have := this p (by omega) t ht j hj i hi
  rw [h] at this
  simpa using this
theorem one_copr : ∀ p, p ≤ 17 → 1 ≤ p → copr 1 p = true := by
  have : ∀ p, p < 18 → 1 ≤ p → copr 1 p = true := by decide +kernel
  exact fun p hp => this p (by omega)
theorem one_dst {p d : Nat} (h1 : 1 ≤ d) (h2 : d ≤ p / 2) : dst p 0 (1 * d % p) = d := by
  have : 1 * d % p = d := by rw [Nat.one_mul]; exact Nat.mod_eq_of_lt (by omega)
  rw [this]
  unfold dst
  rw [Nat.min_def]
  split <;> omega
def dsts (n i : Nat) : List Nat := ((List.range n).filter fun j => j != i).map (dst n i)
def xors (n i : Nat) : List Nat := ((List.range n).filter fun j => j != i).map (fun j => i ^^^ j)
theorem dsts_perm : ∀ n, n ≤ 17 → ∀ i, i < n → (dsts n i).Perm (dsts n 0) := by
  have : ∀ n, n < 18 → ∀ i, i < n → (dsts n i).isPerm (dsts n 0) = true := by decide +kernel
  exact fun n hn i hi => List.isPerm_iff.1 (this n (by omega) i hi)
theorem xors_perm : ∀ d, d ≤ 4 → ∀ i, i < 2 ^ d → (xors (2 ^ d) i).Perm (xors (2 ^ d) 0) := by
  have : ∀ d, d < 5 → ∀ i, i < 2 ^ d → (xors (2 ^ d) i).isPerm (xors (2 ^ d) 0) = true := by decide +kernel
  exact fun n hn i hi => List.isPerm_iff.1 (this n (by omega) i hi)
theorem xor_range : ∀ d, d ≤ 4 → ∀ i, i < 2 ^ d → ∀ j, j < 2 ^ d → i ≠ j → 1 ≤ i ^^^ j ∧ i ^^^ j < 2 ^ d := by
  have : ∀ d, d < 5 → ∀ i, i < 2 ^ d → ∀ j, j < 2 ^ d → i ≠ j → 1 ≤ i ^^^ j ∧ i ^^^ j < 2 ^ d := by decide +kernel
  exact fun n hn => this n (by omega)
/-- Euclid's steps. -/
theorem gcd_step (f : Nat → Int → Int → Option Int) (h0 : ∀ k a, f (k + 1) a 0 = some a) (hs : ∀ k a b, b ≠ 0 → f (k + 1) a b = f k b (a.tmod b)) : ∀ (b a k : Nat), b < k → f k a b = some ((Nat.gcd a b : Nat) : Int) := by
  intro b
  induction b using Nat.strongRecOn with
  | ind b ih =>
    intro a k hk
    obtain ⟨k, rfl⟩ : ∃ q, k = q + 1 := ⟨k - 1, by omega⟩
    by_cases hb : b = 0
    · subst hb
      rw [Nat.gcd_zero_right]
      exact h0 k a
    · rw [hs k a b (by omega)]
      have e : ((a : Int)).tmod b = ((a % b : Nat) : Int) := by rw [Int.tmod_eq_emod_of_nonneg (by omega)]; rfl
      rw [e, ih (a % b) (Nat.mod_lt _ (by omega)) b k (by have := Nat.mod_lt a (show b > 0 by omega); omega)]
      congr 2
      rw [Nat.gcd_comm b, ← Nat.gcd_rec, Nat.gcd_comm]
end Go.Proofs.YtkknnbmmcmhngaaGreat
