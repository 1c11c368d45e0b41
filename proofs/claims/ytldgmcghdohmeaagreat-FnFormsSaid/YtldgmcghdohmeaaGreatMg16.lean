/- Plain Lean for the laws: cliques of a graph on a list of points, in order. No program in sight. No conditions beyond those that each lemma states. -/
import Derived.Test.YtldgmcghdohmeaaGreatMg14
set_option linter.unusedSimpArgs false
set_option linter.unusedVariables false
namespace Go.Proofs.YtldgmcghdohmeaaGreat
open Go Go.RowKit Ab

section
variable (adj : Int → Int → Bool)

end

end Go.Proofs.YtldgmcghdohmeaaGreat

namespace Go.Proofs.YtldgmcghdohmeaaGreat
open Go Go.RowKit Ab

/-! ### Rows of points -/
def ir (p n : Nat) : List Int := (List.range' p (n - p)).map Int.ofNat
theorem ir_end {p n : Nat} (h : n ≤ p) : ir p n = [] := by
 unfold ir
 rw [show n - p = 0 by omega]; rfl
theorem ir_next {p n : Nat} (h : p < n) : ir p n = (p : Int) :: ir (p + 1) n := by
 unfold ir
 rw [show n - p = (n - (p + 1)) + 1 by omega, List.range'_succ]; rfl
theorem mem_ir {p n : Nat} {a : Int} : a ∈ ir p n ↔ (p : Int) ≤ a ∧ a < n := by
 unfold ir
 rw [List.mem_map]
 constructor
 ·rintro ⟨v, h, rfl⟩
  rw [List.mem_range'_1] at h
  simp only [Int.ofNat_eq_natCast]
  omega
 ·intro h
  refine ⟨a.toNat, ?_, by simp only [Int.ofNat_eq_natCast]; omega⟩
  rw [List.mem_range'_1]; omega
theorem ir_pw (p n : Nat) : (ir p n).Pairwise (· < ·) := by
 unfold ir
 rw [List.pairwise_map]
 exact (List.pairwise_lt_range' (s := p) (n := n - p)).imp fun h => by simp only [Int.ofNat_eq_natCast]; omega
theorem ir_nodup (p n : Nat) : (ir p n).Nodup := (ir_pw p n).imp fun h => by omega
theorem ir_length (p n : Nat) : (ir p n).length = n - p := by simp [ir]

/-- The points of a set of bits. -/
def mem (s p n : Nat) : List Int := (ir p n).filter fun a => s.testBit a.toNat
theorem mem_end {s p n : Nat} (h : n ≤ p) : mem s p n = [] := by unfold mem; rw [ir_end h]; rfl
theorem mem_yes {s p n : Nat} (h : p < n) (hb : s.testBit p = true) : mem s p n = (p : Int) :: mem s (p + 1) n := by
 unfold mem
 rw [ir_next h, List.filter_cons, if_pos (by simpa using hb)]
theorem mem_no {s p n : Nat} (h : p < n) (hb : s.testBit p = false) : mem s p n = mem s (p + 1) n := by
 unfold mem
 rw [ir_next h, List.filter_cons, if_neg (by simpa using hb)]
theorem ir_shift (p n : Nat) : ir (p + 1) (n + 1) = (ir p n).map (· + 1) := by
 unfold ir
 rw [List.map_map, show n + 1 - (p + 1) = n - p by omega]
 apply List.ext_getElem (by simp)
 intro i h1 h2
 simp; omega
theorem mem_half (s n : Nat) : (mem s 0 (n + 1)).length = s % 2 + (mem (s / 2) 0 n).length := by
 have h1 : (mem s 1 (n + 1)).length = (mem (s / 2) 0 n).length := by
  unfold mem
  rw [ir_shift, List.filter_map, List.length_map]
  congr 1
  apply List.filter_congr
  intro a ha
  rw [mem_ir] at ha
  simp only [Function.comp]
  rw [show (a + 1).toNat = a.toNat + 1 by omega, Nat.testBit_succ]
 by_cases h : s.testBit 0 = true
 ·rw [mem_yes (by omega) h, List.length_cons, h1]
  rw [Nat.testBit_zero] at h
  have : s % 2 = 1 := by simpa using h
  omega
 ·have h' : s.testBit 0 = false := by simpa using h
  rw [mem_no (by omega) h', h1]
  rw [Nat.testBit_zero] at h'
  have : s % 2 ≠ 1 := by simpa using h'
  omega

end Go.Proofs.YtldgmcghdohmeaaGreat

namespace Go.Proofs.YtldgmcghdohmeaaGreat
open Go Go.RowKit Ab

/-- All lists with n more colours (below K) behind l, each colour as ok allows it, in order. -/
def exts (K : Nat) (ok : List Int → Nat → Bool) : Nat → List Int → List (List Int)
 | 0, l => [l]
 | n + 1, l => (List.range K).flatMap fun c => if ok l c then exts K ok n (l ++ [(c : Int)]) else []

section
variable {K : Nat} {ok : List Int → Nat → Bool} {n : Nat} {l : List Int}
def esub (K : Nat) (ok : List Int → Nat → Bool) (n : Nat) (l : List Int) (c : Nat) : List (List Int) := if ok l c then exts K ok n (l ++ [(c : Int)]) else []
def epre (K : Nat) (ok : List Int → Nat → Bool) (n : Nat) (l : List Int) (c : Nat) : List (List Int) := (List.range c).flatMap (esub K ok n l)
theorem exts_zero : exts K ok 0 l = [l] := by rw [exts]
theorem exts_succ : exts K ok (n + 1) l = epre K ok n l K := by rw [exts]; rfl
theorem epre_succ (c : Nat) : epre K ok n l (c + 1) = epre K ok n l c ++ esub K ok n l c := by
 unfold epre
 rw [List.range_succ, List.flatMap_append]
 simp
theorem epre_more (c d : Nat) : ∃ B, epre K ok n l (c + d) = epre K ok n l c ++ B := by
 induction d with
 | zero => exact ⟨[], by simp⟩
 | succ d ih =>
  obtain ⟨B, e⟩ := ih
  exact ⟨B ++ esub K ok n l (c + d), by rw [← Nat.add_assoc, epre_succ, e, List.append_assoc]⟩
theorem exts_len : ∀ (n : Nat) (l : List Int), ∀ e ∈ exts K ok n l, e.length = l.length + n := by
 intro n
 induction n with
 | zero => intro l e he; rw [exts_zero] at he; simp at he; subst he; simp
 | succ n ih =>
  intro l e he
  rw [exts] at he
  obtain ⟨c, _, hc⟩ := List.mem_flatMap.1 he
  split at hc
  ·have := ih _ e hc
   simp at this
   omega
  ·simp at hc
theorem exts_range : ∀ (n : Nat) (l : List Int), (∀ z ∈ l, 0 ≤ z ∧ z < K) → ∀ e ∈ exts K ok n l, ∀ z ∈ e, 0 ≤ z ∧ z < K := by
 intro n
 induction n with
 | zero => intro l hl e he; rw [exts_zero] at he; simp at he; subst he; exact hl
 | succ n ih =>
  intro l hl e he
  rw [exts] at he
  obtain ⟨c, hc0, hc⟩ := List.mem_flatMap.1 he
  have hcK := List.mem_range.1 hc0
  split at hc
  ·refine ih _ (fun z hz => ?_) e hc
   rcases List.mem_append.1 hz with hz | hz
   ·exact hl z hz
   ·simp at hz; subst hz; omega
  ·simp at hc
theorem flatMap_le {α β : Type} (f : α → List β) (m : Nat) : ∀ (L : List α), (∀ a ∈ L, (f a).length ≤ m) → (L.flatMap f).length ≤ L.length * m
 | [], _ => by simp
 | a :: t, h => by
  rw [List.flatMap_cons, List.length_append, List.length_cons, Nat.succ_mul]
  have h1 := h a (by simp)
  have h2 := flatMap_le f m t (fun b hb => h b (by simp [hb]))
  omega
theorem exts_count : ∀ (n : Nat) (l : List Int), (exts K ok n l).length ≤ K ^ n := by
 intro n
 induction n with
 | zero => intro l; rw [exts_zero]; simp
 | succ n ih =>
  intro l
  rw [exts]
  have := flatMap_le (fun c => if ok l c then exts K ok n (l ++ [(c : Int)]) else []) (K ^ n) (List.range K) (fun c _ => by
   split
   ·exact ih _
   ·simp)
  rw [List.length_range] at this
  rw [Nat.pow_succ, Nat.mul_comm]
  exact this
end
end Go.Proofs.YtldgmcghdohmeaaGreat
