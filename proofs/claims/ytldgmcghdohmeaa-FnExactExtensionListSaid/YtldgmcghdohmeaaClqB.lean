/- Plain Lean for the laws: rows of points as bits. No program in sight. No conditions beyond those that each lemma states. -/
import Derived.Test.YtldgmcghdohmeaaClq
set_option linter.unusedVariables false
set_option linter.unusedSimpArgs false
namespace Go.Proofs.Ytldgmcghdohmeaa
open Go Go.RowKit Ab

/-! ### Rows of points -/
def ir (p n : Nat) : List Int := (List.range' p (n - p)).map Int.ofNat
theorem ir_end {p n : Nat} (h : n ≤ p) : ir p n = [] := by
  unfold ir
  rw [show n - p = 0 by omega]; rfl
theorem ir_next {p n : Nat} (h : p < n) : ir p n = (p : Int) :: ir (p + 1) n := by
  unfold ir
  rw [show n - p = (n - (p + 1)) + 1 by omega, List.range'_succ]; rfl
theorem mem_ir {p n : Nat} {a : Int} : a ∈ ir p n ↔ (p : Int) ≤ a ∧ a < n := by
  unfold ir
  rw [List.mem_map]
  constructor
  · rintro ⟨v, h, rfl⟩
    rw [List.mem_range'_1] at h
    simp only [Int.ofNat_eq_natCast]
    omega
  · intro h
    refine ⟨a.toNat, ?_, by simp only [Int.ofNat_eq_natCast]; omega⟩
    rw [List.mem_range'_1]; omega
theorem ir_length (p n : Nat) : (ir p n).length = n - p := by simp [ir]

/-- The points of a set of bits. -/
def mem (s p n : Nat) : List Int := (ir p n).filter fun a => s.testBit a.toNat
theorem mem_end {s p n : Nat} (h : n ≤ p) : mem s p n = [] := by unfold mem; rw [ir_end h]; rfl
theorem mem_yes {s p n : Nat} (h : p < n) (hb : s.testBit p = true) : mem s p n = (p : Int) :: mem s (p + 1) n := by
  unfold mem
  rw [ir_next h, List.filter_cons, if_pos (by simpa using hb)]
theorem mem_no {s p n : Nat} (h : p < n) (hb : s.testBit p = false) : mem s p n = mem s (p + 1) n := by
  unfold mem
  rw [ir_next h, List.filter_cons, if_neg (by simpa using hb)]
theorem mem_congr {s t p n : Nat} (h : ∀ i, p ≤ i → i < n → s.testBit i = t.testBit i) : mem s p n = mem t p n := by
  unfold mem
  apply List.filter_congr
  intro a ha
  rw [mem_ir] at ha
  exact h a.toNat (by omega) (by omega)
theorem mem_low {s p n : Nat} (h : ∀ i, i < p → s.testBit i = false) : mem s 0 n = mem s p n := by
  induction p with
  | zero => rfl
  | succ p ih =>
    rw [ih fun i hi => h i (by omega)]
    by_cases hp : p < n
    · exact mem_no hp (h p (by omega))
    · rw [mem_end (by omega), mem_end (by omega)]
theorem mem_flt {s t p n : Nat} {f : Int → Bool} (h : ∀ i : Nat, p ≤ i → i < n → t.testBit i = (s.testBit i && f i)) : mem t p n = (mem s p n).filter f := by
  unfold mem
  rw [List.filter_filter]
  apply List.filter_congr
  intro a ha
  rw [mem_ir] at ha
  have e := h a.toNat (by omega) (by omega)
  have e2 : ((a.toNat : Nat) : Int) = a := by omega
  rw [e2] at e
  rw [e, Bool.and_comm]
theorem mem_all (n : Nat) : mem (2 ^ n - 1) 0 n = ir 0 n := by
  unfold mem
  refine List.filter_eq_self.2 fun a ha => ?_
  rw [mem_ir] at ha
  rw [Nat.testBit_two_pow_sub_one]
  simp; omega
theorem mem_length (s p n : Nat) : (mem s p n).length ≤ n - p := by
  unfold mem
  exact Nat.le_trans (List.length_filter_le _ _) (by rw [ir_length]; exact Nat.le_refl _)
theorem ir_shift (p n : Nat) : ir (p + 1) (n + 1) = (ir p n).map (· + 1) := by
  unfold ir
  rw [List.map_map, show n + 1 - (p + 1) = n - p by omega]
  apply List.ext_getElem (by simp)
  intro i h1 h2
  simp; omega
theorem mem_half (s n : Nat) : (mem s 0 (n + 1)).length = s % 2 + (mem (s / 2) 0 n).length := by
  have h1 : (mem s 1 (n + 1)).length = (mem (s / 2) 0 n).length := by
    unfold mem
    rw [ir_shift, List.filter_map, List.length_map]
    congr 1
    apply List.filter_congr
    intro a ha
    rw [mem_ir] at ha
    simp only [Function.comp]
    rw [show (a + 1).toNat = a.toNat + 1 by omega, Nat.testBit_succ]
  by_cases h : s.testBit 0 = true
  · rw [mem_yes (by omega) h, List.length_cons, h1]
    rw [Nat.testBit_zero] at h
    have : s % 2 = 1 := by simpa using h
    omega
  · have h' : s.testBit 0 = false := by simpa using h
    rw [mem_no (by omega) h', h1]
    rw [Nat.testBit_zero] at h'
    have : s % 2 ≠ 1 := by simpa using h'
    omega

end Go.Proofs.Ytldgmcghdohmeaa
