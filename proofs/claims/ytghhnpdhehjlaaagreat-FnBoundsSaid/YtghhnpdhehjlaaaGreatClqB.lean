/- Plain Lean for the laws: rows of points as bits. No program in sight. No conditions beyond those that each lemma states. -/
import Derived.Test.YtghhnpdhehjlaaaGreatClq
set_option linter.unusedVariables false
set_option linter.unusedSimpArgs false
namespace Go.Proofs.YtghhnpdhehjlaaaGreat
open Go Go.RowKit Ab

/-! ### Rows of points -/
def ir (p n : Nat) : List Int := (List.range' p (n - p)).map Int.ofNat
theorem ir_end {p n : Nat} (h : n ≤ p) : ir p n = [] := by
  unfold ir
  rw [show n - p = 0 by omega]; rfl
theorem ir_next {p n : Nat} (h : p < n) : ir p n = (p : Int) :: ir (p + 1) n := by
  unfold ir
  rw [show n - p = (n - (p + 1)) + 1 by omega, List.range'_succ]; rfl
theorem mem_ir {p n : Nat} {a : Int} : a ∈ ir p n ↔ (p : Int) ≤ a ∧ a < n := by
  unfold ir
  rw [List.mem_map]
  constructor
  · rintro ⟨v, h, rfl⟩
    rw [List.mem_range'_1] at h
    simp only [Int.ofNat_eq_natCast]
    omega
  · intro h
    refine ⟨a.toNat, ?_, by simp only [Int.ofNat_eq_natCast]; omega⟩
    rw [List.mem_range'_1]; omega
theorem ir_pw (p n : Nat) : (ir p n).Pairwise (· < ·) := by
  unfold ir
  rw [List.pairwise_map]
  exact (List.pairwise_lt_range' (s := p) (n := n - p)).imp fun h => by simp only [Int.ofNat_eq_natCast]; omega
theorem ir_nodup (p n : Nat) : (ir p n).Nodup := (ir_pw p n).imp fun h => by omega
end Go.Proofs.YtghhnpdhehjlaaaGreat
