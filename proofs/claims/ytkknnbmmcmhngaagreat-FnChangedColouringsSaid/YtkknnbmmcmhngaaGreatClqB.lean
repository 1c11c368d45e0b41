/- Plain Lean for the laws: rows of points as bits. No program in sight. No conditions beyond those that each lemma states. -/
import Derived.Test.YtkknnbmmcmhngaaGreatClq
set_option linter.unusedVariables false
set_option linter.unusedSimpArgs false
namespace Go.Proofs.YtkknnbmmcmhngaaGreat
open Go Go.RowKit Ab

/-! ### Rows of points -/
def ir (p n : Nat) : List Int := (List.range' p (n - p)).map Int.ofNat
theorem ir_pw (p n : Nat) : (ir p n).Pairwise (· < ·) := by
  unfold ir
  rw [List.pairwise_map]
  exact (List.pairwise_lt_range' (s := p) (n := n - p)).imp fun h => by simp only [Int.ofNat_eq_natCast]; omega
theorem ir_length (p n : Nat) : (ir p n).length = n - p := by simp [ir]

end Go.Proofs.YtkknnbmmcmhngaaGreat
