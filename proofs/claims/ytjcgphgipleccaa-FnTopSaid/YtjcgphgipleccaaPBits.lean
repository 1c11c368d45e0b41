/- Plain Lean for the laws: sets of points as the bits of a number. No conditions beyond those that each lemma states. -/
import Derived.Test.YtjcgphgipleccaaPKit
set_option linter.unusedVariables false
set_option linter.unusedSimpArgs false
namespace Go.Proofs.Ytjcgphgipleccaa
open Go Go.RowKit Ab

theorem u64_id {n : Int} (h : 0 ≤ n ∧ n < 18446744073709551616) : IntKind.u64.wrap n = n := by
  have : IntKind.u64.wrap n = n % 2 ^ 64 := by simp [IntKind.wrap, IntKind.signed, IntKind.bits]
  rw [this]; omega

end Go.Proofs.Ytjcgphgipleccaa
