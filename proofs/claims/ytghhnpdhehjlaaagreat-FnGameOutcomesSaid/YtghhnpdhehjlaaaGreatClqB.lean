/- Plain Lean for the laws: rows of points as bits. No program in sight. No conditions beyond those that each lemma states. -/
import Derived.Test.YtghhnpdhehjlaaaGreatClq
set_option linter.unusedVariables false
set_option linter.unusedSimpArgs false
namespace Go.Proofs.YtghhnpdhehjlaaaGreat
open Go Go.RowKit Ab

/-! ### Rows of points -/
end Go.Proofs.YtghhnpdhehjlaaaGreat
