/- Plain Lean for the laws: the greatest number of edges of a matching, point by point. No program in sight. No conditions beyond those that each lemma states. -/
import Derived.Test.YtghhnpdhehjlaaaGreatClqB
set_option linter.unusedVariables false
set_option linter.unusedSimpArgs false
namespace Go.Proofs.YtghhnpdhehjlaaaGreat
open Go Go.RowKit Ab

/-! ### Bits -/
def off (s i : Nat) : Nat := s ^^^ 2 ^ i
end Go.Proofs.YtghhnpdhehjlaaaGreat
