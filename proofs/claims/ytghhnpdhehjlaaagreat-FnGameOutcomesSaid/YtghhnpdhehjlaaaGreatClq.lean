/- Plain Lean for the laws: cliques of a graph on a list of points, in order. No program in sight. No conditions beyond those that each lemma states. -/
import Derived.Test.YtghhnpdhehjlaaaGreatPBits
set_option linter.unusedVariables false
set_option linter.unusedSimpArgs false
namespace Go.Proofs.YtghhnpdhehjlaaaGreat
open Go Go.RowKit Ab

section
variable (adj : Int → Int → Bool)

end

end Go.Proofs.YtghhnpdhehjlaaaGreat
