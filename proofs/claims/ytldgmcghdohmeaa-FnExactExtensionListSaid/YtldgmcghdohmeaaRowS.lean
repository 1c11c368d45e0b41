/- A slice of slices of whole numbers that comes in, as data. No conditions. -/
import Derived.Test.YtldgmcghdohmeaaRow
set_option linter.unusedVariables false
set_option linter.unusedSimpArgs false
namespace Go.Proofs.Ytldgmcghdohmeaa
open Go Go.RowKit Ab Go.ChangeShapes Go.WideShapes

section
variable {H : Type} {enc : TypeId × Value → H} {P : Program} {W : World} {base : Nat}

end
end Go.Proofs.Ytldgmcghdohmeaa
