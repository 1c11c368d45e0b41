/- Own library, part 26: a slice of an array that nobody writes. Conditions stand in each rule. -/
import Derived.Test.YtldgmcghdohmeaaAb25
set_option linter.unusedVariables false
set_option linter.unusedSimpArgs false
namespace Go.Proofs.Ytldgmcghdohmeaa.Ab
open Go Go.RowKit

section
variable {P : Program} {n : Nat} {G : Ctx} {E : Env} {H : List AObj} {o : Oper}

end
end Go.Proofs.Ytldgmcghdohmeaa.Ab
