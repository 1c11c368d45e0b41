/- Own library, part 24: states told anew at joins: owned slices that become data, slices named anew. No conditions. -/
import Derived.Test.YtghhnpdhehjlaaaGreatAb17
set_option linter.unusedVariables false
set_option linter.unusedSimpArgs false
namespace Go.Proofs.YtghhnpdhehjlaaaGreat.Ab
open Go Go.RowKit

section
variable {P : Program} {n : Nat} {G : Ctx} {E : Env} {H : List AObj} {w : World} {r : List Nat} {a : Act}

end
end Go.Proofs.YtghhnpdhehjlaaaGreat.Ab
