/- Own library, part 15: parts of owned slices: cut, read, copied into, appended to in place. No conditions. -/
import Derived.Test.YtkonbaijkcaehaaGreatDoorAb14
import Derived.Laws.CopyRow
import Derived.Laws.IdiomCopy
set_option linter.unusedVariables false
set_option linter.unusedSimpArgs false
namespace Go.Proofs.YtkonbaijkcaehaaGreatDoor.Ab
open Go Go.RowKit

section
variable {P : Program} {n : Nat} {G : Ctx} {E : Env} {H : List AObj} {ops : Array Oper} {rest : List Oper} {o : Oper} {K : Env → List AObj → Prop}

end
end Go.Proofs.YtkonbaijkcaehaaGreatDoor.Ab
