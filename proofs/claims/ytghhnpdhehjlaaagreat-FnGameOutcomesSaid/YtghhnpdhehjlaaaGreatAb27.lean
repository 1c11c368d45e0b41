/- Own library, part 27: an append into the room behind a part of an owned slice; a slice made with room. Conditions stand in each rule. -/
import Derived.Test.YtghhnpdhehjlaaaGreatAb26
import Derived.Test.YtghhnpdhehjlaaaGreatAb15
set_option linter.unusedVariables false
set_option linter.unusedSimpArgs false
namespace Go.Proofs.YtghhnpdhehjlaaaGreat.Ab
open Go Go.RowKit

section
variable {P : Program} {n : Nat} {G : Ctx} {E : Env} {H : List AObj} {ops : Array Oper} {rest : List Oper} {o : Oper} {K : Env → List AObj → Prop}

end
end Go.Proofs.YtghhnpdhehjlaaaGreat.Ab
