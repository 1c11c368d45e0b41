/- Colourings that are compared with == and !=. No conditions beyond those that each lemma states. -/
import Derived.Test.YtldgmcghdohmeaaCol
import Derived.Test.YtldgmcghdohmeaaAb14
import Derived.Stop.BytesEq
set_option linter.unusedVariables false
set_option linter.unusedSimpArgs false
namespace Go.Proofs.Ytldgmcghdohmeaa
open Go Go.RowKit Ab

section
variable {P : Program} {n : Nat} {G : Ctx} {E : Env} {H : List AObj} {o : Oper}

end

/-! ### make([][]int64, n) -/
section
variable {P : Program} {n : Nat} {G : Ctx} {E : Env} {H : List AObj} {ops : Array Oper} {rest : List Oper} {o : Oper} {K : Env → List AObj → Prop}
end
end Go.Proofs.Ytldgmcghdohmeaa
