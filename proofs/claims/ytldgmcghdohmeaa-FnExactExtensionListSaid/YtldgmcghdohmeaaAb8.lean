/- Own library, part 8: a row whose order Go leaves open, of which all but the last operation only read: the last one comes last in every order. No conditions. -/
import Derived.Test.YtldgmcghdohmeaaAb7
set_option linter.unusedVariables false
set_option linter.unusedSimpArgs false
namespace Go.Proofs.Ytldgmcghdohmeaa.Ab
open Go Go.RowKit

section
variable {P : Program} {l : List Oper} {o : Oper} {Q : Exit → Act → World → Prop}

/-- What is listed has all that it waits for listed. -/
def Closed (l : List Oper) (t : Array Bool) : Prop :=
  ∀ (i : Nat) (x : Oper), l[i]? = some x → t.getD i false = true → ∀ e ∈ x.after, Region.binds .any e = true → t.getD e.on false = true

end

section
variable {P : Program} {n : Nat} {G : Ctx} {E : Env} {H : List AObj} {Q : Exit → Env → List AObj → Prop}

end
end Go.Proofs.Ytldgmcghdohmeaa.Ab
