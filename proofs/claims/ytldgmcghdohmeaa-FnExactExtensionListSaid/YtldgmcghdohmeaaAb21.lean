/- Own library, part 21: contracts whose results lead to rows that are the caller's from then on. No conditions. -/
import Derived.Test.YtldgmcghdohmeaaTab
import Derived.Test.YtldgmcghdohmeaaRowS
set_option linter.unusedVariables false
set_option linter.unusedSimpArgs false
namespace Go.Proofs.Ytldgmcghdohmeaa
open Go Go.RowKit Ab
namespace Ab

section
variable {P : Program} {n : Nat} {G : Ctx} {E : Env} {H : List AObj} {w : World} {r : List Nat} {a : Act}

theorem MC_retn {M : Rws} {Q : Exit → Env → List AObj → Rws → Prop} (h : Q .ret E H M) : MC P n G .ret E H M Q := fun r a w hr => wp_ret ⟨E, H, M, r, h, hr⟩

end
end Ab
end Go.Proofs.Ytldgmcghdohmeaa
