/- Plain functions of the program and that the program computes them: printed by the own tool gen.py. No conditions. -/
import Derived.Test.YtkknnbmmcmhngaaGreatAb18
import Derived.Test.YtkknnbmmcmhngaaGreatAb26
import Derived.Test.YtkknnbmmcmhngaaGreatProg
import Derived.KernelRfl
set_option linter.unusedVariables false
set_option linter.unusedSimpArgs false
namespace Go.Proofs.YtkknnbmmcmhngaaGreat
open Go Go.RowKit Ab

theorem mixed : Tryz.prog.follows .mixedOrders = true := by kernel_rfl

-- slices.Clone[[]int64,int64]
end Go.Proofs.YtkknnbmmcmhngaaGreat
