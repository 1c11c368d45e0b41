/- Own library: slices.Values, slices.Collect and slices.Sorted over whole numbers, at this program's numbers. No conditions. -/
import Derived.Test.YtfpcopidcagdaaaSr
import Derived.Test.YtfpcopidcagdaaaShelf
import Derived.RangeFuncBox
import Derived.RangeFuncWrites
import Derived.RangeFuncLeaves
import Derived.Shelf.Abstract
import Derived.WalkKit
import Derived.OwnWalkIn
import Derived.TacticsInMore
import Derived.LoopNIn
import Derived.LoopIn
import Derived.Maps.AppendAt
set_option linter.unusedVariables false
set_option linter.unusedSimpArgs false
namespace Go.Proofs
open Go.RowKit Go.Shelf Go.Sort

attribute [local go_sem] Oper.semAt_some

theorem Ytfpcopidcagdaaa.sortI_ac (zs r : List Int) (h : Ytfpcopidcagdaaa.Ab.sortI zs = some r) : Ytfpcopidcagdaaa.Ab.AC Try.prog 127 [.vec 0 0] [.vec 0 (Ytfpcopidcagdaaa.intsD zs)] (fun res H' => res = [] ∧ H' = [.vec 0 (Ytfpcopidcagdaaa.intsD r)]) :=
  Ytfpcopidcagdaaa.Ab.sort_ac_of (f := 127) (fun blk off cap zs w hH hb hl => AnyG.slices_Sort_int Try.sortL blk off cap zs w hH hb hl) zs r h

end Go.Proofs
