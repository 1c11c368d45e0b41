/- Own library: slices.Sort and slices.Sorted over whole numbers as contracts over data. No conditions. -/
import Derived.Test.YtfnbhfobgimnjaaColEq
import Derived.Test.YtfnbhfobgimnjaaAb14
import Derived.Sort.OwnSortedInts
import Derived.Shelf.SortG.SortNone
import Derived.Shelf.SortG.Plain
import Derived.Shelf.SlIterI.Sorted
set_option linter.unusedVariables false
set_option linter.unusedSimpArgs false
namespace Go.Proofs.Ytfnbhfobgimnjaa.Ab
open Go Go.RowKit Go.Sort

theorem RepL.ofInts {w : World} {I : Nat → Prop} (zs : List Int) : RepL w I (intsD zs) (zs.map (Value.int .i64)) := by
  have : intsD zs = (zs.map (Value.int .i64)).map D.s := by simp [intsD, iD]
  rw [this]; exact RepL.map_s _

def sorted (zs : List Int) : List Int := zs.mergeSort fun x y => decide (x ≤ y)
end Go.Proofs.Ytfnbhfobgimnjaa.Ab
