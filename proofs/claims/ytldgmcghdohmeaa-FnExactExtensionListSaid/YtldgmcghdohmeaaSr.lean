/- Own library: slices.Sort and slices.Sorted over whole numbers as contracts over data. No conditions. -/
import Derived.Test.YtldgmcghdohmeaaColEq
import Derived.Test.YtldgmcghdohmeaaAb14
import Derived.Sort.OwnSortedInts
import Derived.Shelf.SortG.SortNone
import Derived.Shelf.SortG.Plain
import Derived.Shelf.SlIterI.Sorted
set_option linter.unusedVariables false
set_option linter.unusedSimpArgs false
namespace Go.Proofs.Ytldgmcghdohmeaa.Ab
open Go Go.RowKit Go.Sort

theorem RepL.ints {w : World} {I : Nat → Prop} {zs : List Int} {vs : List Value} (h : RepL w I (intsD zs) vs) : vs = zs.map (Value.int .i64) := by
  have : intsD zs = (zs.map (Value.int .i64)).map D.s := by simp [intsD, iD]
  rw [this] at h
  exact h.of_map_s

theorem RepL.ofInts {w : World} {I : Nat → Prop} (zs : List Int) : RepL w I (intsD zs) (zs.map (Value.int .i64)) := by
  have : intsD zs = (zs.map (Value.int .i64)).map D.s := by simp [intsD, iD]
  rw [this]; exact RepL.map_s _

end Go.Proofs.Ytldgmcghdohmeaa.Ab
