/- Own library: slices.Sort and slices.Sorted over whole numbers as contracts over data. No conditions. -/
import Derived.Test.YtjcgphgipleccaaGreatColEq
import Derived.Test.YtjcgphgipleccaaGreatAb14
import Derived.Sort.OwnSortedInts
import Derived.Shelf.SortG.SortNone
import Derived.Shelf.SortG.Plain
import Derived.Shelf.SlIterI.Sorted
set_option linter.unusedVariables false
set_option linter.unusedSimpArgs false
namespace Go.Proofs.YtjcgphgipleccaaGreat.Ab
open Go Go.RowKit Go.Sort

end Go.Proofs.YtjcgphgipleccaaGreat.Ab
