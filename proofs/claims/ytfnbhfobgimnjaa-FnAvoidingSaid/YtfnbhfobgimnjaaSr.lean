/- Own library: slices.Sort and slices.Sorted over whole numbers as contracts over data. No conditions. -/
import Derived.Test.YtfnbhfobgimnjaaColEq
import Derived.Test.YtfnbhfobgimnjaaAb14
import Derived.Sort.OwnSortedInts
import Derived.Shelf.SortG.SortNone
import Derived.Shelf.SortG.Plain
import Derived.Shelf.SlIterI.Sorted
set_option linter.unusedVariables false
set_option linter.unusedSimpArgs false
namespace Go.Proofs.Ytfnbhfobgimnjaa.Ab
open Go Go.RowKit Go.Sort

end Go.Proofs.Ytfnbhfobgimnjaa.Ab
