/- Own library: a struct with a pointer to a colouring, a colour and a map (impl.longest, impl.matcher), as data. No conditions. -/
import Derived.Test.YtghhnpdhehjlaaaGreatAb29
import Derived.Test.YtghhnpdhehjlaaaGreatCol
set_option linter.unusedVariables false
namespace Go.Proofs.YtghhnpdhehjlaaaGreat.Ab
open Go Go.RowKit
structure Lon where
  x : Col
  c : Int
end Go.Proofs.YtghhnpdhehjlaaaGreat.Ab
