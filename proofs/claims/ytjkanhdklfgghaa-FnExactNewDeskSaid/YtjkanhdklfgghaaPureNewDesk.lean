/- The plain law of FnExactNewDesk: the program's answer is the reference's. No conditions: it is one closed computation. -/
import Derived.Test.YtjkanhdklfgghaaPKit
import Derived.Test.YtjkanhdklfgghaaGen5
namespace Go.Proofs.Ytjkanhdklfgghaa
open Go Go.RowKit Ab

set_option maxRecDepth 100000 in
theorem newDesk_pure : laws_FnExactNewDesk 200 = some true := by decide +kernel
end Go.Proofs.Ytjkanhdklfgghaa
