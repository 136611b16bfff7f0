/- Contracts: the reference's test of a film. -/
import Derived.Test.YtbdbeaebeedakaaDoorCO
import Derived.Test.YtbdbeaebeedakaaDoorHeld
namespace Go.Proofs.YtbdbeaebeedakaaDoor
open Go.RowKit
set_option maxRecDepth 100000

end Go.Proofs.YtbdbeaebeedakaaDoor
