/- Contracts: sameness of curves and looks. -/
import Derived.Test.YtbdbeaebeedakaaDoorCC
namespace Go.Proofs.YtbdbeaebeedakaaDoor
open Go.RowKit
set_option maxRecDepth 100000

end Go.Proofs.YtbdbeaebeedakaaDoor
