/- Contracts: sums; whether two rows are alike. -/
import Derived.Test.YtbdbeaebeedakaaDoorCB
namespace Go.Proofs.YtbdbeaebeedakaaDoor
open Go.RowKit
set_option maxRecDepth 100000



end Go.Proofs.YtbdbeaebeedakaaDoor
