/- Contracts: what is made of the numbers of curves by a function value. -/
import Derived.Test.YtbdbeaebeedakaaDoorCB
namespace Go.Proofs.YtbdbeaebeedakaaDoor
open Go.RowKit
set_option maxRecDepth 100000


end Go.Proofs.YtbdbeaebeedakaaDoor
