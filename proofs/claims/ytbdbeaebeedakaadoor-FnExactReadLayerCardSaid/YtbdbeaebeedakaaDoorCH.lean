/- Contracts: sums of curves, sameness of curves, lights, names of codes. -/
import Derived.Test.YtbdbeaebeedakaaDoorCG
namespace Go.Proofs.YtbdbeaebeedakaaDoor
open Go.RowKit
set_option maxRecDepth 100000

end Go.Proofs.YtbdbeaebeedakaaDoor
