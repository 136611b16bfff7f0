/- Contracts: the curves' functions of the program and of the reference, each computing the same numbers. -/
import Derived.Test.YtbdbeaebeedakaaDoorCC
import Derived.Test.YtbdbeaebeedakaaDoorCD
namespace Go.Proofs.YtbdbeaebeedakaaDoor
open Go.RowKit
set_option maxRecDepth 100000

end Go.Proofs.YtbdbeaebeedakaaDoor
