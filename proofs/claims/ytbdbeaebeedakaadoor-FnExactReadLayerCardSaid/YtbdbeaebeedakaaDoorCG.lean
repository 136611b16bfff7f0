/- Contracts: the program's curves by function values that hold what they captured; looks at rows. -/
import Derived.Test.YtbdbeaebeedakaaDoorCE
import Derived.Test.YtbdbeaebeedakaaDoorCF
namespace Go.Proofs.YtbdbeaebeedakaaDoor
open Go.RowKit
set_option maxRecDepth 100000

end Go.Proofs.YtbdbeaebeedakaaDoor
