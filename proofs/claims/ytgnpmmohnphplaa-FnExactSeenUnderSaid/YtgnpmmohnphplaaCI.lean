/- Contracts: sameness of curves and looks. -/
import Derived.Test.YtgnpmmohnphplaaCC
namespace Go.Proofs.Ytgnpmmohnphplaa
open Go.RowKit
set_option maxRecDepth 100000

end Go.Proofs.Ytgnpmmohnphplaa
