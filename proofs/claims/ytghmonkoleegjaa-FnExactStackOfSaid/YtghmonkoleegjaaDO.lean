/- Contracts: valid films, one over the other. -/
import Derived.Test.YtghmonkoleegjaaDN
import Derived.Test.YtghmonkoleegjaaCU
namespace Go.Proofs.Ytghmonkoleegjaa
open Go.RowKit
set_option maxRecDepth 100000

end Go.Proofs.Ytghmonkoleegjaa
