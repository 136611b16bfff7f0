/- Contracts: the reference's test of a film. -/
import Derived.Test.YtghmonkoleegjaaCO
import Derived.Test.YtghmonkoleegjaaHeld
namespace Go.Proofs.Ytghmonkoleegjaa
open Go.RowKit
set_option maxRecDepth 100000

end Go.Proofs.Ytghmonkoleegjaa
