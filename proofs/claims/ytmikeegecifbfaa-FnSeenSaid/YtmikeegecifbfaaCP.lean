/- Contracts: the reference's test of a film. -/
import Derived.Test.YtmikeegecifbfaaCO
import Derived.Test.YtmikeegecifbfaaHeld
namespace Go.Proofs.Ytmikeegecifbfaa
open Go.RowKit
set_option maxRecDepth 100000

end Go.Proofs.Ytmikeegecifbfaa
