/- Contracts: valid films, one over the other. -/
import Derived.Test.YtnfnlgmnnjgemaaGreatDoorDN
import Derived.Test.YtnfnlgmnnjgemaaGreatDoorCR
namespace Go.Proofs.YtnfnlgmnnjgemaaGreatDoor
open Go.RowKit
set_option maxRecDepth 100000

end Go.Proofs.YtnfnlgmnnjgemaaGreatDoor
