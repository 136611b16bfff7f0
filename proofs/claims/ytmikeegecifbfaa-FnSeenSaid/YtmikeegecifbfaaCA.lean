/- Contracts: the laws' own small functions. -/
import Derived.WalkKit
import Derived.WalkSpells
import Derived.Outline
import Derived.Test.YtmikeegecifbfaaKit
import Derived.Test.YtmikeegecifbfaaChecked
namespace Go.Proofs.Ytmikeegecifbfaa
open Go.RowKit
set_option maxRecDepth 100000





end Go.Proofs.Ytmikeegecifbfaa
