/- Contracts: sums; whether two rows are alike. -/
import Derived.Test.YtcmamfpcdhhboaaCB
namespace Go.Proofs.Ytcmamfpcdhhboaa
open Go.RowKit
set_option maxRecDepth 100000



end Go.Proofs.Ytcmamfpcdhhboaa
