/- Contracts: sums of curves, sameness of curves, lights, names of codes. -/
import Derived.Test.YtcmamfpcdhhboaaCG
namespace Go.Proofs.Ytcmamfpcdhhboaa
open Go.RowKit
set_option maxRecDepth 100000

end Go.Proofs.Ytcmamfpcdhhboaa
