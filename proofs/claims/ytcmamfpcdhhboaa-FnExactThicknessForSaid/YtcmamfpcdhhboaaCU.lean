/- Contracts: curves of ratios. -/
import Derived.Test.YtcmamfpcdhhboaaCT
namespace Go.Proofs.Ytcmamfpcdhhboaa
open Go.RowKit
set_option maxRecDepth 100000

theorem rowAt_zero (d : Nat → Nat) : rowAt d 0 = d := funext fun j => by simp [rowAt]

end Go.Proofs.Ytcmamfpcdhhboaa
