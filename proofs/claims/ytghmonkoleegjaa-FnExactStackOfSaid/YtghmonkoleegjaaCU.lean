/- Contracts: curves of ratios. -/
import Derived.Test.YtghmonkoleegjaaCT
namespace Go.Proofs.Ytghmonkoleegjaa
open Go.RowKit
set_option maxRecDepth 100000

theorem rowAt_zero (d : Nat → Nat) : rowAt d 0 = d := funext fun j => by simp [rowAt]

end Go.Proofs.Ytghmonkoleegjaa
