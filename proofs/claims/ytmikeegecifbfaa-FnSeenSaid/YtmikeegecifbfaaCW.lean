/- Contracts: bumps that may be refused. -/
import Derived.Test.YtmikeegecifbfaaCV
namespace Go.Proofs.Ytmikeegecifbfaa
open Go.RowKit
set_option maxRecDepth 100000

def bumpOk (p q : Option Nat) : Bool := fin p && fin q && fgt q (canon .f32 0)
def bumpRes (p q : Option Nat) : (Nat → Option Nat) × Int := if bumpOk p q then (fun i => bumpAt p q i, 0) else (fun _ => canon .f32 0, 2)

end Go.Proofs.Ytmikeegecifbfaa
