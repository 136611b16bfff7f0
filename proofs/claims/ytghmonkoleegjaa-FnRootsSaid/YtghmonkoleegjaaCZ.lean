/- Contracts: distances and differences of looks. -/
import Derived.Test.YtghmonkoleegjaaCY
import Derived.Test.YtghmonkoleegjaaCC
namespace Go.Proofs.Ytghmonkoleegjaa
open Go.RowKit
set_option maxRecDepth 100000

def sqd (x y : Option Nat) : Option Nat := fmul (fsub x y) (fsub x y)
def distOf (u v : Nat → Option Nat) : Option Nat := froot (fadd (fadd (sqd (u 0) (v 0)) (sqd (u 1) (v 1))) (sqd (u 2) (v 2)))
def tint (u : Nat → Option Nat) : Option Nat := fadd (canon .f32 1065353216) (fmul (canon .f32 1008981770) (froot (fadd (fmul (u 1) (u 1)) (fmul (u 2) (u 2)))))
def diffOf (u v : Nat → Option Nat) : Option Nat := froot (fadd (sqd (u 0) (v 0)) (fdiv (fadd (sqd (u 1) (v 1)) (sqd (u 2) (v 2))) (fmul (tint u) (tint u))))

end Go.Proofs.Ytghmonkoleegjaa
