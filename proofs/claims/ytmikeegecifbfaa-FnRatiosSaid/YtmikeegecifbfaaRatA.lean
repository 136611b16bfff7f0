/- Ratios of sixty-fourths: what the law of ratios asks of each pair. No program is walked here. -/
import Derived.Test.YtmikeegecifbfaaDra
import Derived.Test.YtmikeegecifbfaaCY
import Derived.Test.YtmikeegecifbfaaCU
import Derived.Test.YtmikeegecifbfaaDP
namespace Go.Proofs.Ytmikeegecifbfaa
open Go.RowKit
set_option maxRecDepth 100000

def forceB (n : Option Nat) (f : Option Nat → Bool) : Bool := match n with
  | none => f none
  | some 0 => f (some 0)
  | some (k + 1) => f (some (k + 1))
def kOf (u : Nat) : Option Nat := plain u
def sOf (v : Nat) : Option Nat := fadd (plain v) (canon .f32 1048576000)
def qOf (u v : Nat) : Option Nat := ratioAt (kOf u) (sOf v)
def ratTest (q r b p q2 : Option Nat) : Bool := amount q && fin r && lit r && fin b && near b q (canon .f32 981668463) && amount q2 && fin p && fgt r p
def ratChk (u v : Nat) : Bool := amount (kOf u) && amount (sOf v) && fgt (sOf v) (canon .f32 0) && fin (qOf u v) &&
  forceB (qOf u v) fun q => forceB (reflectAt q) fun r => forceB (fadd q (canon .f32 1056964608)) fun q2 => forceB (unratio r) fun b => forceB (reflectAt q2) fun p => ratTest q r b p q2
def ratRows (u n : Nat) : Bool := (List.range n).all fun i => (List.range 65).all (ratChk (u + i))
end Go.Proofs.Ytmikeegecifbfaa
