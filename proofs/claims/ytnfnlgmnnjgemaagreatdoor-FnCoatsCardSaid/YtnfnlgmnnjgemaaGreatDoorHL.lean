/- The reading of a curve, as the reference does it. -/
import Derived.Test.YtnfnlgmnnjgemaaGreatDoorHK
import Derived.Test.YtnfnlgmnnjgemaaGreatDoorHI
namespace Go.Proofs.YtnfnlgmnnjgemaaGreatDoor
open Go.RowKit
set_option maxRecDepth 100000

/-- A text that is a number's. -/
def Num8 (t : ByteArray) (x : Nat) : Prop := x < 4294967296 ∧ t = hexT x ∧ bitsOf (canon .f32 x) = x
/-- Floats lie in a slice of the call's own. -/
def floats (n : Nat) (x : Nat → Nat) : List Value := (List.range n).map fun i => Value.float .f32 (x i)
theorem floats_succ (n : Nat) (x : Nat → Nat) : floats (n + 1) x = floats n x ++ [.float .f32 (x n)] := by simp [floats, List.range_succ]
theorem floats_congr {n : Nat} {x y : Nat → Nat} (h : ∀ i, i < n → x i = y i) : floats n x = floats n y := by
  unfold floats
  apply List.map_congr_left
  intro i hi
  rw [h i (by simpa using hi)]
end Go.Proofs.YtnfnlgmnnjgemaaGreatDoor
