/- The texts of curves, as the reference writes them. -/
import Derived.Test.YtnfnlgmnnjgemaaGreatDoorHC
namespace Go.Proofs.YtnfnlgmnnjgemaaGreatDoor
open Go.RowKit
set_option maxRecDepth 100000

/-- The texts of numbers, one behind the other, a blank between two. -/
def rowT (x : Nat → Nat) : Nat → ByteArray
  | 0 => ⟨#[]⟩
  | k + 1 => (if k = 0 then rowT x k else rowT x k ++ ⟨#[32]⟩) ++ hexT (x k)
theorem rowT_size (x : Nat → Nat) (k : Nat) : (rowT x k).size ≤ 9 * k := by
  induction k with
  | zero => exact Nat.le_refl _
  | succ k ih =>
    unfold rowT
    split <;> simp only [ByteArray.size_append, hexT_size]
    · omega
    · have : (⟨#[32]⟩ : ByteArray).size = 1 := rfl
      omega

theorem rowT_succ (x : Nat → Nat) (k : Nat) (h : k ≠ 0) : rowT x (k + 1) = rowT x k ++ ⟨#[32]⟩ ++ hexT (x k) := by
  show (if k = 0 then rowT x k else rowT x k ++ ⟨#[32]⟩) ++ hexT (x k) = _
  rw [if_neg h]
end Go.Proofs.YtnfnlgmnnjgemaaGreatDoor
