/- Contracts: a curve if it is finite; ratios. -/
import Derived.Test.YtghmonkoleegjaaCR
namespace Go.Proofs.Ytghmonkoleegjaa
open Go.RowKit
set_option maxRecDepth 100000

def finRes (p : Nat → Option Nat) : (Nat → Option Nat) × Int := if allTo 16 fun i => fin (p i) then (p, 0) else (fun _ => canon .f32 0, 4)
theorem finRes_congr {w : World} {p q : Nat → Option Nat} {e : Ending} {w' : World} (h : ∀ i, i < 16 → p i = q i) (hr : RetCC 16 w (finRes p).1 (finRes p).2 e w') : RetCC 16 w (finRes q).1 (finRes q).2 e w' := by
  have ha : (allTo 16 fun i => fin (p i)) = allTo 16 fun i => fin (q i) := allTo_congr fun i hi => by rw [h i hi]
  unfold finRes at hr ⊢
  rw [ha] at hr
  cases hq : (allTo 16 fun i => fin (q i)) with
  | false => rw [hq] at hr; exact hr
  | true =>
    rw [hq] at hr
    obtain ⟨r, h1, h2, h3⟩ := hr
    exact ⟨r, h1, fun i hi => (h2 i hi).trans (h i hi), h3⟩
theorem RetCC.in {n : Nat} {w w1 w' : World} {p : Nat → Option Nat} {c : Int} {e : Ending} (hb : Below w.heap.size w w1) (h : RetCC n w1 p c e w') : RetCC n w p c e w' := by
  obtain ⟨r, h1, h2, h3⟩ := h
  exact ⟨r, h1, h2, bCall hb h3 hb.size⟩

def ratioAt (x y : Option Nat) : Option Nat := if feq x (canon .f32 0) then canon .f32 0 else fdiv x y
def ratioRes (c d : Nat → Option Nat) : (Nat → Option Nat) × Int :=
  if (allTo 16 fun i => amount (c i)) && (allTo 16 fun i => amount (d i)) then finRes (fun i => ratioAt (c i) (d i)) else (fun _ => canon .f32 0, 2)
end Go.Proofs.Ytghmonkoleegjaa
