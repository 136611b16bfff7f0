/- Contracts: films and layers that are made: empty, mirrors, turned, out of curves; the sum of products. -/
import Derived.Test.YtmikeegecifbfaaCP
import Derived.Test.YtmikeegecifbfaaCH
namespace Go.Proofs.Ytmikeegecifbfaa
open Go.RowKit
set_option maxRecDepth 100000

theorem wpList_build_as {P : Program} {ops : Array Oper} {rest : List Oper} {o : Oper} {a : Act} {w : World} {Q : Exit → Act → World → Prop} (hg : o.guard = none) (t : TypeId) (parts : Array (Nat × Operand)) (ho : o.op = .build t parts)
    (cells : Array Value) (hc : P.built t (parts.map fun (i, x) => (i, a.eval x)).toList = some cells) (h : wpList P ops Q rest (a.put o.dst (.agg cells)) w) : wpList P ops Q (o :: rest) a w :=
  wpList_build hg t parts ho (by rw [hc]; rfl) (by rw [hc]; exact h)

/-- A film out of three curves; a layer out of two and a number. -/
def film3 (r b t : Nat → Nat) : Nat → Nat := fun j => if j < 16 then r j else if j < 32 then b (j - 16) else t (j - 32)
def layer3 (k s : Nat → Nat) (x : Nat) : Nat → Nat := fun j => if j < 16 then k j else if j < 32 then s (j - 16) else x
def emptyAt (i : Nat) : Option Nat := if i < 32 then canon .f32 0 else canon .f32 1065353216
def mirrorRes (x : Option Nat) : (Nat → Option Nat) × Int := if share x then (fun i => if i < 32 then x else fsub (canon .f32 1065353216) x, 0) else (fun _ => canon .f32 0, 2)
def turnRes (f : Nat → Nat) : (Nat → Option Nat) × Int := if filmOk f then (fun i => canon .f32 (film3 (rowAt f 16) (rowAt f 0) (rowAt f 32) i), 0) else (fun _ => canon .f32 0, 1)
def layerRes (k s : Nat → Nat) (x : Nat) : (Nat → Option Nat) × Int := if layerOk (layer3 k s x) then (fun i => canon .f32 (layer3 k s x i), 0) else (fun _ => canon .f32 0, 1)
theorem film3_at {r b t : Nat → Nat} {p q : Option Nat} (hr : ∀ i, i < 16 → canon .f32 (r i) = p) (hb : ∀ i, i < 16 → canon .f32 (b i) = p) (ht : ∀ i, i < 16 → canon .f32 (t i) = q) : ∀ i, i < 48 → canon .f32 (film3 r b t i) = if i < 32 then p else q := by
  intro i hi
  unfold film3
  by_cases h1 : i < 16
  · rw [if_pos h1, if_pos (by omega)]; exact hr i h1
  · by_cases h2 : i < 32
    · rw [if_neg h1, if_pos h2, if_pos h2]; exact hb _ (by omega)
    · rw [if_neg h1, if_neg h2, if_neg h2]; exact ht _ (by omega)

end Go.Proofs.Ytmikeegecifbfaa
