/- Contracts: ratios of what is reflected, and back. -/
import Derived.Test.YtghmonkoleegjaaCT
import Derived.Test.YtghmonkoleegjaaCX
namespace Go.Proofs.Ytghmonkoleegjaa
open Go.RowKit
set_option maxRecDepth 100000

/-- What a function of one number may give, by its number; of two. -/
def GM (o2 : Option Nat → Option Nat → Option Nat) (o1 : FuncId → Option Nat → Option Nat) (f : FuncId) (args : Array Value) (u : Value) : Prop :=
  (∃ p q r, args = #[.float .f32 p, .float .f32 q] ∧ u = .float .f32 r ∧ canon .f32 r = o2 (canon .f32 p) (canon .f32 q)) ∨ (∃ p r, args = #[.float .f32 p] ∧ u = .float .f32 r ∧ canon .f32 r = o1 f (canon .f32 p))
section
variable {o2 : Option Nat → Option Nat → Option Nat} {o1 : FuncId → Option Nat → Option Nat} {f : FuncId}
theorem GM.mk2 {p q r : Nat} (h : canon .f32 r = o2 (canon .f32 p) (canon .f32 q)) : GM o2 o1 f #[.float .f32 p, .float .f32 q] (.float .f32 r) := .inl ⟨p, q, r, rfl, rfl, h⟩
theorem GM.mk1 {p r : Nat} (h : canon .f32 r = o1 f (canon .f32 p)) : GM o2 o1 f #[.float .f32 p] (.float .f32 r) := .inr ⟨p, r, rfl, rfl, h⟩
theorem GM.inv2 {p q : Nat} {u : Value} (h : GM o2 o1 f #[.float .f32 p, .float .f32 q] u) : ∃ r, u = .float .f32 r ∧ Hid (canon .f32 r = o2 (canon .f32 p) (canon .f32 q)) := by
  rcases h with ⟨p', q', r, ha, hu, hr⟩ | ⟨p', r, ha, _⟩
  · simp only [Array.mk.injEq, List.cons.injEq, Value.float.injEq, true_and, and_true] at ha
    obtain ⟨rfl, rfl⟩ := ha
    exact ⟨r, hu, hr⟩
  · simp at ha
theorem GM.inv1 {p : Nat} {u : Value} (h : GM o2 o1 f #[.float .f32 p] u) : ∃ r, u = .float .f32 r ∧ Hid (canon .f32 r = o1 f (canon .f32 p)) := by
  rcases h with ⟨p', q', r, ha, _⟩ | ⟨p', r, ha, hu, hr⟩
  · simp at ha
  · simp only [Array.mk.injEq, List.cons.injEq, Value.float.injEq, true_and, and_true] at ha
    subst ha
    exact ⟨r, hu, hr⟩
end

def two : Option Nat := canon .f32 1073741824
def reflectAt (q : Option Nat) : Option Nat := fdiv (canon .f32 1065353216) (fadd (fadd (canon .f32 1065353216) q) (froot (fadd (fmul q q) (fmul two q))))
def ofRatioRes (c : Nat → Option Nat) : (Nat → Option Nat) × Int := if (allTo 16 fun i => amount (c i)) then finRes (fun i => reflectAt (c i)) else (fun _ => canon .f32 0, 2)
def unratio (a : Option Nat) : Option Nat := fdiv (fmul (fsub (canon .f32 1065353216) a) (fsub (canon .f32 1065353216) a)) (fmul two a)
def lit (x : Option Nat) : Bool := fgt x (canon .f32 0) && fle x (canon .f32 1065353216)
def ratioOfRes (c : Nat → Option Nat) : (Nat → Option Nat) × Int := if (allTo 16 fun i => lit (c i)) then finRes (fun i => unratio (c i)) else (fun _ => canon .f32 0, 2)

end Go.Proofs.Ytghmonkoleegjaa
