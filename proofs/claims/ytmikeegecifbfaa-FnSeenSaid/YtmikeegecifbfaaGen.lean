/- Words for the great laws' walks: rows with the code 0; what the calls of one region give. -/
import Derived.Test.YtmikeegecifbfaaCI
import Derived.Test.YtmikeegecifbfaaFin
namespace Go.Proofs.Ytmikeegecifbfaa
open Go.RowKit
set_option maxRecDepth 100000

theorem fA_of {n : Nat} {r W : Nat → Nat} (h : ∀ i, i < n → canon .f32 (r i) = some (W i)) : fA n r = fA n W :=
  fA_congr fun i hi => (canon_eq_some (h i hi)).1
theorem canon_fin {x : Nat} (h : fin (canon .f32 x) = true) : (canon .f32 x).isSome = true := by
  cases hq : canon .f32 x with
  | none => rw [hq] at h; cases h
  | some _ => rfl
/-- A curve with the code 0. -/
def RetOk (n : Nat) (w : World) (p : Nat → Option Nat) (e : Ending) (w' : World) : Prop := ∃ r, e = .returned (.tuple #[.agg (fA n r), .int .i64 0]) ∧ (∀ i, i < n → canon .f32 (r i) = p i) ∧ Below w.heap.size w w'
theorem RetCC.ok {n : Nat} {w : World} {q : (Nat → Option Nat) × Int} {p p' : Nat → Option Nat} {e : Ending} {w' : World} (h : RetCC n w q.1 q.2 e w') (hq : q = (p, 0)) (hp : ∀ i, i < n → p i = p' i) : RetOk n w p' e w' := by
  subst hq
  obtain ⟨r, h1, h2, h3⟩ := h
  exact ⟨r, h1, fun i hi => (h2 i hi).trans (hp i hi), h3⟩
def IsOk (n : Nat) (p : Nat → Option Nat) (u : Value) : Prop := ∃ r, u = .tuple #[.agg (fA n r), .int .i64 0] ∧ Hid (∀ i, i < n → canon .f32 (r i) = p i)
theorem RetOk.is {n : Nat} {w : World} {p : Nat → Option Nat} {e : Ending} {w' : World} (h : RetOk n w p e w') : ∃ u, e = .returned u ∧ IsOk n p u ∧ Below w.heap.size w w' := by
  obtain ⟨r, h1, h2, h3⟩ := h; exact ⟨_, h1, ⟨r, rfl, h2⟩, h3⟩
/-- Of curves with the same numbers. -/
theorem same_any (a b : Nat → Nat) (h : ∀ i, i < 16 → canon .f32 (a i) = canon .f32 (b i)) (w : World) : Calls Try.prog 14 #[.agg (fA 16 a), .agg (fA 16 b)] w (RetB w true) := by
  have h1 := sSameCurve_any a b w
  rw [show (allTo 16 fun i => canon .f32 (a i) == canon .f32 (b i)) = true from allTo_true fun i hi => by rw [h i hi]; exact beq_self_eq_true _] at h1
  exact h1
/-- What the calls of one region give: three functions, by their numbers. -/
def G3 (F1 F2 : FuncId) (Q1 Q2 Q3 : Value → Prop) (f : FuncId) (_ : Array Value) (u : Value) : Prop := if f == F1 then Q1 u else if f == F2 then Q2 u else Q3 u
section
variable {F1 F2 f : FuncId} {Q1 Q2 Q3 : Value → Prop} {args : Array Value} {u : Value}
theorem G3.mk1 (h1 : (f == F1) = true) (h : Q1 u) : G3 F1 F2 Q1 Q2 Q3 f args u := by unfold G3; rw [if_pos h1]; exact h
theorem G3.mk2 (h1 : (f == F1) ≠ true) (h2 : (f == F2) = true) (h : Q2 u) : G3 F1 F2 Q1 Q2 Q3 f args u := by unfold G3; rw [if_neg h1, if_pos h2]; exact h
theorem G3.mk3 (h1 : (f == F1) ≠ true) (h2 : (f == F2) ≠ true) (h : Q3 u) : G3 F1 F2 Q1 Q2 Q3 f args u := by unfold G3; rw [if_neg h1, if_neg h2]; exact h
theorem G3.of1 (h1 : (f == F1) = true) (h : G3 F1 F2 Q1 Q2 Q3 f args u) : Q1 u := by unfold G3 at h; rw [if_pos h1] at h; exact h
theorem G3.of2 (h1 : (f == F1) ≠ true) (h2 : (f == F2) = true) (h : G3 F1 F2 Q1 Q2 Q3 f args u) : Q2 u := by unfold G3 at h; rw [if_neg h1, if_pos h2] at h; exact h
theorem G3.of3 (h1 : (f == F1) ≠ true) (h2 : (f == F2) ≠ true) (h : G3 F1 F2 Q1 Q2 Q3 f args u) : Q3 u := by unfold G3 at h; rw [if_neg h1, if_neg h2] at h; exact h
end
end Go.Proofs.Ytmikeegecifbfaa
