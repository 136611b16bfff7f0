/- Contracts: films and layers out of the laws' own types, and their comparison. Contracts: whether two films, two layers are alike. -/
import Derived.Test.YtafbolnkohebjaaGreatDoorCA
import Derived.Test.YtafbolnkohebjaaGreatDoorCP
import Derived.Test.YtafbolnkohebjaaGreatDoorHeld
namespace Go.Proofs.YtafbolnkohebjaaGreatDoor
open Go.RowKit
set_option maxRecDepth 100000

theorem put3 (z a : Nat → Nat) : fA 48 (putAt (putAt (putAt z 0 16 (rowAt a 0)) 16 16 (rowAt a 16)) 32 16 (rowAt a 32)) = fA 48 a := by
  apply fA_congr
  intro i hi
  simp only [putAt, rowAt]
  split
  · congr 1; omega
  · split
    · congr 1; omega
    · split
      · congr 1; omega
      · omega

end Go.Proofs.YtafbolnkohebjaaGreatDoor

namespace Go.Proofs.YtafbolnkohebjaaGreatDoor
open Go.RowKit
set_option maxRecDepth 100000

def same16 (x y : Nat → Nat) : Bool := allTo 16 fun i => canon .f32 (x i) == canon .f32 (y i)
def sameFilm (a b : Nat → Nat) : Bool := same16 (rowAt a 0) (rowAt b 0) && same16 (rowAt a 16) (rowAt b 16) && same16 (rowAt a 32) (rowAt b 32)
def sameLayer (a b : Nat → Nat) : Bool := same16 (rowAt a 0) (rowAt b 0) && same16 (rowAt a 16) (rowAt b 16) && (canon .f32 (a 32) == canon .f32 (b 32))

theorem lrUpon_part {P : Program} {G : FuncId → Array Value → Value → Prop} {o : Oper} {a : Act} {w : World} {g n : Nat} {t : TypeId} {b : Nat → Nat} {ty : TypeId} {x : Operand} {next : Value → (World → Prop) → Prop} (ho : o.op = .load ty x)
    (h0 : Blk w g t (fA n b)) (off m : Nat) {d : TypeDesc} (hx : a.eval x = .pointer (some ⟨g, off, none⟩)) (hm : off + m ≤ n) (hu : P.underlying ty = some d) (hd : d.isRow = true) (hi : (P.info? ty).map (·.size) = some m)
    (h : ∀ N, next (.agg (fA m (rowAt b off))) N) : lrUpon P G w next ((execOp a.eval o).run P w) := by
  unfold execOp
  simp only [ho, hx, Sem.run_bind, load_part ty h0 off m hm hu hd hi, Result.andThen_ok]
  exact ⟨R.refl _, h _⟩

theorem fA_inj {n : Nat} {x y : Nat → Nat} (h : fA n x = fA n y) {i : Nat} (hi : i < n) : x i = y i := by
  have h1 := get_fA_lt x hi
  rw [h, get_fA_lt y hi] at h1
  injection h1 with h1
  injection h1 with _ h1
  exact h1.symm
/-- The calls of one region: each compares two curves, or two numbers. -/
def GS (_f : FuncId) (args : Array Value) (u : Value) : Prop :=
  (∃ x y, args = #[.agg (fA 16 x), .agg (fA 16 y)] ∧ u = .bool (same16 x y)) ∨ ∃ p q, args = #[.float .f32 p, .float .f32 q] ∧ u = .bool (canon .f32 p == canon .f32 q)
theorem GS.curves {f : FuncId} {x y : Nat → Nat} : GS f #[.agg (fA 16 x), .agg (fA 16 y)] (.bool (same16 x y)) := .inl ⟨x, y, rfl, rfl⟩
theorem GS.numbers {f : FuncId} {p q : Nat} : GS f #[.float .f32 p, .float .f32 q] (.bool (canon .f32 p == canon .f32 q)) := .inr ⟨p, q, rfl, rfl⟩
theorem GS.inv1 {f : FuncId} {x y : Nat → Nat} {u : Value} (h : GS f #[.agg (fA 16 x), .agg (fA 16 y)] u) : u = .bool (same16 x y) := by
  rcases h with ⟨x', y', ha, rfl⟩ | ⟨p, q, ha, _⟩
  · simp only [Array.mk.injEq, List.cons.injEq, Value.agg.injEq, and_true] at ha
    exact congrArg Value.bool (allTo_congr fun i hi => by rw [fA_inj ha.1 hi, fA_inj ha.2 hi])
  · simp at ha
theorem GS.inv2 {f : FuncId} {p q : Nat} {u : Value} (h : GS f #[.float .f32 p, .float .f32 q] u) : u = .bool (canon .f32 p == canon .f32 q) := by
  rcases h with ⟨x', y', ha, _⟩ | ⟨p', q', ha, rfl⟩
  · simp at ha
  · simp only [Array.mk.injEq, List.cons.injEq, Value.float.injEq, true_and, and_true] at ha
    rw [ha.1, ha.2]

end Go.Proofs.YtafbolnkohebjaaGreatDoor
