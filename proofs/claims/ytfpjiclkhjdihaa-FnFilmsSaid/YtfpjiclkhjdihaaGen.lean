/- Words for the great laws' walks: rows with the code 0; what the calls of one region give. '==' of arrays of float32, and of arrays of these: true where all numbers are equal. No program is named here. -/
import Derived.Test.YtfpjiclkhjdihaaCA
import Derived.Test.YtfpjiclkhjdihaaHlf
import Derived.Test.YtfpjiclkhjdihaaKit
import Derived.Laws.StructEq
namespace Go.Proofs.Ytfpjiclkhjdihaa
open Go.RowKit
set_option maxRecDepth 100000

theorem fA_of {n : Nat} {r W : Nat → Nat} (h : ∀ i, i < n → canon .f32 (r i) = some (W i)) : fA n r = fA n W :=
  fA_congr fun i hi => (canon_eq_some (h i hi)).1
theorem canon_fin {x : Nat} (h : fin (canon .f32 x) = true) : (canon .f32 x).isSome = true := by
  cases hq : canon .f32 x with
  | none => rw [hq] at h; cases h
  | some _ => rfl
/-- A curve with the code 0. -/
def RetOk (n : Nat) (w : World) (p : Nat → Option Nat) (e : Ending) (w' : World) : Prop := ∃ r, e = .returned (.tuple #[.agg (fA n r), .int .i64 0]) ∧ (∀ i, i < n → canon .f32 (r i) = p i) ∧ Below w.heap.size w w'
theorem RetCC.ok {n : Nat} {w : World} {q : (Nat → Option Nat) × Int} {p p' : Nat → Option Nat} {e : Ending} {w' : World} (h : RetCC n w q.1 q.2 e w') (hq : q = (p, 0)) (hp : ∀ i, i < n → p i = p' i) : RetOk n w p' e w' := by
  subst hq
  obtain ⟨r, h1, h2, h3⟩ := h
  exact ⟨r, h1, fun i hi => (h2 i hi).trans (hp i hi), h3⟩
def IsOk (n : Nat) (p : Nat → Option Nat) (u : Value) : Prop := ∃ r, u = .tuple #[.agg (fA n r), .int .i64 0] ∧ Hid (∀ i, i < n → canon .f32 (r i) = p i)
theorem RetOk.is {n : Nat} {w : World} {p : Nat → Option Nat} {e : Ending} {w' : World} (h : RetOk n w p e w') : ∃ u, e = .returned u ∧ IsOk n p u ∧ Below w.heap.size w w' := by
  obtain ⟨r, h1, h2, h3⟩ := h; exact ⟨_, h1, ⟨r, rfl, h2⟩, h3⟩
/-- Of curves with the same numbers. -/
theorem same_any (a b : Nat → Nat) (h : ∀ i, i < 16 → canon .f32 (a i) = canon .f32 (b i)) (w : World) : Calls Try.prog 16 #[.agg (fA 16 a), .agg (fA 16 b)] w (RetB w true) := by
  have h1 := sSameCurve_any a b w
  rw [show (allTo 16 fun i => canon .f32 (a i) == canon .f32 (b i)) = true from allTo_true fun i hi => by rw [h i hi]; exact beq_self_eq_true _] at h1
  exact h1
/-- What the calls of one region give: three functions, by their numbers. -/
def G3 (F1 F2 : FuncId) (Q1 Q2 Q3 : Value → Prop) (f : FuncId) (_ : Array Value) (u : Value) : Prop := if f == F1 then Q1 u else if f == F2 then Q2 u else Q3 u
section
variable {F1 F2 f : FuncId} {Q1 Q2 Q3 : Value → Prop} {args : Array Value} {u : Value}
theorem G3.mk1 (h1 : (f == F1) = true) (h : Q1 u) : G3 F1 F2 Q1 Q2 Q3 f args u := by unfold G3; rw [if_pos h1]; exact h
theorem G3.mk2 (h1 : (f == F1) ≠ true) (h2 : (f == F2) = true) (h : Q2 u) : G3 F1 F2 Q1 Q2 Q3 f args u := by unfold G3; rw [if_neg h1, if_pos h2]; exact h
theorem G3.mk3 (h1 : (f == F1) ≠ true) (h2 : (f == F2) ≠ true) (h : Q3 u) : G3 F1 F2 Q1 Q2 Q3 f args u := by unfold G3; rw [if_neg h1, if_neg h2]; exact h
theorem G3.of1 (h1 : (f == F1) = true) (h : G3 F1 F2 Q1 Q2 Q3 f args u) : Q1 u := by unfold G3 at h; rw [if_pos h1] at h; exact h
theorem G3.of2 (h1 : (f == F1) ≠ true) (h2 : (f == F2) = true) (h : G3 F1 F2 Q1 Q2 Q3 f args u) : Q2 u := by unfold G3 at h; rw [if_neg h1, if_pos h2] at h; exact h
theorem G3.of3 (h1 : (f == F1) ≠ true) (h2 : (f == F2) ≠ true) (h : G3 F1 F2 Q1 Q2 Q3 f args u) : Q3 u := by unfold G3 at h; rw [if_neg h1, if_neg h2] at h; exact h
end
end Go.Proofs.Ytfpjiclkhjdihaa

namespace Go.Proofs.Ytfpjiclkhjdihaa
open Go.RowKit

section
variable {P : Program} (w : World)
theorem run_equal_arr (d : Nat) (T e : TypeId) (n s : Nat) (xs ys : Array Value) (hT : P.underlying T = some (.array n e)) (hs : (sizeOf e).run P w = .ok s w)
    (hall : ∀ i, i < n → ∃ x y, (part e xs (i * s)).run P w = .ok x w ∧ (part e ys (i * s)).run P w = .ok y w ∧ (Op.equalIn d e x y).run P w = .ok true w) :
    (Op.equalIn (d + 1) T (.agg xs) (.agg ys)).run P w = .ok true w := by
  simp only [Op.equalIn, Sem.run_bind, run_underlying hT, Result.andThen_ok, hs]
  rw [Std.Legacy.Range.forIn_eq_forIn_range']
  simp only [Std.Legacy.Range.size, Nat.sub_zero, Nat.add_one_sub_one, Nat.div_one]
  have key : ∀ l : List Nat, (∀ i ∈ l, i < n) → (forIn l ((none, ()) : Option Bool × Unit) fun i (_ : Option Bool × Unit) => do
            let a ← part e xs (i * s)
            let b ← part e ys (i * s)
            let c ← Op.equalIn d e a b
            if (!c) = true then pure (ForInStep.done (some false, ())) else pure (ForInStep.yield (none, ()))).run P w = .ok (none, ()) w := by
    intro l
    induction l with
    | nil => intro _; simp
    | cons i l ih =>
      intro hl
      obtain ⟨x, y, h1, h2, h3⟩ := hall i (hl i (by simp))
      simp only [List.forIn_cons, Sem.run_bind, h1, h2, h3, Result.andThen_ok, Bool.not_true, Bool.false_eq_true, if_false, Sem.run_pure]
      exact ih fun j hj => hl j (by simp [hj])
  rw [key _ (by intro i hi; simpa using (List.mem_range'.1 hi))]
  simp

theorem run_size_of {t : TypeId} {s : Nat} (h : (P.info? t).map (·.size) = some s) : (sizeOf t).run P w = .ok s w := by
  cases hq : P.info? t with
  | none => simp [hq] at h
  | some inf =>
    have hs : inf.size = s := by simpa [hq] using h
    simp [sizeOf, typeInfo, hq, hs]
theorem isAgg_float {e : TypeId} {k : FloatKind} (he : P.underlying e = some (.float k)) : (isAgg e).run P w = .ok false w := by
  unfold isAgg
  rw [Sem.run_bind, run_underlying he w]
  rfl
theorem isAgg_arr {e t : TypeId} {n : Nat} (he : P.underlying e = some (.array n t)) : (isAgg e).run P w = .ok true w := by
  unfold isAgg
  rw [Sem.run_bind, run_underlying he w]
  rfl
theorem part_float {e : TypeId} {n : Nat} (b : Nat → Nat) {i : Nat} (he : P.underlying e = some (.float .f32)) (hi : i < n) : (part e (fA n b) i).run P w = .ok (.float .f32 (b i)) w := by
  have hg := get_fA_lt b hi
  rw [Array.getElem?_eq_getElem (by simpa using hi)] at hg
  simp [part, isAgg_float w he, hi, Option.some.inj hg]
theorem part_arr {e t : TypeId} {n m : Nat} (b : Nat → Nat) {i : Nat} (he : P.underlying e = some (.array m t)) (hz : (P.info? e).map (·.size) = some m) (hi : i + m ≤ n) : (part e (fA n b) i).run P w = .ok (.agg (fA m fun j => b (i + j))) w := by
  have := fA_extract n b i (i + m) hi
  rw [show i + m - i = m by omega] at this
  simp [part, run_size_of w hz, isAgg_arr w he, this]
theorem equal_float {e : TypeId} (d : Nat) {a b : Nat} (he : P.underlying e = some (.float .f32)) (h : FloatKind.f32.format.order a b = some .eq) : (Op.equalIn (d + 1) e (.float .f32 a) (.float .f32 b)).run P w = .ok true w := by
  simp [Op.equalIn, run_underlying he, Op.floatEq, h]
/-- An array of float32. -/
theorem equal_row {T e : TypeId} (d n : Nat) {a b : Nat → Nat} (hT : P.underlying T = some (.array n e)) (he : P.underlying e = some (.float .f32)) (hz : (P.info? e).map (·.size) = some 1) (h : ∀ i, i < n → FloatKind.f32.format.order (a i) (b i) = some .eq) :
    (Op.equalIn (d + 2) T (.agg (fA n a)) (.agg (fA n b))).run P w = .ok true w := by
  refine run_equal_arr w (d + 1) T e n 1 _ _ hT (run_size_of w hz) fun i hi => ⟨_, _, part_float w a he (by omega), part_float w b he (by omega), ?_⟩
  rw [Nat.mul_one]
  exact equal_float w d he (h i hi)
/-- An array of arrays of float32. -/
theorem equal_rows {T U e : TypeId} (d n m : Nat) {a b : Nat → Nat} (hT : P.underlying T = some (.array n U)) (hU : P.underlying U = some (.array m e)) (he : P.underlying e = some (.float .f32)) (hz : (P.info? e).map (·.size) = some 1) (hzU : (P.info? U).map (·.size) = some m)
    (h : ∀ i, i < n * m → FloatKind.f32.format.order (a i) (b i) = some .eq) : (Op.equalIn (d + 3) T (.agg (fA (n * m) a)) (.agg (fA (n * m) b))).run P w = .ok true w := by
  refine run_equal_arr w (d + 2) T U n m _ _ hT (run_size_of w hzU) fun i hi => ?_
  have h1 : i * m + m ≤ n * m := by
    have := Nat.mul_le_mul_right m (show i + 1 ≤ n from hi)
    rw [Nat.add_mul] at this
    omega
  exact ⟨_, _, part_arr w a hU hzU h1, part_arr w b hU hzU h1, equal_row w d m hU he hz fun j hj => h _ (by omega)⟩
theorem neq_row {T e : TypeId} (n : Nat) {a b : Nat → Nat} (hT : P.underlying T = some (.array n e)) (he : P.underlying e = some (.float .f32)) (hz : (P.info? e).map (·.size) = some 1) (h : ∀ i, i < n → FloatKind.f32.format.order (a i) (b i) = some .eq) :
    (binOp .neq T (.agg (fA n a)) (.agg (fA n b))).run P w = .ok (.bool false) w := by
  rw [run_neq_struct, equal_row w 9998 n hT he hz h]; rfl
theorem eql_row {T e : TypeId} (n : Nat) {a b : Nat → Nat} (hT : P.underlying T = some (.array n e)) (he : P.underlying e = some (.float .f32)) (hz : (P.info? e).map (·.size) = some 1) (h : ∀ i, i < n → FloatKind.f32.format.order (a i) (b i) = some .eq) :
    (binOp .eql T (.agg (fA n a)) (.agg (fA n b))).run P w = .ok (.bool true) w := by
  rw [run_eql_struct, equal_row w 9998 n hT he hz h]; rfl
theorem neq_rows {T U e : TypeId} (n m : Nat) {a b : Nat → Nat} (hT : P.underlying T = some (.array n U)) (hU : P.underlying U = some (.array m e)) (he : P.underlying e = some (.float .f32)) (hz : (P.info? e).map (·.size) = some 1) (hzU : (P.info? U).map (·.size) = some m)
    (h : ∀ i, i < n * m → FloatKind.f32.format.order (a i) (b i) = some .eq) : (binOp .neq T (.agg (fA (n * m) a)) (.agg (fA (n * m) b))).run P w = .ok (.bool false) w := by
  rw [run_neq_struct, equal_rows w 9997 n m hT hU he hz hzU h]; rfl
end
theorem order_refl {x : Nat} (h : (canon .f32 x).isSome = true) : FloatKind.f32.format.order x x = some .eq := by rw [order_self, if_pos h]
end Go.Proofs.Ytfpjiclkhjdihaa
