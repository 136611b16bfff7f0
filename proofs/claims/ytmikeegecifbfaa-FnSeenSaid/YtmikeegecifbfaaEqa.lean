/- '==' of arrays of float32, and of arrays of these: true where all numbers are equal. No program is named here. -/
import Derived.Test.YtmikeegecifbfaaRow
import Derived.Test.YtmikeegecifbfaaKit
import Derived.Laws.StructEq
namespace Go.Proofs.Ytmikeegecifbfaa
open Go.RowKit

section
variable {P : Program} (w : World)
theorem run_equal_arr (d : Nat) (T e : TypeId) (n s : Nat) (xs ys : Array Value) (hT : P.underlying T = some (.array n e)) (hs : (sizeOf e).run P w = .ok s w)
    (hall : ∀ i, i < n → ∃ x y, (part e xs (i * s)).run P w = .ok x w ∧ (part e ys (i * s)).run P w = .ok y w ∧ (Op.equalIn d e x y).run P w = .ok true w) :
    (Op.equalIn (d + 1) T (.agg xs) (.agg ys)).run P w = .ok true w := by
  simp only [Op.equalIn, Sem.run_bind, run_underlying hT, Result.andThen_ok, hs]
  rw [Std.Legacy.Range.forIn_eq_forIn_range']
  simp only [Std.Legacy.Range.size, Nat.sub_zero, Nat.add_one_sub_one, Nat.div_one]
  have key : ∀ l : List Nat, (∀ i ∈ l, i < n) → (forIn l ((none, ()) : Option Bool × Unit) fun i (_ : Option Bool × Unit) => do
            let a ← part e xs (i * s)
            let b ← part e ys (i * s)
            let c ← Op.equalIn d e a b
            if (!c) = true then pure (ForInStep.done (some false, ())) else pure (ForInStep.yield (none, ()))).run P w = .ok (none, ()) w := by
    intro l
    induction l with
    | nil => intro _; simp
    | cons i l ih =>
      intro hl
      obtain ⟨x, y, h1, h2, h3⟩ := hall i (hl i (by simp))
      simp only [List.forIn_cons, Sem.run_bind, h1, h2, h3, Result.andThen_ok, Bool.not_true, Bool.false_eq_true, if_false, Sem.run_pure]
      exact ih fun j hj => hl j (by simp [hj])
  rw [key _ (by intro i hi; simpa using (List.mem_range'.1 hi))]
  simp

theorem run_size_of {t : TypeId} {s : Nat} (h : (P.info? t).map (·.size) = some s) : (sizeOf t).run P w = .ok s w := by
  cases hq : P.info? t with
  | none => simp [hq] at h
  | some inf =>
    have hs : inf.size = s := by simpa [hq] using h
    simp [sizeOf, typeInfo, hq, hs]
theorem isAgg_float {e : TypeId} {k : FloatKind} (he : P.underlying e = some (.float k)) : (isAgg e).run P w = .ok false w := by
  unfold isAgg
  rw [Sem.run_bind, run_underlying he w]
  rfl
theorem isAgg_arr {e t : TypeId} {n : Nat} (he : P.underlying e = some (.array n t)) : (isAgg e).run P w = .ok true w := by
  unfold isAgg
  rw [Sem.run_bind, run_underlying he w]
  rfl
theorem part_float {e : TypeId} {n : Nat} (b : Nat → Nat) {i : Nat} (he : P.underlying e = some (.float .f32)) (hi : i < n) : (part e (fA n b) i).run P w = .ok (.float .f32 (b i)) w := by
  have hg := get_fA_lt b hi
  rw [Array.getElem?_eq_getElem (by simpa using hi)] at hg
  simp [part, isAgg_float w he, hi, Option.some.inj hg]
theorem part_arr {e t : TypeId} {n m : Nat} (b : Nat → Nat) {i : Nat} (he : P.underlying e = some (.array m t)) (hz : (P.info? e).map (·.size) = some m) (hi : i + m ≤ n) : (part e (fA n b) i).run P w = .ok (.agg (fA m fun j => b (i + j))) w := by
  have := fA_extract n b i (i + m) hi
  rw [show i + m - i = m by omega] at this
  simp [part, run_size_of w hz, isAgg_arr w he, this]
theorem equal_float {e : TypeId} (d : Nat) {a b : Nat} (he : P.underlying e = some (.float .f32)) (h : FloatKind.f32.format.order a b = some .eq) : (Op.equalIn (d + 1) e (.float .f32 a) (.float .f32 b)).run P w = .ok true w := by
  simp [Op.equalIn, run_underlying he, Op.floatEq, h]
/-- An array of float32. -/
theorem equal_row {T e : TypeId} (d n : Nat) {a b : Nat → Nat} (hT : P.underlying T = some (.array n e)) (he : P.underlying e = some (.float .f32)) (hz : (P.info? e).map (·.size) = some 1) (h : ∀ i, i < n → FloatKind.f32.format.order (a i) (b i) = some .eq) :
    (Op.equalIn (d + 2) T (.agg (fA n a)) (.agg (fA n b))).run P w = .ok true w := by
  refine run_equal_arr w (d + 1) T e n 1 _ _ hT (run_size_of w hz) fun i hi => ⟨_, _, part_float w a he (by omega), part_float w b he (by omega), ?_⟩
  rw [Nat.mul_one]
  exact equal_float w d he (h i hi)
/-- An array of arrays of float32. -/
theorem equal_rows {T U e : TypeId} (d n m : Nat) {a b : Nat → Nat} (hT : P.underlying T = some (.array n U)) (hU : P.underlying U = some (.array m e)) (he : P.underlying e = some (.float .f32)) (hz : (P.info? e).map (·.size) = some 1) (hzU : (P.info? U).map (·.size) = some m)
    (h : ∀ i, i < n * m → FloatKind.f32.format.order (a i) (b i) = some .eq) : (Op.equalIn (d + 3) T (.agg (fA (n * m) a)) (.agg (fA (n * m) b))).run P w = .ok true w := by
  refine run_equal_arr w (d + 2) T U n m _ _ hT (run_size_of w hzU) fun i hi => ?_
  have h1 : i * m + m ≤ n * m := by
    have := Nat.mul_le_mul_right m (show i + 1 ≤ n from hi)
    rw [Nat.add_mul] at this
    omega
  exact ⟨_, _, part_arr w a hU hzU h1, part_arr w b hU hzU h1, equal_row w d m hU he hz fun j hj => h _ (by omega)⟩
theorem neq_row {T e : TypeId} (n : Nat) {a b : Nat → Nat} (hT : P.underlying T = some (.array n e)) (he : P.underlying e = some (.float .f32)) (hz : (P.info? e).map (·.size) = some 1) (h : ∀ i, i < n → FloatKind.f32.format.order (a i) (b i) = some .eq) :
    (binOp .neq T (.agg (fA n a)) (.agg (fA n b))).run P w = .ok (.bool false) w := by
  rw [run_neq_struct, equal_row w 9998 n hT he hz h]; rfl
theorem eql_row {T e : TypeId} (n : Nat) {a b : Nat → Nat} (hT : P.underlying T = some (.array n e)) (he : P.underlying e = some (.float .f32)) (hz : (P.info? e).map (·.size) = some 1) (h : ∀ i, i < n → FloatKind.f32.format.order (a i) (b i) = some .eq) :
    (binOp .eql T (.agg (fA n a)) (.agg (fA n b))).run P w = .ok (.bool true) w := by
  rw [run_eql_struct, equal_row w 9998 n hT he hz h]; rfl
theorem neq_rows {T U e : TypeId} (n m : Nat) {a b : Nat → Nat} (hT : P.underlying T = some (.array n U)) (hU : P.underlying U = some (.array m e)) (he : P.underlying e = some (.float .f32)) (hz : (P.info? e).map (·.size) = some 1) (hzU : (P.info? U).map (·.size) = some m)
    (h : ∀ i, i < n * m → FloatKind.f32.format.order (a i) (b i) = some .eq) : (binOp .neq T (.agg (fA (n * m) a)) (.agg (fA (n * m) b))).run P w = .ok (.bool false) w := by
  rw [run_neq_struct, equal_rows w 9997 n m hT hU he hz hzU h]; rfl
end
theorem order_refl {x : Nat} (h : (canon .f32 x).isSome = true) : FloatKind.f32.format.order x x = some .eq := by rw [order_self, if_pos h]
end Go.Proofs.Ytmikeegecifbfaa
