/- Words for contracts: what a call gives, up to the bits of a NaN; what it leaves of memory. No program is named here. -/
import Derived.Test.YtmikeegecifbfaaRow
import Derived.Test.YtmikeegecifbfaaLoose
import Derived.Test.YtmikeegecifbfaaNum
import Derived.Lib.Hide
namespace Go.Proofs.Ytmikeegecifbfaa
open Go.RowKit

/-! ### Numbers -/
def fadd (x y : Option Nat) : Option Nat := cop .add .f32 x y
def fsub (x y : Option Nat) : Option Nat := cop .sub .f32 x y
def fmul (x y : Option Nat) : Option Nat := cop .mul .f32 x y
def fdiv (x y : Option Nat) : Option Nat := cop .quo .f32 x y
def flt (x y : Option Nat) : Bool := cord .f32 x y == some .lt
def feq (x y : Option Nat) : Bool := cord .f32 x y == some .eq
def fgt (x y : Option Nat) : Bool := cord .f32 x y == some .gt
def fle (x y : Option Nat) : Bool := cord .f32 x y == some .lt || cord .f32 x y == some .eq
def fge (x y : Option Nat) : Bool := cord .f32 x y == some .gt || cord .f32 x y == some .eq
/-- A word that is written in the text. -/
abbrev K32 (b : Nat) : Option Nat := canon .f32 b

section
variable (x y : Nat) (w : World)
theorem c_add : canon .f32 (fval .add .f32 x y w) = fadd (canon .f32 x) (canon .f32 y) := canon_fval ..
theorem c_sub : canon .f32 (fval .sub .f32 x y w) = fsub (canon .f32 x) (canon .f32 y) := canon_fval ..
theorem c_mul : canon .f32 (fval .mul .f32 x y w) = fmul (canon .f32 x) (canon .f32 y) := canon_fval ..
theorem c_div : canon .f32 (fval .quo .f32 x y w) = fdiv (canon .f32 x) (canon .f32 y) := canon_fval ..
theorem o_lt : (FloatKind.f32.format.order x y == some .lt) = flt (canon .f32 x) (canon .f32 y) := by rw [order_canon]; rfl
theorem o_eq : (FloatKind.f32.format.order x y == some .eq) = feq (canon .f32 x) (canon .f32 y) := by rw [order_canon]; rfl
theorem o_ge : (FloatKind.f32.format.order x y == some .gt || FloatKind.f32.format.order x y == some .eq) = fge (canon .f32 x) (canon .f32 y) := by rw [order_canon]; rfl
theorem o_le : (FloatKind.f32.format.order x y == some .lt || FloatKind.f32.format.order x y == some .eq) = fle (canon .f32 x) (canon .f32 y) := by rw [order_canon]; rfl
theorem o_gt : (FloatKind.f32.format.order x y == some .gt) = fgt (canon .f32 x) (canon .f32 y) := by rw [order_canon]; rfl
end

/-- The sum of the first numbers, from the first one on; 0 for none. -/
def fsumTo (p : Nat → Option Nat) : Nat → Option Nat
  | 0 => canon .f32 0
  | 1 => p 0
  | k + 2 => fadd (fsumTo p (k + 1)) (p (k + 1))
/-- A whole number as a float32. -/
def fint (i : Int) : Option Nat := canon .f32 (floatOfInt .f32 i)
/-- One number of a mixed curve; of a light. -/
def mixOf (share x y : Option Nat) : Option Nat := fadd (fmul x (fsub (canon .f32 1065353216) share)) (fmul y share)
def lightAt (warmth : Option Nat) (i : Nat) : Option Nat := fadd (canon .f32 1065353216) (fmul warmth (fdiv (fsub (fint i) (canon .f32 1089470464)) (canon .f32 1090519040)))
def allTo (n : Nat) (p : Nat → Bool) : Bool := (List.range n).all p
theorem allTo_true {n : Nat} {p : Nat → Bool} (h : ∀ j, j < n → p j = true) : allTo n p = true := by
  unfold allTo
  rw [List.all_eq_true]
  intro j hj
  exact h j (by simpa using hj)
theorem allTo_false {n : Nat} {p : Nat → Bool} {j : Nat} (hj : j < n) (h : p j = false) : allTo n p = false := by
  unfold allTo
  rw [List.all_eq_false]
  exact ⟨j, by simpa using hj, by simp [h]⟩
theorem allTo_get {n : Nat} {p : Nat → Bool} (h : allTo n p = true) {j : Nat} (hj : j < n) : p j = true := by
  unfold allTo at h
  rw [List.all_eq_true] at h
  exact h j (by simpa using hj)
theorem allTo_congr {n : Nat} {p q : Nat → Bool} (h : ∀ j, j < n → p j = q j) : allTo n p = allTo n q := by
  unfold allTo
  rw [Bool.eq_iff_iff, List.all_eq_true, List.all_eq_true]
  exact ⟨fun g j hj => by rw [← h j (by simpa using hj)]; exact g j hj, fun g j hj => by rw [h j (by simpa using hj)]; exact g j hj⟩

/-! ### What a call leaves -/
def Drawn (w w' : World) : Prop := ∃ n, w' = w.drewN n
theorem bDrew {B : Nat} {a w : World} (h : Below B a w) (n : Nat) : Below B a (w.drewN n) := ⟨h.os, h.tape, h.output, h.size, h.block⟩
theorem Drawn.below {B : Nat} {a w w' : World} (h : Below B a w) (hd : Drawn w w') : Below B a w' := by obtain ⟨n, rfl⟩ := hd; exact bDrew h n
theorem Drawn.below0 {w w' : World} (hd : Drawn w w') : Below w.heap.size w w' := Drawn.below (Below.refl _ _) hd
theorem bRow {B : Nat} {a w : World} (h : Below B a w) {g : Nat} (hg : B ≤ g) (cs : Array Value) : Below B a (w.setRow g cs) :=
  h.trans ⟨rfl, rfl, rfl, by simp, fun k hk => setRow_other w g k cs (by omega)⟩
/-- A call made in a later world. -/
theorem bCall {B : Nat} {a w w' : World} (h : Below B a w) (hb : Below w.heap.size w w') (hB : B ≤ w.heap.size) : Below B a w' := h.trans (hb.mono hB)

/-- A float32, the world drawn from alone. -/
def RetFq (w : World) (v : Option Nat) (e : Ending) (w' : World) : Prop := ∃ r, e = .returned (.float .f32 r) ∧ canon .f32 r = v ∧ Drawn w w'
/-- A float32. -/
def RetF (w : World) (v : Option Nat) (e : Ending) (w' : World) : Prop := ∃ r, e = .returned (.float .f32 r) ∧ canon .f32 r = v ∧ Below w.heap.size w w'
theorem RetFq.to {w : World} {v : Option Nat} {e : Ending} {w' : World} (h : RetFq w v e w') : RetF w v e w' := by
  obtain ⟨r, h1, h2, h3⟩ := h; exact ⟨r, h1, h2, h3.below0⟩
/-- A row of n float32. -/
def RetC (n : Nat) (w : World) (p : Nat → Option Nat) (e : Ending) (w' : World) : Prop :=
  ∃ r, e = .returned (.agg (fA n r)) ∧ (∀ i, i < n → canon .f32 (r i) = p i) ∧ Below w.heap.size w w'
/-- A row of n float32 and a code. -/
def RetCC (n : Nat) (w : World) (p : Nat → Option Nat) (code : Int) (e : Ending) (w' : World) : Prop :=
  ∃ r, e = .returned (.tuple #[.agg (fA n r), .int .i64 code]) ∧ (∀ i, i < n → canon .f32 (r i) = p i) ∧ Below w.heap.size w w'
/-- A float32 and a code. -/
def RetFC (w : World) (v : Option Nat) (code : Int) (e : Ending) (w' : World) : Prop :=
  ∃ r, e = .returned (.tuple #[.float .f32 r, .int .i64 code]) ∧ canon .f32 r = v ∧ Below w.heap.size w w'
/-- A bool. -/
def RetB (w : World) (b : Bool) (e : Ending) (w' : World) : Prop := e = .returned (.bool b) ∧ Below w.heap.size w w'
def RetBq (w : World) (b : Bool) (e : Ending) (w' : World) : Prop := e = .returned (.bool b) ∧ Drawn w w'
theorem RetBq.to {w : World} {v : Bool} {e : Ending} {w' : World} (h : RetBq w v e w') : RetB w v e w' := ⟨h.1, h.2.below0⟩

/-- What the calls of one region give: a function of two numbers, of one. -/
def GFF (op : Option Nat → Option Nat → Option Nat) (_f : FuncId) (args : Array Value) (u : Value) : Prop := ∃ p q r, args = #[.float .f32 p, .float .f32 q] ∧ u = .float .f32 r ∧ canon .f32 r = op (canon .f32 p) (canon .f32 q)
theorem GFF.mk {op : Option Nat → Option Nat → Option Nat} {f : FuncId} {p q r : Nat} (h : canon .f32 r = op (canon .f32 p) (canon .f32 q)) : GFF op f #[.float .f32 p, .float .f32 q] (.float .f32 r) := ⟨p, q, r, rfl, rfl, h⟩
theorem GFF.inv {op : Option Nat → Option Nat → Option Nat} {f : FuncId} {p q : Nat} {u : Value} (h : GFF op f #[.float .f32 p, .float .f32 q] u) : ∃ r, u = .float .f32 r ∧ Hid (canon .f32 r = op (canon .f32 p) (canon .f32 q)) := by
  obtain ⟨p', q', r, ha, hu, hr⟩ := h
  simp only [Array.mk.injEq, List.cons.injEq, Value.float.injEq, true_and, and_true] at ha
  obtain ⟨rfl, rfl⟩ := ha
  exact ⟨r, hu, hr⟩
def GF (op : Option Nat → Option Nat) (_f : FuncId) (args : Array Value) (u : Value) : Prop := ∃ p r, args = #[.float .f32 p] ∧ u = .float .f32 r ∧ canon .f32 r = op (canon .f32 p)
theorem GF.mk {op : Option Nat → Option Nat} {f : FuncId} {p r : Nat} (h : canon .f32 r = op (canon .f32 p)) : GF op f #[.float .f32 p] (.float .f32 r) := ⟨p, r, rfl, rfl, h⟩
theorem GF.inv {op : Option Nat → Option Nat} {f : FuncId} {p : Nat} {u : Value} (h : GF op f #[.float .f32 p] u) : ∃ r, u = .float .f32 r ∧ Hid (canon .f32 r = op (canon .f32 p)) := by
  obtain ⟨p', r, ha, hu, hr⟩ := h
  simp only [Array.mk.injEq, List.cons.injEq, Value.float.injEq, true_and, and_true] at ha
  subst ha
  exact ⟨r, hu, hr⟩

/-- The calls of a law's statement: a copy of an argument ('F'), and the function that the law is about. -/
def GTwo (F : FuncId) (Q : Value → Prop) (f : FuncId) (args : Array Value) (u : Value) : Prop := if f = F then args = #[u] else Q u
theorem GTwo.copy {F : FuncId} {Q : Value → Prop} (v : Value) : GTwo F Q F #[v] v := by simp [GTwo]
theorem GTwo.copied {F : FuncId} {Q : Value → Prop} {u v : Value} (h : GTwo F Q F #[v] u) : u = v := by simp [GTwo] at h; exact h.symm
theorem GTwo.mk {F f : FuncId} {Q : Value → Prop} {args : Array Value} {u : Value} (hf : f ≠ F) (h : Q u) : GTwo F Q f args u := by unfold GTwo; rw [if_neg hf]; exact h
theorem GTwo.other {F f : FuncId} {Q : Value → Prop} {args : Array Value} {u : Value} (hf : f ≠ F) (h : GTwo F Q f args u) : Q u := by unfold GTwo at h; rw [if_neg hf] at h; exact h
/-- The same, where two functions copy. -/
def GThree (F1 F2 : FuncId) (Q : Value → Prop) (f : FuncId) (args : Array Value) (u : Value) : Prop := if f == F1 || f == F2 then args = #[u] else Q u
theorem GThree.copy {F1 F2 f : FuncId} {Q : Value → Prop} (v : Value) (hf : (f == F1 || f == F2) = true := by decide) : GThree F1 F2 Q f #[v] v := by unfold GThree; rw [if_pos hf]
theorem GThree.copied {F1 F2 f : FuncId} {Q : Value → Prop} {u v : Value} (h : GThree F1 F2 Q f #[v] u) (hf : (f == F1 || f == F2) = true := by decide) : u = v := by unfold GThree at h; rw [if_pos hf] at h; simp at h; exact h.symm
theorem GThree.mk {F1 F2 f : FuncId} {Q : Value → Prop} {args : Array Value} {u : Value} (hf : (f == F1 || f == F2) ≠ true) (h : Q u) : GThree F1 F2 Q f args u := by unfold GThree; rw [if_neg hf]; exact h
theorem GThree.other {F1 F2 f : FuncId} {Q : Value → Prop} {args : Array Value} {u : Value} (hf : (f == F1 || f == F2) ≠ true) (h : GThree F1 F2 Q f args u) : Q u := by unfold GThree at h; rw [if_neg hf] at h; exact h
def IsC (n : Nat) (p : Nat → Option Nat) (u : Value) : Prop := ∃ r, u = .agg (fA n r) ∧ Hid (∀ i, i < n → canon .f32 (r i) = p i)
def IsCC (n : Nat) (p : Nat → Option Nat) (code : Int) (u : Value) : Prop := ∃ r, u = .tuple #[.agg (fA n r), .int .i64 code] ∧ Hid (∀ i, i < n → canon .f32 (r i) = p i)
def IsF (p : Option Nat) (u : Value) : Prop := ∃ r, u = .float .f32 r ∧ Hid (canon .f32 r = p)
def IsFC (p : Option Nat) (code : Int) (u : Value) : Prop := ∃ r, u = .tuple #[.float .f32 r, .int .i64 code] ∧ Hid (canon .f32 r = p)
def IsB (b : Bool) (u : Value) : Prop := u = .bool b
theorem RetC.is {n : Nat} {w : World} {p : Nat → Option Nat} {e : Ending} {w' : World} (h : RetC n w p e w') : ∃ u, e = .returned u ∧ IsC n p u ∧ Below w.heap.size w w' := by
  obtain ⟨r, h1, h2, h3⟩ := h; exact ⟨_, h1, ⟨r, rfl, h2⟩, h3⟩
theorem RetCC.is {n : Nat} {w : World} {p : Nat → Option Nat} {c : Int} {e : Ending} {w' : World} (h : RetCC n w p c e w') : ∃ u, e = .returned u ∧ IsCC n p c u ∧ Below w.heap.size w w' := by
  obtain ⟨r, h1, h2, h3⟩ := h; exact ⟨_, h1, ⟨r, rfl, h2⟩, h3⟩
theorem RetF.is {w : World} {p : Option Nat} {e : Ending} {w' : World} (h : RetF w p e w') : ∃ u, e = .returned u ∧ IsF p u ∧ Below w.heap.size w w' := by
  obtain ⟨r, h1, h2, h3⟩ := h; exact ⟨_, h1, ⟨r, rfl, h2⟩, h3⟩
theorem RetFC.is {w : World} {p : Option Nat} {c : Int} {e : Ending} {w' : World} (h : RetFC w p c e w') : ∃ u, e = .returned u ∧ IsFC p c u ∧ Below w.heap.size w w' := by
  obtain ⟨r, h1, h2, h3⟩ := h; exact ⟨_, h1, ⟨r, rfl, h2⟩, h3⟩
theorem RetB.is {w : World} {b : Bool} {e : Ending} {w' : World} (h : RetB w b e w') : ∃ u, e = .returned u ∧ IsB b u ∧ Below w.heap.size w w' := ⟨_, h.1, rfl, h.2⟩

/-- A function that may be called by its number. -/
def Enters (P : Program) (F : Nat) : Prop := ∀ (args : Array Value) (w : World), (callFunc F args).run P w = .ok (.enter F args) w

end Go.Proofs.Ytmikeegecifbfaa
