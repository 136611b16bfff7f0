/- Floats up to the bits of a NaN: what each operation of the model gives, as one equation, whatever the operands. No program is named here. Rows of float32 as values and as blocks of memory: reading, writing, cutting; a block that is known whole. No program is named here. A region that draws its order, whose operations leave the world in a class of worlds (they read, make memory, draw): one walk in the order of the text serves every order, also where what an operation gives is known only up to a contract (a NaN's bits). The road is the guide's text on quiet regions; here values need not be the same in every world. No program is named here. Plain facts on the formats: bounds of what a word stands for; a float32 always fits a float64. No program is named here. Words for contracts: what a call gives, up to the bits of a NaN; what it leaves of memory. No program is named here. -/
import Derived.WalkKit
import Derived.WalkLawsBesides
import Derived.Laws.FloatArith
import Derived.Deep.Draws
import Derived.Below
import Derived.Laws.Rows
import Derived.Deep.Quiet
import Derived.Deep.QuietTactic
import Derived.BigQuiet
import Derived.StillTail
import Derived.Lib.Hide
namespace Go.Proofs.Ytfpjiclkhjdihaa

/-! ### Which words are NaNs -/

theorem isNaN_read (f : Ieee.Format) (h : f.binade ≤ f.infRung) (x : Nat) : (f.read x).isNaN = decide (f.infRung < x % f.signWeight) := by
  unfold Ieee.Format.read
  dsimp only
  split
  · simp only [Ieee.Datum.isNaN]; symm; simp; omega
  · split
    · simp only [Ieee.Datum.isNaN]; symm; simp; omega
    · split
      · simp only [Ieee.Datum.isNaN]; symm; simp; omega
      · simp only [Ieee.Datum.isNaN]; symm; simp; omega

theorem nanW32 (b : Nat) : (FloatKind.f32.decode b).isNaN = decide (2139095040 < b % 2147483648) := isNaN_read Ieee.single (by decide) b
theorem nanW64 (b : Nat) : (FloatKind.f64.decode b).isNaN = decide (9218868437227405312 < b % 9223372036854775808) := isNaN_read Ieee.double (by decide) b

/-- The number that a word stands for; none: a NaN. -/
def canon (k : FloatKind) (b : Nat) : Option Nat := if (k.decode b).isNaN then none else some b

theorem canon_none {k : FloatKind} {b : Nat} (h : (k.decode b).isNaN = true) : canon k b = none := by simp [canon, h]
theorem canon_some {k : FloatKind} {b : Nat} (h : (k.decode b).isNaN = false) : canon k b = some b := by simp [canon, h]
theorem canon_eq_some {k : FloatKind} {b r : Nat} (h : canon k b = some r) : b = r ∧ (k.decode b).isNaN = false := by
  unfold canon at h
  split at h
  · cases h
  · rename_i hn; cases h; exact ⟨rfl, by simpa using hn⟩

theorem read_word (f : Ieee.Format) (neg : Bool) (rung : Nat) (h : rung < f.signWeight) : (f.word neg rung) % f.signWeight = rung := by
  unfold Ieee.Format.word
  split
  · rw [Nat.add_mod_left, Nat.mod_eq_of_lt h]
  · exact Nat.mod_eq_of_lt h

theorem nearest_notNaN (f : Ieee.Format) (hb : f.binade ≤ f.infRung) (neg : Bool) (m : Nat) (p : Int) : (f.read (f.nearest neg m p)).isNaN = false := by
  have hi := f.infRung_lt
  rw [isNaN_read f hb]
  simp only [decide_eq_false_iff_not, Nat.not_lt]
  unfold Ieee.Format.nearest
  dsimp only
  split
  · rw [read_word f _ _ (by omega)]; omega
  · rw [read_word f _ _ (Nat.lt_of_le_of_lt (Nat.min_le_right ..) hi)]; exact Nat.min_le_right ..

theorem write_notNaN (f : Ieee.Format) (hb : f.binade ≤ f.infRung) (d : Ieee.Datum) (h : d.isNaN = false) : (f.read (f.write d)).isNaN = false := by
  cases d with
  | number s m e => exact nearest_notNaN f hb s m e
  | infinity s =>
    have hi := f.infRung_lt
    rw [isNaN_read f hb]
    show decide (f.infRung < f.word s f.infRung % f.signWeight) = false
    rw [read_word f _ _ hi]; simp
  | nan s t => simp [Ieee.Datum.isNaN] at h

theorem binade_le (k : FloatKind) : k.format.binade ≤ k.format.infRung := by cases k <;> decide

theorem sum_notNaN {a b d : Ieee.Datum} (h : a.sum b = some d) : d.isNaN = false ∧ a.isNaN = false ∧ b.isNaN = false := by
  unfold Ieee.Datum.sum at h
  split at h <;> first | (cases h; done) | skip
  all_goals first | (cases h; simp [Ieee.Datum.isNaN]; done) | (split at h <;> first | (cases h; done) | (cases h; simp [Ieee.Datum.isNaN]; done)) | (cases h; exact ⟨rfl, rfl, rfl⟩)
theorem product_notNaN {a b d : Ieee.Datum} (h : a.product b = some d) : d.isNaN = false ∧ a.isNaN = false ∧ b.isNaN = false := by
  unfold Ieee.Datum.product at h
  split at h <;> first | (cases h; done) | skip
  all_goals first | (cases h; simp [Ieee.Datum.isNaN]; done) | (split at h <;> first | (cases h; done) | (cases h; simp [Ieee.Datum.isNaN]; done)) | (cases h; exact ⟨rfl, rfl, rfl⟩)
theorem quotient_notNaN {n : Nat} {a b d : Ieee.Datum} (h : a.quotient n b = some d) : d.isNaN = false ∧ a.isNaN = false ∧ b.isNaN = false := by
  unfold Ieee.Datum.quotient at h
  split at h <;> first | (cases h; done) | skip
  all_goals first | (cases h; simp [Ieee.Datum.isNaN]; done) | (split at h <;> first | (cases h; done) | (split at h <;> first | (cases h; done) | (cases h; simp [Ieee.Datum.isNaN]; done)) | (cases h; simp [Ieee.Datum.isNaN]; done)) | (cases h; exact ⟨rfl, rfl, rfl⟩)
theorem root_notNaN {n : Nat} {a d : Ieee.Datum} (h : a.root n = some d) : d.isNaN = false ∧ a.isNaN = false := by
  unfold Ieee.Datum.root at h
  split at h <;> first | (cases h; done) | skip
  all_goals first | (cases h; simp [Ieee.Datum.isNaN]; done) | (split at h <;> first | (cases h; done) | (split at h <;> first | (cases h; done) | (cases h; simp [Ieee.Datum.isNaN]; done)) | (cases h; simp [Ieee.Datum.isNaN]; done))
theorem opposite_isNaN (d : Ieee.Datum) : d.opposite.isNaN = d.isNaN := by cases d <;> rfl

theorem floatBits_notNaN {op : BinOp} {k : FloatKind} {x y r : Nat} (h : floatBits op k x y = some r) :
    (k.decode r).isNaN = false ∧ (k.decode x).isNaN = false ∧ (k.decode y).isNaN = false := by
  unfold floatBits at h
  have hw := write_notNaN k.format (binade_le k)
  split at h
  · obtain ⟨d, hd, rfl⟩ := Option.map_eq_some_iff.1 h
    obtain ⟨h1, h2, h3⟩ := sum_notNaN hd
    exact ⟨hw d h1, h2, h3⟩
  · obtain ⟨d, hd, rfl⟩ := Option.map_eq_some_iff.1 h
    obtain ⟨h1, h2, h3⟩ := sum_notNaN hd
    rw [opposite_isNaN] at h3
    exact ⟨hw d h1, h2, h3⟩
  · obtain ⟨d, hd, rfl⟩ := Option.map_eq_some_iff.1 h
    obtain ⟨h1, h2, h3⟩ := product_notNaN hd
    exact ⟨hw d h1, h2, h3⟩
  · obtain ⟨d, hd, rfl⟩ := Option.map_eq_some_iff.1 h
    obtain ⟨h1, h2, h3⟩ := quotient_notNaN hd
    exact ⟨hw d h1, h2, h3⟩
  · cases h

/-! ### The bits that a draw may give where there is a NaN -/

theorem nan_cut32 (t : Nat) : 2139095040 < (t % 2 * 2147483648 + 2139095040 + 1 + t / 2 % 8388607) % 2147483648 := by
  have h1 : t % 2 < 2 := Nat.mod_lt _ (by omega)
  have h2 : t / 2 % 8388607 < 8388607 := Nat.mod_lt _ (by omega)
  generalize t % 2 = a at *
  generalize t / 2 % 8388607 = c at *
  have h3 : a = 0 ∨ a = 1 := by omega
  rcases h3 with rfl | rfl <;> omega
theorem nan_cut64 (t : Nat) : 9218868437227405312 < (t % 2 * 9223372036854775808 + 9218868437227405312 + 1 + t / 2 % 4503599627370495) % 9223372036854775808 := by
  have h1 : t % 2 < 2 := Nat.mod_lt _ (by omega)
  have h2 : t / 2 % 4503599627370495 < 4503599627370495 := Nat.mod_lt _ (by omega)
  generalize t % 2 = a at *
  generalize t / 2 % 4503599627370495 = c at *
  have h3 : a = 0 ∨ a = 1 := by omega
  rcases h3 with rfl | rfl <;> omega
theorem nanBits_isNaN (k : FloatKind) (x y t : Nat) : (k.decode ((Question.nanBits k x y).cut t)).isNaN = true := by
  cases k
  · rw [nanW32, decide_eq_true_eq]; exact nan_cut32 t
  · rw [nanW64, decide_eq_true_eq]; exact nan_cut64 t
theorem nanConv_isNaN (k : FloatKind) (x t : Nat) : (k.decode ((Question.nanConv k x).cut t)).isNaN = true := by
  cases k
  · rw [nanW32, decide_eq_true_eq]; exact nan_cut32 t
  · rw [nanW64, decide_eq_true_eq]; exact nan_cut64 t

/-! ### + - * / -/

/-- What an operation gives in a world: its bits; where it is invalid, what the tape says. -/
def fval (op : BinOp) (k : FloatKind) (x y : Nat) (w : World) : Nat :=
  match floatBits op k x y with
  | some r => r
  | none => (Question.nanBits k x y).cut (w.tape w.drawn (.nanBits k x y))
/-- How many draws it makes. -/
def fcnt (op : BinOp) (k : FloatKind) (x y : Nat) : Nat :=
  match floatBits op k x y with
  | some _ => 0
  | none => 1

section
variable {P : Program} (w : World) (t : TypeId) (k : FloatKind) (x y : Nat)
theorem run_farith (op : BinOp) (h : (op matches .add | .sub | .mul | .quo) = true) :
    (binOp op t (.float k x) (.float k y)).run P w = .ok (.float k (fval op k x y w)) (w.drewN (fcnt op k x y)) := by
  cases hr : floatBits op k x y with
  | some r => rw [run_float_arith w op t k x y r hr]; simp [fval, fcnt, hr, World.drewN_zero]
  | none =>
    have hr' := hr
    unfold floatBits at hr
    cases op <;> simp at h <;> simp only at hr <;> simp [binOp, Op.floatArith, hr, choose, Sem.run, Question.forced, fval, fcnt, hr', World.drewN]
@[go_sem] theorem run_fadd : (binOp .add t (.float k x) (.float k y)).run P w = .ok (.float k (fval .add k x y w)) (w.drewN (fcnt .add k x y)) := run_farith w t k x y .add rfl
@[go_sem] theorem run_fsub : (binOp .sub t (.float k x) (.float k y)).run P w = .ok (.float k (fval .sub k x y w)) (w.drewN (fcnt .sub k x y)) := run_farith w t k x y .sub rfl
@[go_sem] theorem run_fmul : (binOp .mul t (.float k x) (.float k y)).run P w = .ok (.float k (fval .mul k x y w)) (w.drewN (fcnt .mul k x y)) := run_farith w t k x y .mul rfl
@[go_sem] theorem run_fquo : (binOp .quo t (.float k x) (.float k y)).run P w = .ok (.float k (fval .quo k x y w)) (w.drewN (fcnt .quo k x y)) := run_farith w t k x y .quo rfl
end

/-- The operation on numbers, none for a NaN. -/
def cop (op : BinOp) (k : FloatKind) : Option Nat → Option Nat → Option Nat
  | some x, some y => floatBits op k x y
  | _, _ => none

theorem canon_fval (op : BinOp) (k : FloatKind) (x y : Nat) (w : World) : canon k (fval op k x y w) = cop op k (canon k x) (canon k y) := by
  unfold fval
  cases hr : floatBits op k x y with
  | some r =>
    obtain ⟨h1, h2, h3⟩ := floatBits_notNaN hr
    rw [canon_some h1, canon_some h2, canon_some h3]
    exact hr.symm
  | none =>
    rw [canon_none (nanBits_isNaN k x y _)]
    unfold canon
    split <;> split <;> simp [cop, hr]

/-! ### Comparisons -/

def cord (k : FloatKind) : Option Nat → Option Nat → Option Ordering
  | some x, some y => k.format.order x y
  | _, _ => none

theorem order_nan_left {a b : Ieee.Datum} (h : a.isNaN = true) : a.order b = none := by cases a <;> simp_all [Ieee.Datum.isNaN, Ieee.Datum.order]
theorem order_nan_right {a b : Ieee.Datum} (h : b.isNaN = true) : a.order b = none := by cases b <;> cases a <;> simp_all [Ieee.Datum.isNaN, Ieee.Datum.order]

theorem order_canon (k : FloatKind) (x y : Nat) : k.format.order x y = cord k (canon k x) (canon k y) := by
  unfold canon
  split
  · rename_i h; simp only [cord]; exact order_nan_left h
  · split
    · rename_i h; simp only [cord]; exact order_nan_right h
    · rfl

theorem datum_order_self {a : Ieee.Datum} (h : a.isNaN = false) : a.order a = some .eq := by
  cases a with
  | number s m i => simp [Ieee.Datum.order]
  | infinity s => simp [Ieee.Datum.order]
  | nan s t => simp [Ieee.Datum.isNaN] at h

theorem order_self (k : FloatKind) (x : Nat) : k.format.order x x = if (canon k x).isSome then some .eq else none := by
  unfold canon
  split
  · rename_i h; simp; exact order_nan_left h
  · rename_i h; simp only [Option.isSome_some, if_true]; exact datum_order_self (Bool.not_eq_true _ ▸ h)

/-! ### Conversions -/

theorem floatToFloat_same (k : FloatKind) (b : Nat) : floatToFloatBits k b k = some b := by simp [floatToFloatBits]

section
variable {P : Program} (w : World) (src dst : TypeId) (b : Nat)
@[go_sem] theorem run_convert_f32_f32 (hs : (P.underlying src).isSome = true) (hd : P.underlying dst = some (.float .f32)) :
    (convert src dst (.float .f32 b)).run P w = .ok (.float .f32 b) w := run_convert_float_float w src dst .f32 .f32 b b hs hd (floatToFloat_same _ _)
@[go_sem] theorem run_convert_f64_f64 (hs : (P.underlying src).isSome = true) (hd : P.underlying dst = some (.float .f64)) :
    (convert src dst (.float .f64 b)).run P w = .ok (.float .f64 b) w := run_convert_float_float w src dst .f64 .f64 b b hs hd (floatToFloat_same _ _)
end

/-- What a conversion between the two kinds gives in a world. -/
def cval (s d : FloatKind) (b : Nat) (w : World) : Nat :=
  match floatToFloatBits s b d with
  | some r => r
  | none => if (s.decode b).isNaN then (Question.nanConv d b).cut (w.tape w.drawn (.nanConv d b)) else (Question.floatToFloat b).cut (w.tape w.drawn (.floatToFloat b))
def ccnt (s d : FloatKind) (b : Nat) : Nat :=
  match floatToFloatBits s b d with
  | some _ => 0
  | none => 1

theorem run_cval {P : Program} (w : World) (src dst : TypeId) (s d : FloatKind) (b : Nat) (hs : (P.underlying src).isSome = true) (hd : P.underlying dst = some (.float d)) :
    (convert src dst (.float s b)).run P w = .ok (.float d (cval s d b w)) (w.drewN (ccnt s d b)) := by
  cases hr : floatToFloatBits s b d with
  | some r => rw [run_convert_float_float w src dst s d b r hs hd hr]; simp [cval, ccnt, hr, World.drewN_zero]
  | none =>
    obtain ⟨u, hs'⟩ := Option.isSome_iff_exists.1 hs
    have hr' := hr
    unfold floatToFloatBits at hr
    split at hr
    · cases hr
    · rename_i ne
      split at hr
      · rename_i sg tt he
        cases u <;> simp [convert, run_underlying hs', run_underlying hd, Conv.floatToFloat, ne, he, choose, Sem.run, Question.forced, cval, ccnt, hr', Ieee.Datum.isNaN, World.drewN]
      · cases hr
      · rename_i sg m e he
        split at hr
        · rename_i ho
          cases u <;> simp [convert, run_underlying hs', run_underlying hd, Conv.floatToFloat, ne, he, ho, choose, Sem.run, Question.forced, cval, ccnt, hr', Ieee.Datum.isNaN, World.drewN]
        · cases hr

section
variable {P : Program} (w : World) (src dst : TypeId) (b : Nat)
@[go_sem] theorem run_convert_f32_f64 (hs : (P.underlying src).isSome = true) (hd : P.underlying dst = some (.float .f64)) :
    (convert src dst (.float .f32 b)).run P w = .ok (.float .f64 (cval .f32 .f64 b w)) (w.drewN (ccnt .f32 .f64 b)) := run_cval w src dst .f32 .f64 b hs hd
@[go_sem] theorem run_convert_f64_f32 (hs : (P.underlying src).isSome = true) (hd : P.underlying dst = some (.float .f32)) :
    (convert src dst (.float .f64 b)).run P w = .ok (.float .f32 (cval .f64 .f32 b w)) (w.drewN (ccnt .f64 .f32 b)) := run_cval w src dst .f64 .f32 b hs hd
end

/-- The conversion of numbers. (A finite number too great for the narrower kind counts as none here; there the draws are free.) -/
def ccv (s d : FloatKind) : Option Nat → Option Nat
  | some x => floatToFloatBits s x d
  | none => none

theorem floatToFloat_notNaN {s d : FloatKind} {b r : Nat} (hne : s ≠ d) (h : floatToFloatBits s b d = some r) : (d.decode r).isNaN = false ∧ (s.decode b).isNaN = false := by
  unfold floatToFloatBits at h
  rw [if_neg hne] at h
  have hw := write_notNaN d.format (binade_le d)
  split at h
  · cases h
  · rename_i sg he; cases h; exact ⟨hw _ rfl, by rw [he]; rfl⟩
  · rename_i sg m e he
    split at h
    · cases h
    · cases h; exact ⟨hw _ rfl, by rw [he]; rfl⟩

/-- No finite number of kind 's' at this word is too great for 'd'. -/
def Fits (s d : FloatKind) (b : Nat) : Prop := (s.decode b).isNaN = false → (floatToFloatBits s b d).isSome = true

theorem canon_cval {s d : FloatKind} (hne : s ≠ d) (b : Nat) (w : World) (h : Fits s d b) : canon d (cval s d b w) = ccv s d (canon s b) := by
  unfold cval
  cases hr : floatToFloatBits s b d with
  | some r =>
    obtain ⟨h1, h2⟩ := floatToFloat_notNaN hne hr
    rw [canon_some h1, canon_some h2]
    exact hr.symm
  | none =>
    by_cases hn : (s.decode b).isNaN = true
    · simp only [hn, if_true]
      rw [canon_none (nanConv_isNaN d b _), canon_none hn]; rfl
    · exfalso
      have := h (by simpa using hn)
      rw [hr] at this; cases this

end Go.Proofs.Ytfpjiclkhjdihaa

namespace Go.Proofs.Ytfpjiclkhjdihaa
open Go.RowKit

/-- n words as values of float32. -/
def fA (n : Nat) (b : Nat → Nat) : Array Value := ((List.range n).map fun i => Value.float .f32 (b i)).toArray

@[simp] theorem size_fA (n : Nat) (b : Nat → Nat) : (fA n b).size = n := by simp [fA]
theorem get_fA (n : Nat) (b : Nat → Nat) (i : Nat) : (fA n b)[i]? = if i < n then some (.float .f32 (b i)) else none := by
  unfold fA
  rw [List.getElem?_toArray, List.getElem?_map]
  split
  · rename_i h; rw [List.getElem?_range h]; rfl
  · rename_i h; rw [List.getElem?_eq_none (by simpa using h)]; rfl
theorem get_fA_lt {n : Nat} (b : Nat → Nat) {i : Nat} (h : i < n) : (fA n b)[i]? = some (.float .f32 (b i)) := by rw [get_fA, if_pos h]
theorem fA_congr {n : Nat} {b c : Nat → Nat} (h : ∀ i, i < n → b i = c i) : fA n b = fA n c := by
  unfold fA
  congr 1
  apply List.map_congr_left
  intro i hi
  rw [h i (by simpa using hi)]
theorem fA_set (n : Nat) (b : Nat → Nat) (i v : Nat) : (fA n b).setIfInBounds i (.float .f32 v) = fA n (fun j => if j = i then v else b j) := by
  apply Array.ext_getElem?
  intro k
  rw [Array.getElem?_setIfInBounds, get_fA, get_fA, size_fA]
  by_cases hk : i = k
  · subst hk; simp
  · simp [hk, Ne.symm hk]
theorem fA_extract (n : Nat) (b : Nat → Nat) (lo hi : Nat) (h : hi ≤ n) : (fA n b).extract lo hi = fA (hi - lo) (fun j => b (lo + j)) := by
  apply Array.ext_getElem?
  intro k
  rw [Array.getElem?_extract, get_fA, get_fA, size_fA]
  by_cases hk : k < hi - lo
  · simp [hk, show min hi n = hi by omega, show lo + k < n by omega]
  · simp [hk, show min hi n = hi by omega]
theorem fA_of_cells (cs : Array Value) (h : ∀ i, i < cs.size → ∃ b, cs[i]? = some (.float .f32 b)) : ∃ b, cs = fA cs.size b := by
  refine ⟨fun i => match cs[i]? with | some (.float _ b) => b | _ => 0, ?_⟩
  apply Array.ext_getElem?
  intro k
  rw [get_fA]
  by_cases hk : k < cs.size
  · obtain ⟨b, hb⟩ := h k hk
    rw [if_pos hk]
    simp only [hb]
  · rw [if_neg hk, Array.getElem?_eq_none (by omega)]
theorem all_fA (n : Nat) (b : Nat → Nat) : (fA n b).all (·.oneCell') = true := by
  rw [Array.all_eq_true_iff_forall_mem]
  intro x hx
  simp [fA] at hx
  obtain ⟨i, hi, rfl⟩ := hx
  rfl

/-! ### A row that is filled from its begin on -/
def upd (c : Nat → Nat) (k v : Nat) : Nat → Nat := fun j => if j = k then v else c j
theorem upd_same (c : Nat → Nat) (k v : Nat) : upd c k v k = v := by simp [upd]
theorem upd_other (c : Nat → Nat) {k j : Nat} (v : Nat) (h : j ≠ k) : upd c k v j = c j := by simp [upd, h]
theorem upd_to {c : Nat → Nat} {k v : Nat} {Q : Nat → Nat → Prop} (h : ∀ j, j < k → Q j (c j)) (hv : Q k v) : ∀ j, j < k + 1 → Q j (upd c k v j) := by
  intro j hj
  by_cases e : j = k
  · subst e; rw [upd_same]; exact hv
  · rw [upd_other c v e]; exact h j (by omega)
theorem upd_from {c o : Nat → Nat} {k v : Nat} (h : ∀ j, k ≤ j → c j = o j) : ∀ j, k + 1 ≤ j → upd c k v j = o j := by
  intro j hj
  rw [upd_other c v (by omega)]
  exact h j (by omega)

/-! ### Operations -/
section
variable {P : Program} (w : World)

@[go_sem] theorem run_store_float (a : Addr) (k : FloatKind) (b : Nat) (m : Mode) : (store a (.float k b) m).run P w = stored P w a (.float k b) m := run_store P w a _ m rfl

theorem run_index_fA (T e : TypeId) (n : Nat) (b : Nat → Nat) (i : Int) (hu : P.underlying T = some (.array n e)) (he : P.underlying e = some (.float .f32)) (hz : (P.info? e).map (·.size) = some 1)
    (h0 : 0 ≤ i) (h1 : i < n) : (Instr.index T (.agg (fA n b)) (.int .i64 i)).run P w = .ok (.float .f32 (b i.toNat)) w := by
  obtain ⟨j, rfl⟩ := Int.eq_ofNat_of_zero_le h0
  have hj : j < n := by omega
  cases hq : P.info? e with
  | none => simp [hq] at hz
  | some inf =>
    have hs : inf.size = 1 := by simpa [hq] using hz
    have hagg : (isAgg e).run P w = .ok false w := by
      unfold isAgg
      rw [Sem.run_bind, run_underlying he w]
      rfl
    simp only [Instr.index, asIntOf, Sem.run_bind, Sem.run_pure, Result.andThen_ok, run_underlying hu]
    have hg := get_fA_lt b hj
    rw [Array.getElem?_eq_getElem (by simpa using hj)] at hg
    simp [hj, sizeOf, typeInfo, hq, hs, part, hagg, Option.some.inj hg]
end

/-! ### A block that is known whole (after a page of the guide) -/
def Blk (w : World) (g : Nat) (t : TypeId) (cs : Array Value) : Prop := w.heap[g]? = some (.cells cs t (0, 0))

section
variable {w w' : World} {g : Nat} {t : TypeId} {cs : Array Value}
theorem Blk.lt (h : Blk w g t cs) : g < w.heap.size := by
  rcases Nat.lt_or_ge g w.heap.size with hlt | hge
  · exact hlt
  · unfold Blk at h; rw [Array.getElem?_eq_none hge] at h; cases h
theorem Blk.cell (h : Blk w g t cs) (i : Nat) : w.cell? ⟨g, i, none⟩ = cs[i]? := cell_of_row w g i cs t (0, 0) h
theorem Blk.frozen (h : Blk w g t cs) (i : Nat) : w.frozen? ⟨g, i, none⟩ = false := by
  unfold Blk at h
  simp [World.frozen?, h]
theorem Blk.new (w : World) (t : TypeId) (cs : Array Value) : Blk (w.alloc (.cells cs t)) w.heap.size t cs := heap_alloc_new w _
theorem Blk.new_at (w : World) (t : TypeId) {cs cs' : Array Value} {g : Nat} (hg : g = w.heap.size) (hcs : cs = cs') : Blk (w.alloc (.cells cs t)) g t cs' := by
  subst hg; subst hcs; exact Blk.new w t cs
theorem Blk.drewN (h : Blk w g t cs) (n : Nat) : Blk (w.drewN n) g t cs := h
theorem Blk.alloc (h : Blk w g t cs) (o : Obj) : Blk (w.alloc o) g t cs := (Below.heap_alloc w o g h.lt).trans h
theorem Blk.set_ (h : Blk w g t cs) (i : Nat) (u : Value) : Blk (w.setCell ⟨g, i, none⟩ u) g t (cs.setIfInBounds i u) := by
  unfold Blk at h ⊢
  simp [World.setCell, Array.getElem?_modify, h]
theorem Blk.setF {n : Nat} {b : Nat → Nat} (h : Blk w g t (fA n b)) (i v : Nat) : Blk (w.setCell ⟨g, i, none⟩ (.float .f32 v)) g t (fA n (upd b i v)) := by
  have := h.set_ i (.float .f32 v)
  rwa [fA_set] at this
theorem Blk.setRow {cs' : Array Value} (h : Blk w g t cs) : Blk (w.setRow g cs') g t cs' := setRow_heap w g cs cs' t _ h
theorem Blk.farRow {g' : Nat} {cs' : Array Value} (h : Blk w g t cs) (hne : g ≠ g') : Blk (w.setRow g' cs') g t cs := (setRow_other w g' g cs' hne).trans h
theorem Blk.to {cs' : Array Value} (h : Blk w g t cs) (e : cs = cs') : Blk w g t cs' := e ▸ h
theorem Blk.far (h : Blk w g t cs) {p : Addr} (hp : g ≠ p.block) (u : Value) : Blk (w.setCell p u) g t cs := (Below.heap_setCell w p u g hp).trans h
theorem Blk.below {B : Nat} (h : Blk w g t cs) (hb : Below B w w') (hg : g < B) : Blk w' g t cs := (hb.block g hg).trans h
end

theorem Below.drewN' {B : Nat} {a w : World} (h : Below B a w) (n : Nat) : Below B a (w.drewN n) := ⟨h.os, h.tape, h.output, h.size, h.block⟩
theorem Below.setRow' {B : Nat} {a w : World} (h : Below B a w) {g : Nat} (hg : B ≤ g) (cs : Array Value) : Below B a (w.setRow g cs) :=
  h.trans ⟨rfl, rfl, rfl, by simp, fun k hk => setRow_other w g k cs (by omega)⟩
theorem bcell {W w1 : World} {B : Nat} (hb : Below B W w1) : (∀ b o, b < B → w1.cell? ⟨b, o, none⟩ = W.cell? ⟨b, o, none⟩) ∧ (∀ b o, b < B → w1.frozen? ⟨b, o, none⟩ = W.frozen? ⟨b, o, none⟩) :=
  ⟨fun b o h => hb.cell (p := ⟨b, o, none⟩) h, fun b o h => hb.frozen (p := ⟨b, o, none⟩) h⟩

theorem setRow_new (w : World) (cs cs' : Array Value) (t : TypeId) : (w.alloc (.cells cs t)).setRow w.heap.size cs' = w.alloc (.cells cs' t) := by
  unfold World.setRow World.alloc
  congr 1
  apply Array.ext_getElem?
  intro k
  rw [Array.getElem?_modify]
  by_cases hk : w.heap.size = k
  · subst hk
    simp
  · have hk' : k ≠ w.heap.size := fun e => hk e.symm
    simp [hk, hk', Array.getElem?_push]
/-- A row is stored into the block that was laid just before. -/
theorem wpList_store_new {P : Program} {ops : Array Oper} {rest : List Oper} {o : Oper} {a : Act} {w : World} {Q : Exit → Act → World → Prop} {t : TypeId} {old : Array Value} (hgd : o.guard = none) (ty : TypeId) (x y : Operand) (ho : o.op = .store ty x y)
    (cells : Array Value) (hx : a.eval x = .pointer (some ⟨w.heap.size, 0, none⟩)) (hy : a.eval y = .agg cells)
    (hi : (P.info? ty).map (·.size) = some cells.size) (hold : old.size = cells.size) (h1 : cells.all (·.oneCell') = true)
    (h : wpList P ops Q rest (a.put o.dst undef) (w.alloc (.cells cells t))) : wpList P ops Q (o :: rest) a (w.alloc (.cells old t)) :=
  wpList_store_row hgd ty x y ho w.heap.size cells hx hy t old (heap_alloc_new w _) hi hold h1 (by rw [setRow_new]; exact h)

theorem wpList_buildSlice {P : Program} {ops : Array Oper} {rest : List Oper} {o : Oper} {a : Act} {w : World} {Q : Exit → Act → World → Prop} (hgd : o.guard = none) (t : TypeId) (n : Nat) (parts : Array (Nat × Operand)) (ho : o.op = .buildSlice t n parts)
    (v : Value) (w' : World) (hr : (Instr.buildSlice t n (parts.map fun (i, x) => (i, a.eval x))).run P w = .ok v w') (h : wpList P ops Q rest (a.put o.dst v) w') : wpList P ops Q (o :: rest) a w :=
  wpList_plain hgd fun K hK => by
    unfold Oper.wp execOp
    simp only [ho, Sem.run_bind, hr, Result.andThen_ok]
    exact hK _ _ h

theorem results_cell_row2 {P : Program} {fn : Func} {p t2 : Tmp} {ty : TypeId} (h : fn.results = #[.cell p ty, .tmp t2]) (tmps : Array Value) (w : World) (g : Nat) (t : TypeId) (cs : Array Value) (fr : Nat × Nat) (d : TypeDesc)
    (hp : tmps.getD p undef = .pointer (some ⟨g, 0, none⟩)) (hg : w.heap[g]? = some (.cells cs t fr))
    (hu : P.underlying ty = some d) (hd : (match d with | .struct _ | .array _ _ => true | _ => false) = true) (hi : (P.info? ty).map (·.size) = some cs.size) :
    (results fn tmps).run P w = .ok (.tuple #[.agg cs, tmps.getD t2 undef]) w := by
  have hp' : tmps[p]?.getD undef = .pointer (some ⟨g, 0, none⟩) := by simpa using hp
  simp [results, h, hp', asAddr, run_loadVar_row w g t ty cs fr d hg hu hd hi]

end Go.Proofs.Ytfpjiclkhjdihaa

namespace Go.Proofs.Ytfpjiclkhjdihaa

section
variable {P : Program} {ops : Array Oper} {md : Region.Mode} {C : World → Prop} {G : FuncId → Array Value → Value → Prop}

def looseUpon (P : Program) (C : World → Prop) (G : FuncId → Array Value → Value → Prop) (next : Value → Prop) : Result Next → Prop
  | .ok (.value u) w' => C w' ∧ next u
  | .ok .skip w' => C w' ∧ next undef
  | .ok (.enter f args) w' => C w' ∧ Calls P f args w' (fun e w'' => ∃ u, e = .returned u ∧ G f args u ∧ C w'') ∧ ∀ u, G f args u → next u
  | _ => False

def loose (P : Program) (o : Oper) (a : Act) (C : World → Prop) (G : FuncId → Array Value → Value → Prop) (next : Act → Prop) : Prop :=
  ∀ w, C w → looseUpon P C G (fun u => next (a.put o.dst u)) ((execOp a.eval o).run P w)

def wpLoose (P : Program) (ops : Array Oper) (C : World → Prop) (G : FuncId → Array Value → Value → Prop) (Q : Act → Prop) : List Oper → Act → Prop
  | [], a => Q a
  | o :: rest, a => if Region.wanted o (yielded ops a.tmps) then loose P o a C G (wpLoose P ops C G Q rest) else wpLoose P ops C G Q rest (a.put o.dst undef)

theorem wpLoose_nil {Q : Act → Prop} {a : Act} (h : Q a) : wpLoose P ops C G Q [] a := h
theorem wpLoose_step {Q : Act → Prop} {a : Act} {o : Oper} {rest : List Oper}
    (h : ∀ K : Act → Prop, (∀ a, wpLoose P ops C G Q rest a → K a) → if Region.wanted o (yielded ops a.tmps) then loose P o a C G K else K (a.put o.dst undef)) : wpLoose P ops C G Q (o :: rest) a :=
  h _ (fun _ h => h)

theorem wpLoose_plain {Q : Act → Prop} {a : Act} {o : Oper} {rest : List Oper} (hg : o.guard = none)
    (h : ∀ K : Act → Prop, (∀ a, wpLoose P ops C G Q rest a → K a) → ∀ w, C w → looseUpon P C G (fun u => K (a.put o.dst u)) ((execOp a.eval o).run P w)) : wpLoose P ops C G Q (o :: rest) a := by
  unfold wpLoose
  rw [if_pos (by simp [Region.wanted, hg])]
  exact h _ (fun _ h => h)
theorem wpLoose_want {Q : Act → Prop} {a : Act} {o : Oper} {rest : List Oper} (hw : Region.wanted o (yielded ops a.tmps) = true)
    (h : ∀ K : Act → Prop, (∀ a, wpLoose P ops C G Q rest a → K a) → ∀ w, C w → looseUpon P C G (fun u => K (a.put o.dst u)) ((execOp a.eval o).run P w)) : wpLoose P ops C G Q (o :: rest) a := by
  unfold wpLoose
  rw [if_pos hw]
  exact h _ (fun _ h => h)
theorem wpLoose_skip {Q : Act → Prop} {a : Act} {o : Oper} {rest : List Oper} (hw : Region.wanted o (yielded ops a.tmps) = false)
    (h : wpLoose P ops C G Q rest (a.put o.dst undef)) : wpLoose P ops C G Q (o :: rest) a := by
  unfold wpLoose
  rw [if_neg (by simp [hw])]
  exact h

def lOp (P : Program) (ops : Array Oper) (C : World → Prop) (G : FuncId → Array Value → Value → Prop) (i : Nat) (K : Act → Prop) (a : Act) : Prop :=
  match ops[i]? with
  | none => K a
  | some o => if Region.wanted o (yielded ops a.tmps) then loose P o a C G K else K (a.put o.dst undef)

theorem looseUpon_mono {K K' : Value → Prop} (h : ∀ u, K u → K' u) {r : Result Next} (hh : looseUpon P C G K r) : looseUpon P C G K' r := by
  cases r with
  | halt x w => exact hh
  | ok n w' => cases n <;> first | exact ⟨hh.1, h _ hh.2⟩ | exact ⟨hh.1, hh.2.1, fun u hu => h _ (hh.2.2 u hu)⟩ | exact hh

theorem loose_mono {o : Oper} {a : Act} {K K' : Act → Prop} (h : ∀ a, K a → K' a) (hh : loose P o a C G K) : loose P o a C G K' :=
  fun w hw => looseUpon_mono (fun _ hu => h _ hu) (hh w hw)

theorem lOp_mono {i : Nat} {a : Act} {K K' : Act → Prop} (h : ∀ a, K a → K' a) (hh : lOp P ops C G i K a) : lOp P ops C G i K' a := by
  unfold lOp at *
  split
  · exact h _ (by simpa [*] using hh)
  · rename_i o ho
    simp only [ho] at hh
    split
    · rename_i hw; simp only [hw, if_true] at hh; exact loose_mono h hh
    · rename_i hw; simp only [hw] at hh; exact h _ hh

/-- Whatever order is picked from here on. -/
def wpAnyL (P : Program) (md : Region.Mode) (ops : Array Oper) (C : World → Prop) (G : FuncId → Array Value → Value → Prop) (Q : Act → Prop) : Nat → Array Bool → Act → Prop
  | 0, listed, a => Region.ready md ops listed = [] ∧ Q a
  | fuel + 1, listed, a =>
    (Region.ready md ops listed = [] → Q a) ∧
    ∀ i ∈ Region.ready md ops listed, lOp P ops C G i (wpAnyL P md ops C G Q fuel (listed.setIfInBounds i true)) a

theorem wp_of_loose {o : Oper} {a : Act} {K : Act → Prop} {K' : Act → World → Prop} {Q' : Exit → Act → World → Prop} {w : World} (hw : C w) (h : ∀ a w', C w' → K a → K' a w') (hh : loose P o a C G K) : o.wp P a w K' Q' := by
  have h3 := hh w hw
  unfold Oper.wp
  generalize (execOp a.eval o).run P w = r at *
  cases r with
  | ok n w' =>
    cases n <;> simp only [looseUpon] at h3 <;> simp only [Oper.upon]
    case value u => exact h _ _ h3.1 h3.2
    case skip => exact h _ _ h3.1 h3.2
    case enter f args =>
      exact h3.2.1.mono fun e w'' ⟨u, he, hu, hw''⟩ => by subst he; exact h _ _ hw'' (h3.2.2 u hu)
  | halt x w' => simp only [looseUpon] at h3

theorem wpOp_of_lOp {i : Nat} {a : Act} {K : Act → Prop} {K' : Act → World → Prop} {Q' : Exit → Act → World → Prop} {w : World} (hC : C w) (h : ∀ a w', C w' → K a → K' a w') (hh : lOp P ops C G i K a) : wpOp P ops Q' i K' a w := by
  unfold lOp at hh
  unfold wpOp
  split
  · rename_i ho; simp only [ho] at hh; exact h _ _ hC hh
  · rename_i o ho
    simp only [ho] at hh
    split
    · rename_i hw; simp only [hw, if_true] at hh; exact .inl (wp_of_loose hC h hh)
    · rename_i hw; simp only [hw] at hh; exact h _ _ hC hh

theorem wpAny_of_loose {Q : Act → Prop} {Q' : Exit → Act → World → Prop} (hQ : ∀ a w, C w → Q a → Q' .normal a w) : ∀ (fuel : Nat) (listed : Array Bool) (a : Act) (w : World), C w →
    wpAnyL P md ops C G Q fuel listed a → wpAny P md ops Q' fuel listed a w
  | 0, _, _, _, hw, h => ⟨h.1, hQ _ _ hw h.2⟩
  | fuel + 1, _, _, _, hw, h => ⟨fun h0 => hQ _ _ hw (h.1 h0), fun i hi => wpOp_of_lOp hw (fun a' w' hw' => wpAny_of_loose hQ fuel _ a' w' hw') (h.2 i hi)⟩

/-- What a loose operation asks holds of some value that it may give. -/
theorem loose_some (hne : ∃ w, C w) {o : Oper} {a : Act} {K : Act → Prop} (hh : loose P o a C G K) : ∃ v, K (a.put o.dst v) := by
  obtain ⟨w, hw⟩ := hne
  have h := hh w hw
  generalize (execOp a.eval o).run P w = r at h
  cases r with
  | halt x w' => exact h.elim
  | ok n w' =>
    cases n <;> simp only [looseUpon] at h
    case value u => exact ⟨u, h.2⟩
    case skip => exact ⟨undef, h.2⟩
    case enter f args =>
      obtain ⟨e, w1, fr, ⟨u, _, hu, _⟩, _⟩ := h.2.1 []
      exact ⟨u, h.2.2 u hu⟩

theorem lOp_some (hne : ∃ w, C w) {i : Nat} {a : Act} {K : Act → Prop} (hh : lOp P ops C G i K a) : ∃ a', K a' := by
  unfold lOp at hh
  split at hh
  · exact ⟨_, hh⟩
  · split at hh
    · obtain ⟨v, hv⟩ := loose_some hne hh; exact ⟨_, hv⟩
    · exact ⟨_, hh⟩

/-- Two operations that are apart: the one or the other first. -/
theorem lOp_swap (hne : ∃ w, C w) {i j : Nat} {oi oj : Oper} (hi : ops[i]? = some oi) (hj : ops[j]? = some oj) (hap : oi.apart ops oj = true)
    (hsi : ∀ cs b, oi.op ≠ .select cs b) (hsj : ∀ cs b, oj.op ≠ .select cs b) {K : Act → Prop} {a : Act}
    (h : lOp P ops C G i (fun a1 => lOp P ops C G j K a1) a) : lOp P ops C G j (fun a2 => lOp P ops C G i K a2) a := by
  obtain ⟨h1, h2, h3⟩ := Oper.apart_spec hap
  have wj : ∀ v, Region.wanted oj (yielded ops (a.put oi.dst v).tmps) = Region.wanted oj (yielded ops a.tmps) := fun v => wanted_put oj a oi.dst v h1
  have wi : ∀ u, Region.wanted oi (yielded ops (a.put oj.dst u).tmps) = Region.wanted oi (yielded ops a.tmps) := fun u => wanted_put oi a oj.dst u h3
  have ej : ∀ v, execOp (a.put oi.dst v).eval oj = execOp a.eval oj := fun v => execOp_put oj hsj a oi.dst v h1
  have ei : ∀ u, execOp (a.put oj.dst u).eval oi = execOp a.eval oi := fun u => execOp_put oi hsi a oj.dst u h3
  have pc : ∀ v u, (a.put oi.dst v).put oj.dst u = (a.put oj.dst u).put oi.dst v := fun v u => Act.put_comm a v u h2
  unfold lOp at h ⊢
  simp only [hi, hj, wi, wj] at h ⊢
  by_cases bi : Region.wanted oi (yielded ops a.tmps) = true
  · by_cases bj : Region.wanted oj (yielded ops a.tmps) = true
    · simp only [bi, bj, if_true] at h ⊢
      -- what 'oj' does in a world, whatever 'oi' has given
      have key : ∀ w, C w → looseUpon P C G (fun u => ∀ w1, C w1 → looseUpon P C G (fun v => K ((a.put oj.dst u).put oi.dst v)) ((execOp a.eval oi).run P w1)) ((execOp a.eval oj).run P w) := by
        intro w hw
        obtain ⟨v0, hv0⟩ := loose_some hne h
        simp only [wj, bj, if_true] at hv0
        have hj0 := hv0 w hw
        rw [ej] at hj0
        have all : ∀ w1, C w1 → looseUpon P C G (fun v => looseUpon P C G (fun u => K ((a.put oj.dst u).put oi.dst v)) ((execOp a.eval oj).run P w)) ((execOp a.eval oi).run P w1) := by
          intro w1 hw1
          refine looseUpon_mono (fun v hv => ?_) (h w1 hw1)
          simp only [wj, bj, if_true] at hv
          have := hv w hw
          rw [ej] at this
          exact looseUpon_mono (fun u hu => by rw [← pc]; exact hu) this
        generalize (execOp a.eval oj).run P w = r at hj0 all ⊢
        cases r with
        | halt x w' => exact hj0.elim
        | ok n w' =>
          cases n <;> simp only [looseUpon] at hj0 ⊢
          case value u => exact ⟨hj0.1, fun w1 hw1 => looseUpon_mono (fun v hv => hv.2) (all w1 hw1)⟩
          case skip => exact ⟨hj0.1, fun w1 hw1 => looseUpon_mono (fun v hv => hv.2) (all w1 hw1)⟩
          case enter f args => exact ⟨hj0.1, hj0.2.1, fun u hu w1 hw1 => looseUpon_mono (fun v hv => hv.2.2 u hu) (all w1 hw1)⟩
      intro w hw
      refine looseUpon_mono (fun u hu => ?_) (key w hw)
      simp only [wi, bi, if_true]
      intro w1 hw1
      rw [ei]
      exact hu w1 hw1
    · simp only [bi, bj, if_true] at h ⊢
      intro w hw
      rw [ei]
      exact looseUpon_mono (fun v hv => by simp only [wj, bj] at hv; rw [← pc]; exact hv) (h w hw)
  · by_cases bj : Region.wanted oj (yielded ops a.tmps) = true
    · simp only [bi, bj, if_true] at h ⊢
      intro w hw
      have := h w hw
      rw [ej] at this
      exact looseUpon_mono (fun u hu => by simp only [wi, bi]; rw [← pc]; exact hu) this
    · simp only [bi, bj] at h ⊢
      rw [← pc]
      exact h

theorem wpAnyL_first (hne : ∃ w, C w) {Q : Act → Prop} {i : Nat} {oi : Oper} (hi : ops[i]? = some oi) (hsel : ∀ (j : Nat) (o : Oper) cs b, ops[j]? = some o → o.op ≠ .select cs b) :
    ∀ (fuel : Nat) (listed : Array Bool) (a : Act),
      (∀ j oj, ops[j]? = some oj → j ≠ i → listed.getD j true = false → (∀ e ∈ oj.after, Region.binds md e = true → e.on ≠ i) → oi.apart ops oj = true) →
      i ∈ Region.ready md ops listed → lOp P ops C G i (wpAnyL P md ops C G Q fuel (listed.setIfInBounds i true)) a →
      wpAnyL P md ops C G Q (fuel + 1) listed a := by
  intro fuel
  induction fuel with
  | zero =>
    intro listed a _ hr H
    refine ⟨fun h => (by rw [h] at hr; cases hr), fun j hj => ?_⟩
    by_cases hji : j = i
    · subst hji; exact H
    · obtain ⟨a', ha'⟩ := lOp_some hne H
      have := ready_mono hj hji
      rw [ha'.1] at this
      cases this
  | succ fuel ih =>
    intro listed a hfree hr H
    refine ⟨fun h => (by rw [h] at hr; cases hr), fun j hj => ?_⟩
    by_cases hji : j = i
    · subst hji; exact H
    · have h1 : lOp P ops C G i (fun a1 => lOp P ops C G j (wpAnyL P md ops C G Q fuel ((listed.setIfInBounds i true).setIfInBounds j true)) a1) a :=
        lOp_mono (fun a1 h => h.2 j (ready_mono hj hji)) H
      obtain ⟨hjun, oj, hoj, hall⟩ := mem_ready.1 hj
      have hnot : ∀ e ∈ oj.after, Region.binds md e = true → e.on ≠ i := fun e he hb heq => by
        have h1 := hall e he hb
        have h0 := (mem_ready.1 hr).1
        rw [heq] at h1
        rcases Nat.lt_or_ge i listed.size with h' | h'
        · simp [h'] at h0 h1; rw [h0] at h1; cases h1
        · simp [Array.getElem?_eq_none h'] at h1
      have h2 := lOp_swap hne hi hoj (hfree j oj hoj hji hjun hnot) (fun cs b => hsel i oi cs b hi) (fun cs b => hsel j oj cs b hoj) h1
      have hfree' : ∀ k ok, ops[k]? = some ok → k ≠ i → (listed.setIfInBounds j true).getD k true = false →
          (∀ e ∈ ok.after, Region.binds md e = true → e.on ≠ i) → oi.apart ops ok = true := fun k ok hk hki hun hno => by
        refine hfree k ok hk hki ?_ hno
        by_cases hjk : j = k
        · subst hjk; exact hjun
        · rw [getD_set_ne true hjk] at hun; exact hun
      refine lOp_mono (fun a' h3 => ih (listed.setIfInBounds j true) a' hfree' (ready_mono hr (Ne.symm hji)) ?_) h2
      rw [Array.setIfInBounds_comm _ _ hji]
      exact h3

theorem wpAnyL_lex (hne : ∃ w, C w) {Q : Act → Prop} (hs : Region.noSelect ops = true) : ∀ (l : List Oper) (k : Nat) (listed : Array Bool) (a : Act), (∀ j, l[j]? = ops[k + j]?) →
    Region.lexFrom md ops l.length k listed = true → wpLoose P ops C G Q l a → wpAnyL P md ops C G Q l.length listed a
  | [], _, _, _, _, hB, h => ⟨by simpa [Region.lexFrom] using hB, h⟩
  | o :: l, k, listed, a, hl, hB, h => by
    have h0 : ops[k]? = some o := by simpa using (hl 0).symm
    simp only [List.length_cons, Region.lexFrom, Bool.and_eq_true] at hB
    obtain ⟨⟨hr, hf⟩, hB'⟩ := hB
    have hst : lOp P ops C G k (wpLoose P ops C G Q l) a := by unfold lOp; simp only [h0]; exact h
    exact wpAnyL_first hne h0 (Region.noSelect_spec hs) l.length listed a (Region.free_spec h0 hf) (by simpa using hr)
      (lOp_mono (fun a' h' => wpAnyL_lex hne hs l (k + 1) _ a' (fun j => by have := hl (j + 1); simpa [Nat.add_assoc, Nat.add_comm 1 j] using this) hB' h') hst)

/-- One walk of the lexical order serves every order. -/
theorem wp_region_loose {id : Nat} {Q : Exit → Act → World → Prop} {a : Act} {w : World} (hm : P.follows .mixedOrders = true) (hB : Region.lexB .any ops = true) (hC : C { w with drawn := w.drawn + 1 })
    (h : wpLoose P ops C G (fun a' => ∀ w', C w' → Q .normal a' w') ops.toList a) : (Code.region id ops true).wp P Q a w := by
  simp only [Region.lexB, Bool.and_eq_true] at hB
  refine wp_region_any hm (wpAny_of_loose (G := G) (Q := fun a' => ∀ w', C w' → Q .normal a' w') (fun _ w' hw' h => h w' hw') _ _ _ _ hC ?_)
  have := wpAnyL_lex (C := C) (G := G) (md := .any) ⟨_, hC⟩ hB.1 ops.toList 0 (Array.replicate ops.size false) a (by simp) (by simpa using hB.2) h
  simpa using this

theorem wp_region_loose_lit {id : Nat} {Q : Exit → Act → World → Prop} {a : Act} {w : World} {l : List Oper} (C : World → Prop) (G : FuncId → Array Value → Value → Prop) (hm : P.follows .mixedOrders = true) (hB : Region.lexB .any l.toArray = true) (hC : C w.drew)
    (h : wpLoose P l.toArray C G (fun a' => ∀ w', C w' → Q .normal a' w') l a) : (Code.region id l.toArray true).wp P Q a w :=
  wp_region_loose (C := C) (G := G) hm hB hC (by simpa using h)

/-! ### A region whose last operations come in one forced order (a store at its end) -/

def wpAnyLT (P : Program) (md : Region.Mode) (ops : Array Oper) (C : World → Prop) (G : FuncId → Array Value → Value → Prop) (n : Nat) (L : Array Bool → Act → Prop) : Nat → Array Bool → Act → Prop
  | 0, listed, a => L listed a
  | f + 1, listed, a =>
    Region.ready md ops listed ≠ [] ∧ ∀ i ∈ Region.ready md ops listed, i < n ∧ lOp P ops C G i (wpAnyLT P md ops C G n L f (listed.setIfInBounds i true)) a

theorem wpAny_of_headL {n g : Nat} {L : Array Bool → Act → Prop} {Q' : Exit → Act → World → Prop} (hL : ∀ listed a w, C w → L listed a → wpAny P md ops Q' g listed a w) :
    ∀ (f : Nat) (listed : Array Bool) (a : Act) (w : World), C w → wpAnyLT P md ops C G n L f listed a → wpAny P md ops Q' (f + g) listed a w
  | 0, listed, a, w, hw, h => by rw [Nat.zero_add]; exact hL _ _ _ hw h
  | f + 1, listed, a, w, hw, h => by
    rw [show f + 1 + g = (f + g) + 1 by omega]
    exact ⟨fun h0 => absurd h0 h.1, fun i hi => wpOp_of_lOp hw (fun a' w' hw' h' => wpAny_of_headL hL f _ a' w' hw' h') (h.2 i hi).2⟩

theorem wpAnyLT_first (hne : ∃ w, C w) {n i : Nat} {oi : Oper} {L : Array Bool → Act → Prop} (hi : ops[i]? = some oi) (hsel : ∀ (j : Nat) (o : Oper) cs b, ops[j]? = some o → o.op ≠ .select cs b)
    (hs : Region.sinkB md ops n = true) (hc : Region.chainB md ops n = true) (hn : n < ops.size) (hin : i < n)
    (hdone : ∀ listed a, L listed a → ∀ j ∈ Region.ready md ops listed, n ≤ j) :
    ∀ (f : Nat) (listed : Array Bool) (a : Act), HeadInv md ops n listed →
      (∀ j oj, ops[j]? = some oj → j ≠ i → listed.getD j true = false → (∀ e ∈ oj.after, Region.binds md e = true → e.on ≠ i) → oi.apart ops oj = true) →
      i ∈ Region.ready md ops listed → lOp P ops C G i (wpAnyLT P md ops C G n L f (listed.setIfInBounds i true)) a → wpAnyLT P md ops C G n L (f + 1) listed a := by
  intro f
  induction f with
  | zero =>
    intro listed a inv _ hr H
    have hun := (mem_ready.1 hr).1
    refine ⟨fun h => (by rw [h] at hr; cases hr), fun j hj => ?_⟩
    have hjn : j < n := by
      rcases Nat.lt_or_ge j n with h | h
      · exact h
      · exact absurd hj (tail_waits hs hc hn inv _ i rfl hin hun j h)
    refine ⟨hjn, ?_⟩
    by_cases hji : j = i
    · subst hji; exact H
    · obtain ⟨a', ha'⟩ := lOp_some hne H
      have := hdone _ _ ha' j (ready_mono hj hji)
      omega
  | succ f ih =>
    intro listed a inv hfree hr H
    have hun := (mem_ready.1 hr).1
    refine ⟨fun h => (by rw [h] at hr; cases hr), fun j hj => ?_⟩
    have hjn : j < n := by
      rcases Nat.lt_or_ge j n with h | h
      · exact h
      · exact absurd hj (tail_waits hs hc hn inv _ i rfl hin hun j h)
    refine ⟨hjn, ?_⟩
    by_cases hji : j = i
    · subst hji; exact H
    · have h1 : lOp P ops C G i (fun a1 => lOp P ops C G j (wpAnyLT P md ops C G n L f ((listed.setIfInBounds i true).setIfInBounds j true)) a1) a :=
        lOp_mono (fun a1 h => (h.2 j (ready_mono hj hji)).2) H
      obtain ⟨hjun, oj, hoj, hall⟩ := mem_ready.1 hj
      have hnot : ∀ e ∈ oj.after, Region.binds md e = true → e.on ≠ i := fun e he hb heq => by
        have h1 := hall e he hb
        rw [heq, getD_both hun] at h1
        cases h1
      have h2 := lOp_swap hne hi hoj (hfree j oj hoj hji hjun hnot) (fun cs b => hsel i oi cs b hi) (fun cs b => hsel j oj cs b hoj) h1
      have hfree' : ∀ k ok, ops[k]? = some ok → k ≠ i → (listed.setIfInBounds j true).getD k true = false →
          (∀ e ∈ ok.after, Region.binds md e = true → e.on ≠ i) → oi.apart ops ok = true := fun k ok hk hki hun hno => by
        refine hfree k ok hk hki ?_ hno
        by_cases hjk : j = k
        · subst hjk; exact hjun
        · rw [getD_set_ne true hjk] at hun; exact hun
      refine lOp_mono (fun a' h3 => ih (listed.setIfInBounds j true) a' (inv.set hj hjn) hfree' (ready_mono hr (Ne.symm hji)) ?_) h2
      rw [Array.setIfInBounds_comm _ _ hji]
      exact h3

theorem wpAnyLT_lex (hne : ∃ w, C w) {n g : Nat} {Lq : Act → Prop} (hsel : Region.noSelect ops = true) (hs : Region.sinkB md ops n = true) (hc : Region.chainB md ops n = true) (hn : n < ops.size) :
    ∀ (l : List Oper) (k : Nat) (listed : Array Bool) (a : Act), (∀ j, j < l.length → l[j]? = ops[k + j]?) → k + l.length = n → HeadInv md ops n listed →
    Region.lexHead md ops g l.length k listed = true → wpLoose P ops C G Lq l a →
    wpAnyLT P md ops C G n (fun listed' a' => Region.seqB md ops g n listed' = true ∧ Lq a') l.length listed a
  | [], k, listed, a, _, hk, _, hB, h => by
    have : k = n := by simpa using hk
    subst this
    exact ⟨by simpa [Region.lexHead] using hB, h⟩
  | o :: l, k, listed, a, hl, hk, inv, hB, h => by
    have h0 : ops[k]? = some o := by simpa using (hl 0 (by simp)).symm
    simp only [List.length_cons, Region.lexHead, Bool.and_eq_true] at hB
    obtain ⟨⟨hr, hf⟩, hB'⟩ := hB
    have hkn : k < n := by simp only [List.length_cons] at hk; omega
    have hr' : k ∈ Region.ready md ops listed := by simpa using hr
    have hst : lOp P ops C G k (wpLoose P ops C G Lq l) a := by unfold lOp; simp only [h0]; exact h
    exact wpAnyLT_first hne h0 (Region.noSelect_spec hsel) hs hc hn hkn (fun listed' a' hL => seqB_ready hL.1) l.length listed a inv (Region.free_spec h0 hf) hr'
      (lOp_mono (fun a' h' => wpAnyLT_lex hne hsel hs hc hn l (k + 1) _ a' (fun j hj => by have := hl (j + 1) (by simp; omega); simpa [Nat.add_assoc, Nat.add_comm 1 j] using this) (by simp only [List.length_cons] at hk; omega) (inv.set hr' hkn) hB' h') hst)

theorem wp_region_loose_tail {id : Nat} {Q : Exit → Act → World → Prop} {a : Act} {w : World} {l : List Oper} (n : Nat) (C : World → Prop) (G : FuncId → Array Value → Value → Prop) (hm : P.follows .mixedOrders = true) (hB : Region.lexTailB .any l.toArray n = true) (hC : C w.drew)
    (h : wpLoose P l.toArray C G (fun a' => ∀ w', C w' → wpList P l.toArray Q (l.drop n) a' w') (l.take n) a) : (Code.region id l.toArray true).wp P Q a w := by
  simp only [Region.lexTailB, Bool.and_eq_true, decide_eq_true_eq] at hB
  obtain ⟨⟨⟨⟨hsel, hn⟩, hs⟩, hc⟩, hlex⟩ := hB
  have hn' : n < l.length := by simpa using hn
  have htl : (l.take n).length = n := by simp; omega
  have hdl : (l.drop n).length = l.toArray.size - n := by simp
  have inv0 : HeadInv .any l.toArray n (Array.replicate l.toArray.size false) :=
    ⟨by simp, fun j oj _ hl => (by rw [getD_replicate_false] at hl; cases hl), fun t _ ht => getD_in (by simpa using ht) (getD_replicate_false _ _)⟩
  have H := wpAnyLT_lex (md := .any) (g := l.toArray.size - n) ⟨_, hC⟩ hsel hs hc hn (l.take n) 0 _ a (fun j hj => by
    have hj' : j < n := by rw [htl] at hj; exact hj
    simp [hj']) (by simpa using htl) inv0 (by rw [htl]; exact hlex) h
  refine wp_region_any hm ?_
  have := wpAny_of_headL (Q' := Q) (g := l.toArray.size - n) (fun listed a' w' hw' hL => by
    have := wpAny_of_seq (md := .any) (Q' := Q) (l.drop n) n listed a' w' (fun j => by simp [List.getElem?_drop]) (by rw [hdl]; exact hL.1) (hL.2 w' hw')
    rwa [hdl] at this) _ _ _ _ hC H
  rw [htl, show n + (l.toArray.size - n) = l.toArray.size by omega] at this
  exact this

theorem looseUpon_load {o : Oper} {a : Act} {w : World} {ty : TypeId} {x : Operand} {next : Value → Prop} (ho : o.op = .load ty x) (g : Nat) (hx : a.eval x = .pointer (some ⟨g, 0, none⟩)) (t : TypeId) (cs : Array Value) (fr : Nat × Nat) (d : TypeDesc) (hg : w.heap[g]? = some (.cells cs t fr))
    (hu : P.underlying ty = some d) (hd : (match d with | .struct _ | .array _ _ => true | _ => false) = true) (hi : (P.info? ty).map (·.size) = some cs.size) (hC : C w) (h : next (.agg cs)) : looseUpon P C G next ((execOp a.eval o).run P w) := by
  unfold execOp
  simp only [ho, hx, Instr.loadAt, Instr.sureAddr, Sem.run_bind, Sem.run_pure, Result.andThen_ok, run_loadVar_row w g t ty cs fr d hg hu hd hi]
  exact ⟨hC, h⟩
/-- Operations that yield a value. -/
theorem looseUpon_value {next : Value → Prop} {u : Value} {w' : World} (hC : C w') (h : next u) : looseUpon P C G next (.ok (.value u) w') := ⟨hC, h⟩
theorem looseUpon_enter {next : Value → Prop} {f : FuncId} {args : Array Value} {w' : World} (hC : C w') (hc : Calls P f args w' (fun e w'' => ∃ u, e = .returned u ∧ G f args u ∧ C w'')) (h : ∀ u, G f args u → next u) :
    looseUpon P C G next (.ok (.enter f args) w') := ⟨hC, hc, h⟩

end
end Go.Proofs.Ytfpjiclkhjdihaa

namespace Go.Proofs.Ytfpjiclkhjdihaa

theorem isInf_read (f : Ieee.Format) (h : f.binade ≤ f.infRung) (x : Nat) : (f.read x).isInfinity = decide (x % f.signWeight = f.infRung) := by
  unfold Ieee.Format.read
  dsimp only
  split
  · simp only [Ieee.Datum.isInfinity]; symm; simp; omega
  · split
    · simp only [Ieee.Datum.isInfinity]; symm; simp; omega
    · split
      · simp only [Ieee.Datum.isInfinity]; symm; simp; omega
      · simp only [Ieee.Datum.isInfinity]; symm; simp; omega

theorem num32 {x : Nat} {s : Bool} {m : Nat} {e : Int} (h : FloatKind.f32.decode x = .number s m e) :
    m < 16777216 ∧ -149 ≤ e ∧ e ≤ 104 ∧ x % 2147483648 < 2139095040 ∧ s = (x / 2147483648 % 2 == 1) := by
  have hb : 0 < Ieee.single.binade := Nat.two_pow_pos _
  unfold FloatKind.decode FloatKind.format Ieee.Format.read at h
  dsimp only at h
  have e1 : Ieee.single.binade = 8388608 := by decide
  have e2 : Ieee.single.infRung = 2139095040 := by decide
  have e3 : Ieee.single.signWeight = 2147483648 := by decide
  have e4 : Ieee.single.leastPlace = -149 := by decide
  rw [e1, e2, e3, e4] at h
  split at h
  · injection h with h2 h3 h4
    subst h2; subst h3; subst h4
    exact ⟨by omega, by omega, by omega, by omega, rfl⟩
  · split at h
    · injection h with h2 h3 h4
      subst h2; subst h3; subst h4
      exact ⟨by omega, by omega, by omega, by omega, rfl⟩
    · split at h <;> cases h

theorem num64 {x : Nat} {s : Bool} {m : Nat} {e : Int} (h : FloatKind.f64.decode x = .number s m e) :
    m < 9007199254740992 ∧ -1074 ≤ e ∧ e ≤ 971 ∧ x % 9223372036854775808 < 9218868437227405312 ∧ s = (x / 9223372036854775808 % 2 == 1) := by
  unfold FloatKind.decode FloatKind.format Ieee.Format.read at h
  dsimp only at h
  have e1 : Ieee.double.binade = 4503599627370496 := by decide
  have e2 : Ieee.double.infRung = 9218868437227405312 := by decide
  have e3 : Ieee.double.signWeight = 9223372036854775808 := by decide
  have e4 : Ieee.double.leastPlace = -1074 := by decide
  rw [e1, e2, e3, e4] at h
  split at h
  · injection h with h2 h3 h4
    subst h2; subst h3; subst h4
    exact ⟨by omega, by omega, by omega, by omega, rfl⟩
  · split at h
    · injection h with h2 h3 h4
      subst h2; subst h3; subst h4
      exact ⟨by omega, by omega, by omega, by omega, rfl⟩
    · split at h <;> cases h

theorem cut_none (neg : Bool) (n : Nat) : Ieee.Toward.even.cut neg n 0 = n := by
  unfold Ieee.Toward.cut
  simp [Nat.mod_one]

/-- A short number has its own word: nothing is rounded. -/
theorem nearest_short {s : Bool} {m : Nat} {e : Int} (hm : m ≠ 0) (hL : m.log2 ≤ 52) (h1 : -1074 ≤ e + m.log2 - 52) :
    Ieee.double.nearest s m e = Ieee.double.word s (min ((e + m.log2 - 52 + 1074).toNat * 4503599627370496 + m * 2 ^ (52 - m.log2)) 9218868437227405312) := by
  have e1 : Ieee.double.binade = 4503599627370496 := by decide
  have e2 : Ieee.double.infRung = 9218868437227405312 := by decide
  have e4 : Ieee.double.leastPlace = -1074 := by decide
  have e5 : (Ieee.double.fractionBits : Int) = 52 := by decide
  unfold Ieee.Format.nearest
  rw [if_neg hm]
  dsimp only
  rw [e1, e2, e4, e5]
  have hl : max (e + ↑m.log2 - 52) (-1074) = e + ↑m.log2 - 52 := by omega
  rw [hl]
  have h3 : (e - (e + ↑m.log2 - 52)).toNat = 52 - m.log2 := by omega
  have h4 : (e + ↑m.log2 - 52 - e).toNat = 0 := by omega
  rw [h3, h4, cut_none, Nat.shiftLeft_eq]
  congr 4

theorem fits_wide (b : Nat) : Fits .f32 .f64 b := by
  intro hn
  unfold floatToFloatBits
  rw [if_neg (by decide)]
  cases hd : FloatKind.f32.decode b with
  | nan s t => rw [hd] at hn; simp [Ieee.Datum.isNaN] at hn
  | infinity s => rfl
  | number s m e =>
    obtain ⟨h1, h2, h3, _, _⟩ := num32 hd
    have key : (FloatKind.f64.decode (FloatKind.f64.encode (.number s m e))).isInfinity = false := by
      show (Ieee.double.read (Ieee.double.nearest s m e)).isInfinity = false
      rw [isInf_read _ (by decide)]
      have e2 : Ieee.double.infRung = 9218868437227405312 := by decide
      have e3 : Ieee.double.signWeight = 9223372036854775808 := by decide
      simp only [decide_eq_false_iff_not]
      by_cases hm : m = 0
      · subst hm
        unfold Ieee.Format.nearest
        rw [if_pos rfl, read_word _ _ _ (by rw [e3]; omega), e2]
        omega
      · have hL : m.log2 ≤ 23 := by
          have := (Nat.log2_lt hm (k := 24)).2 (by omega)
          omega
        have hpow : m * 2 ^ (52 - m.log2) < 9007199254740992 := by
          have h5 : m < 2 ^ (m.log2 + 1) := Nat.lt_log2_self
          calc m * 2 ^ (52 - m.log2) < 2 ^ (m.log2 + 1) * 2 ^ (52 - m.log2) := Nat.mul_lt_mul_of_pos_right h5 (Nat.two_pow_pos _)
            _ = 2 ^ 53 := by rw [← Nat.pow_add]; congr 1; omega
            _ = 9007199254740992 := by decide
        rw [nearest_short hm (by omega) (by omega), read_word _ _ _ (by rw [e3]; omega), e2]
        omega
    simp only [key]
    rfl

end Go.Proofs.Ytfpjiclkhjdihaa

namespace Go.Proofs.Ytfpjiclkhjdihaa
open Go.RowKit

/-! ### Numbers -/
def fadd (x y : Option Nat) : Option Nat := cop .add .f32 x y
def fsub (x y : Option Nat) : Option Nat := cop .sub .f32 x y
def fmul (x y : Option Nat) : Option Nat := cop .mul .f32 x y
def fdiv (x y : Option Nat) : Option Nat := cop .quo .f32 x y
def flt (x y : Option Nat) : Bool := cord .f32 x y == some .lt
def feq (x y : Option Nat) : Bool := cord .f32 x y == some .eq
def fgt (x y : Option Nat) : Bool := cord .f32 x y == some .gt
def fle (x y : Option Nat) : Bool := cord .f32 x y == some .lt || cord .f32 x y == some .eq
def fge (x y : Option Nat) : Bool := cord .f32 x y == some .gt || cord .f32 x y == some .eq
/-- A word that is written in the text. -/
abbrev K32 (b : Nat) : Option Nat := canon .f32 b

section
variable (x y : Nat) (w : World)
theorem c_add : canon .f32 (fval .add .f32 x y w) = fadd (canon .f32 x) (canon .f32 y) := canon_fval ..
theorem c_sub : canon .f32 (fval .sub .f32 x y w) = fsub (canon .f32 x) (canon .f32 y) := canon_fval ..
theorem c_mul : canon .f32 (fval .mul .f32 x y w) = fmul (canon .f32 x) (canon .f32 y) := canon_fval ..
theorem c_div : canon .f32 (fval .quo .f32 x y w) = fdiv (canon .f32 x) (canon .f32 y) := canon_fval ..
theorem o_lt : (FloatKind.f32.format.order x y == some .lt) = flt (canon .f32 x) (canon .f32 y) := by rw [order_canon]; rfl
theorem o_eq : (FloatKind.f32.format.order x y == some .eq) = feq (canon .f32 x) (canon .f32 y) := by rw [order_canon]; rfl
theorem o_ge : (FloatKind.f32.format.order x y == some .gt || FloatKind.f32.format.order x y == some .eq) = fge (canon .f32 x) (canon .f32 y) := by rw [order_canon]; rfl
theorem o_le : (FloatKind.f32.format.order x y == some .lt || FloatKind.f32.format.order x y == some .eq) = fle (canon .f32 x) (canon .f32 y) := by rw [order_canon]; rfl
theorem o_gt : (FloatKind.f32.format.order x y == some .gt) = fgt (canon .f32 x) (canon .f32 y) := by rw [order_canon]; rfl
end

/-- The sum of the first numbers, from the first one on; 0 for none. -/
def fsumTo (p : Nat → Option Nat) : Nat → Option Nat
  | 0 => canon .f32 0
  | 1 => p 0
  | k + 2 => fadd (fsumTo p (k + 1)) (p (k + 1))
/-- A whole number as a float32. -/
def fint (i : Int) : Option Nat := canon .f32 (floatOfInt .f32 i)
/-- One number of a mixed curve; of a light. -/
def mixOf (share x y : Option Nat) : Option Nat := fadd (fmul x (fsub (canon .f32 1065353216) share)) (fmul y share)
def lightAt (warmth : Option Nat) (i : Nat) : Option Nat := fadd (canon .f32 1065353216) (fmul warmth (fdiv (fsub (fint i) (canon .f32 1089470464)) (canon .f32 1090519040)))
def allTo (n : Nat) (p : Nat → Bool) : Bool := (List.range n).all p
theorem allTo_true {n : Nat} {p : Nat → Bool} (h : ∀ j, j < n → p j = true) : allTo n p = true := by
  unfold allTo
  rw [List.all_eq_true]
  intro j hj
  exact h j (by simpa using hj)
theorem allTo_false {n : Nat} {p : Nat → Bool} {j : Nat} (hj : j < n) (h : p j = false) : allTo n p = false := by
  unfold allTo
  rw [List.all_eq_false]
  exact ⟨j, by simpa using hj, by simp [h]⟩
theorem allTo_get {n : Nat} {p : Nat → Bool} (h : allTo n p = true) {j : Nat} (hj : j < n) : p j = true := by
  unfold allTo at h
  rw [List.all_eq_true] at h
  exact h j (by simpa using hj)
theorem allTo_congr {n : Nat} {p q : Nat → Bool} (h : ∀ j, j < n → p j = q j) : allTo n p = allTo n q := by
  unfold allTo
  rw [Bool.eq_iff_iff, List.all_eq_true, List.all_eq_true]
  exact ⟨fun g j hj => by rw [← h j (by simpa using hj)]; exact g j hj, fun g j hj => by rw [h j (by simpa using hj)]; exact g j hj⟩

/-! ### What a call leaves -/
def Drawn (w w' : World) : Prop := ∃ n, w' = w.drewN n
theorem bDrew {B : Nat} {a w : World} (h : Below B a w) (n : Nat) : Below B a (w.drewN n) := ⟨h.os, h.tape, h.output, h.size, h.block⟩
theorem Drawn.below {B : Nat} {a w w' : World} (h : Below B a w) (hd : Drawn w w') : Below B a w' := by obtain ⟨n, rfl⟩ := hd; exact bDrew h n
theorem Drawn.below0 {w w' : World} (hd : Drawn w w') : Below w.heap.size w w' := Drawn.below (Below.refl _ _) hd
theorem bRow {B : Nat} {a w : World} (h : Below B a w) {g : Nat} (hg : B ≤ g) (cs : Array Value) : Below B a (w.setRow g cs) :=
  h.trans ⟨rfl, rfl, rfl, by simp, fun k hk => setRow_other w g k cs (by omega)⟩
/-- A call made in a later world. -/
theorem bCall {B : Nat} {a w w' : World} (h : Below B a w) (hb : Below w.heap.size w w') (hB : B ≤ w.heap.size) : Below B a w' := h.trans (hb.mono hB)

/-- A float32, the world drawn from alone. -/
def RetFq (w : World) (v : Option Nat) (e : Ending) (w' : World) : Prop := ∃ r, e = .returned (.float .f32 r) ∧ canon .f32 r = v ∧ Drawn w w'
/-- A float32. -/
def RetF (w : World) (v : Option Nat) (e : Ending) (w' : World) : Prop := ∃ r, e = .returned (.float .f32 r) ∧ canon .f32 r = v ∧ Below w.heap.size w w'
theorem RetFq.to {w : World} {v : Option Nat} {e : Ending} {w' : World} (h : RetFq w v e w') : RetF w v e w' := by
  obtain ⟨r, h1, h2, h3⟩ := h; exact ⟨r, h1, h2, h3.below0⟩
/-- A row of n float32. -/
def RetC (n : Nat) (w : World) (p : Nat → Option Nat) (e : Ending) (w' : World) : Prop :=
  ∃ r, e = .returned (.agg (fA n r)) ∧ (∀ i, i < n → canon .f32 (r i) = p i) ∧ Below w.heap.size w w'
/-- A row of n float32 and a code. -/
def RetCC (n : Nat) (w : World) (p : Nat → Option Nat) (code : Int) (e : Ending) (w' : World) : Prop :=
  ∃ r, e = .returned (.tuple #[.agg (fA n r), .int .i64 code]) ∧ (∀ i, i < n → canon .f32 (r i) = p i) ∧ Below w.heap.size w w'
/-- A float32 and a code. -/
def RetFC (w : World) (v : Option Nat) (code : Int) (e : Ending) (w' : World) : Prop :=
  ∃ r, e = .returned (.tuple #[.float .f32 r, .int .i64 code]) ∧ canon .f32 r = v ∧ Below w.heap.size w w'
/-- A bool. -/
def RetB (w : World) (b : Bool) (e : Ending) (w' : World) : Prop := e = .returned (.bool b) ∧ Below w.heap.size w w'
def RetBq (w : World) (b : Bool) (e : Ending) (w' : World) : Prop := e = .returned (.bool b) ∧ Drawn w w'
theorem RetBq.to {w : World} {v : Bool} {e : Ending} {w' : World} (h : RetBq w v e w') : RetB w v e w' := ⟨h.1, h.2.below0⟩

/-- What the calls of one region give: a function of two numbers, of one. -/
def GFF (op : Option Nat → Option Nat → Option Nat) (_f : FuncId) (args : Array Value) (u : Value) : Prop := ∃ p q r, args = #[.float .f32 p, .float .f32 q] ∧ u = .float .f32 r ∧ canon .f32 r = op (canon .f32 p) (canon .f32 q)
theorem GFF.mk {op : Option Nat → Option Nat → Option Nat} {f : FuncId} {p q r : Nat} (h : canon .f32 r = op (canon .f32 p) (canon .f32 q)) : GFF op f #[.float .f32 p, .float .f32 q] (.float .f32 r) := ⟨p, q, r, rfl, rfl, h⟩
theorem GFF.inv {op : Option Nat → Option Nat → Option Nat} {f : FuncId} {p q : Nat} {u : Value} (h : GFF op f #[.float .f32 p, .float .f32 q] u) : ∃ r, u = .float .f32 r ∧ Hid (canon .f32 r = op (canon .f32 p) (canon .f32 q)) := by
  obtain ⟨p', q', r, ha, hu, hr⟩ := h
  simp only [Array.mk.injEq, List.cons.injEq, Value.float.injEq, true_and, and_true] at ha
  obtain ⟨rfl, rfl⟩ := ha
  exact ⟨r, hu, hr⟩
def GF (op : Option Nat → Option Nat) (_f : FuncId) (args : Array Value) (u : Value) : Prop := ∃ p r, args = #[.float .f32 p] ∧ u = .float .f32 r ∧ canon .f32 r = op (canon .f32 p)
theorem GF.mk {op : Option Nat → Option Nat} {f : FuncId} {p r : Nat} (h : canon .f32 r = op (canon .f32 p)) : GF op f #[.float .f32 p] (.float .f32 r) := ⟨p, r, rfl, rfl, h⟩
theorem GF.inv {op : Option Nat → Option Nat} {f : FuncId} {p : Nat} {u : Value} (h : GF op f #[.float .f32 p] u) : ∃ r, u = .float .f32 r ∧ Hid (canon .f32 r = op (canon .f32 p)) := by
  obtain ⟨p', r, ha, hu, hr⟩ := h
  simp only [Array.mk.injEq, List.cons.injEq, Value.float.injEq, true_and, and_true] at ha
  subst ha
  exact ⟨r, hu, hr⟩

/-- The calls of a law's statement: a copy of an argument ('F'), and the function that the law is about. -/
def GTwo (F : FuncId) (Q : Value → Prop) (f : FuncId) (args : Array Value) (u : Value) : Prop := if f = F then args = #[u] else Q u
theorem GTwo.copy {F : FuncId} {Q : Value → Prop} (v : Value) : GTwo F Q F #[v] v := by simp [GTwo]
theorem GTwo.copied {F : FuncId} {Q : Value → Prop} {u v : Value} (h : GTwo F Q F #[v] u) : u = v := by simp [GTwo] at h; exact h.symm
theorem GTwo.mk {F f : FuncId} {Q : Value → Prop} {args : Array Value} {u : Value} (hf : f ≠ F) (h : Q u) : GTwo F Q f args u := by unfold GTwo; rw [if_neg hf]; exact h
theorem GTwo.other {F f : FuncId} {Q : Value → Prop} {args : Array Value} {u : Value} (hf : f ≠ F) (h : GTwo F Q f args u) : Q u := by unfold GTwo at h; rw [if_neg hf] at h; exact h
/-- The same, where two functions copy. -/
def GThree (F1 F2 : FuncId) (Q : Value → Prop) (f : FuncId) (args : Array Value) (u : Value) : Prop := if f == F1 || f == F2 then args = #[u] else Q u
theorem GThree.copy {F1 F2 f : FuncId} {Q : Value → Prop} (v : Value) (hf : (f == F1 || f == F2) = true := by decide) : GThree F1 F2 Q f #[v] v := by unfold GThree; rw [if_pos hf]
theorem GThree.copied {F1 F2 f : FuncId} {Q : Value → Prop} {u v : Value} (h : GThree F1 F2 Q f #[v] u) (hf : (f == F1 || f == F2) = true := by decide) : u = v := by unfold GThree at h; rw [if_pos hf] at h; simp at h; exact h.symm
theorem GThree.mk {F1 F2 f : FuncId} {Q : Value → Prop} {args : Array Value} {u : Value} (hf : (f == F1 || f == F2) ≠ true) (h : Q u) : GThree F1 F2 Q f args u := by unfold GThree; rw [if_neg hf]; exact h
theorem GThree.other {F1 F2 f : FuncId} {Q : Value → Prop} {args : Array Value} {u : Value} (hf : (f == F1 || f == F2) ≠ true) (h : GThree F1 F2 Q f args u) : Q u := by unfold GThree at h; rw [if_neg hf] at h; exact h
def IsC (n : Nat) (p : Nat → Option Nat) (u : Value) : Prop := ∃ r, u = .agg (fA n r) ∧ Hid (∀ i, i < n → canon .f32 (r i) = p i)
def IsCC (n : Nat) (p : Nat → Option Nat) (code : Int) (u : Value) : Prop := ∃ r, u = .tuple #[.agg (fA n r), .int .i64 code] ∧ Hid (∀ i, i < n → canon .f32 (r i) = p i)
def IsF (p : Option Nat) (u : Value) : Prop := ∃ r, u = .float .f32 r ∧ Hid (canon .f32 r = p)
def IsFC (p : Option Nat) (code : Int) (u : Value) : Prop := ∃ r, u = .tuple #[.float .f32 r, .int .i64 code] ∧ Hid (canon .f32 r = p)
def IsB (b : Bool) (u : Value) : Prop := u = .bool b
theorem RetC.is {n : Nat} {w : World} {p : Nat → Option Nat} {e : Ending} {w' : World} (h : RetC n w p e w') : ∃ u, e = .returned u ∧ IsC n p u ∧ Below w.heap.size w w' := by
  obtain ⟨r, h1, h2, h3⟩ := h; exact ⟨_, h1, ⟨r, rfl, h2⟩, h3⟩
theorem RetCC.is {n : Nat} {w : World} {p : Nat → Option Nat} {c : Int} {e : Ending} {w' : World} (h : RetCC n w p c e w') : ∃ u, e = .returned u ∧ IsCC n p c u ∧ Below w.heap.size w w' := by
  obtain ⟨r, h1, h2, h3⟩ := h; exact ⟨_, h1, ⟨r, rfl, h2⟩, h3⟩
theorem RetF.is {w : World} {p : Option Nat} {e : Ending} {w' : World} (h : RetF w p e w') : ∃ u, e = .returned u ∧ IsF p u ∧ Below w.heap.size w w' := by
  obtain ⟨r, h1, h2, h3⟩ := h; exact ⟨_, h1, ⟨r, rfl, h2⟩, h3⟩
theorem RetFC.is {w : World} {p : Option Nat} {c : Int} {e : Ending} {w' : World} (h : RetFC w p c e w') : ∃ u, e = .returned u ∧ IsFC p c u ∧ Below w.heap.size w w' := by
  obtain ⟨r, h1, h2, h3⟩ := h; exact ⟨_, h1, ⟨r, rfl, h2⟩, h3⟩
theorem RetB.is {w : World} {b : Bool} {e : Ending} {w' : World} (h : RetB w b e w') : ∃ u, e = .returned u ∧ IsB b u ∧ Below w.heap.size w w' := ⟨_, h.1, rfl, h.2⟩

/-- A function that may be called by its number. -/
def Enters (P : Program) (F : Nat) : Prop := ∀ (args : Array Value) (w : World), (callFunc F args).run P w = .ok (.enter F args) w

end Go.Proofs.Ytfpjiclkhjdihaa
