/- Floats up to the bits of a NaN: what each operation of the model gives, as one equation, whatever the operands. No program is named here. -/
import Derived.WalkKit
import Derived.WalkLawsBesides
import Derived.Laws.FloatArith
import Derived.Deep.Draws
namespace Go.Proofs.Ytmikeegecifbfaa

/-! ### Which words are NaNs -/

theorem isNaN_read (f : Ieee.Format) (h : f.binade ≤ f.infRung) (x : Nat) : (f.read x).isNaN = decide (f.infRung < x % f.signWeight) := by
  unfold Ieee.Format.read
  dsimp only
  split
  · simp only [Ieee.Datum.isNaN]; symm; simp; omega
  · split
    · simp only [Ieee.Datum.isNaN]; symm; simp; omega
    · split
      · simp only [Ieee.Datum.isNaN]; symm; simp; omega
      · simp only [Ieee.Datum.isNaN]; symm; simp; omega

theorem nanW32 (b : Nat) : (FloatKind.f32.decode b).isNaN = decide (2139095040 < b % 2147483648) := isNaN_read Ieee.single (by decide) b
theorem nanW64 (b : Nat) : (FloatKind.f64.decode b).isNaN = decide (9218868437227405312 < b % 9223372036854775808) := isNaN_read Ieee.double (by decide) b

/-- The number that a word stands for; none: a NaN. -/
def canon (k : FloatKind) (b : Nat) : Option Nat := if (k.decode b).isNaN then none else some b

theorem canon_none {k : FloatKind} {b : Nat} (h : (k.decode b).isNaN = true) : canon k b = none := by simp [canon, h]
theorem canon_some {k : FloatKind} {b : Nat} (h : (k.decode b).isNaN = false) : canon k b = some b := by simp [canon, h]
theorem canon_eq_some {k : FloatKind} {b r : Nat} (h : canon k b = some r) : b = r ∧ (k.decode b).isNaN = false := by
  unfold canon at h
  split at h
  · cases h
  · rename_i hn; cases h; exact ⟨rfl, by simpa using hn⟩

theorem read_word (f : Ieee.Format) (neg : Bool) (rung : Nat) (h : rung < f.signWeight) : (f.word neg rung) % f.signWeight = rung := by
  unfold Ieee.Format.word
  split
  · rw [Nat.add_mod_left, Nat.mod_eq_of_lt h]
  · exact Nat.mod_eq_of_lt h

theorem nearest_notNaN (f : Ieee.Format) (hb : f.binade ≤ f.infRung) (neg : Bool) (m : Nat) (p : Int) : (f.read (f.nearest neg m p)).isNaN = false := by
  have hi := f.infRung_lt
  rw [isNaN_read f hb]
  simp only [decide_eq_false_iff_not, Nat.not_lt]
  unfold Ieee.Format.nearest
  dsimp only
  split
  · rw [read_word f _ _ (by omega)]; omega
  · rw [read_word f _ _ (Nat.lt_of_le_of_lt (Nat.min_le_right ..) hi)]; exact Nat.min_le_right ..

theorem write_notNaN (f : Ieee.Format) (hb : f.binade ≤ f.infRung) (d : Ieee.Datum) (h : d.isNaN = false) : (f.read (f.write d)).isNaN = false := by
  cases d with
  | number s m e => exact nearest_notNaN f hb s m e
  | infinity s =>
    have hi := f.infRung_lt
    rw [isNaN_read f hb]
    show decide (f.infRung < f.word s f.infRung % f.signWeight) = false
    rw [read_word f _ _ hi]; simp
  | nan s t => simp [Ieee.Datum.isNaN] at h

theorem binade_le (k : FloatKind) : k.format.binade ≤ k.format.infRung := by cases k <;> decide

theorem sum_notNaN {a b d : Ieee.Datum} (h : a.sum b = some d) : d.isNaN = false ∧ a.isNaN = false ∧ b.isNaN = false := by
  unfold Ieee.Datum.sum at h
  split at h <;> first | (cases h; done) | skip
  all_goals first | (cases h; simp [Ieee.Datum.isNaN]; done) | (split at h <;> first | (cases h; done) | (cases h; simp [Ieee.Datum.isNaN]; done)) | (cases h; exact ⟨rfl, rfl, rfl⟩)
theorem product_notNaN {a b d : Ieee.Datum} (h : a.product b = some d) : d.isNaN = false ∧ a.isNaN = false ∧ b.isNaN = false := by
  unfold Ieee.Datum.product at h
  split at h <;> first | (cases h; done) | skip
  all_goals first | (cases h; simp [Ieee.Datum.isNaN]; done) | (split at h <;> first | (cases h; done) | (cases h; simp [Ieee.Datum.isNaN]; done)) | (cases h; exact ⟨rfl, rfl, rfl⟩)
theorem quotient_notNaN {n : Nat} {a b d : Ieee.Datum} (h : a.quotient n b = some d) : d.isNaN = false ∧ a.isNaN = false ∧ b.isNaN = false := by
  unfold Ieee.Datum.quotient at h
  split at h <;> first | (cases h; done) | skip
  all_goals first | (cases h; simp [Ieee.Datum.isNaN]; done) | (split at h <;> first | (cases h; done) | (split at h <;> first | (cases h; done) | (cases h; simp [Ieee.Datum.isNaN]; done)) | (cases h; simp [Ieee.Datum.isNaN]; done)) | (cases h; exact ⟨rfl, rfl, rfl⟩)
theorem root_notNaN {n : Nat} {a d : Ieee.Datum} (h : a.root n = some d) : d.isNaN = false ∧ a.isNaN = false := by
  unfold Ieee.Datum.root at h
  split at h <;> first | (cases h; done) | skip
  all_goals first | (cases h; simp [Ieee.Datum.isNaN]; done) | (split at h <;> first | (cases h; done) | (split at h <;> first | (cases h; done) | (cases h; simp [Ieee.Datum.isNaN]; done)) | (cases h; simp [Ieee.Datum.isNaN]; done))
theorem opposite_isNaN (d : Ieee.Datum) : d.opposite.isNaN = d.isNaN := by cases d <;> rfl

theorem floatBits_notNaN {op : BinOp} {k : FloatKind} {x y r : Nat} (h : floatBits op k x y = some r) :
    (k.decode r).isNaN = false ∧ (k.decode x).isNaN = false ∧ (k.decode y).isNaN = false := by
  unfold floatBits at h
  have hw := write_notNaN k.format (binade_le k)
  split at h
  · obtain ⟨d, hd, rfl⟩ := Option.map_eq_some_iff.1 h
    obtain ⟨h1, h2, h3⟩ := sum_notNaN hd
    exact ⟨hw d h1, h2, h3⟩
  · obtain ⟨d, hd, rfl⟩ := Option.map_eq_some_iff.1 h
    obtain ⟨h1, h2, h3⟩ := sum_notNaN hd
    rw [opposite_isNaN] at h3
    exact ⟨hw d h1, h2, h3⟩
  · obtain ⟨d, hd, rfl⟩ := Option.map_eq_some_iff.1 h
    obtain ⟨h1, h2, h3⟩ := product_notNaN hd
    exact ⟨hw d h1, h2, h3⟩
  · obtain ⟨d, hd, rfl⟩ := Option.map_eq_some_iff.1 h
    obtain ⟨h1, h2, h3⟩ := quotient_notNaN hd
    exact ⟨hw d h1, h2, h3⟩
  · cases h

/-! ### The bits that a draw may give where there is a NaN -/

theorem nan_cut32 (t : Nat) : 2139095040 < (t % 2 * 2147483648 + 2139095040 + 1 + t / 2 % 8388607) % 2147483648 := by
  have h1 : t % 2 < 2 := Nat.mod_lt _ (by omega)
  have h2 : t / 2 % 8388607 < 8388607 := Nat.mod_lt _ (by omega)
  generalize t % 2 = a at *
  generalize t / 2 % 8388607 = c at *
  have h3 : a = 0 ∨ a = 1 := by omega
  rcases h3 with rfl | rfl <;> omega
theorem nan_cut64 (t : Nat) : 9218868437227405312 < (t % 2 * 9223372036854775808 + 9218868437227405312 + 1 + t / 2 % 4503599627370495) % 9223372036854775808 := by
  have h1 : t % 2 < 2 := Nat.mod_lt _ (by omega)
  have h2 : t / 2 % 4503599627370495 < 4503599627370495 := Nat.mod_lt _ (by omega)
  generalize t % 2 = a at *
  generalize t / 2 % 4503599627370495 = c at *
  have h3 : a = 0 ∨ a = 1 := by omega
  rcases h3 with rfl | rfl <;> omega
theorem nanBits_isNaN (k : FloatKind) (x y t : Nat) : (k.decode ((Question.nanBits k x y).cut t)).isNaN = true := by
  cases k
  · rw [nanW32, decide_eq_true_eq]; exact nan_cut32 t
  · rw [nanW64, decide_eq_true_eq]; exact nan_cut64 t
theorem nanConv_isNaN (k : FloatKind) (x t : Nat) : (k.decode ((Question.nanConv k x).cut t)).isNaN = true := by
  cases k
  · rw [nanW32, decide_eq_true_eq]; exact nan_cut32 t
  · rw [nanW64, decide_eq_true_eq]; exact nan_cut64 t

/-! ### + - * / -/

/-- What an operation gives in a world: its bits; where it is invalid, what the tape says. -/
def fval (op : BinOp) (k : FloatKind) (x y : Nat) (w : World) : Nat :=
  match floatBits op k x y with
  | some r => r
  | none => (Question.nanBits k x y).cut (w.tape w.drawn (.nanBits k x y))
/-- How many draws it makes. -/
def fcnt (op : BinOp) (k : FloatKind) (x y : Nat) : Nat :=
  match floatBits op k x y with
  | some _ => 0
  | none => 1

section
variable {P : Program} (w : World) (t : TypeId) (k : FloatKind) (x y : Nat)
theorem run_farith (op : BinOp) (h : (op matches .add | .sub | .mul | .quo) = true) :
    (binOp op t (.float k x) (.float k y)).run P w = .ok (.float k (fval op k x y w)) (w.drewN (fcnt op k x y)) := by
  cases hr : floatBits op k x y with
  | some r => rw [run_float_arith w op t k x y r hr]; simp [fval, fcnt, hr, World.drewN_zero]
  | none =>
    have hr' := hr
    unfold floatBits at hr
    cases op <;> simp at h <;> simp only at hr <;> simp [binOp, Op.floatArith, hr, choose, Sem.run, Question.forced, fval, fcnt, hr', World.drewN]
@[go_sem] theorem run_fadd : (binOp .add t (.float k x) (.float k y)).run P w = .ok (.float k (fval .add k x y w)) (w.drewN (fcnt .add k x y)) := run_farith w t k x y .add rfl
@[go_sem] theorem run_fsub : (binOp .sub t (.float k x) (.float k y)).run P w = .ok (.float k (fval .sub k x y w)) (w.drewN (fcnt .sub k x y)) := run_farith w t k x y .sub rfl
@[go_sem] theorem run_fmul : (binOp .mul t (.float k x) (.float k y)).run P w = .ok (.float k (fval .mul k x y w)) (w.drewN (fcnt .mul k x y)) := run_farith w t k x y .mul rfl
@[go_sem] theorem run_fquo : (binOp .quo t (.float k x) (.float k y)).run P w = .ok (.float k (fval .quo k x y w)) (w.drewN (fcnt .quo k x y)) := run_farith w t k x y .quo rfl
end

/-- The operation on numbers, none for a NaN. -/
def cop (op : BinOp) (k : FloatKind) : Option Nat → Option Nat → Option Nat
  | some x, some y => floatBits op k x y
  | _, _ => none

theorem canon_fval (op : BinOp) (k : FloatKind) (x y : Nat) (w : World) : canon k (fval op k x y w) = cop op k (canon k x) (canon k y) := by
  unfold fval
  cases hr : floatBits op k x y with
  | some r =>
    obtain ⟨h1, h2, h3⟩ := floatBits_notNaN hr
    rw [canon_some h1, canon_some h2, canon_some h3]
    exact hr.symm
  | none =>
    rw [canon_none (nanBits_isNaN k x y _)]
    unfold canon
    split <;> split <;> simp [cop, hr]

/-! ### Comparisons -/

def cord (k : FloatKind) : Option Nat → Option Nat → Option Ordering
  | some x, some y => k.format.order x y
  | _, _ => none

theorem order_nan_left {a b : Ieee.Datum} (h : a.isNaN = true) : a.order b = none := by cases a <;> simp_all [Ieee.Datum.isNaN, Ieee.Datum.order]
theorem order_nan_right {a b : Ieee.Datum} (h : b.isNaN = true) : a.order b = none := by cases b <;> cases a <;> simp_all [Ieee.Datum.isNaN, Ieee.Datum.order]

theorem order_canon (k : FloatKind) (x y : Nat) : k.format.order x y = cord k (canon k x) (canon k y) := by
  unfold canon
  split
  · rename_i h; simp only [cord]; exact order_nan_left h
  · split
    · rename_i h; simp only [cord]; exact order_nan_right h
    · rfl

theorem datum_order_self {a : Ieee.Datum} (h : a.isNaN = false) : a.order a = some .eq := by
  cases a with
  | number s m i => simp [Ieee.Datum.order]
  | infinity s => simp [Ieee.Datum.order]
  | nan s t => simp [Ieee.Datum.isNaN] at h

theorem order_self (k : FloatKind) (x : Nat) : k.format.order x x = if (canon k x).isSome then some .eq else none := by
  unfold canon
  split
  · rename_i h; simp; exact order_nan_left h
  · rename_i h; simp only [Option.isSome_some, if_true]; exact datum_order_self (Bool.not_eq_true _ ▸ h)

/-! ### Conversions -/

theorem floatToFloat_same (k : FloatKind) (b : Nat) : floatToFloatBits k b k = some b := by simp [floatToFloatBits]

section
variable {P : Program} (w : World) (src dst : TypeId) (b : Nat)
@[go_sem] theorem run_convert_f32_f32 (hs : (P.underlying src).isSome = true) (hd : P.underlying dst = some (.float .f32)) :
    (convert src dst (.float .f32 b)).run P w = .ok (.float .f32 b) w := run_convert_float_float w src dst .f32 .f32 b b hs hd (floatToFloat_same _ _)
@[go_sem] theorem run_convert_f64_f64 (hs : (P.underlying src).isSome = true) (hd : P.underlying dst = some (.float .f64)) :
    (convert src dst (.float .f64 b)).run P w = .ok (.float .f64 b) w := run_convert_float_float w src dst .f64 .f64 b b hs hd (floatToFloat_same _ _)
end

/-- What a conversion between the two kinds gives in a world. -/
def cval (s d : FloatKind) (b : Nat) (w : World) : Nat :=
  match floatToFloatBits s b d with
  | some r => r
  | none => if (s.decode b).isNaN then (Question.nanConv d b).cut (w.tape w.drawn (.nanConv d b)) else (Question.floatToFloat b).cut (w.tape w.drawn (.floatToFloat b))
def ccnt (s d : FloatKind) (b : Nat) : Nat :=
  match floatToFloatBits s b d with
  | some _ => 0
  | none => 1

theorem run_cval {P : Program} (w : World) (src dst : TypeId) (s d : FloatKind) (b : Nat) (hs : (P.underlying src).isSome = true) (hd : P.underlying dst = some (.float d)) :
    (convert src dst (.float s b)).run P w = .ok (.float d (cval s d b w)) (w.drewN (ccnt s d b)) := by
  cases hr : floatToFloatBits s b d with
  | some r => rw [run_convert_float_float w src dst s d b r hs hd hr]; simp [cval, ccnt, hr, World.drewN_zero]
  | none =>
    obtain ⟨u, hs'⟩ := Option.isSome_iff_exists.1 hs
    have hr' := hr
    unfold floatToFloatBits at hr
    split at hr
    · cases hr
    · rename_i ne
      split at hr
      · rename_i sg tt he
        cases u <;> simp [convert, run_underlying hs', run_underlying hd, Conv.floatToFloat, ne, he, choose, Sem.run, Question.forced, cval, ccnt, hr', Ieee.Datum.isNaN, World.drewN]
      · cases hr
      · rename_i sg m e he
        split at hr
        · rename_i ho
          cases u <;> simp [convert, run_underlying hs', run_underlying hd, Conv.floatToFloat, ne, he, ho, choose, Sem.run, Question.forced, cval, ccnt, hr', Ieee.Datum.isNaN, World.drewN]
        · cases hr

section
variable {P : Program} (w : World) (src dst : TypeId) (b : Nat)
@[go_sem] theorem run_convert_f32_f64 (hs : (P.underlying src).isSome = true) (hd : P.underlying dst = some (.float .f64)) :
    (convert src dst (.float .f32 b)).run P w = .ok (.float .f64 (cval .f32 .f64 b w)) (w.drewN (ccnt .f32 .f64 b)) := run_cval w src dst .f32 .f64 b hs hd
@[go_sem] theorem run_convert_f64_f32 (hs : (P.underlying src).isSome = true) (hd : P.underlying dst = some (.float .f32)) :
    (convert src dst (.float .f64 b)).run P w = .ok (.float .f32 (cval .f64 .f32 b w)) (w.drewN (ccnt .f64 .f32 b)) := run_cval w src dst .f64 .f32 b hs hd
end

/-- The conversion of numbers. (A finite number too great for the narrower kind counts as none here; there the draws are free.) -/
def ccv (s d : FloatKind) : Option Nat → Option Nat
  | some x => floatToFloatBits s x d
  | none => none

theorem floatToFloat_notNaN {s d : FloatKind} {b r : Nat} (hne : s ≠ d) (h : floatToFloatBits s b d = some r) : (d.decode r).isNaN = false ∧ (s.decode b).isNaN = false := by
  unfold floatToFloatBits at h
  rw [if_neg hne] at h
  have hw := write_notNaN d.format (binade_le d)
  split at h
  · cases h
  · rename_i sg he; cases h; exact ⟨hw _ rfl, by rw [he]; rfl⟩
  · rename_i sg m e he
    split at h
    · cases h
    · cases h; exact ⟨hw _ rfl, by rw [he]; rfl⟩

/-- No finite number of kind 's' at this word is too great for 'd'. -/
def Fits (s d : FloatKind) (b : Nat) : Prop := (s.decode b).isNaN = false → (floatToFloatBits s b d).isSome = true

theorem canon_cval {s d : FloatKind} (hne : s ≠ d) (b : Nat) (w : World) (h : Fits s d b) : canon d (cval s d b w) = ccv s d (canon s b) := by
  unfold cval
  cases hr : floatToFloatBits s b d with
  | some r =>
    obtain ⟨h1, h2⟩ := floatToFloat_notNaN hne hr
    rw [canon_some h1, canon_some h2]
    exact hr.symm
  | none =>
    by_cases hn : (s.decode b).isNaN = true
    · simp only [hn, if_true]
      rw [canon_none (nanConv_isNaN d b _), canon_none hn]; rfl
    · exfalso
      have := h (by simpa using hn)
      rw [hr] at this; cases this

end Go.Proofs.Ytmikeegecifbfaa
