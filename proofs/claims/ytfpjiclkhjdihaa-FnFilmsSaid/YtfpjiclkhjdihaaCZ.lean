/- Contracts: square roots of float32. Contracts: ratios of what is reflected, and back. Contracts: distances and differences of looks. -/
import Derived.Test.YtfpjiclkhjdihaaCA
import Derived.Test.YtfpjiclkhjdihaaHlf
import Derived.Test.YtfpjiclkhjdihaaCR
namespace Go.Proofs.Ytfpjiclkhjdihaa
open Go.RowKit
set_option maxRecDepth 100000

theorem croot_neg {x : Option Nat} {v : Rat} (hx : Is .f64 x v) (hv : v < 0) : croot x = none := by
  obtain ⟨a, s, m, i, rfl, hd, rfl⟩ := hx
  have h1 : croot (some a) = Option.map FloatKind.f64.format.write ((FloatKind.f64.decode a).root (FloatKind.f64.format.fractionBits + 2)) := rfl
  rw [h1, hd]
  have h0 : 0 ≤ (m : Rat) * p2 i := Rat.mul_nonneg Rat.natCast_nonneg (Rat.le_of_lt (p2_pos _))
  have hm : m ≠ 0 := by
    rintro rfl
    unfold sg at hv
    cases s <;> simp at hv <;> exact absurd hv (by grind)
  have hs : s = true := by
    cases s
    · unfold sg at hv
      simp only [Bool.false_eq_true, if_false] at hv
      grind
    · rfl
  subst hs
  simp only [Ieee.Datum.root, hm, if_false, if_true]
  rfl
/-- The root of a widened float32, narrowed. -/
def froot (x : Option Nat) : Option Nat := ccv .f64 .f32 (croot (ccv .f32 .f64 x))
theorem root_fits (a : Option Nat) (ha : ∀ b, a = some b → (FloatKind.f32.decode b).isNaN = false) {b : Nat} (hb : canon .f64 b = croot (ccv .f32 .f64 a)) : Fits .f64 .f32 b := by
  intro hn
  rw [canon_some hn] at hb
  cases a with
  | none => cases hb
  | some x =>
    rcases dec32 x (ha x rfl) with ⟨s, m, e, hd, _⟩ | ⟨s, hd, _⟩
    · have h1 := is_widen (x := some x) ⟨x, s, m, e, rfl, hd, rfl⟩
      by_cases hv : 0 ≤ sg s ((m : Rat) * p2 e)
      · obtain ⟨w, h2, h3⟩ := is_root h1 hv
        rw [← hb] at h2
        have hr := rep32_le (Is.rep (k := .f32) (x := some x) ⟨x, s, m, e, rfl, hd, rfl⟩)
        have h4 : w ≤ p2 64 := h3.up _ (rep64_p2 64 (by omega) (by omega)) (Rat.le_of_lt (p2_pos _)) (by rw [← p2_add]; exact hr.1)
        have h5 := p2_mono (show (64 : Int) ≤ 127 by decide)
        have h6 := h3.pos
        have h7 := p2_pos 127
        exact h2.fits (fit32 (by grind) (by grind)) hn
      · rw [croot_neg h1 (by grind)] at hb
        cases hb
    · have h1 : ccv .f32 .f64 (some x) = some (FloatKind.f64.encode (.infinity s)) := by
        show floatToFloatBits .f32 x .f64 = _
        unfold floatToFloatBits
        rw [if_neg (by decide), hd]
      rw [h1] at hb
      cases s
      · have h2 : croot (some (FloatKind.f64.encode (.infinity false))) = some 9218868437227405312 := by decide
        rw [h2] at hb
        injection hb with hb
        subst hb
        decide
      · have h2 : croot (some (FloatKind.f64.encode (.infinity true))) = none := by decide
        rw [h2] at hb
        cases hb

def sqval (x : Nat) (w : World) : Nat :=
  match FloatKind.f64.format.sqrt x with
  | some r => r
  | none => (Question.nanBits .f64 x x).cut (w.tape w.drawn (.nanBits .f64 x x))
def sqcnt (x : Nat) : Nat :=
  match FloatKind.f64.format.sqrt x with
  | some _ => 0
  | none => 1
theorem sqrt_notNaN {x r : Nat} (h : FloatKind.f64.format.sqrt x = some r) : (FloatKind.f64.decode r).isNaN = false ∧ (FloatKind.f64.decode x).isNaN = false := by
  unfold Ieee.Format.sqrt at h
  obtain ⟨d, hd, rfl⟩ := Option.map_eq_some_iff.1 h
  obtain ⟨h1, h2⟩ := root_notNaN hd
  exact ⟨write_notNaN _ (binade_le .f64) d h1, h2⟩
theorem canon_sqval (x : Nat) (w : World) : canon .f64 (sqval x w) = croot (canon .f64 x) := by
  unfold sqval
  cases hr : FloatKind.f64.format.sqrt x with
  | some r =>
    obtain ⟨h1, h2⟩ := sqrt_notNaN hr
    rw [canon_some h1, canon_some h2]
    exact hr.symm
  | none =>
    rw [canon_none (nanBits_isNaN .f64 x x _)]
    unfold canon
    split
    · rfl
    · exact hr.symm

theorem msqrt_run (x : Nat) (w : World) : (callFunc 95 #[.float .f64 x]).run Try.prog w = .ok (.value (.float .f64 (sqval x w))) (w.drewN (sqcnt x)) := by
  have h : (callFunc 95 #[.float .f64 x]).run Try.prog w = ((match FloatKind.f64.format.sqrt x with
      | some r => pure (Value.float .f64 r)
      | none => do pure (Value.float .f64 (← choose (.nanBits .f64 x x)))) >>= fun v => pure (Next.value v)).run Try.prog w := by kernel_rfl
  rw [h]
  cases hr : FloatKind.f64.format.sqrt x with
  | some r => simp [sqval, sqcnt, hr, World.drewN_zero]
  | none => simp [sqval, sqcnt, hr, choose, Sem.run, Question.forced, World.drewN]
theorem Sqrt_any (x : Nat) (w : World) : Calls Try.prog 83 #[.float .f64 x] w fun e w' => ∃ r, e = .returned (.float .f64 r) ∧ canon .f64 r = croot (canon .f64 x) ∧ Drawn w w' := by
  have h1 := msqrt_run
  go_enter Try.func83, Try.ntmps83
  go_wp2
  go_ret
  exact ⟨_, rfl, canon_sqval .., _, rfl⟩
theorem canon_isSome {k : FloatKind} {a b : Nat} (h : canon k a = some b) : (k.decode b).isNaN = false := by obtain ⟨rfl, h2⟩ := canon_eq_some h; exact h2
theorem root_any (a : Nat) (w : World) : Calls Try.prog 53 #[.float .f32 a] w (RetFq w (froot (canon .f32 a))) := by
  go_enter Try.func53, Try.ntmps53
  go_wp2_with fail
  refine (Sqrt_any _ _).mono ?_
  rintro e w1 ⟨r, rfl, hr, n, rfl⟩
  have Hr := Lib.hid hr
  clear hr
  go_wp2
  go_ret
  have hr := Hr.out
  rw [canon_cval (by decide) a _ (fits_wide a)] at hr
  exact ⟨_, rfl, by rw [canon_cval (by decide) r _ (root_fits (canon .f32 a) (fun b hb => canon_isSome hb) hr), hr]; rfl, _, rfl⟩
theorem root_enters : Enters Try.prog 53 := fun _ _ => by kernel_rfl
theorem l01Root_any (a : Nat) (w : World) : Calls Try.prog 56 #[.float .f32 a] w (RetFq w (froot (canon .f32 a))) := by
  go_enter Try.func56, Try.ntmps56
  go_wp2_with fail
  refine (Sqrt_any _ _).mono ?_
  rintro e w1 ⟨r, rfl, hr, n, rfl⟩
  have Hr := Lib.hid hr
  clear hr
  go_wp2
  go_ret
  have hr := Hr.out
  rw [canon_cval (by decide) a _ (fits_wide a)] at hr
  exact ⟨_, rfl, by rw [canon_cval (by decide) r _ (root_fits (canon .f32 a) (fun b hb => canon_isSome hb) hr), hr]; rfl, _, rfl⟩
end Go.Proofs.Ytfpjiclkhjdihaa

namespace Go.Proofs.Ytfpjiclkhjdihaa
open Go.RowKit
set_option maxRecDepth 100000

/-- What a function of one number may give, by its number; of two. -/
def GM (o2 : Option Nat → Option Nat → Option Nat) (o1 : FuncId → Option Nat → Option Nat) (f : FuncId) (args : Array Value) (u : Value) : Prop :=
  (∃ p q r, args = #[.float .f32 p, .float .f32 q] ∧ u = .float .f32 r ∧ canon .f32 r = o2 (canon .f32 p) (canon .f32 q)) ∨ (∃ p r, args = #[.float .f32 p] ∧ u = .float .f32 r ∧ canon .f32 r = o1 f (canon .f32 p))
section
variable {o2 : Option Nat → Option Nat → Option Nat} {o1 : FuncId → Option Nat → Option Nat} {f : FuncId}
theorem GM.mk2 {p q r : Nat} (h : canon .f32 r = o2 (canon .f32 p) (canon .f32 q)) : GM o2 o1 f #[.float .f32 p, .float .f32 q] (.float .f32 r) := .inl ⟨p, q, r, rfl, rfl, h⟩
theorem GM.mk1 {p r : Nat} (h : canon .f32 r = o1 f (canon .f32 p)) : GM o2 o1 f #[.float .f32 p] (.float .f32 r) := .inr ⟨p, r, rfl, rfl, h⟩
theorem GM.inv2 {p q : Nat} {u : Value} (h : GM o2 o1 f #[.float .f32 p, .float .f32 q] u) : ∃ r, u = .float .f32 r ∧ Hid (canon .f32 r = o2 (canon .f32 p) (canon .f32 q)) := by
  rcases h with ⟨p', q', r, ha, hu, hr⟩ | ⟨p', r, ha, _⟩
  · simp only [Array.mk.injEq, List.cons.injEq, Value.float.injEq, true_and, and_true] at ha
    obtain ⟨rfl, rfl⟩ := ha
    exact ⟨r, hu, hr⟩
  · simp at ha
theorem GM.inv1 {p : Nat} {u : Value} (h : GM o2 o1 f #[.float .f32 p] u) : ∃ r, u = .float .f32 r ∧ Hid (canon .f32 r = o1 f (canon .f32 p)) := by
  rcases h with ⟨p', q', r, ha, _⟩ | ⟨p', r, ha, hu, hr⟩
  · simp at ha
  · simp only [Array.mk.injEq, List.cons.injEq, Value.float.injEq, true_and, and_true] at ha
    subst ha
    exact ⟨r, hu, hr⟩
end

def two : Option Nat := canon .f32 1073741824
def reflectAt (q : Option Nat) : Option Nat := fdiv (canon .f32 1065353216) (fadd (fadd (canon .f32 1065353216) q) (froot (fadd (fmul q q) (fmul two q))))
def ofRatioRes (c : Nat → Option Nat) : (Nat → Option Nat) × Int := if (allTo 16 fun i => amount (c i)) then finRes (fun i => reflectAt (c i)) else (fun _ => canon .f32 0, 2)
def unratio (a : Option Nat) : Option Nat := fdiv (fmul (fsub (canon .f32 1065353216) a) (fsub (canon .f32 1065353216) a)) (fmul two a)
def lit (x : Option Nat) : Bool := fgt x (canon .f32 0) && fle x (canon .f32 1065353216)
def ratioOfRes (c : Nat → Option Nat) : (Nat → Option Nat) × Int := if (allTo 16 fun i => lit (c i)) then finRes (fun i => unratio (c i)) else (fun _ => canon .f32 0, 2)

end Go.Proofs.Ytfpjiclkhjdihaa

namespace Go.Proofs.Ytfpjiclkhjdihaa
open Go.RowKit
set_option maxRecDepth 100000

def sqd (x y : Option Nat) : Option Nat := fmul (fsub x y) (fsub x y)
def distOf (u v : Nat → Option Nat) : Option Nat := froot (fadd (fadd (sqd (u 0) (v 0)) (sqd (u 1) (v 1))) (sqd (u 2) (v 2)))
def tint (u : Nat → Option Nat) : Option Nat := fadd (canon .f32 1065353216) (fmul (canon .f32 1008981770) (froot (fadd (fmul (u 1) (u 1)) (fmul (u 2) (u 2)))))
def diffOf (u v : Nat → Option Nat) : Option Nat := froot (fadd (sqd (u 0) (v 0)) (fdiv (fadd (sqd (u 1) (v 1)) (sqd (u 2) (v 2))) (fmul (tint u) (tint u))))

end Go.Proofs.Ytfpjiclkhjdihaa
