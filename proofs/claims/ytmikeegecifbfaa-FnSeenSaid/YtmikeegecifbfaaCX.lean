/- Contracts: square roots of float32. -/
import Derived.Test.YtmikeegecifbfaaCB
import Derived.Test.YtmikeegecifbfaaCnv
namespace Go.Proofs.Ytmikeegecifbfaa
open Go.RowKit
set_option maxRecDepth 100000

theorem croot_neg {x : Option Nat} {v : Rat} (hx : Is .f64 x v) (hv : v < 0) : croot x = none := by
  obtain ⟨a, s, m, i, rfl, hd, rfl⟩ := hx
  have h1 : croot (some a) = Option.map FloatKind.f64.format.write ((FloatKind.f64.decode a).root (FloatKind.f64.format.fractionBits + 2)) := rfl
  rw [h1, hd]
  have h0 : 0 ≤ (m : Rat) * p2 i := Rat.mul_nonneg Rat.natCast_nonneg (Rat.le_of_lt (p2_pos _))
  have hm : m ≠ 0 := by
    rintro rfl
    unfold sg at hv
    cases s <;> simp at hv <;> exact absurd hv (by grind)
  have hs : s = true := by
    cases s
    · unfold sg at hv
      simp only [Bool.false_eq_true, if_false] at hv
      grind
    · rfl
  subst hs
  simp only [Ieee.Datum.root, hm, if_false, if_true]
  rfl
/-- The root of a widened float32, narrowed. -/
def froot (x : Option Nat) : Option Nat := ccv .f64 .f32 (croot (ccv .f32 .f64 x))
theorem root_fits (a : Option Nat) (ha : ∀ b, a = some b → (FloatKind.f32.decode b).isNaN = false) {b : Nat} (hb : canon .f64 b = croot (ccv .f32 .f64 a)) : Fits .f64 .f32 b := by
  intro hn
  rw [canon_some hn] at hb
  cases a with
  | none => cases hb
  | some x =>
    rcases dec32 x (ha x rfl) with ⟨s, m, e, hd, _⟩ | ⟨s, hd, _⟩
    · have h1 := is_widen (x := some x) ⟨x, s, m, e, rfl, hd, rfl⟩
      by_cases hv : 0 ≤ sg s ((m : Rat) * p2 e)
      · obtain ⟨w, h2, h3⟩ := is_root h1 hv
        rw [← hb] at h2
        have hr := rep32_le (Is.rep (k := .f32) (x := some x) ⟨x, s, m, e, rfl, hd, rfl⟩)
        have h4 : w ≤ p2 64 := h3.up _ (rep64_p2 64 (by omega) (by omega)) (Rat.le_of_lt (p2_pos _)) (by rw [← p2_add]; exact hr.1)
        have h5 := p2_mono (show (64 : Int) ≤ 127 by decide)
        have h6 := h3.pos
        have h7 := p2_pos 127
        exact h2.fits (fit32 (by grind) (by grind)) hn
      · rw [croot_neg h1 (by grind)] at hb
        cases hb
    · have h1 : ccv .f32 .f64 (some x) = some (FloatKind.f64.encode (.infinity s)) := by
        show floatToFloatBits .f32 x .f64 = _
        unfold floatToFloatBits
        rw [if_neg (by decide), hd]
      rw [h1] at hb
      cases s
      · have h2 : croot (some (FloatKind.f64.encode (.infinity false))) = some 9218868437227405312 := by decide
        rw [h2] at hb
        injection hb with hb
        subst hb
        decide
      · have h2 : croot (some (FloatKind.f64.encode (.infinity true))) = none := by decide
        rw [h2] at hb
        cases hb

def sqval (x : Nat) (w : World) : Nat :=
  match FloatKind.f64.format.sqrt x with
  | some r => r
  | none => (Question.nanBits .f64 x x).cut (w.tape w.drawn (.nanBits .f64 x x))
def sqcnt (x : Nat) : Nat :=
  match FloatKind.f64.format.sqrt x with
  | some _ => 0
  | none => 1
theorem sqrt_notNaN {x r : Nat} (h : FloatKind.f64.format.sqrt x = some r) : (FloatKind.f64.decode r).isNaN = false ∧ (FloatKind.f64.decode x).isNaN = false := by
  unfold Ieee.Format.sqrt at h
  obtain ⟨d, hd, rfl⟩ := Option.map_eq_some_iff.1 h
  obtain ⟨h1, h2⟩ := root_notNaN hd
  exact ⟨write_notNaN _ (binade_le .f64) d h1, h2⟩
theorem canon_sqval (x : Nat) (w : World) : canon .f64 (sqval x w) = croot (canon .f64 x) := by
  unfold sqval
  cases hr : FloatKind.f64.format.sqrt x with
  | some r =>
    obtain ⟨h1, h2⟩ := sqrt_notNaN hr
    rw [canon_some h1, canon_some h2]
    exact hr.symm
  | none =>
    rw [canon_none (nanBits_isNaN .f64 x x _)]
    unfold canon
    split
    · rfl
    · exact hr.symm

theorem msqrt_run (x : Nat) (w : World) : (callFunc 90 #[.float .f64 x]).run Try.prog w = .ok (.value (.float .f64 (sqval x w))) (w.drewN (sqcnt x)) := by
  have h : (callFunc 90 #[.float .f64 x]).run Try.prog w = ((match FloatKind.f64.format.sqrt x with
      | some r => pure (Value.float .f64 r)
      | none => do pure (Value.float .f64 (← choose (.nanBits .f64 x x)))) >>= fun v => pure (Next.value v)).run Try.prog w := by kernel_rfl
  rw [h]
  cases hr : FloatKind.f64.format.sqrt x with
  | some r => simp [sqval, sqcnt, hr, World.drewN_zero]
  | none => simp [sqval, sqcnt, hr, choose, Sem.run, Question.forced, World.drewN]
theorem Sqrt_any (x : Nat) (w : World) : Calls Try.prog 77 #[.float .f64 x] w fun e w' => ∃ r, e = .returned (.float .f64 r) ∧ canon .f64 r = croot (canon .f64 x) ∧ Drawn w w' := by
  have h1 := msqrt_run
  go_enter Try.func77, Try.ntmps77
  go_wp2
  go_ret
  exact ⟨_, rfl, canon_sqval .., _, rfl⟩
theorem canon_isSome {k : FloatKind} {a b : Nat} (h : canon k a = some b) : (k.decode b).isNaN = false := by obtain ⟨rfl, h2⟩ := canon_eq_some h; exact h2
theorem root_any (a : Nat) (w : World) : Calls Try.prog 53 #[.float .f32 a] w (RetFq w (froot (canon .f32 a))) := by
  go_enter Try.func53, Try.ntmps53
  go_wp2_with fail
  refine (Sqrt_any _ _).mono ?_
  rintro e w1 ⟨r, rfl, hr, n, rfl⟩
  have Hr := Lib.hid hr
  clear hr
  go_wp2
  go_ret
  have hr := Hr.out
  rw [canon_cval (by decide) a _ (fits_wide a)] at hr
  exact ⟨_, rfl, by rw [canon_cval (by decide) r _ (root_fits (canon .f32 a) (fun b hb => canon_isSome hb) hr), hr]; rfl, _, rfl⟩
theorem root_enters : Enters Try.prog 53 := fun _ _ => by kernel_rfl
theorem l01Root_any (a : Nat) (w : World) : Calls Try.prog 78 #[.float .f32 a] w (RetFq w (froot (canon .f32 a))) := by
  go_enter Try.func78, Try.ntmps78
  go_wp2_with fail
  refine (Sqrt_any _ _).mono ?_
  rintro e w1 ⟨r, rfl, hr, n, rfl⟩
  have Hr := Lib.hid hr
  clear hr
  go_wp2
  go_ret
  have hr := Hr.out
  rw [canon_cval (by decide) a _ (fits_wide a)] at hr
  exact ⟨_, rfl, by rw [canon_cval (by decide) r _ (root_fits (canon .f32 a) (fun b hb => canon_isSome hb) hr), hr]; rfl, _, rfl⟩
end Go.Proofs.Ytmikeegecifbfaa
