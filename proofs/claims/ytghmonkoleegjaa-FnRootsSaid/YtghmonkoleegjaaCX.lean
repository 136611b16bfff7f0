/- Contracts: square roots of float32. -/
import Derived.Test.YtghmonkoleegjaaCB
import Derived.Test.YtghmonkoleegjaaCnv
namespace Go.Proofs.Ytghmonkoleegjaa
open Go.RowKit
set_option maxRecDepth 100000

theorem croot_neg {x : Option Nat} {v : Rat} (hx : Is .f64 x v) (hv : v < 0) : croot x = none := by
  obtain ⟨a, s, m, i, rfl, hd, rfl⟩ := hx
  have h1 : croot (some a) = Option.map FloatKind.f64.format.write ((FloatKind.f64.decode a).root (FloatKind.f64.format.fractionBits + 2)) := rfl
  rw [h1, hd]
  have h0 : 0 ≤ (m : Rat) * p2 i := Rat.mul_nonneg Rat.natCast_nonneg (Rat.le_of_lt (p2_pos _))
  have hm : m ≠ 0 := by
    rintro rfl
    unfold sg at hv
    cases s <;> simp at hv <;> exact absurd hv (by grind)
  have hs : s = true := by
    cases s
    · unfold sg at hv
      simp only [Bool.false_eq_true, if_false] at hv
      grind
    · rfl
  subst hs
  simp only [Ieee.Datum.root, hm, if_false, if_true]
  rfl
/-- The root of a widened float32, narrowed. -/
def froot (x : Option Nat) : Option Nat := ccv .f64 .f32 (croot (ccv .f32 .f64 x))
theorem root_fits (a : Option Nat) (ha : ∀ b, a = some b → (FloatKind.f32.decode b).isNaN = false) {b : Nat} (hb : canon .f64 b = croot (ccv .f32 .f64 a)) : Fits .f64 .f32 b := by
  intro hn
  rw [canon_some hn] at hb
  cases a with
  | none => cases hb
  | some x =>
    rcases dec32 x (ha x rfl) with ⟨s, m, e, hd, _⟩ | ⟨s, hd, _⟩
    · have h1 := is_widen (x := some x) ⟨x, s, m, e, rfl, hd, rfl⟩
      by_cases hv : 0 ≤ sg s ((m : Rat) * p2 e)
      · obtain ⟨w, h2, h3⟩ := is_root h1 hv
        rw [← hb] at h2
        have hr := rep32_le (Is.rep (k := .f32) (x := some x) ⟨x, s, m, e, rfl, hd, rfl⟩)
        have h4 : w ≤ p2 64 := h3.up _ (rep64_p2 64 (by omega) (by omega)) (Rat.le_of_lt (p2_pos _)) (by rw [← p2_add]; exact hr.1)
        have h5 := p2_mono (show (64 : Int) ≤ 127 by decide)
        have h6 := h3.pos
        have h7 := p2_pos 127
        exact h2.fits (fit32 (by grind) (by grind)) hn
      · rw [croot_neg h1 (by grind)] at hb
        cases hb
    · have h1 : ccv .f32 .f64 (some x) = some (FloatKind.f64.encode (.infinity s)) := by
        show floatToFloatBits .f32 x .f64 = _
        unfold floatToFloatBits
        rw [if_neg (by decide), hd]
      rw [h1] at hb
      cases s
      · have h2 : croot (some (FloatKind.f64.encode (.infinity false))) = some 9218868437227405312 := by decide
        rw [h2] at hb
        injection hb with hb
        subst hb
        decide
      · have h2 : croot (some (FloatKind.f64.encode (.infinity true))) = none := by decide
        rw [h2] at hb
        cases hb

def sqval (x : Nat) (w : World) : Nat :=
  match FloatKind.f64.format.sqrt x with
  | some r => r
  | none => (Question.nanBits .f64 x x).cut (w.tape w.drawn (.nanBits .f64 x x))
def sqcnt (x : Nat) : Nat :=
  match FloatKind.f64.format.sqrt x with
  | some _ => 0
  | none => 1
theorem sqrt_notNaN {x r : Nat} (h : FloatKind.f64.format.sqrt x = some r) : (FloatKind.f64.decode r).isNaN = false ∧ (FloatKind.f64.decode x).isNaN = false := by
  unfold Ieee.Format.sqrt at h
  obtain ⟨d, hd, rfl⟩ := Option.map_eq_some_iff.1 h
  obtain ⟨h1, h2⟩ := root_notNaN hd
  exact ⟨write_notNaN _ (binade_le .f64) d h1, h2⟩
theorem canon_sqval (x : Nat) (w : World) : canon .f64 (sqval x w) = croot (canon .f64 x) := by
  unfold sqval
  cases hr : FloatKind.f64.format.sqrt x with
  | some r =>
    obtain ⟨h1, h2⟩ := sqrt_notNaN hr
    rw [canon_some h1, canon_some h2]
    exact hr.symm
  | none =>
    rw [canon_none (nanBits_isNaN .f64 x x _)]
    unfold canon
    split
    · rfl
    · exact hr.symm

end Go.Proofs.Ytghmonkoleegjaa
