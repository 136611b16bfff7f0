/- Powers of two to numbers that are not whole: how near what is found is, and how it grows. No program is named here. -/
import Derived.Test.YtghmonkoleegjaaPB
import Derived.Test.YtghmonkoleegjaaApx
namespace Go.Proofs.Ytghmonkoleegjaa
open Go.RowKit
set_option maxRecDepth 100000

/-- The sum that the steps work out, exactly. -/
def expE (y : Rat) : Nat → Rat
  | 0 => 1
  | j + 1 => 1 + y / ((14 - (j : Int) : Int) : Rat) * expE y j

theorem step_den (j : Nat) (h : j < 14) : ∃ D : Rat, D = ((14 - (j : Int) : Int) : Rat) ∧ 1 ≤ D ∧ D ≤ 14 ∧ (j < 13 → 2 ≤ D) := by
  refine ⟨_, rfl, ?_, ?_, ?_⟩
  · have := Rat.intCast_le_intCast.2 (show (1 : Int) ≤ 14 - (j : Int) by omega); simpa using this
  · have := Rat.intCast_le_intCast.2 (show (14 - (j : Int)) ≤ (14 : Int) by omega); simpa using this
  · intro hj
    have := Rat.intCast_le_intCast.2 (show (2 : Int) ≤ 14 - (j : Int) by omega); simpa using this
theorem expE_range {y : Rat} (h0 : 0 ≤ y) (h1 : y ≤ 7 / 10) : ∀ j, j ≤ 14 → 1 ≤ expE y j ∧ expE y j ≤ (if j = 14 then 21 / 10 else 31 / 20)
  | 0, _ => ⟨Rat.le_refl, by unfold expE; rw [if_neg (by omega)]; grind⟩
  | j + 1, hj => by
    obtain ⟨g1, g2⟩ := expE_range h0 h1 j (by omega)
    rw [if_neg (by omega)] at g2
    obtain ⟨D, hD, d1, d14, d2⟩ := step_den j (by omega)
    unfold expE
    rw [← hD]
    obtain ⟨q, hq⟩ := quot_mk y (show D ≠ 0 by grind)
    have e : y / D = q := by rw [← hq, Rat.mul_div_cancel (by grind)]
    rw [e]
    have q0 : 0 ≤ q := quot_ge hq (by grind) (by grind)
    have m0 := Rat.mul_nonneg q0 (show 0 ≤ expE y j by grind)
    refine ⟨by grind, ?_⟩
    by_cases hl : j + 1 = 14
    · rw [if_pos hl]
      have q1 : q ≤ 7 / 10 := quot_le hq (by grind) (by grind)
      have m1 := Rat.mul_nonneg (show 0 ≤ 7 / 10 - q by grind) (show 0 ≤ expE y j by grind)
      grind
    · rw [if_neg hl]
      have q1 : q ≤ 7 / 20 := quot_le hq (by grind) (by have := d2 (by omega); grind)
      have m1 := Rat.mul_nonneg (show 0 ≤ 7 / 20 - q by grind) (show 0 ≤ expE y j by grind)
      grind
/-- How much it grows. -/
theorem expE_lip {y z : Rat} (h0 : 0 ≤ y) (hyz : y ≤ z) (h1 : z ≤ 7 / 10) : ∀ j, j ≤ 14 → expE y j ≤ expE z j ∧ expE z j ≤ expE y j + (if j = 14 then 12 / 5 else 6 / 5) * (z - y)
  | 0, _ => ⟨Rat.le_refl, by unfold expE; rw [if_neg (by omega)]; grind⟩
  | j + 1, hj => by
    obtain ⟨g1, g2⟩ := expE_lip h0 hyz h1 j (by omega)
    rw [if_neg (by omega)] at g2
    obtain ⟨r1, r2⟩ := expE_range h0 (show y ≤ 7 / 10 by grind) j (by omega)
    obtain ⟨r3, r4⟩ := expE_range (show 0 ≤ z by grind) h1 j (by omega)
    rw [if_neg (by omega)] at r2 r4
    obtain ⟨D, hD, d1, d14, d2⟩ := step_den j (by omega)
    unfold expE
    rw [← hD]
    obtain ⟨q, hq⟩ := quot_mk y (show D ≠ 0 by grind)
    obtain ⟨s, hs⟩ := quot_mk z (show D ≠ 0 by grind)
    have e : y / D = q := by rw [← hq, Rat.mul_div_cancel (by grind)]
    have e' : z / D = s := by rw [← hs, Rat.mul_div_cancel (by grind)]
    rw [e, e']
    generalize expE y j = a at *
    generalize expE z j = b at *
    have q0 : 0 ≤ q := quot_ge hq (by grind) (by grind)
    have hqs : q ≤ s := quot_ge hs (by grind) (by rw [hq]; exact hyz)
    have m0 := Rat.mul_nonneg (show 0 ≤ s - q by grind) (show 0 ≤ b by grind)
    have m1 := Rat.mul_nonneg q0 (show 0 ≤ b - a by grind)
    refine ⟨by grind, ?_⟩
    have hsq : (s - q) * D = z - y := by grind
    have m2 := Rat.mul_nonneg (show 0 ≤ s - q by grind) (show 0 ≤ 31 / 20 - b by grind)
    by_cases hl : j + 1 = 14
    · rw [if_pos hl]
      have q1 : q ≤ 7 / 10 := quot_le hq (by grind) (by grind)
      have q2 : s - q ≤ z - y := quot_le hsq (by grind) (by have := Rat.mul_nonneg (show 0 ≤ z - y by grind) (show 0 ≤ D - 1 by grind); grind)
      have m3 := Rat.mul_nonneg (show 0 ≤ 7 / 10 - q by grind) (show 0 ≤ b - a by grind)
      have m4 := Rat.mul_nonneg q0 (show 0 ≤ 6 / 5 * (z - y) - (b - a) by grind)
      have m5 := Rat.mul_nonneg (show 0 ≤ 7 / 10 - q by grind) (show 0 ≤ z - y by grind)
      grind
    · rw [if_neg hl]
      have dd := d2 (by omega)
      have q1 : q ≤ 7 / 20 := quot_le hq (by grind) (by grind)
      have q2 : s - q ≤ (z - y) / 2 := quot_le hsq (by grind) (by have := Rat.mul_nonneg (show 0 ≤ z - y by grind) (show 0 ≤ D - 2 by grind); grind)
      have m4 := Rat.mul_nonneg q0 (show 0 ≤ 6 / 5 * (z - y) - (b - a) by grind)
      have m5 := Rat.mul_nonneg (show 0 ≤ 7 / 20 - q by grind) (show 0 ≤ z - y by grind)
      grind
/-- And how much at the least. -/
theorem expE_grow {y z : Rat} (h0 : 0 ≤ y) (hyz : y ≤ z) (h1 : z ≤ 7 / 10) : expE y 14 + (z - y) ≤ expE z 14 := by
  obtain ⟨g1, g2⟩ := expE_lip h0 hyz h1 13 (by omega)
  obtain ⟨r1, r2⟩ := expE_range h0 (show y ≤ 7 / 10 by grind) 13 (by omega)
  have e : ∀ y, expE y 14 = 1 + y * expE y 13 := by
    intro y
    show 1 + y / ((14 - ((13 : Nat) : Int) : Int) : Rat) * expE y 13 = _
    have : ((14 - ((13 : Nat) : Int) : Int) : Rat) = 1 := rfl
    rw [this]
    have : y / 1 = y := by grind
    rw [this]
  rw [e, e]
  generalize expE y 13 = a at *
  generalize expE z 13 = b at *
  have m0 := Rat.mul_nonneg (show 0 ≤ z - y by grind) (show 0 ≤ b - 1 by grind)
  have m1 := Rat.mul_nonneg h0 (show 0 ≤ b - a by grind)
  grind
theorem expE_two : expE lnV 14 ≤ 2 + 1 / 100000000000 ∧ 2 ≤ expE lnV 14 + 1 / 100000000000 := by decide +kernel
theorem expE_one : expE 0 14 = 1 := by decide +kernel
theorem lnV_range : 693 / 1000 ≤ lnV ∧ lnV ≤ 694 / 1000 := by decide +kernel

/-- The steps in floats come near the exact ones. -/
theorem powP_near {y : Option Nat} {vy : Rat} (hy : Is .f64 y vy) (h0 : 0 ≤ vy) (h1 : vy ≤ 7 / 10) : ∀ j, j ≤ 14 → ∃ p, Is .f64 (powP y j) p ∧ p ≤ expE vy j + 1 / 1000000000000 ∧ expE vy j ≤ p + 1 / 1000000000000
  | 0, _ => ⟨1, one_is, by unfold expE; grind, by unfold expE; grind⟩
  | j + 1, hj => by
    obtain ⟨p, ip, p1, p2'⟩ := powP_near hy h0 h1 j (by omega)
    obtain ⟨r1, r2⟩ := expE_range h0 h1 j (by omega)
    rw [if_neg (by omega)] at r2
    have id := dint_is (14 - (j : Int)) (by omega) (by omega)
    obtain ⟨D, hD, d1, d14, d2⟩ := step_den j (by omega)
    rw [← hD] at id
    unfold expE
    rw [← hD]
    obtain ⟨q, hq⟩ := quot_mk vy (show D ≠ 0 by grind)
    have e : vy / D = q := by rw [← hq, Rat.mul_div_cancel (by grind)]
    rw [e]
    have q0 : 0 ≤ q := quot_ge hq (by grind) (by grind)
    have q1 : q ≤ 7 / 10 := quot_le hq (by grind) (by grind)
    have e0 : Go.Proofs.Ytghmonkoleegjaa.p2 0 = 1 := p2_zero
    have e2 : Go.Proofs.Ytghmonkoleegjaa.p2 2 = 4 := by decide +kernel
    have t2 : Go.Proofs.Ytghmonkoleegjaa.p2 (2 - 51) ≤ 1 / 100000000000000 := by decide +kernel
    have t0 : Go.Proofs.Ytghmonkoleegjaa.p2 (0 - 51) ≤ 1 / 100000000000000 := by decide +kernel
    obtain ⟨a, ia, ra⟩ := is_div hy id (by grind) (by rw [e]; exact fit64k 0 (by decide) (by rw [e0]; grind) (by rw [e0]; grind))
    rw [e] at ra
    have a1 := near64 ra 0 (by decide) (by decide) (by rw [e0]; grind) (by rw [e0]; grind)
    have m0 := Rat.mul_nonneg (show 0 ≤ a + 1 / 100000000000000 - q by grind) (show 0 ≤ p by grind)
    have m1 := Rat.mul_nonneg (show 0 ≤ q + 1 / 100000000000000 - a by grind) (show 0 ≤ p by grind)
    generalize expE vy j = x at *
    have m2 := Rat.mul_nonneg q0 (show 0 ≤ x + 1 / 1000000000000 - p by grind)
    have m3 := Rat.mul_nonneg q0 (show 0 ≤ p + 1 / 1000000000000 - x by grind)
    have m4 := Rat.mul_nonneg (show 0 ≤ 7 / 10 - q by grind) (show 0 ≤ 8 / 5 - p by grind)
    have m5 := Rat.mul_nonneg q0 (show 0 ≤ 8 / 5 - p by grind)
    have m6 := Rat.mul_nonneg q0 (show 0 ≤ p by grind)
    obtain ⟨b, ib, rb⟩ := is_mul ia ip (fit64k 2 (by decide) (by rw [e2]; grind) (by rw [e2]; grind))
    have b1 := near64 rb 2 (by decide) (by decide) (by rw [e2]; grind) (by rw [e2]; grind)
    obtain ⟨c, ic, rc⟩ := is_add one_is ib (fit64k 2 (by decide) (by rw [e2]; grind) (by rw [e2]; grind))
    have c1 := near64 rc 2 (by decide) (by decide) (by rw [e2]; grind) (by rw [e2]; grind)
    exact ⟨c, ic, by grind, by grind⟩
end Go.Proofs.Ytghmonkoleegjaa
