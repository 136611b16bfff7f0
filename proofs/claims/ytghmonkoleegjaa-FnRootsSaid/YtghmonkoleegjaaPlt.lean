/- What the law of roots asks of powers. No program is named here. -/
import Derived.Test.YtghmonkoleegjaaPls
import Derived.Test.YtghmonkoleegjaaLA
namespace Go.Proofs.Ytghmonkoleegjaa
open Go.RowKit
set_option maxRecDepth 100000

/-- The logarithm of what is raised is the exponent, nearly. -/
theorem log_back {K e : Int} {f R z g : Rat} (f0 : 0 ≤ f) (f1 : f < 1) (hR : R = z * p2 e) (z1 : 1 ≤ z) (z2 : z ≤ 2) (hg : g * lnV = logA z) (h1 : R ≤ twoTo K f * (1 + 1 / 5000000)) (h2 : twoTo K f * (1 - 1 / 5000000) ≤ R) :
    (e : Rat) + g ≤ (K : Rat) + f + 5 / 1000000 ∧ (K : Rat) + f ≤ (e : Rat) + g + 5 / 1000000 := by
  obtain ⟨r1, r2, r3, r4, r5⟩ := twoTo_range f0 (show f ≤ 1 by grind)
  obtain ⟨f2, f3, f4⟩ := frac_range f0 (show f ≤ 1 by grind)
  obtain ⟨q1, q2⟩ := lnV_range
  obtain ⟨x1, x2⟩ := log_exp f2 (by grind)
  have hp := p2_pos K
  have m4 := Rat.mul_nonneg (show 0 ≤ 1 - f by grind) (show 0 ≤ lnV by grind)
  unfold twoTo at h1 h2
  rw [hR] at h1 h2
  have key : ∀ n : Rat, p2 e = n * p2 K → n * z ≤ expE (f * lnV) 14 * (1 + 1 / 5000000) ∧ expE (f * lnV) 14 * (1 - 1 / 5000000) ≤ n * z := by
    intro n hn
    rw [hn] at h1 h2
    constructor
    · apply Rat.le_of_mul_le_mul_right (c := p2 K) _ hp; grind
    · apply Rat.le_of_mul_le_mul_right (c := p2 K) _ hp; grind
  have clip : ∀ d : Rat, d * lnV ≤ 1 / 1000000 → d ≤ 2 / 1000000 := by
    intro d hd
    apply Rat.le_of_mul_le_mul_right (c := lnV) _ (by grind)
    grind
  by_cases c1 : e = K
  · subst c1
    obtain ⟨y1, y2⟩ := key 1 (by grind)
    have hz : logA z ≤ logA (expE (f * lnV) 14) + 5 / 10000000 ∧ logA (expE (f * lnV) 14) ≤ logA z + 5 / 10000000 := by
      rcases Rat.le_total (a := z) (b := expE (f * lnV) 14) with hl | hl
      · have := logA_lip z1 hl (by grind); grind
      · have := logA_lip r1 hl (by grind); grind
    have := clip (g - f) (by grind)
    have := clip (f - g) (by grind)
    constructor <;> grind
  · by_cases c2 : e = K + 1
    · subst c2
      have e1 : ((K + 1 : Int) : Rat) = (K : Rat) + 1 := by rw [Rat.intCast_add]; rfl
      rw [e1]
      obtain ⟨y1, y2⟩ := key 2 (p2_succ K)
      have hz := logA_lip (show (1 : Rat) ≤ 1 by grind) z1 (by grind)
      rw [logA_one] at hz
      have := clip g (by grind)
      have := clip (-g) (by grind)
      have := clip (1 - f) (by grind)
      constructor <;> grind
    · by_cases c3 : e = K - 1
      · subst c3
        have e1 : ((K - 1 : Int) : Rat) = (K : Rat) - 1 := by rw [Rat.intCast_sub]; rfl
        rw [e1]
        obtain ⟨y1, y2⟩ := key (1 / 2) (by have := p2_succ (K - 1); rw [show K - 1 + 1 = K by omega] at this; rw [this]; grind)
        -- z is near 2, and the other one near 1
        obtain ⟨x3, x4⟩ := log_exp (show 0 ≤ lnV by grind) f4
        obtain ⟨t1, t2⟩ := expE_two
        have hz : logA z ≤ logA (expE lnV 14) + 5 / 10000000 ∧ logA (expE lnV 14) ≤ logA z + 5 / 10000000 := by
          rcases Rat.le_total (a := z) (b := expE lnV 14) with hl | hl
          · have := logA_lip z1 hl (by grind); grind
          · have := logA_lip (show 1 ≤ expE lnV 14 by grind) hl (by grind); grind
        have := clip (g - 1) (by grind)
        have := clip (1 - g) (by grind)
        have := clip f (by grind)
        constructor <;> grind
      · exfalso
        rcases Int.lt_or_gt_of_ne c1 with hlt | hgt
        · have h4 := p2_mono (show e + 1 + 1 ≤ K by omega)
          rw [p2_succ, p2_succ] at h4
          have n1 := Rat.mul_nonneg (Rat.le_of_lt hp) (show 0 ≤ expE (f * lnV) 14 - 1 by grind)
          have n2 := Rat.mul_nonneg (show 0 ≤ p2 K - 4 * p2 e by grind) (show 0 ≤ z by grind)
          have n3 := Rat.mul_nonneg (Rat.le_of_lt (p2_pos e)) (show 0 ≤ 2 - z by grind)
          grind
        · have h4 := p2_mono (show K + 1 + 1 ≤ e by omega)
          rw [p2_succ, p2_succ] at h4
          have n1 := Rat.mul_nonneg (Rat.le_of_lt hp) (show 0 ≤ 21 / 10 - expE (f * lnV) 14 by grind)
          have n2 := Rat.mul_nonneg (show 0 ≤ p2 e - 4 * p2 K by grind) (show 0 ≤ z by grind)
          have n3 := Rat.mul_nonneg (Rat.le_of_lt hp) (show 0 ≤ z - 1 by grind)
          grind
theorem logA_two : logA 2 ≤ lnV + 2 / 10000000 ∧ lnV ≤ logA 2 + 2 / 10000000 := by
  obtain ⟨q1, q2⟩ := lnV_range
  obtain ⟨x3, x4⟩ := log_exp (show 0 ≤ lnV by grind) (show lnV ≤ 7 / 10 by grind)
  obtain ⟨t1, t2⟩ := expE_two
  rcases Rat.le_total (a := 2) (b := expE lnV 14) with hl | hl
  · have := logA_lip (show (1 : Rat) ≤ 2 by grind) hl (by grind); constructor <;> grind
  · have := logA_lip (show 1 ≤ expE lnV 14 by grind) hl (by grind); constructor <;> grind
/-- A number greater by a quarter has a greater logarithm. -/
theorem log_more {x y : Option Nat} {u v z w g h : Rat} {e j : Int} (a : Lg x u e z g) (b : Lg y v j w h) (hv : u * (6 / 5) ≤ v) : (e : Rat) + g + 1 / 10 ≤ (j : Rat) + h := by
  obtain ⟨q1, q2⟩ := lnV_range
  have ha := a.val
  have hb := b.val
  have z1 := a.z1
  have z2 := a.z2
  have w1 := b.z1
  have w2 := b.z2
  have hg := a.log
  have hh := b.log
  obtain ⟨t1, t2⟩ := logA_two
  have lz := logA_lip z1 z2 (by grind)
  have lw := logA_lip (show (1 : Rat) ≤ 1 by grind) w1 (by grind)
  rw [logA_one] at lw
  have hp := p2_pos e
  rw [ha, hb] at hv
  have clip : ∀ d : Rat, 7 / 100 ≤ d * lnV → 1 / 10 ≤ d := by
    intro d hd
    apply Rat.le_of_mul_le_mul_right (c := lnV) _ (by grind)
    grind
  by_cases c1 : j = e
  · subst c1
    have hzw : z * (6 / 5) ≤ w := by
      apply Rat.le_of_mul_le_mul_right (c := p2 j) _ hp; grind
    have l := logA_lip z1 (show z ≤ w by grind) (by grind)
    have := clip (h - g) (by grind)
    grind
  · have hej : e + 1 ≤ j := by
      apply Int.not_lt.1
      intro hlt
      have h4 := p2_mono (show j + 1 ≤ e by omega)
      rw [p2_succ] at h4
      have n1 := Rat.mul_nonneg (show 0 ≤ p2 e - 2 * p2 j by grind) (show 0 ≤ z by grind)
      have n2 := Rat.mul_nonneg (Rat.le_of_lt (p2_pos j)) (show 0 ≤ 2 - w by grind)
      have n3 := Rat.mul_nonneg (Rat.le_of_lt (p2_pos j)) (show 0 ≤ z - 1 by grind)
      have n4 := p2_pos j
      grind
    by_cases c2 : j = e + 1
    · subst c2
      have e1 : ((e + 1 : Int) : Rat) = (e : Rat) + 1 := by rw [Rat.intCast_add]; rfl
      rw [e1]
      rw [p2_succ] at hv
      have hzw : z * (6 / 5) ≤ 2 * w := by
        apply Rat.le_of_mul_le_mul_right (c := p2 e) _ hp; grind
      have := clip (1 + h - g) (by grind)
      grind
    · have e1 := Rat.intCast_le_intCast.2 (show e + 2 ≤ j by omega)
      rw [Rat.intCast_add] at e1
      have e2 : ((2 : Int) : Rat) = 2 := rfl
      have h0 := b.g0
      have := clip (12 / 10 - g) (by grind)
      grind

theorem six32 : Is .f32 (canon .f32 1098907648) 16 := ⟨1098907648, false, 8388608, -19, by decide, by decide, by decide +kernel⟩
theorem ok_pos {x X : Option Nat} {v vX : Rat} (hx : Is .f32 x v) (v0 : 0 < v) (hX : Is .f32 X vX) (x0 : 0 ≤ vX) (x4 : vX ≤ 16) : powRes x X = powOf (powAt x X) := by
  have hz32 : Is .f32 (canon .f32 0) 0 := ⟨0, false, 0, -149, by decide, by decide, by decide +kernel⟩
  refine ok_main ?_ ?_
  · unfold powOk
    rw [fin_is.2 ⟨v, hx⟩, fge_is hx hz32, fge_is hX hz32, fle_is hX six32]
    simp
    grind
  · rw [feq_is hx hz32]; simp; grind
/-- A power, with its logarithm. -/
theorem pow_all {x X : Option Nat} {v z g vX : Rat} {e : Int} (h : Lg x v e z g) (hx : Is .f32 x v) (hX : Is .f32 X vX) (x0 : 0 ≤ vX) (x4 : vX ≤ 4) (b1 : -20 ≤ ((e : Rat) + g) * vX) (b2 : ((e : Rat) + g) * vX ≤ 18) :
    ∃ (y : Option Nat) (R t : Rat) (K : Int) (f : Rat), powRes x X = (y, 0) ∧ Is .f32 y R ∧ t = (K : Rat) + f ∧ 0 ≤ f ∧ f < 1 ∧ t ≤ ((e : Rat) + g) * vX + 1 / 1000000000 ∧ ((e : Rat) + g) * vX ≤ t + 1 / 1000000000 ∧ R ≤ twoTo K f * (1 + 1 / 5000000) ∧ twoTo K f * (1 - 1 / 5000000) ≤ R ∧ 0 < twoTo K f ∧ twoTo K f ≤ 524280 ∧ 1 / 2097153 ≤ twoTo K f := by
  have hv := h.val
  have z1 := h.z1
  have hp := p2_pos e
  have v0 : 0 < v := by rw [hv]; exact Rat.mul_pos (by grind) hp
  obtain ⟨t, it, t1, t2⟩ := h.at hX x0 x4
  obtain ⟨K, f, R, y, hK, f0, f1, ho, iR, R1, R2⟩ := pow_exp it (by grind) (by grind)
  obtain ⟨r1, r2, r3, r4, r5⟩ := twoTo_range f0 (show f ≤ 1 by grind)
  have pK := p2_pos K
  have l0 := (lnV_range).1
  have m0 := Rat.mul_nonneg (show 0 ≤ 1 - f by grind) (show 0 ≤ lnV by grind)
  refine ⟨y, R, t, K, f, by rw [ok_pos hx v0 hX x0 (by grind)]; exact ho, iR, hK, f0, f1, t1, t2, R1, R2, ?_, ?_, ?_⟩
  · exact Rat.mul_pos pK (by grind)
  · have a : (K : Rat) < ((19 : Int) : Rat) := by have e : ((19 : Int) : Rat) = 19 := rfl; grind
    have := Rat.intCast_lt_intCast.1 a
    have h18 := p2_mono (show K ≤ 18 by omega)
    have e18 : p2 18 = 262144 := by decide +kernel
    unfold twoTo
    by_cases hK18 : K = 18
    · subst hK18
      have : ((18 : Int) : Rat) = 18 := rfl
      have : expE (f * lnV) 14 ≤ 1 + 1 / 10000000 := by grind
      rw [e18]
      grind
    · have h17 := p2_mono (show K ≤ 17 by omega)
      have e17 : p2 17 = 131072 := by decide +kernel
      have := Rat.mul_nonneg (Rat.le_of_lt pK) (show 0 ≤ 21 / 10 - expE (f * lnV) 14 by grind)
      grind
  · have a : ((-22 : Int) : Rat) < (K : Rat) := by have e : ((-22 : Int) : Rat) = -22 := rfl; grind
    have := Rat.intCast_lt_intCast.1 a
    have h18 := p2_mono (show -21 ≤ K by omega)
    have e18 : p2 (-21) = 1 / 2097152 := by decide +kernel
    unfold twoTo
    have m := Rat.mul_nonneg (Rat.le_of_lt pK) (show 0 ≤ expE (f * lnV) 14 - 1 by grind)
    rw [e18] at h18
    generalize p2 K = P at *
    generalize expE (f * lnV) 14 = E at *
    clear a this e18
    grind
end Go.Proofs.Ytghmonkoleegjaa
