/- What the law of roots asks of powers, all of it. No program is named here. -/
import Derived.Test.YtghmonkoleegjaaPlu
namespace Go.Proofs.Ytghmonkoleegjaa
open Go.RowKit
set_option maxRecDepth 100000

/-- Powers to 0 are 1. -/
theorem zero_words {t : Option Nat} (h : Is .f64 t 0) (hlt : ∀ b, t = some b → b < 2 * Ieee.double.signWeight) : t = some 0 ∨ t = some 9223372036854775808 := by
  obtain ⟨b, s, m, e, rfl, hd, hv⟩ := h
  obtain ⟨h1, h2⟩ := fin_read Ieee.double (by decide) hd
  obtain ⟨c1, c2, c3, c4, c5⟩ := e64
  have h3 : rungV Ieee.double (b % 9223372036854775808) = 0 := by
    rw [← c3, ← h2]
    cases s
    · exact hv
    · have : -((m : Rat) * p2 e) = 0 := hv
      grind
  have h4 := rungV_eq_zero (f := Ieee.double) (by rw [h3]; exact Rat.le_refl)
  have h5 := hlt b rfl
  rw [c3] at h5
  have : b = 0 ∨ b = 9223372036854775808 := by omega
  rcases this with h | h
  · left; rw [h]
  · right; rw [h]
theorem pow_zero {x : Option Nat} {v : Rat} (hx : Is .f32 x v) (h1 : 1 / 1048576 ≤ v) (h2 : v ≤ 524288) {X : Option Nat} (hX : Is .f32 X 0) : powRes x X = (canon .f32 1065353216, 0) := by
  obtain ⟨e, z, g, hl⟩ := lg_of hx (by grind) h2
  rw [ok_pos hx (by grind) hX (by grind) (by grind)]
  obtain ⟨l, il, _⟩ := powL_near hl.man hl.z1 hl.z2 (e := e) hl.e1 hl.e2 hl.log
  have iX := is_widen hX
  have e0 : l * 0 = 0 := by grind
  obtain ⟨t, it, rt⟩ := is_mul il iX (by rw [e0]; exact zero_is64.rep.fit)
  rw [e0] at rt
  rw [rt.of_rep zero_is64.rep] at it
  have ht : powAt x X = cop .mul .f64 (powL (some (powMan (wordOf (ccv .f32 .f64 x)))) e) (ccv .f32 .f64 X) := by unfold powAt powT; rw [hl.exp]; rfl
  rw [← ht] at it
  have hd0 : powOf (some 0) = (canon .f32 1065353216, 0) := by decide +kernel
  have hd1 : powOf (some 9223372036854775808) = (canon .f32 1065353216, 0) := by decide +kernel
  rcases zero_words it (fun b h => by rw [ht] at h; exact cop_lt h) with h | h
  · rw [h]; exact hd0
  · rw [h]; exact hd1
/-- A power with its logarithm, as the law draws it. -/
theorem pow_nears {x y X Y : Option Nat} {u v vX vY z w g h d : Rat} {e j : Int} (a : Lg x u e z g) (b : Lg y v j w h) (hx : Is .f32 x u) (hy : Is .f32 y v) (hX : Is .f32 X vX) (hY : Is .f32 Y vY) (x0 : 0 ≤ vX) (x4 : vX ≤ 4) (y0 : 0 ≤ vY) (y4 : vY ≤ 4)
    (b1 : -20 ≤ ((e : Rat) + g) * vX) (b2 : ((e : Rat) + g) * vX ≤ 18) (b3 : -20 ≤ ((j : Rat) + h) * vY) (b4 : ((j : Rat) + h) * vY ≤ 18) (d0 : 0 ≤ d) (d1 : d ≤ 1 / 10000) (n1 : ((e : Rat) + g) * vX ≤ ((j : Rat) + h) * vY + d) (n2 : ((j : Rat) + h) * vY ≤ ((e : Rat) + g) * vX + d) :
    ∃ p q R S, powRes x X = (p, 0) ∧ powRes y Y = (q, 0) ∧ Is .f32 p R ∧ Is .f32 q S ∧ 0 < S ∧ 1 / 4194304 ≤ S ∧ S ≤ 524288 ∧ R ≤ S * (1 + 5 * d + 2 / 1000000) ∧ S * (1 - 5 * d - 2 / 1000000) ≤ R := by
  obtain ⟨p, R, t, K, f, hp, iR, hK, f0, f1, t1, t2, R1, R2, P0, P1, P2⟩ := pow_all a hx hX x0 x4 b1 b2
  obtain ⟨q, S, s, L, k, hq, iS, hL, k0, k1, s1, s2, S1, S2, Q0, Q1, Q2⟩ := pow_all b hy hY y0 y4 b3 b4
  refine ⟨p, q, R, S, hp, hq, iR, iS, by grind, by grind, by grind, ?_⟩
  have hnear : twoTo K f ≤ twoTo L k * (1 + 4 * d + 1 / 10000000) ∧ twoTo L k * (1 - 4 * d - 1 / 10000000) ≤ twoTo K f := by
    rcases Rat.le_total (a := t) (b := s) with hl | hl
    · obtain ⟨l1, l2⟩ := twoTo_lip f0 f1 k0 k1 (show (K : Rat) + f + (s - t) = (L : Rat) + k by grind) (by grind) (by grind)
      have m1 := Rat.mul_nonneg (Rat.le_of_lt P0) (show 0 ≤ d + 2 / 1000000000 - (s - t) by grind)
      have m2 := Rat.mul_nonneg (Rat.le_of_lt P0) d0
      have m3 := Rat.mul_nonneg (Rat.le_of_lt Q0) d0
      generalize twoTo K f = A at *
      generalize twoTo L k = B at *
      have a1 : B ≤ A * (1 + 4 * d + 1 / 20000000) := by grind
      have a2 : A ≤ B * (1 + 1 / 20000000) := by grind
      have a3 := Rat.mul_nonneg d0 (show 0 ≤ B * (1 + 1 / 20000000) - A by grind)
      have a4 := Rat.mul_nonneg m3 d0
      have a5 := Rat.mul_nonneg m3 (show 0 ≤ 1 / 10000 - d by grind)
      constructor
      · grind
      · -- B (1 - 4 d - ..) ≤ A
        have a6 := Rat.mul_nonneg (show 0 ≤ A * (1 + 4 * d + 1 / 20000000) - B by grind) (show 0 ≤ 1 - 4 * d - 1 / 10000000 by grind)
        have a7 := Rat.mul_nonneg m2 d0
        grind
    · obtain ⟨l1, l2⟩ := twoTo_lip k0 k1 f0 f1 (show (L : Rat) + k + (t - s) = (K : Rat) + f by grind) (by grind) (by grind)
      have m1 := Rat.mul_nonneg (Rat.le_of_lt Q0) (show 0 ≤ d + 2 / 1000000000 - (t - s) by grind)
      have m2 := Rat.mul_nonneg (Rat.le_of_lt Q0) d0
      generalize twoTo K f = A at *
      generalize twoTo L k = B at *
      constructor <;> grind
  obtain ⟨h1, h2⟩ := hnear
  generalize twoTo K f = A at *
  generalize twoTo L k = B at *
  have m2 := Rat.mul_nonneg (Rat.le_of_lt Q0) d0
  have m3 := Rat.mul_nonneg (show 0 ≤ S - B * (1 - 1 / 5000000) by grind) d0
  have m4 := Rat.mul_nonneg (show 0 ≤ B * (1 + 1 / 5000000) - S by grind) d0
  have m5 := Rat.mul_nonneg m2 (show 0 ≤ 1 / 10000 - d by grind)
  constructor <;> grind
theorem two_pow {x y X : Option Nat} {u v vX z w g h : Rat} {e j : Int} (a : Lg x u e z g) (b : Lg y v j w h) (hx : Is .f32 x u) (hy : Is .f32 y v) (hX : Is .f32 X vX) (x0 : 1 / 8 ≤ vX) (x4 : vX ≤ 4)
    (b1 : -20 ≤ ((e : Rat) + g) * vX) (b2 : ((j : Rat) + h) * vX ≤ 18) (hm : (e : Rat) + g + 1 / 10 ≤ (j : Rat) + h) :
    ∃ p q R S, powRes x X = (p, 0) ∧ powRes y X = (q, 0) ∧ Is .f32 p R ∧ Is .f32 q S ∧ R ≤ S := by
  have m0 := Rat.mul_nonneg (show 0 ≤ (j : Rat) + h - ((e : Rat) + g) - 1 / 10 by grind) (show 0 ≤ vX by grind)
  obtain ⟨p, R, t, K, f, hp, iR, hK, f0, f1, t1, t2, R1, R2, P0, P1, P2⟩ := pow_all a hx hX (by grind) x4 b1 (by grind)
  obtain ⟨q, S, s, L, k, hq, iS, hL, k0, k1, s1, s2, S1, S2, Q0, Q1, Q2⟩ := pow_all b hy hX (by grind) x4 (by grind) b2
  have l := twoTo_grow f0 f1 k0 k1 (show (K : Rat) + f + (s - t) = (L : Rat) + k by grind) (by grind)
  exact ⟨p, q, R, S, hp, hq, iR, iS, by grind⟩
end Go.Proofs.Ytghmonkoleegjaa
