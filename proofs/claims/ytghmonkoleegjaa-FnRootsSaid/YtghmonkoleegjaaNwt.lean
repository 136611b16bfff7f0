/- Newton's steps for the third root come near it. No program is named here. -/
import Derived.Test.YtghmonkoleegjaaCub
namespace Go.Proofs.Ytghmonkoleegjaa

/-- One step, with its error. -/
theorem newton_near {b r : Option Nat} {vb vr : Rat} (hb : Is .f64 b vb) (hr : Is .f64 r vr) (h1 : 1 ≤ vb) (h2 : vb ≤ 8) (h3 : 9 / 10 ≤ vr) (h4 : vr ≤ 5 / 2) :
    ∃ v, Is .f64 (newton b r) v ∧ 3 * (vr * vr) * v ≤ 2 * (vr * vr * vr) + vb + 1 / 100000000000 ∧ 2 * (vr * vr * vr) + vb ≤ 3 * (vr * vr) * v + 1 / 100000000000 := by
  have e7 : p2 7 = 128 := by decide +kernel
  have e5 : p2 5 = 32 := by decide +kernel
  have e4 : p2 4 = 16 := by decide +kernel
  have e6 : p2 6 = 64 := by decide +kernel
  have t47 : p2 (4 - 51) ≤ 1 / 10000000000000 := by decide +kernel
  have t44 : p2 (7 - 51) ≤ 1 / 10000000000000 := by decide +kernel
  have t46 : p2 (5 - 51) ≤ 1 / 10000000000000 := by decide +kernel
  have t45 : p2 (6 - 51) ≤ 1 / 10000000000000 := by decide +kernel
  have q0 : 0 ≤ vr * vr := Rat.mul_nonneg (by grind) (by grind)
  have q1 : vr * vr ≤ 25 / 4 := by have := Rat.mul_nonneg (show 0 ≤ 5 / 2 - vr by grind) (show 0 ≤ 5 / 2 + vr by grind); grind
  have q2 : 81 / 100 ≤ vr * vr := by have := Rat.mul_nonneg (show 0 ≤ vr - 9 / 10 by grind) (show 0 ≤ vr + 9 / 10 by grind); grind
  obtain ⟨s1, i1, n1⟩ := is_mul hr hr (fit64k 4 (by decide) (by rw [e4]; grind) (by rw [e4]; grind))
  have m1 := near64 n1 4 (by decide) (by decide) (by rw [e4]; grind) (by rw [e4]; grind)
  have q3 : s1 * vr ≤ 20 := by have := Rat.mul_nonneg (show 0 ≤ 7 - s1 by grind) (show 0 ≤ vr by grind); grind
  have q4 : 0 ≤ s1 * vr := Rat.mul_nonneg (by grind) (by grind)
  obtain ⟨s2, i2, n2⟩ := is_mul i1 hr (fit64k 7 (by decide) (by rw [e7]; grind) (by rw [e7]; grind))
  have m2 := near64 n2 7 (by decide) (by decide) (by rw [e7]; grind) (by rw [e7]; grind)
  obtain ⟨s3, i3, n3⟩ := is_sub i2 hb (fit64k 7 (by decide) (by rw [e7]; grind) (by rw [e7]; grind))
  have m3 := near64 n3 7 (by decide) (by decide) (by rw [e7]; grind) (by rw [e7]; grind)
  obtain ⟨s4, i4, n4⟩ := is_mul three64 hr (fit64k 4 (by decide) (by rw [e4]; grind) (by rw [e4]; grind))
  have m4 := near64 n4 4 (by decide) (by decide) (by rw [e4]; grind) (by rw [e4]; grind)
  have q5 : s4 * vr ≤ 20 := by have := Rat.mul_nonneg (show 0 ≤ 8 - s4 by grind) (show 0 ≤ vr by grind); grind
  have q6 : 2 ≤ s4 * vr := by
    have := Rat.mul_nonneg (show 0 ≤ s4 - 26 / 10 by grind) (show 0 ≤ vr - 9 / 10 by grind)
    grind
  obtain ⟨s5, i5, n5⟩ := is_mul i4 hr (fit64k 6 (by decide) (by rw [e6]; grind) (by rw [e6]; grind))
  have m5 := near64 n5 6 (by decide) (by decide) (by rw [e6]; grind) (by rw [e6]; grind)
  have q7 : 1 ≤ s5 := by grind
  have q8' : s5 ≤ 21 := by grind
  have c0 : s2 ≤ vr * vr * vr + 5 / 10000000000000 ∧ vr * vr * vr ≤ s2 + 5 / 10000000000000 := by
    have a1 := Rat.mul_nonneg (show 0 ≤ vr * vr + 1 / 10000000000000 - s1 by grind) (show 0 ≤ vr by grind)
    have a2 := Rat.mul_nonneg (show 0 ≤ s1 + 1 / 10000000000000 - vr * vr by grind) (show 0 ≤ vr by grind)
    grind
  have c1 : s5 ≤ 3 * (vr * vr) + 5 / 10000000000000 ∧ 3 * (vr * vr) ≤ s5 + 5 / 10000000000000 := by
    have a1 := Rat.mul_nonneg (show 0 ≤ 3 * vr + 1 / 10000000000000 - s4 by grind) (show 0 ≤ vr by grind)
    have a2 := Rat.mul_nonneg (show 0 ≤ s4 + 1 / 10000000000000 - 3 * vr by grind) (show 0 ≤ vr by grind)
    grind
  obtain ⟨Q, hQ⟩ : ∃ Q, Q = s3 / s5 := ⟨_, rfl⟩
  have hQs := div_eq (show s5 ≠ 0 by grind) hQ
  have c2 : -9 ≤ s3 ∧ s3 ≤ 21 := by grind
  have q8 : Q ≤ 32 := by
    apply Rat.le_of_mul_le_mul_right (c := s5) _ (by grind)
    rw [hQs]
    grind
  have q9 : -32 ≤ Q := by
    apply Rat.le_of_mul_le_mul_right (c := s5) _ (by grind)
    rw [hQs]
    grind
  obtain ⟨s6, i6, n6⟩ := is_div i3 i5 (by grind) (by rw [← hQ]; exact fit64k 5 (by decide) (by rw [e5]; exact q8) (by rw [e5]; grind))
  rw [← hQ] at n6
  have m6 := near64 n6 5 (by decide) (by decide) (by rw [e5]; exact q8) (by rw [e5]; grind)
  obtain ⟨s7, i7, n7⟩ := is_sub hr i6 (fit64k 6 (by decide) (by rw [e6]; grind) (by rw [e6]; grind))
  have m7 := near64 n7 6 (by decide) (by decide) (by rw [e6]; grind) (by rw [e6]; grind)
  refine ⟨s7, i7, ?_⟩
  -- s7 is near r - Q
  have d1 : s7 ≤ vr - Q + 2 / 10000000000000 ∧ vr - Q ≤ s7 + 2 / 10000000000000 := by grind
  have d2 : -35 ≤ s7 ∧ s7 ≤ 35 := by grind
  -- s5 times it
  have a1 := Rat.mul_nonneg (show 0 ≤ vr - Q + 2 / 10000000000000 - s7 by grind) (show 0 ≤ s5 by grind)
  have a2 := Rat.mul_nonneg (show 0 ≤ s7 + 2 / 10000000000000 - (vr - Q) by grind) (show 0 ≤ s5 by grind)
  have b1 := Rat.mul_nonneg (show 0 ≤ s5 + 5 / 10000000000000 - 3 * (vr * vr) by grind) (show 0 ≤ vr by grind)
  have b2 := Rat.mul_nonneg (show 0 ≤ 3 * (vr * vr) + 5 / 10000000000000 - s5 by grind) (show 0 ≤ vr by grind)
  have e1 : s5 * s7 ≤ 2 * (vr * vr * vr) + vb + 7 / 1000000000000 ∧ 2 * (vr * vr * vr) + vb ≤ s5 * s7 + 7 / 1000000000000 := by grind
  -- rough: s7 is between 0 and 6
  have d3 : 0 ≤ s7 := by
    apply Rat.le_of_mul_le_mul_left (c := s5) _ (by grind)
    have : 0 ≤ vr * vr * vr := Rat.mul_nonneg q0 (by grind)
    grind
  have d4 : s7 ≤ 35 := d2.2
  have d5 : vr * vr * vr ≤ 16 := by have := Rat.mul_nonneg (show 0 ≤ 5 / 2 - vr by grind) q0; grind
  have d6 : s7 ≤ 5 := by
    apply Rat.le_of_mul_le_mul_left (c := s5) _ (by grind)
    have := Rat.mul_nonneg q0 (show 0 ≤ 5 - 2 * vr by grind)
    grind
  have f1 := Rat.mul_nonneg (show 0 ≤ s5 + 5 / 10000000000000 - 3 * (vr * vr) by grind) d3
  have f2 := Rat.mul_nonneg (show 0 ≤ 3 * (vr * vr) + 5 / 10000000000000 - s5 by grind) d3
  grind

/-- What a step makes of the distance. -/
theorem conv_step {vb r u θ k l : Rat} (hr : 9 / 10 ≤ r) (hθ1 : θ ≤ 1 / 100000000000) (hθ2 : -(1 / 100000000000) ≤ θ) (hu : 3 * (r * r) * u = 2 * (r * r * r) + vb + θ) (hk1 : vb - r * r * r ≤ k * (r * r * r)) (hk2 : r * r * r - vb ≤ k * (r * r * r))
    (k0 : 0 ≤ k) (k1 : k ≤ 9 / 25) (l0 : 0 ≤ l) (hl : 3 * (1 / 100000000000) + (k / 3 + 1 / 100000000000) * (k / 3 + 1 / 100000000000) * 4 ≤ l * (1 - (k / 3 + 1 / 100000000000)) * (1 - (k / 3 + 1 / 100000000000)) * (1 - (k / 3 + 1 / 100000000000))) :
    vb - u * u * u ≤ l * (u * u * u) ∧ u * u * u - vb ≤ l * (u * u * u) := by
  have hr0 : 0 < r := by grind
  have q2 : 81 / 100 ≤ r * r := by have := Rat.mul_nonneg (show 0 ≤ r - 9 / 10 by grind) (show 0 ≤ r + 9 / 10 by grind); grind
  have q3 : 729 / 1000 ≤ r * r * r := by have := Rat.mul_nonneg (show 0 ≤ r * r - 81 / 100 by grind) (show 0 ≤ r by grind); grind
  obtain ⟨R, hR⟩ : ∃ R, R = r * r * r := ⟨_, rfl⟩
  have hR0 : 0 < R := by grind
  rw [← hR] at hk1 hk2
  -- u = r (1 + s)
  obtain ⟨s, hs⟩ : ∃ s, s = (u - r) / r := ⟨_, rfl⟩
  have hsr := div_eq (show r ≠ 0 by grind) hs
  have hus : u = r * (1 + s) := by grind
  obtain ⟨φ, hφ⟩ : ∃ φ, φ = θ / (3 * R) := ⟨_, rfl⟩
  have hφR := div_eq (show 3 * R ≠ 0 by grind) hφ
  obtain ⟨ε, hε⟩ : ∃ ε, ε = (vb - R) / R := ⟨_, rfl⟩
  have hεR := div_eq (show R ≠ 0 by grind) hε
  -- s = ε / 3 + φ
  have hsum : s = ε / 3 + φ := by
    have h1 : 3 * R * s = 3 * R * (ε / 3 + φ) := by
      have h2 : 3 * (r * r) * u = 3 * R + 3 * R * s := by rw [hus, hR]; grind
      grind
    have h3 : s * (3 * R) = (ε / 3 + φ) * (3 * R) := by grind
    exact Rat.le_antisymm (Rat.le_of_mul_le_mul_right (by rw [h3]; exact Rat.le_refl) (show 0 < 3 * R by grind)) (Rat.le_of_mul_le_mul_right (by rw [h3]; exact Rat.le_refl) (show 0 < 3 * R by grind))
  have p1 : φ ≤ 1 / 100000000000 := by
    apply Rat.le_of_mul_le_mul_right (c := 3 * R) _ (by grind)
    rw [hφR]; grind
  have p2' : -(1 / 100000000000) ≤ φ := by
    apply Rat.le_of_mul_le_mul_right (c := 3 * R) _ (by grind)
    rw [hφR]; grind
  have g1 : ε ≤ k := by
    apply Rat.le_of_mul_le_mul_right (c := R) _ hR0
    rw [hεR]; grind
  have g2 : -k ≤ ε := by
    apply Rat.le_of_mul_le_mul_right (c := R) _ hR0
    rw [hεR, Rat.neg_mul]; grind
  obtain ⟨σ, hσ⟩ : ∃ σ, σ = k / 3 + 1 / 100000000000 := ⟨_, rfl⟩
  rw [← hσ] at hl
  have s1 : s ≤ σ := by grind
  have s2 : -σ ≤ s := by grind
  have σ0 : 0 ≤ σ := by grind
  have σ1 : σ ≤ 1 / 2 := by grind
  -- s * s ≤ σ * σ
  have w1 : s * s ≤ σ * σ := by have := Rat.mul_nonneg (show 0 ≤ σ - s by grind) (show 0 ≤ σ + s by grind); grind
  have w0 : 0 ≤ s * s := by
    rcases Rat.le_total (a := 0) (b := s) with h | h
    · exact Rat.mul_nonneg h h
    · have := Rat.mul_nonneg (show 0 ≤ -s by grind) (show 0 ≤ -s by grind); grind
  have w2 : s * s * s ≤ σ * σ := by have := Rat.mul_nonneg w0 (show 0 ≤ 1 - s by grind); grind
  have w3 : -(σ * σ) ≤ s * s * s := by have := Rat.mul_nonneg w0 (show 0 ≤ 1 + s by grind); grind
  -- (1 - σ)^3 ≤ (1 + s)^3
  have z1 : (1 - σ) * (1 - σ) ≤ (1 + s) * (1 + s) := by have := Rat.mul_nonneg (show 0 ≤ s + σ by grind) (show 0 ≤ 2 + s - σ by grind); grind
  have z0 : 0 ≤ (1 - σ) * (1 - σ) := Rat.mul_nonneg (by grind) (by grind)
  have z2 : (1 - σ) * (1 - σ) * (1 - σ) ≤ (1 + s) * (1 + s) * (1 + s) := by
    have y1 := Rat.mul_nonneg (show 0 ≤ (1 + s) * (1 + s) - (1 - σ) * (1 - σ) by grind) (show 0 ≤ 1 + s by grind)
    have y2 := Rat.mul_nonneg z0 (show 0 ≤ s + σ by grind)
    grind
  have z3 := Rat.mul_nonneg l0 (show 0 ≤ (1 + s) * (1 + s) * (1 + s) - (1 - σ) * (1 - σ) * (1 - σ) by grind)
  have hC : u * u * u = R * ((1 + s) * (1 + s) * (1 + s)) := by rw [hus, hR]; grind
  have hD : vb - u * u * u = R * (-(3 * φ) - 3 * (s * s) - s * s * s) := by
    have h4 : vb = R + R * ε := by grind
    have h5 : ε = 3 * s - 3 * φ := by grind
    rw [hC, h4, h5]; grind
  rw [hD, hC]
  have f1 : -(3 * φ) - 3 * (s * s) - s * s * s ≤ l * ((1 + s) * (1 + s) * (1 + s)) := by grind
  have f2 : -(l * ((1 + s) * (1 + s) * (1 + s))) ≤ -(3 * φ) - 3 * (s * s) - s * s * s := by grind
  have y1 := Rat.mul_nonneg (Rat.le_of_lt hR0) (show 0 ≤ l * ((1 + s) * (1 + s) * (1 + s)) - (-(3 * φ) - 3 * (s * s) - s * s * s) by grind)
  have y2 := Rat.mul_nonneg (Rat.le_of_lt hR0) (show 0 ≤ -(3 * φ) - 3 * (s * s) - s * s * s + l * ((1 + s) * (1 + s) * (1 + s)) by grind)
  constructor <;> grind
end Go.Proofs.Ytghmonkoleegjaa
