/- Newton's steps for the third root come near it. No program is named here. Third roots: the third power of what is found is near the number. No program is named here. What is seen: sums of products, with their errors. No program is named here. What is seen of curves of sixty-fourths under a light: near the exact ratio. No program is named here. Looks: how great they are; how far from each other; third roots of greys. No program is named here. Distances and differences of looks. No program is named here. Distances and differences of looks of moderate size. No program is named here. What the law of what is seen asks, for the rows that it draws. No program is named here. -/
import Derived.Test.YtmikeegecifbfaaCub
import Derived.Test.YtmikeegecifbfaaDC
import Derived.Test.YtmikeegecifbfaaApx
import Derived.Test.YtmikeegecifbfaaFnt
import Derived.Test.YtmikeegecifbfaaBmp
import Derived.Test.YtmikeegecifbfaaDJ
import Derived.Test.YtmikeegecifbfaaDra
import Derived.Test.YtmikeegecifbfaaDR
import Derived.Test.YtmikeegecifbfaaCZ
import Derived.Test.YtmikeegecifbfaaCJ
namespace Go.Proofs.Ytmikeegecifbfaa

/-- One step, with its error. -/
theorem newton_near {b r : Option Nat} {vb vr : Rat} (hb : Is .f64 b vb) (hr : Is .f64 r vr) (h1 : 1 ≤ vb) (h2 : vb ≤ 8) (h3 : 9 / 10 ≤ vr) (h4 : vr ≤ 5 / 2) :
    ∃ v, Is .f64 (newton b r) v ∧ 3 * (vr * vr) * v ≤ 2 * (vr * vr * vr) + vb + 1 / 100000000000 ∧ 2 * (vr * vr * vr) + vb ≤ 3 * (vr * vr) * v + 1 / 100000000000 := by
  have e7 : p2 7 = 128 := by decide +kernel
  have e5 : p2 5 = 32 := by decide +kernel
  have e4 : p2 4 = 16 := by decide +kernel
  have e6 : p2 6 = 64 := by decide +kernel
  have t47 : p2 (4 - 51) ≤ 1 / 10000000000000 := by decide +kernel
  have t44 : p2 (7 - 51) ≤ 1 / 10000000000000 := by decide +kernel
  have t46 : p2 (5 - 51) ≤ 1 / 10000000000000 := by decide +kernel
  have t45 : p2 (6 - 51) ≤ 1 / 10000000000000 := by decide +kernel
  have q0 : 0 ≤ vr * vr := Rat.mul_nonneg (by grind) (by grind)
  have q1 : vr * vr ≤ 25 / 4 := by have := Rat.mul_nonneg (show 0 ≤ 5 / 2 - vr by grind) (show 0 ≤ 5 / 2 + vr by grind); grind
  have q2 : 81 / 100 ≤ vr * vr := by have := Rat.mul_nonneg (show 0 ≤ vr - 9 / 10 by grind) (show 0 ≤ vr + 9 / 10 by grind); grind
  obtain ⟨s1, i1, n1⟩ := is_mul hr hr (fit64k 4 (by decide) (by rw [e4]; grind) (by rw [e4]; grind))
  have m1 := near64 n1 4 (by decide) (by decide) (by rw [e4]; grind) (by rw [e4]; grind)
  have q3 : s1 * vr ≤ 20 := by have := Rat.mul_nonneg (show 0 ≤ 7 - s1 by grind) (show 0 ≤ vr by grind); grind
  have q4 : 0 ≤ s1 * vr := Rat.mul_nonneg (by grind) (by grind)
  obtain ⟨s2, i2, n2⟩ := is_mul i1 hr (fit64k 7 (by decide) (by rw [e7]; grind) (by rw [e7]; grind))
  have m2 := near64 n2 7 (by decide) (by decide) (by rw [e7]; grind) (by rw [e7]; grind)
  obtain ⟨s3, i3, n3⟩ := is_sub i2 hb (fit64k 7 (by decide) (by rw [e7]; grind) (by rw [e7]; grind))
  have m3 := near64 n3 7 (by decide) (by decide) (by rw [e7]; grind) (by rw [e7]; grind)
  obtain ⟨s4, i4, n4⟩ := is_mul three64 hr (fit64k 4 (by decide) (by rw [e4]; grind) (by rw [e4]; grind))
  have m4 := near64 n4 4 (by decide) (by decide) (by rw [e4]; grind) (by rw [e4]; grind)
  have q5 : s4 * vr ≤ 20 := by have := Rat.mul_nonneg (show 0 ≤ 8 - s4 by grind) (show 0 ≤ vr by grind); grind
  have q6 : 2 ≤ s4 * vr := by
    have := Rat.mul_nonneg (show 0 ≤ s4 - 26 / 10 by grind) (show 0 ≤ vr - 9 / 10 by grind)
    grind
  obtain ⟨s5, i5, n5⟩ := is_mul i4 hr (fit64k 6 (by decide) (by rw [e6]; grind) (by rw [e6]; grind))
  have m5 := near64 n5 6 (by decide) (by decide) (by rw [e6]; grind) (by rw [e6]; grind)
  have q7 : 1 ≤ s5 := by grind
  have q8' : s5 ≤ 21 := by grind
  have c0 : s2 ≤ vr * vr * vr + 5 / 10000000000000 ∧ vr * vr * vr ≤ s2 + 5 / 10000000000000 := by
    have a1 := Rat.mul_nonneg (show 0 ≤ vr * vr + 1 / 10000000000000 - s1 by grind) (show 0 ≤ vr by grind)
    have a2 := Rat.mul_nonneg (show 0 ≤ s1 + 1 / 10000000000000 - vr * vr by grind) (show 0 ≤ vr by grind)
    grind
  have c1 : s5 ≤ 3 * (vr * vr) + 5 / 10000000000000 ∧ 3 * (vr * vr) ≤ s5 + 5 / 10000000000000 := by
    have a1 := Rat.mul_nonneg (show 0 ≤ 3 * vr + 1 / 10000000000000 - s4 by grind) (show 0 ≤ vr by grind)
    have a2 := Rat.mul_nonneg (show 0 ≤ s4 + 1 / 10000000000000 - 3 * vr by grind) (show 0 ≤ vr by grind)
    grind
  obtain ⟨Q, hQ⟩ : ∃ Q, Q = s3 / s5 := ⟨_, rfl⟩
  have hQs := div_eq (show s5 ≠ 0 by grind) hQ
  have c2 : -9 ≤ s3 ∧ s3 ≤ 21 := by grind
  have q8 : Q ≤ 32 := by
    apply Rat.le_of_mul_le_mul_right (c := s5) _ (by grind)
    rw [hQs]
    grind
  have q9 : -32 ≤ Q := by
    apply Rat.le_of_mul_le_mul_right (c := s5) _ (by grind)
    rw [hQs]
    grind
  obtain ⟨s6, i6, n6⟩ := is_div i3 i5 (by grind) (by rw [← hQ]; exact fit64k 5 (by decide) (by rw [e5]; exact q8) (by rw [e5]; grind))
  rw [← hQ] at n6
  have m6 := near64 n6 5 (by decide) (by decide) (by rw [e5]; exact q8) (by rw [e5]; grind)
  obtain ⟨s7, i7, n7⟩ := is_sub hr i6 (fit64k 6 (by decide) (by rw [e6]; grind) (by rw [e6]; grind))
  have m7 := near64 n7 6 (by decide) (by decide) (by rw [e6]; grind) (by rw [e6]; grind)
  refine ⟨s7, i7, ?_⟩
  -- s7 is near r - Q
  have d1 : s7 ≤ vr - Q + 2 / 10000000000000 ∧ vr - Q ≤ s7 + 2 / 10000000000000 := by grind
  have d2 : -35 ≤ s7 ∧ s7 ≤ 35 := by grind
  -- s5 times it
  have a1 := Rat.mul_nonneg (show 0 ≤ vr - Q + 2 / 10000000000000 - s7 by grind) (show 0 ≤ s5 by grind)
  have a2 := Rat.mul_nonneg (show 0 ≤ s7 + 2 / 10000000000000 - (vr - Q) by grind) (show 0 ≤ s5 by grind)
  have b1 := Rat.mul_nonneg (show 0 ≤ s5 + 5 / 10000000000000 - 3 * (vr * vr) by grind) (show 0 ≤ vr by grind)
  have b2 := Rat.mul_nonneg (show 0 ≤ 3 * (vr * vr) + 5 / 10000000000000 - s5 by grind) (show 0 ≤ vr by grind)
  have e1 : s5 * s7 ≤ 2 * (vr * vr * vr) + vb + 7 / 1000000000000 ∧ 2 * (vr * vr * vr) + vb ≤ s5 * s7 + 7 / 1000000000000 := by grind
  -- rough: s7 is between 0 and 6
  have d3 : 0 ≤ s7 := by
    apply Rat.le_of_mul_le_mul_left (c := s5) _ (by grind)
    have : 0 ≤ vr * vr * vr := Rat.mul_nonneg q0 (by grind)
    grind
  have d4 : s7 ≤ 35 := d2.2
  have d5 : vr * vr * vr ≤ 16 := by have := Rat.mul_nonneg (show 0 ≤ 5 / 2 - vr by grind) q0; grind
  have d6 : s7 ≤ 5 := by
    apply Rat.le_of_mul_le_mul_left (c := s5) _ (by grind)
    have := Rat.mul_nonneg q0 (show 0 ≤ 5 - 2 * vr by grind)
    grind
  have f1 := Rat.mul_nonneg (show 0 ≤ s5 + 5 / 10000000000000 - 3 * (vr * vr) by grind) d3
  have f2 := Rat.mul_nonneg (show 0 ≤ 3 * (vr * vr) + 5 / 10000000000000 - s5 by grind) d3
  grind

/-- What a step makes of the distance. -/
theorem conv_step {vb r u θ k l : Rat} (hr : 9 / 10 ≤ r) (hθ1 : θ ≤ 1 / 100000000000) (hθ2 : -(1 / 100000000000) ≤ θ) (hu : 3 * (r * r) * u = 2 * (r * r * r) + vb + θ) (hk1 : vb - r * r * r ≤ k * (r * r * r)) (hk2 : r * r * r - vb ≤ k * (r * r * r))
    (k0 : 0 ≤ k) (k1 : k ≤ 9 / 25) (l0 : 0 ≤ l) (hl : 3 * (1 / 100000000000) + (k / 3 + 1 / 100000000000) * (k / 3 + 1 / 100000000000) * 4 ≤ l * (1 - (k / 3 + 1 / 100000000000)) * (1 - (k / 3 + 1 / 100000000000)) * (1 - (k / 3 + 1 / 100000000000))) :
    vb - u * u * u ≤ l * (u * u * u) ∧ u * u * u - vb ≤ l * (u * u * u) := by
  have hr0 : 0 < r := by grind
  have q2 : 81 / 100 ≤ r * r := by have := Rat.mul_nonneg (show 0 ≤ r - 9 / 10 by grind) (show 0 ≤ r + 9 / 10 by grind); grind
  have q3 : 729 / 1000 ≤ r * r * r := by have := Rat.mul_nonneg (show 0 ≤ r * r - 81 / 100 by grind) (show 0 ≤ r by grind); grind
  obtain ⟨R, hR⟩ : ∃ R, R = r * r * r := ⟨_, rfl⟩
  have hR0 : 0 < R := by grind
  rw [← hR] at hk1 hk2
  -- u = r (1 + s)
  obtain ⟨s, hs⟩ : ∃ s, s = (u - r) / r := ⟨_, rfl⟩
  have hsr := div_eq (show r ≠ 0 by grind) hs
  have hus : u = r * (1 + s) := by grind
  obtain ⟨φ, hφ⟩ : ∃ φ, φ = θ / (3 * R) := ⟨_, rfl⟩
  have hφR := div_eq (show 3 * R ≠ 0 by grind) hφ
  obtain ⟨ε, hε⟩ : ∃ ε, ε = (vb - R) / R := ⟨_, rfl⟩
  have hεR := div_eq (show R ≠ 0 by grind) hε
  -- s = ε / 3 + φ
  have hsum : s = ε / 3 + φ := by
    have h1 : 3 * R * s = 3 * R * (ε / 3 + φ) := by
      have h2 : 3 * (r * r) * u = 3 * R + 3 * R * s := by rw [hus, hR]; grind
      grind
    have h3 : s * (3 * R) = (ε / 3 + φ) * (3 * R) := by grind
    exact Rat.le_antisymm (Rat.le_of_mul_le_mul_right (by rw [h3]; exact Rat.le_refl) (show 0 < 3 * R by grind)) (Rat.le_of_mul_le_mul_right (by rw [h3]; exact Rat.le_refl) (show 0 < 3 * R by grind))
  have p1 : φ ≤ 1 / 100000000000 := by
    apply Rat.le_of_mul_le_mul_right (c := 3 * R) _ (by grind)
    rw [hφR]; grind
  have p2' : -(1 / 100000000000) ≤ φ := by
    apply Rat.le_of_mul_le_mul_right (c := 3 * R) _ (by grind)
    rw [hφR]; grind
  have g1 : ε ≤ k := by
    apply Rat.le_of_mul_le_mul_right (c := R) _ hR0
    rw [hεR]; grind
  have g2 : -k ≤ ε := by
    apply Rat.le_of_mul_le_mul_right (c := R) _ hR0
    rw [hεR, Rat.neg_mul]; grind
  obtain ⟨σ, hσ⟩ : ∃ σ, σ = k / 3 + 1 / 100000000000 := ⟨_, rfl⟩
  rw [← hσ] at hl
  have s1 : s ≤ σ := by grind
  have s2 : -σ ≤ s := by grind
  have σ0 : 0 ≤ σ := by grind
  have σ1 : σ ≤ 1 / 2 := by grind
  -- s * s ≤ σ * σ
  have w1 : s * s ≤ σ * σ := by have := Rat.mul_nonneg (show 0 ≤ σ - s by grind) (show 0 ≤ σ + s by grind); grind
  have w0 : 0 ≤ s * s := by
    rcases Rat.le_total (a := 0) (b := s) with h | h
    · exact Rat.mul_nonneg h h
    · have := Rat.mul_nonneg (show 0 ≤ -s by grind) (show 0 ≤ -s by grind); grind
  have w2 : s * s * s ≤ σ * σ := by have := Rat.mul_nonneg w0 (show 0 ≤ 1 - s by grind); grind
  have w3 : -(σ * σ) ≤ s * s * s := by have := Rat.mul_nonneg w0 (show 0 ≤ 1 + s by grind); grind
  -- (1 - σ)^3 ≤ (1 + s)^3
  have z1 : (1 - σ) * (1 - σ) ≤ (1 + s) * (1 + s) := by have := Rat.mul_nonneg (show 0 ≤ s + σ by grind) (show 0 ≤ 2 + s - σ by grind); grind
  have z0 : 0 ≤ (1 - σ) * (1 - σ) := Rat.mul_nonneg (by grind) (by grind)
  have z2 : (1 - σ) * (1 - σ) * (1 - σ) ≤ (1 + s) * (1 + s) * (1 + s) := by
    have y1 := Rat.mul_nonneg (show 0 ≤ (1 + s) * (1 + s) - (1 - σ) * (1 - σ) by grind) (show 0 ≤ 1 + s by grind)
    have y2 := Rat.mul_nonneg z0 (show 0 ≤ s + σ by grind)
    grind
  have z3 := Rat.mul_nonneg l0 (show 0 ≤ (1 + s) * (1 + s) * (1 + s) - (1 - σ) * (1 - σ) * (1 - σ) by grind)
  have hC : u * u * u = R * ((1 + s) * (1 + s) * (1 + s)) := by rw [hus, hR]; grind
  have hD : vb - u * u * u = R * (-(3 * φ) - 3 * (s * s) - s * s * s) := by
    have h4 : vb = R + R * ε := by grind
    have h5 : ε = 3 * s - 3 * φ := by grind
    rw [hC, h4, h5]; grind
  rw [hD, hC]
  have f1 : -(3 * φ) - 3 * (s * s) - s * s * s ≤ l * ((1 + s) * (1 + s) * (1 + s)) := by grind
  have f2 : -(l * ((1 + s) * (1 + s) * (1 + s))) ≤ -(3 * φ) - 3 * (s * s) - s * s * s := by grind
  have y1 := Rat.mul_nonneg (Rat.le_of_lt hR0) (show 0 ≤ l * ((1 + s) * (1 + s) * (1 + s)) - (-(3 * φ) - 3 * (s * s) - s * s * s) by grind)
  have y2 := Rat.mul_nonneg (Rat.le_of_lt hR0) (show 0 ≤ -(3 * φ) - 3 * (s * s) - s * s * s + l * ((1 + s) * (1 + s) * (1 + s)) by grind)
  constructor <;> grind
end Go.Proofs.Ytmikeegecifbfaa

namespace Go.Proofs.Ytmikeegecifbfaa
open Go.RowKit

theorem cube_mono {a b : Rat} (ha : 0 ≤ a) (h : a ≤ b) : a * a * a ≤ b * b * b := by
  have h1 := Rat.mul_nonneg (show 0 ≤ b - a by grind) (Rat.mul_nonneg ha ha)
  have h2 := Rat.mul_nonneg (show 0 ≤ b - a by grind) (Rat.mul_nonneg (show 0 ≤ b by grind) ha)
  have h3 := Rat.mul_nonneg (show 0 ≤ b - a by grind) (Rat.mul_nonneg (show 0 ≤ b by grind) (show 0 ≤ b by grind))
  grind
theorem cube_lt {a b : Rat} (hb : 0 ≤ b) (h : a * a * a < b * b * b) : a < b := by
  refine Rat.not_le.1 ?_
  intro hle
  have := cube_mono hb hle
  grind
/-- Near by 'k', relative to the third power. -/
structure Kap (vb r k : Rat) : Prop where
  h1 : vb - r * r * r ≤ k * (r * r * r)
  h2 : r * r * r - vb ≤ k * (r * r * r)
theorem Kap.range {vb r k : Rat} (h : Kap vb r k) (k1 : k ≤ 9 / 25) (r0 : 0 ≤ r) (b1 : 1 ≤ vb) (b8 : vb ≤ 8) : 9 / 10 ≤ r ∧ r ≤ 5 / 2 := by
  obtain ⟨h1, h2⟩ := h
  obtain ⟨R, hR⟩ : ∃ R, R = r * r * r := ⟨_, rfl⟩
  have R0 : 0 ≤ R := by rw [hR]; exact Rat.mul_nonneg (Rat.mul_nonneg r0 r0) r0
  rw [← hR] at h1 h2
  have h3 := Rat.mul_nonneg (show 0 ≤ 9 / 25 - k by grind) R0
  have hlo : 729 / 1000 ≤ R := by grind
  have hhi : R ≤ 125 / 8 := by grind
  constructor
  · refine Rat.not_lt.1 ?_
    intro hlt
    have h4 : r * r * r < 9 / 10 * (9 / 10) * (9 / 10) := by
      refine Rat.not_le.1 ?_
      intro hle
      have h5 := Rat.mul_nonneg (show 0 ≤ 9 / 10 - r by grind) (Rat.mul_nonneg r0 r0)
      have h6 := Rat.mul_nonneg (show 0 ≤ 9 / 10 - r by grind) r0
      grind
    grind
  · refine Rat.not_lt.1 ?_
    intro hlt
    have h4 := cube_mono (show (0 : Rat) ≤ 5 / 2 by grind) (Rat.le_of_lt hlt)
    have h5 : (5 / 2 : Rat) * (5 / 2) * (5 / 2) < r * r * r := by
      refine Rat.not_le.1 ?_
      intro hle
      have h6 := Rat.mul_nonneg (show 0 ≤ r - 5 / 2 by grind) (Rat.mul_nonneg r0 r0)
      have h7 := Rat.mul_nonneg (show 0 ≤ r - 5 / 2 by grind) r0
      grind
    grind
theorem newton_kap {b r : Option Nat} {vb vr k l : Rat} (hb : Is .f64 b vb) (hr : Is .f64 r vr) (b1 : 1 ≤ vb) (b8 : vb ≤ 8) (r0 : 0 ≤ vr) (h : Kap vb vr k) (k0 : 0 ≤ k) (k1 : k ≤ 9 / 25) (l0 : 0 ≤ l) (hl : 3 * (1 / 100000000000) + (k / 3 + 1 / 100000000000) * (k / 3 + 1 / 100000000000) * 4 ≤ l * (1 - (k / 3 + 1 / 100000000000)) * (1 - (k / 3 + 1 / 100000000000)) * (1 - (k / 3 + 1 / 100000000000))) :
    ∃ v, Is .f64 (newton b r) v ∧ 0 ≤ v ∧ Kap vb v l := by
  obtain ⟨r1, r2⟩ := h.range k1 r0 b1 b8
  obtain ⟨v, iv, n1, n2⟩ := newton_near hb hr b1 b8 r1 r2
  obtain ⟨v', iv', v0, _⟩ := newton_step hb hr b1 b8 r1 (by grind)
  have := iv.uniq iv'
  subst this
  have hc := conv_step (vb := vb) (r := vr) (u := v) (θ := 3 * (vr * vr) * v - (2 * (vr * vr * vr) + vb)) (k := k) (l := l) r1 (by grind) (by grind) (by grind) h.h1 h.h2 k0 k1 l0 hl
  exact ⟨v, iv, by grind, hc.1, hc.2⟩
theorem newton_first {b : Option Nat} {vb : Rat} (hb : Is .f64 b vb) (b1 : 1 ≤ vb) (b8 : vb ≤ 8) : ∃ v, Is .f64 (newtons b 1) v ∧ 0 ≤ v ∧ Kap vb v (9 / 25) := by
  obtain ⟨v, iv, n1, n2⟩ := newton_near hb half3 b1 b8 (by decide +kernel) (by decide +kernel)
  refine ⟨v, iv, by grind, ?_⟩
  obtain ⟨s, hs⟩ : ∃ s, s = v - 1 := ⟨_, rfl⟩
  have hv : v = 1 + s := by grind
  subst hv
  have s1 : 147 / 1000 ≤ s := by grind
  have s2 : s ≤ 1187 / 1000 := by grind
  -- vb is near 27 s / 4
  have hb1 : vb ≤ 27 / 4 * s + 1 / 10000000000 := by grind
  have hb2 : 27 / 4 * s ≤ vb + 1 / 10000000000 := by grind
  have a0 : 0 ≤ (s - 1 / 2) * (s - 1 / 2) := by
    rcases Rat.le_total (a := s) (b := 1 / 2) with h | h
    · have := Rat.mul_nonneg (show 0 ≤ 1 / 2 - s by grind) (show 0 ≤ 1 / 2 - s by grind); grind
    · exact Rat.mul_nonneg (by grind) (by grind)
  have a1 := Rat.mul_nonneg a0 (show 0 ≤ s + 4 by grind)
  have a2 := Rat.mul_nonneg (Rat.mul_nonneg (show 0 ≤ s - 147 / 1000 by grind) (show 0 ≤ 1187 / 1000 - s by grind)) (show 0 ≤ s + 4334 / 1000 by grind)
  constructor <;> grind
theorem newtons_kap {b : Option Nat} {vb : Rat} (hb : Is .f64 b vb) (b1 : 1 ≤ vb) (b8 : vb ≤ 8) : ∃ v, Is .f64 (newtons b 6) v ∧ 9 / 10 ≤ v ∧ v ≤ 5 / 2 ∧ Kap vb v (1 / 10000000000) := by
  obtain ⟨v1, i1, p1, k1⟩ := newton_first hb b1 b8
  obtain ⟨v2, i2, p2, k2⟩ := newton_kap hb i1 b1 b8 p1 k1 (l := 9 / 100) (by decide +kernel) (by decide +kernel) (by decide +kernel) (by decide +kernel)
  obtain ⟨v3, i3, p3, k3⟩ := newton_kap hb i2 b1 b8 p2 k2 (l := 4 / 1000) (by decide +kernel) (by decide +kernel) (by decide +kernel) (by decide +kernel)
  obtain ⟨v4, i4, p4, k4⟩ := newton_kap hb i3 b1 b8 p3 k3 (l := 8 / 1000000) (by decide +kernel) (by decide +kernel) (by decide +kernel) (by decide +kernel)
  obtain ⟨v5, i5, p5, k5⟩ := newton_kap hb i4 b1 b8 p4 k4 (l := 1 / 10000000000) (by decide +kernel) (by decide +kernel) (by decide +kernel) (by decide +kernel)
  obtain ⟨v6, i6, p6, k6⟩ := newton_kap hb i5 b1 b8 p5 k5 (l := 1 / 10000000000) (by decide +kernel) (by decide +kernel) (by decide +kernel) (by decide +kernel)
  obtain ⟨g1, g2⟩ := k6.range (by decide +kernel) p6 b1 b8
  exact ⟨v6, i6, g1, g2, k6⟩
theorem cbrt_shift {B b x : Nat} {q : Int} (hlo : 4503599627370496 ≤ B) (hb : 4607182418800017408 ≤ b) (hx : 4503599627370496 ≤ x) (hBi : (b : Int) = (B : Int) - 3 * q * 4503599627370496) (hXi : (x : Int) = 4607182418800017408 + q * 4503599627370496) :
    rungV Ieee.double B = rungV Ieee.double b * (rungV Ieee.double x * rungV Ieee.double x * rungV Ieee.double x) := by
  obtain ⟨c1, c2, c3, c4, c5⟩ := e64
  have v1 := val64.1
  obtain ⟨O, hO⟩ : ∃ O : Nat, O = 4607182418800017408 := ⟨_, rfl⟩
  obtain ⟨D, hD⟩ : ∃ D : Nat, D = 4503599627370496 := ⟨_, rfl⟩
  rw [← hO] at v1 hb
  rw [← hD] at c1 hlo hx
  have hBi' : (b : Int) = (B : Int) - 3 * (q * (D : Int)) := by rw [hBi, hD]; omega
  have hXi' : (x : Int) = (O : Int) + q * (D : Int) := by rw [hXi, hD, hO]; rfl
  have hOD : D ≤ O := by omega
  clear hBi hXi hO hD c2
  rcases Int.le_total 0 q with hq | hq
  · obtain ⟨n, hn⟩ := Int.eq_ofNat_of_zero_le hq
    subst hn
    have e0 : ((n * D : Nat) : Int) = (n : Int) * (D : Int) := Int.natCast_mul n D
    rw [← e0] at hBi' hXi'
    have e1 : B = b + 3 * n * D := by rw [Nat.mul_assoc]; omega
    have e2 : x = O + n * D := by omega
    have h1 := rungV_shift Ieee.double b (3 * n) (by omega)
    have h2 := rungV_shift Ieee.double O n (by omega)
    rw [c1, ← e1] at h1
    rw [c1, ← e2, v1] at h2
    have e3 : p2 ((3 * n : Nat) : Int) = p2 n * p2 n * p2 n := by rw [← p2_add, ← p2_add]; congr 1; omega
    rw [h1, h2, e3]
    grind
  · obtain ⟨n, hn⟩ : ∃ n : Nat, q = -(n : Int) := ⟨(-q).toNat, by omega⟩
    subst hn
    have e0 : -(n : Int) * (D : Int) = -((n * D : Nat) : Int) := by rw [Int.natCast_mul]; exact Int.neg_mul ..
    rw [e0] at hBi' hXi'
    have e1 : b = B + 3 * n * D := by rw [Nat.mul_assoc]; omega
    have e2 : O = x + n * D := by omega
    have h1 := rungV_shift Ieee.double B (3 * n) (by omega)
    have h2 := rungV_shift Ieee.double x n (by omega)
    rw [c1, ← e1] at h1
    rw [c1, ← e2, v1] at h2
    have e3 : p2 ((3 * n : Nat) : Int) = p2 n * p2 n * p2 n := by rw [← p2_add, ← p2_add]; congr 1; omega
    rw [h1, e3]
    generalize rungV Ieee.double x = X at *
    generalize rungV Ieee.double B = V at *
    generalize p2 n = Y at *
    have : V * (Y * Y * Y) * (X * X * X) = V * ((X * Y) * (X * Y) * (X * Y)) := by grind
    rw [this, ← h2]
    grind
/-- The number whose root is taken, as a number from 1 to 8 and a third power of a power of two. -/
theorem cbrt_split {B : Nat} (hlo : 1003 * 4503599627370496 ≤ B) (hhi : B < 1043 * 4503599627370496) :
    ∃ vb X : Rat, Is .f64 (some (cbrtB B)) vb ∧ 1 ≤ vb ∧ vb ≤ 8 ∧ Is .f64 (some (cbrtX B)) X ∧ 1 / 128 ≤ X ∧ X ≤ 128 ∧ rungV Ieee.double B = vb * (X * X * X) := by
  obtain ⟨c1, c2, c3, c4, c5⟩ := e64
  have hb : 4607182418800017408 ≤ cbrtB B ∧ cbrtB B < 4620693217682128896 := by unfold cbrtB cbrtQ; omega
  have hx : 1016 * 4503599627370496 ≤ cbrtX B ∧ cbrtX B ≤ 1030 * 4503599627370496 := by unfold cbrtX cbrtQ; omega
  have i1 := is_rung (k := .f64) (r := cbrtB B) (by show _ < Ieee.double.infRung; omega)
  have v1 : 1 ≤ rungV Ieee.double (cbrtB B) := by rw [← val64.1]; exact rungV_le _ hb.1
  have v2 : rungV Ieee.double (cbrtB B) ≤ 8 := by rw [← val64.2.2]; exact rungV_le _ (by omega)
  have i3 := is_rung (k := .f64) (r := cbrtX B) (by show _ < Ieee.double.infRung; omega)
  have e7 : p2 ((7 : Nat) : Int) = 128 := by decide +kernel
  refine ⟨_, _, i1, v1, v2, i3, ?_, ?_, ?_⟩
  · have h1 := rungV_le Ieee.double hx.1
    have h2 := rungV_shift Ieee.double (1016 * 4503599627370496) 7 (by omega)
    rw [c1, show 1016 * 4503599627370496 + 7 * 4503599627370496 = 4607182418800017408 from rfl, val64.1, e7] at h2
    show _ ≤ rungV Ieee.double _
    grind
  · have h1 := rungV_le Ieee.double hx.2
    have h2 := rungV_shift Ieee.double 4607182418800017408 7 (by omega)
    rw [c1, show 4607182418800017408 + 7 * 4503599627370496 = 1030 * 4503599627370496 from rfl, val64.1, e7] at h2
    show rungV Ieee.double _ ≤ _
    grind
  · show _ = rungV Ieee.double (cbrtB B) * (rungV Ieee.double (cbrtX B) * rungV Ieee.double (cbrtX B) * rungV Ieee.double (cbrtX B))
    have hBi : (cbrtB B : Int) = (B : Int) - 3 * cbrtQ B * 4503599627370496 := by
      show ((((B : Int) - 3 * cbrtQ B * 4503599627370496).toNat : Nat) : Int) = _
      exact Int.toNat_of_nonneg (by have := hb.1; unfold cbrtB at this; omega)
    have hXi : (cbrtX B : Int) = 4607182418800017408 + cbrtQ B * 4503599627370496 := by
      show (((4607182418800017408 + cbrtQ B * 4503599627370496).toNat : Nat) : Int) = _
      exact Int.toNat_of_nonneg (by have := hx.1; unfold cbrtX at this; omega)
    generalize cbrtB B = b at *
    generalize cbrtX B = x at *
    generalize cbrtQ B = q at *
    clear i1 i3 v1 v2 e7
    exact cbrt_shift (by omega) hb.1 (by omega) hBi hXi
theorem cbrtSize_near {B : Nat} (hlo : 1003 * 4503599627370496 ≤ B) (hhi : B < 1043 * 4503599627370496) :
    ∃ R, Is .f32 (cbrtSize B) R ∧ 0 < R ∧ R ≤ 400 ∧ R * R * R ≤ rungV Ieee.double B * (1 + 1 / 2000000) ∧ rungV Ieee.double B * (1 - 1 / 2000000) ≤ R * R * R := by
  obtain ⟨vb, X, ib, b1, b8, iX, X1, X2, hV⟩ := cbrt_split hlo hhi
  obtain ⟨r, ir, r1, r2, kr⟩ := newtons_kap ib b1 b8
  rw [hV]
  have g0 : 0 ≤ (r - 9 / 10) * (X - 1 / 128) := Rat.mul_nonneg (by grind) (by grind)
  have g1 : 0 ≤ (5 / 2 - r) * X := Rat.mul_nonneg (by grind) (by grind)
  obtain ⟨g, hg⟩ : ∃ g, g = r * X := ⟨_, rfl⟩
  have g2 : 1 / 200 ≤ g := by grind
  have g3 : g ≤ 320 := by grind
  have e9 : p2 9 = 512 := by decide +kernel
  have e9' : p2 (9 - 51) ≤ 1 / 1000000000000 := by decide +kernel
  obtain ⟨m, im, nm⟩ := is_mul ir iX (by rw [← hg]; exact fit64k 9 (by decide) (by rw [e9]; grind) (by rw [e9]; grind))
  rw [← hg] at nm
  have m1 := near64 nm 9 (by decide) (by decide) (by rw [e9]; grind) (by rw [e9]; grind)
  have e127 : p2 9 ≤ p2 127 := p2_mono (by decide)
  obtain ⟨R, iR, nR⟩ := is_conv (d := .f32) (by decide) im (fit32 (by grind) (by grind))
  have R1 := Rnd.rel nR (by grind) (by grind)
  have e149 : p2 (-149) ≤ 1 / 1000000000000 := by decide +kernel
  refine ⟨R, iR, by grind, by grind, ?_⟩
  -- R is near g, relative
  have R2 : R ≤ g * (1 + 1 / 8000000) := by grind
  have R3 : g * (1 - 1 / 8000000) ≤ R := by grind
  have c1 := cube_mono (by grind) R2
  have c2 := cube_mono (show 0 ≤ g * (1 - 1 / 8000000) by grind) R3
  have hG : g * g * g = r * r * r * (X * X * X) := by rw [hg]; grind
  obtain ⟨G, hGd⟩ : ∃ G, G = g * g * g := ⟨_, rfl⟩
  have c1' : R * R * R ≤ G * (1 + 4 / 10000000) := by
    have : g * (1 + 1 / 8000000) * (g * (1 + 1 / 8000000)) * (g * (1 + 1 / 8000000)) = G * ((1 + 1 / 8000000) * (1 + 1 / 8000000) * (1 + 1 / 8000000)) := by rw [hGd]; grind
    rw [this] at c1
    have G0 : 0 ≤ G := by rw [hGd]; exact Rat.mul_nonneg (Rat.mul_nonneg (by grind) (by grind)) (by grind)
    grind
  have c2' : G * (1 - 4 / 10000000) ≤ R * R * R := by
    have : g * (1 - 1 / 8000000) * (g * (1 - 1 / 8000000)) * (g * (1 - 1 / 8000000)) = G * ((1 - 1 / 8000000) * (1 - 1 / 8000000) * (1 - 1 / 8000000)) := by rw [hGd]; grind
    rw [this] at c2
    have G0 : 0 ≤ G := by rw [hGd]; exact Rat.mul_nonneg (Rat.mul_nonneg (by grind) (by grind)) (by grind)
    grind
  obtain ⟨k1, k2⟩ := kr
  have X0 : 0 ≤ X * X * X := Rat.mul_nonneg (Rat.mul_nonneg (by grind) (by grind)) (by grind)
  have hG' : G = r * r * r * (X * X * X) := by rw [hGd, hG]
  generalize X * X * X = Y at *
  generalize r * r * r = S at *
  have a1 := Rat.mul_nonneg (show 0 ≤ 1 / 10000000000 * S - (vb - S) by grind) X0
  have a2 := Rat.mul_nonneg (show 0 ≤ 1 / 10000000000 * S - (S - vb) by grind) X0
  have a3 := Rat.mul_nonneg (show 0 ≤ vb by grind) X0
  obtain ⟨W, hW⟩ : ∃ W, W = vb * Y := ⟨_, rfl⟩
  rw [← hW]
  have a4 : W - G ≤ 1 / 10000000000 * G := by rw [hW, hG']; grind
  have a5 : G - W ≤ 1 / 10000000000 * G := by rw [hW, hG']; grind
  constructor <;> grind
/-- A positive number as a float64: its word. -/
theorem wide_pos {a : Nat} {v : Rat} (h : Is .f32 (some a) v) (h0 : 0 < v) : ∃ W, ccv .f32 .f64 (some a) = some W ∧ wideAbs a = W ∧ W < Ieee.double.infRung ∧ rungV Ieee.double W = v ∧ feq (some a) (canon .f32 0) = false ∧ flt (some a) (canon .f32 0) = false := by
  have hz32 : Is .f32 (canon .f32 0) 0 := ⟨0, false, 0, -149, by decide, by decide, by decide +kernel⟩
  have hz : feq (some a) (canon .f32 0) = false := by rw [feq_is h hz32]; simp; grind
  have hl : flt (some a) (canon .f32 0) = false := by rw [flt_is h hz32]; simp; grind
  obtain ⟨W, hw, hlt, hs, hlo, hhi⟩ := wide_word (fin_is.2 ⟨v, h⟩) hz
  rw [hl] at hs
  have h1 := of_decide_eq_false hs.symm
  have hm : W % 9223372036854775808 = W := Nat.mod_eq_of_lt (by omega)
  rw [hm] at hhi
  obtain ⟨c1, c2, c3, c4, c5⟩ := e64
  have hi := is_widen h
  rw [hw] at hi
  have hW : W < Ieee.double.infRung := by omega
  have hv := hi.uniq (is_rung (k := .f64) hW)
  exact ⟨W, hw, by unfold wideAbs; rw [hw]; exact hm, hW, hv.symm, hz, hl⟩
theorem word_between {W : Nat} {v : Rat} (hv : rungV Ieee.double W = v) (h1 : 1 / 1048576 ≤ v) (h2 : v ≤ 524288) : 1003 * 4503599627370496 ≤ W ∧ W < 1043 * 4503599627370496 := by
  obtain ⟨c1, c2, c3, c4, c5⟩ := e64
  have e20 : p2 ((20 : Nat) : Int) = 1048576 := by decide +kernel
  have g1 := rungV_shift Ieee.double (1003 * 4503599627370496) 20 (by omega)
  rw [c1, show 1003 * 4503599627370496 + 20 * 4503599627370496 = 4607182418800017408 from rfl, val64.1, e20] at g1
  have g2 := rungV_shift Ieee.double 4607182418800017408 20 (by omega)
  rw [c1, show 4607182418800017408 + 20 * 4503599627370496 = 1043 * 4503599627370496 from rfl, val64.1, e20] at g2
  constructor
  · apply Nat.le_of_not_lt
    intro h
    have := rungV_lt Ieee.double h
    grind
  · apply Nat.lt_of_not_le
    intro h
    have := rungV_le Ieee.double h
    grind
theorem cbrt_pos {x : Option Nat} {v : Rat} (hx : Is .f32 x v) (h1 : 1 / 1048576 ≤ v) (h2 : v ≤ 524288) :
    ∃ R, Is .f32 (cbrt x) R ∧ 0 < R ∧ R ≤ 400 ∧ R * R * R ≤ v * (1 + 1 / 2000000) ∧ v * (1 - 1 / 2000000) ≤ R * R * R := by
  obtain ⟨a, rfl⟩ : ∃ a, x = some a := by obtain ⟨a, _, _, _, h, _⟩ := hx; exact ⟨a, h⟩
  obtain ⟨W, hw, ha, hW, hv, hz, hl⟩ := wide_pos hx (by grind)
  obtain ⟨g1, g2⟩ := word_between hv h1 h2
  obtain ⟨R, i, r0, r4, n1, n2⟩ := cbrtSize_near g1 g2
  rw [hv] at n1 n2
  exact ⟨R, by unfold cbrt; simp only [hz, hl, Bool.false_eq_true, if_false]; rw [ha]; exact i, r0, r4, n1, n2⟩
theorem cbrt_zero {x : Option Nat} (hx : Is .f32 x 0) : cbrt x = canon .f32 0 := by
  obtain ⟨a, rfl⟩ : ∃ a, x = some a := by obtain ⟨a, _, _, _, h, _⟩ := hx; exact ⟨a, h⟩
  have hz32 : Is .f32 (canon .f32 0) 0 := ⟨0, false, 0, -149, by decide, by decide, by decide +kernel⟩
  have hz : feq (some a) (canon .f32 0) = true := by rw [feq_is hx hz32]; rfl
  unfold cbrt
  simp only [hz, if_true]
theorem zero32 : Is .f32 (canon .f32 0) 0 := ⟨0, false, 0, -149, by decide, by decide, by decide +kernel⟩
theorem is_cneg {k : FloatKind} {x : Option Nat} {v : Rat} (h : Is k x v) : Is k (cneg k x) (-v) := by
  obtain ⟨b, s, m, e, rfl, hd, rfl⟩ := h
  refine ⟨Op.negFloat k b, !s, m, e, rfl, ?_, ?_⟩
  · rw [decode_neg, hd]; rfl
  · exact sg_not ..
theorem negFloat_wide {a W : Nat} (h : ccv .f32 .f64 (some a) = some W) (hW : W < Ieee.double.infRung) : wideAbs (Op.negFloat .f32 a) = W := by
  unfold wideAbs
  rw [ccv_neg (by decide), h]
  show Op.negFloat .f64 W % 9223372036854775808 = W
  have h1 := (xor_top 63 W).1
  have e : Op.negFloat .f64 W = W ^^^ 2 ^ 63 := rfl
  rw [e, h1]
  obtain ⟨c1, c2, c3, c4, c5⟩ := e64
  exact Nat.mod_eq_of_lt (by omega)
/-- The third root of the number with the other sign. -/
theorem cbrt_cneg {x : Option Nat} {v : Rat} (hx : Is .f32 x v) (h0 : 0 < v) : cbrt (cneg .f32 x) = cneg .f32 (cbrt x) := by
  obtain ⟨a, rfl⟩ : ∃ a, x = some a := by obtain ⟨a, _, _, _, h, _⟩ := hx; exact ⟨a, h⟩
  obtain ⟨W, hw, ha, hW, hv, hz, hl⟩ := wide_pos hx h0
  have hn := is_cneg hx
  have hn1 : feq (cneg .f32 (some a)) (canon .f32 0) = false := by rw [feq_is hn zero32]; simp; grind
  have hn2 : flt (cneg .f32 (some a)) (canon .f32 0) = true := by rw [flt_is hn zero32]; simp; grind
  have e : cneg .f32 (some a) = some (Op.negFloat .f32 a) := rfl
  rw [e] at hn1 hn2 ⊢
  unfold cbrt
  simp only [hz, hl, hn1, hn2, Bool.false_eq_true, if_false, if_true]
  rw [ha, negFloat_wide hw hW]
/-- Third roots of numbers of some size, with their signs. -/
theorem cbrt_all {x : Option Nat} {v : Rat} (hx : Is .f32 x v) (h1 : v ≤ 524288) (h2 : -524288 ≤ v) (h0 : v = 0 ∨ 1 / 1048576 ≤ v ∨ v ≤ -(1 / 1048576)) :
    ∃ R E, Is .f32 (cbrt x) R ∧ Is .f32 (cbrt (cneg .f32 x)) (-R) ∧ R ≤ 400 ∧ -400 ≤ R ∧ 0 ≤ E ∧ E * 2000000 = (if v < 0 then -v else v) ∧ R * R * R ≤ v + E ∧ v ≤ R * R * R + E := by
  rcases h0 with h0 | h0 | h0
  · subst h0
    have hn := is_cneg hx
    have e : -(0 : Rat) = 0 := rfl
    rw [e] at hn
    refine ⟨0, 0, ?_, ?_, by grind, by grind, by grind, by grind, by grind, by grind⟩
    · rw [cbrt_zero hx]; exact zero32
    · rw [cbrt_zero hn]; exact zero32
  · obtain ⟨R, i, r0, r4, n1, n2⟩ := cbrt_pos hx h0 h1
    refine ⟨R, v / 2000000, i, ?_, r4, by grind, by grind, by grind, by grind, by grind⟩
    rw [cbrt_cneg hx (by grind)]
    exact is_cneg i
  · have hn := is_cneg hx
    obtain ⟨R, i, r0, r4, n1, n2⟩ := cbrt_pos hn (by grind) (by grind)
    have hx2 : x = cneg .f32 (cneg .f32 x) := by
      obtain ⟨a, rfl⟩ : ∃ a, x = some a := by obtain ⟨a, _, _, _, h, _⟩ := hx; exact ⟨a, h⟩
      show some a = some ((a ^^^ 2 ^ 31) ^^^ 2 ^ 31)
      rw [Nat.xor_assoc, Nat.xor_self, Nat.xor_zero]
    refine ⟨-R, -v / 2000000, ?_, ?_, by grind, by grind, by grind, by grind, by grind, by grind⟩
    · have := cbrt_cneg hn (by grind)
      rw [← hx2] at this
      rw [this]
      exact is_cneg i
    · have e : -(-R) = R := by grind
      rw [e]
      exact i
end Go.Proofs.Ytmikeegecifbfaa

namespace Go.Proofs.Ytmikeegecifbfaa
open Go.RowKit
set_option maxRecDepth 100000

def rsum (p : Nat → Rat) : Nat → Rat
  | 0 => 0
  | n + 1 => rsum p n + p n
theorem rsum_le {p q : Nat → Rat} : ∀ n, (∀ i, i < n → p i ≤ q i) → rsum p n ≤ rsum q n
  | 0, _ => Rat.le_refl
  | n + 1, h => by
    have h1 := rsum_le n fun i hi => h i (by omega)
    have h2 := h n (by omega)
    unfold rsum
    grind
theorem rsum_eq {p q : Nat → Rat} : ∀ n, (∀ i, i < n → p i = q i) → rsum p n = rsum q n
  | 0, _ => rfl
  | n + 1, h => by unfold rsum; rw [rsum_eq n fun i hi => h i (by omega), h n (by omega)]
theorem rsum_add (p q : Nat → Rat) : ∀ n, rsum (fun i => p i + q i) n = rsum p n + rsum q n
  | 0 => by unfold rsum; grind
  | n + 1 => by unfold rsum; rw [rsum_add p q n]; grind
theorem rsum_scale (p : Nat → Rat) (c : Rat) : ∀ n, rsum (fun i => p i * c) n = rsum p n * c
  | 0 => by unfold rsum; grind
  | n + 1 => by unfold rsum; rw [rsum_scale p c n]; grind
theorem rsum_nonneg {p : Nat → Rat} : ∀ n, (∀ i, i < n → 0 ≤ p i) → 0 ≤ rsum p n
  | 0, _ => Rat.le_refl
  | n + 1, h => by
    have h1 := rsum_nonneg n fun i hi => h i (by omega)
    have h2 := h n (by omega)
    unfold rsum
    grind
/-- The number of a word. -/
def datV (b : Nat) : Rat := dq (FloatKind.f32.decode b)
theorem is_dat {b : Nat} (h : fin (some b) = true) : Is .f32 (some b) (datV b) := by
  obtain ⟨v, x, s, m, e, hx, hd, hv⟩ := fin_is.1 h
  injection hx with hx
  subst hx
  refine ⟨b, s, m, e, rfl, hd, ?_⟩
  unfold datV
  rw [hd]
  rfl
/-- Small errors: 'n' parts of ten million, and next to nothing. -/
def Rel (S A : Rat) (n : Nat) : Prop := S ≤ A + A * ((n : Rat) * (13 / 100000000)) + (n : Rat) * p2 (-147) ∧ A ≤ S + A * ((n : Rat) * (13 / 100000000)) + (n : Rat) * p2 (-147)
/-- One rounding of a number that is not negative. -/
def Rel1 (w v : Rat) : Prop := w ≤ v + v * (1 / 8388608) + p2 (-149) ∧ v ≤ w + v * (1 / 8388608) + p2 (-149)
theorem mul_rel {x y : Option Nat} {u v : Rat} (hx : Is .f32 x u) (hy : Is .f32 y v) (h0 : 0 ≤ u * v) (h1 : u * v ≤ 1000) : ∃ w, Is .f32 (fmul x y) w ∧ 0 ≤ w ∧ Rel1 w (u * v) := by
  have e10 := k_10.1
  obtain ⟨w, iw, rw'⟩ := is_mul hx hy (fit_k 10 e10 (by decide) (by grind) (by grind))
  have p127 : (1024 : Rat) ≤ p2 127 := by have := p2_mono (show (10 : Int) ≤ 127 by decide); grind
  have r := rw'.rel h0 (by grind)
  exact ⟨w, iw, rw'.dn 0 ⟨0, by decide, .inl (rungV_zero _).symm⟩ h0, r⟩
theorem sum_rel {p : Nat → Option Nat} {x X : Nat → Rat} (hX0 : ∀ i, 0 ≤ X i) : ∀ n, n ≤ 15 → (∀ i, i < n + 1 → Is .f32 (p i) (x i) ∧ 0 ≤ x i ∧ Rel1 (x i) (X i)) → rsum X (n + 1) ≤ 1000 → ∃ S, Is .f32 (fsumTo p (n + 1)) S ∧ 0 ≤ S ∧ Rel S (rsum X (n + 1)) (n + 1)
  | 0, _, h, _ => by
    obtain ⟨h1, h2, h3⟩ := h 0 (by omega)
    have e : rsum X (0 + 1) = X 0 := by unfold rsum rsum; grind
    rw [e]
    obtain ⟨g1, g2⟩ := h3
    have t0 := p2_pos (-149)
    have t2 : p2 (-147) = 4 * p2 (-149) := by have a := p2_succ (-149); have b := p2_succ (-148); rw [show (-149 : Int) + 1 = -148 by decide] at a; rw [show (-148 : Int) + 1 = -147 by decide] at b; grind
    have hp := hX0 0
    have e1 : ((0 + 1 : Nat) : Rat) = 1 := rfl
    refine ⟨x 0, h1, h2, ?_, ?_⟩
    · rw [e1]; grind
    · rw [e1]; grind
  | n + 1, hn, h, hb => by
    have es : rsum X (n + 1 + 1) = rsum X (n + 1) + X (n + 1) := rfl
    have hp := hX0 (n + 1)
    have hA0 := rsum_nonneg (p := X) (n + 1) fun i _ => hX0 i
    rw [es] at hb ⊢
    obtain ⟨S, iS, S0, hS⟩ := sum_rel hX0 n (by omega) (fun i hi => h i (by omega)) (by grind)
    obtain ⟨ix, x0, x1, x2⟩ := h (n + 1) (by omega)
    obtain ⟨S1, S2⟩ := hS
    unfold Rel
    have e2 : ((n + 1 + 1 : Nat) : Rat) = ((n + 1 : Nat) : Rat) + 1 := by rw [Rat.natCast_add]; rfl
    have c1 : (1 : Rat) ≤ ((n + 1 : Nat) : Rat) := by have := cast_le (show 1 ≤ n + 1 by omega); simpa using this
    have c2 : ((n + 1 : Nat) : Rat) ≤ 15 := by have := cast_le (show n + 1 ≤ 15 by omega); simpa using this
    generalize ((n + 1 : Nat) : Rat) = N at *
    generalize rsum X (n + 1) = A at *
    generalize x (n + 1) = y at *
    generalize X (n + 1) = Y at *
    have t0 := p2_pos (-149)
    have t2 : p2 (-147) = 4 * p2 (-149) := by have a := p2_succ (-149); have b := p2_succ (-148); rw [show (-149 : Int) + 1 = -148 by decide] at a; rw [show (-148 : Int) + 1 = -147 by decide] at b; grind
    have t1 : p2 (-149) ≤ 1 / 1000000000000 := by decide +kernel
    rw [t2] at S1 S2 ⊢
    have m1 := Rat.mul_nonneg hA0 (show 0 ≤ 15 - N by grind)
    have m2 := Rat.mul_nonneg (Rat.le_of_lt t0) (show 0 ≤ 15 - N by grind)
    have m3 := Rat.mul_nonneg hp (show 0 ≤ N - 1 by grind)
    have m4 := Rat.mul_nonneg hA0 (show 0 ≤ N by grind)
    have m5 := Rat.mul_nonneg hp (show 0 ≤ 15 - N by grind)
    have e11 : p2 11 = 2048 := by decide +kernel
    obtain ⟨w, iw, rw'⟩ := is_add iS ix (fit_k 11 e11 (by decide) (by grind) (by grind))
    have p127 : (2048 : Rat) ≤ p2 127 := by have := p2_mono (show (11 : Int) ≤ 127 by decide); grind
    have r := rw'.rel (show 0 ≤ S + y by grind) (by grind)
    refine ⟨w, iw, rw'.dn 0 ⟨0, by decide, .inl (rungV_zero _).symm⟩ (by grind), ?_, ?_⟩
    · rw [e2]; grind
    · rw [e2]; grind
end Go.Proofs.Ytmikeegecifbfaa

namespace Go.Proofs.Ytmikeegecifbfaa
open Go.RowKit
set_option maxRecDepth 100000

def oV (i : Nat) : Rat := datV (obsW i)
theorem obs_fin : ∀ i, i < 48 → fin (some (obsW i)) = true ∧ 1 / 100000 ≤ oV i ∧ oV i ≤ 2 := by decide +kernel
theorem obs_is' {i : Nat} (h : i < 48) : Is .f32 (obsAt i) (oV i) := by
  rw [(obs_word i h).1]
  exact is_dat (obs_fin i h).1
/-- The light of a warmth of n sixteenths. -/
def lightV (n : Int) (i : Nat) : Rat := ((256 + n * (2 * (i : Int) - 15) : Int) : Rat) * p2 (-((8 : Nat) : Int))
theorem i75 : Is .f32 (canon .f32 1089470464) (15 / 2) := ⟨_, false, 15728640, -21, rfl, by decide, by decide +kernel⟩
theorem n_mul_bound {n : Int} (h1 : -16 ≤ n) (h2 : n ≤ 16) {i : Nat} (hi : i < 16) : -240 ≤ n * (2 * (i : Int) - 15) ∧ n * (2 * (i : Int) - 15) ≤ 240 := by
  have a1 := Int.mul_nonneg (show 0 ≤ 16 - n by omega) (show 0 ≤ 15 - (2 * (i : Int) - 15) by omega)
  have a2 := Int.mul_nonneg (show 0 ≤ 16 + n by omega) (show 0 ≤ 15 + (2 * (i : Int) - 15) by omega)
  have a3 := Int.mul_nonneg (show 0 ≤ 16 - n by omega) (show 0 ≤ 15 + (2 * (i : Int) - 15) by omega)
  have a4 := Int.mul_nonneg (show 0 ≤ 16 + n by omega) (show 0 ≤ 15 - (2 * (i : Int) - 15) by omega)
  generalize (2 * (i : Int) - 15) = m at *
  rw [Int.sub_mul, Int.mul_sub, Int.mul_sub] at a1
  rw [Int.add_mul, Int.mul_add, Int.mul_add] at a2
  rw [Int.sub_mul, Int.mul_add, Int.mul_add] at a3
  rw [Int.add_mul, Int.mul_sub, Int.mul_sub] at a4
  omega
theorem light_is {x : Option Nat} {n : Int} (h1 : -16 ≤ n) (h2 : n ≤ 16) (hx : Is .f32 x ((n : Rat) * (1 / 16))) {i : Nat} (hi : i < 16) : Is .f32 (lightAt x i) (lightV n i) ∧ 1 / 16 ≤ lightV n i ∧ lightV n i ≤ 31 / 16 := by
  obtain ⟨b1, b2⟩ := n_mul_bound h1 h2 hi
  have e1 : p2 (-((1 : Nat) : Int)) = 1 / 2 := by decide +kernel
  have e4 : p2 (-((4 : Nat) : Int)) = 1 / 16 := by decide +kernel
  have e8 : p2 (-((8 : Nat) : Int)) = 1 / 256 := by decide +kernel
  have r1 := rep_parts (2 * (i : Int) - 15) (by omega) (by omega) 1 (by omega)
  have r4 := rep_parts (2 * (i : Int) - 15) (by omega) (by omega) 4 (by omega)
  have r8 := rep_parts (n * (2 * (i : Int) - 15)) (by omega) (by omega) 8 (by omega)
  have r9 := rep_parts (256 + n * (2 * (i : Int) - 15)) (by omega) (by omega) 8 (by omega)
  rw [e1] at r1
  rw [e4] at r4
  rw [e8] at r8 r9
  have c1 : ((2 * (i : Int) - 15 : Int) : Rat) = 2 * (i : Rat) - 15 := by rw [Rat.intCast_sub, Rat.intCast_mul, Rat.intCast_natCast]; rfl
  have c2 : ((n * (2 * (i : Int) - 15) : Int) : Rat) = (n : Rat) * (2 * (i : Rat) - 15) := by rw [Rat.intCast_mul, c1]
  have c3 : ((256 + n * (2 * (i : Int) - 15) : Int) : Rat) = 256 + (n : Rat) * (2 * (i : Rat) - 15) := by rw [Rat.intCast_add, c2]; rfl
  rw [c1] at r1 r4
  rw [c2] at r8
  rw [c3] at r9
  have fi := fint_is (i : Int) (by omega) (by omega)
  rw [Rat.intCast_natCast] at fi
  have s1 : (i : Rat) - 15 / 2 = (2 * (i : Rat) - 15) * (1 / 2) := by grind
  obtain ⟨a, ia, ra⟩ := is_sub fi i75 (by rw [s1]; exact r1.fit)
  rw [s1] at ra
  rw [ra.of_rep r1] at ia
  have s2 : (2 * (i : Rat) - 15) * (1 / 2) / 8 = (2 * (i : Rat) - 15) * (1 / 16) := by grind
  obtain ⟨b, ib, rb⟩ := is_div ia i8 (by decide) (by rw [s2]; exact r4.fit)
  rw [s2] at rb
  rw [rb.of_rep r4] at ib
  have s3 : (n : Rat) * (1 / 16) * ((2 * (i : Rat) - 15) * (1 / 16)) = (n : Rat) * (2 * (i : Rat) - 15) * (1 / 256) := by grind
  obtain ⟨c, ic, rc⟩ := is_mul hx ib (by rw [s3]; exact r8.fit)
  rw [s3] at rc
  rw [rc.of_rep r8] at ic
  have s4 : 1 + (n : Rat) * (2 * (i : Rat) - 15) * (1 / 256) = (256 + (n : Rat) * (2 * (i : Rat) - 15)) * (1 / 256) := by grind
  obtain ⟨d, id, rd⟩ := is_add i1 ic (by rw [s4]; exact r9.fit)
  rw [s4] at rd
  rw [rd.of_rep r9] at id
  unfold lightV
  rw [e8, c3]
  have q1 : (-240 : Rat) ≤ (n : Rat) * (2 * (i : Rat) - 15) := by rw [← c2]; have := Rat.intCast_le_intCast.2 b1; simpa using this
  have q2 : (n : Rat) * (2 * (i : Rat) - 15) ≤ 240 := by rw [← c2]; have := Rat.intCast_le_intCast.2 b2; simpa using this
  exact ⟨id, by grind, by grind⟩
/-- A curve of sixty-fourths: at most two. -/
def Six (c : Nat → Option Nat) (C : Nat → Rat) : Prop := ∀ i, i < 16 → Is .f32 (c i) (C i) ∧ ∃ m : Nat, m ≤ 128 ∧ C i = (m : Rat) * (1 / 64)
theorem Six.range {c : Nat → Option Nat} {C : Nat → Rat} (h : Six c C) {i : Nat} (hi : i < 16) : 0 ≤ C i ∧ C i ≤ 2 := by
  obtain ⟨_, m, hm, e⟩ := h i hi
  have a : (0 : Rat) ≤ (m : Rat) := Rat.natCast_nonneg
  have b : (m : Rat) ≤ 128 := by have := cast_le hm; simpa using this
  constructor <;> grind
theorem both_is {x : Option Nat} {n : Int} (h1 : -16 ≤ n) (h2 : n ≤ 16) (hx : Is .f32 x ((n : Rat) * (1 / 16))) {c : Nat → Option Nat} {C : Nat → Rat} (hc : Six c C) {i : Nat} (hi : i < 16) : Is .f32 (fmul (lightAt x i) (c i)) (lightV n i * C i) := by
  obtain ⟨il, l1, l2⟩ := light_is h1 h2 hx hi
  obtain ⟨ic, m, hm, hC⟩ := hc i hi
  obtain ⟨b1, b2⟩ := n_mul_bound h1 h2 hi
  have hk : ∃ k : Int, k = 256 + n * (2 * (i : Int) - 15) ∧ 0 ≤ k ∧ k ≤ 496 := ⟨_, rfl, by omega, by omega⟩
  obtain ⟨k, hk, k0, k1⟩ := hk
  have hkm : k * (m : Int) ≤ 496 * 128 := Int.mul_le_mul k1 (by omega) (by omega) (by omega)
  have hkm0 : 0 ≤ k * (m : Int) := Int.mul_nonneg k0 (by omega)
  have r := rep_parts (k * (m : Int)) (by omega) (by omega) 14 (by omega)
  have e14 : p2 (-((14 : Nat) : Int)) = 1 / 16384 := by decide +kernel
  have e8 : p2 (-((8 : Nat) : Int)) = 1 / 256 := by decide +kernel
  rw [e14, Rat.intCast_mul, Rat.intCast_natCast] at r
  have e : lightV n i * C i = (k : Rat) * (m : Rat) * (1 / 16384) := by unfold lightV; rw [← hk, e8, hC]; grind
  obtain ⟨w, iw, rw'⟩ := is_mul il ic (by rw [e]; exact r.fit)
  rw [e] at rw' ⊢
  rw [rw'.of_rep r] at iw
  exact iw
/-- The exact sums. -/
def exS (n : Int) (C : Nat → Rat) (k : Nat) : Rat := rsum (fun i => oV (k * 16 + i) * (lightV n i * C i)) 16
def exW (n : Int) : Rat := rsum (fun i => oV (16 + i) * lightV n i) 16
theorem exW_range : ∀ n : Nat, n < 33 → 4 ≤ exW ((n : Int) - 16) ∧ exW ((n : Int) - 16) ≤ 8 := by decide +kernel
theorem exT_range : ∀ n : Nat, n < 33 → ∀ k, k < 3 → rsum (fun i => oV (k * 16 + i) * lightV ((n : Int) - 16) i) 16 ≤ 11 := by decide +kernel
theorem exW_all {n : Int} (h1 : -16 ≤ n) (h2 : n ≤ 16) : 4 ≤ exW n ∧ exW n ≤ 8 := by
  have := exW_range (n + 16).toNat (by omega)
  rw [show (((n + 16).toNat : Int) - 16) = n by omega] at this
  exact this
theorem exT_all {n : Int} (h1 : -16 ≤ n) (h2 : n ≤ 16) {k : Nat} (hk : k < 3) : rsum (fun i => oV (k * 16 + i) * lightV n i) 16 ≤ 11 := by
  have := exT_range (n + 16).toNat (by omega) k hk
  rw [show (((n + 16).toNat : Int) - 16) = n by omega] at this
  exact this
theorem t147 : p2 (-147) ≤ 1 / 1000000000000000000000000000000 := by decide +kernel
theorem dot_near {x : Option Nat} {n : Int} (h1 : -16 ≤ n) (h2 : n ≤ 16) (hx : Is .f32 x ((n : Rat) * (1 / 16))) {c : Nat → Option Nat} {C : Nat → Rat} (hc : Six c C) {k : Nat} (hk : k < 3) :
    ∃ D, Is .f32 (dotOf (fun i => obsAt (k * 16 + i)) fun i => fmul (lightAt x i) (c i)) D ∧ 0 ≤ D ∧ Rel D (exS n C k) 16 ∧ 0 ≤ exS n C k ∧ exS n C k ≤ 22 := by
  have hX0 : ∀ i, i < 16 → 0 ≤ oV (k * 16 + i) * (lightV n i * C i) ∧ oV (k * 16 + i) * (lightV n i * C i) ≤ 2 * (oV (k * 16 + i) * lightV n i) := by
    intro i hi
    obtain ⟨_, o1, o2⟩ := obs_fin (k * 16 + i) (by omega)
    obtain ⟨_, l1, l2⟩ := light_is h1 h2 hx hi
    obtain ⟨c0, c2⟩ := hc.range hi
    have m0 := Rat.mul_nonneg (show 0 ≤ oV (k * 16 + i) by grind) (show 0 ≤ lightV n i by grind)
    have m1 := Rat.mul_nonneg m0 c0
    have m2 := Rat.mul_nonneg m0 (show 0 ≤ 2 - C i by grind)
    constructor <;> grind
  have hT := exT_all h1 h2 hk
  have hE : exS n C k ≤ 22 := by
    have := rsum_le (p := fun i => oV (k * 16 + i) * (lightV n i * C i)) (q := fun i => oV (k * 16 + i) * lightV n i * 2) 16 fun i hi => by have := (hX0 i hi).2; grind
    rw [rsum_scale] at this
    unfold exS
    grind
  have hE0 : 0 ≤ exS n C k := rsum_nonneg 16 fun i hi => (hX0 i hi).1
  -- each product
  obtain ⟨y, hy⟩ : ∃ y : Nat → Rat, ∀ i, i < 16 → Is .f32 (fmul (obsAt (k * 16 + i)) (fmul (lightAt x i) (c i))) (y i) ∧ 0 ≤ y i ∧ Rel1 (y i) (oV (k * 16 + i) * (lightV n i * C i)) := by
    have key : ∀ i, ∃ v : Rat, i < 16 → Is .f32 (fmul (obsAt (k * 16 + i)) (fmul (lightAt x i) (c i))) v ∧ 0 ≤ v ∧ Rel1 v (oV (k * 16 + i) * (lightV n i * C i)) := by
      intro i
      by_cases hi : i < 16
      · have hp := hX0 i hi
        obtain ⟨_, o1, o2⟩ := obs_fin (k * 16 + i) (by omega)
        obtain ⟨_, l1, l2⟩ := light_is h1 h2 hx hi
        have m2 := Rat.mul_nonneg (show 0 ≤ oV (k * 16 + i) by grind) (show 0 ≤ 31 / 16 - lightV n i by grind)
        obtain ⟨v, iv, v0, vr⟩ := mul_rel (obs_is' (i := k * 16 + i) (by omega)) (both_is h1 h2 hx hc hi) hp.1 (by grind)
        exact ⟨v, fun _ => ⟨iv, v0, vr⟩⟩
      · exact ⟨0, fun h => absurd h hi⟩
    exact ⟨fun i => (key i).choose, fun i hi => (key i).choose_spec hi⟩
  let X : Nat → Rat := fun i => if i < 16 then oV (k * 16 + i) * (lightV n i * C i) else 0
  have hXe : rsum X 16 = exS n C k := rsum_eq 16 fun i hi => by show (if i < 16 then _ else _) = _; rw [if_pos hi]
  obtain ⟨D, iD, D0, hD⟩ := sum_rel (p := fun i => fmul (obsAt (k * 16 + i)) (fmul (lightAt x i) (c i))) (x := y) (X := X) (fun i => by
    show 0 ≤ (if i < 16 then _ else _)
    split
    · rename_i hi; exact (hX0 i hi).1
    · exact Rat.le_refl) 15 (by omega) (fun i hi => by
    obtain ⟨a1, a2, a3⟩ := hy i hi
    refine ⟨a1, a2, ?_⟩
    show Rel1 _ (if i < 16 then _ else _)
    rw [if_pos hi]
    exact a3) (by rw [hXe]; grind)
  rw [hXe] at hD
  exact ⟨D, iD, D0, hD, hE0, hE⟩
theorem whole_near {x : Option Nat} {n : Int} (h1 : -16 ≤ n) (h2 : n ≤ 16) (hx : Is .f32 x ((n : Rat) * (1 / 16))) :
    ∃ W, Is .f32 (dotOf (fun i => obsAt (16 + i)) fun i => lightAt x i) W ∧ 39 / 10 ≤ W ∧ W ≤ 9 ∧ Rel W (exW n) 16 := by
  have hX0 : ∀ i, i < 16 → 0 ≤ oV (16 + i) * lightV n i ∧ oV (16 + i) * lightV n i ≤ 4 := by
    intro i hi
    obtain ⟨_, o1, o2⟩ := obs_fin (16 + i) (by omega)
    obtain ⟨_, l1, l2⟩ := light_is h1 h2 hx hi
    have m0 := Rat.mul_nonneg (show 0 ≤ oV (16 + i) by grind) (show 0 ≤ lightV n i by grind)
    have m1 := Rat.mul_nonneg (show 0 ≤ oV (16 + i) by grind) (show 0 ≤ 31 / 16 - lightV n i by grind)
    constructor <;> grind
  obtain ⟨w1, w2⟩ := exW_all h1 h2
  obtain ⟨y, hy⟩ : ∃ y : Nat → Rat, ∀ i, i < 16 → Is .f32 (fmul (obsAt (16 + i)) (lightAt x i)) (y i) ∧ 0 ≤ y i ∧ Rel1 (y i) (oV (16 + i) * lightV n i) := by
    have key : ∀ i, ∃ v : Rat, i < 16 → Is .f32 (fmul (obsAt (16 + i)) (lightAt x i)) v ∧ 0 ≤ v ∧ Rel1 v (oV (16 + i) * lightV n i) := by
      intro i
      by_cases hi : i < 16
      · have hp := hX0 i hi
        obtain ⟨v, iv, v0, vr⟩ := mul_rel (obs_is' (i := 16 + i) (by omega)) (light_is h1 h2 hx hi).1 hp.1 (by grind)
        exact ⟨v, fun _ => ⟨iv, v0, vr⟩⟩
      · exact ⟨0, fun h => absurd h hi⟩
    exact ⟨fun i => (key i).choose, fun i hi => (key i).choose_spec hi⟩
  let X : Nat → Rat := fun i => if i < 16 then oV (16 + i) * lightV n i else 0
  have hXe : rsum X 16 = exW n := rsum_eq 16 fun i hi => by show (if i < 16 then _ else _) = _; rw [if_pos hi]
  obtain ⟨D, iD, D0, hD⟩ := sum_rel (p := fun i => fmul (obsAt (16 + i)) (lightAt x i)) (x := y) (X := X) (fun i => by
    show 0 ≤ (if i < 16 then _ else _)
    split
    · rename_i hi; exact (hX0 i hi).1
    · exact Rat.le_refl) 15 (by omega) (fun i hi => by
    obtain ⟨a1, a2, a3⟩ := hy i hi
    refine ⟨a1, a2, ?_⟩
    show Rel1 _ (if i < 16 then _ else _)
    rw [if_pos hi]
    exact a3) (by rw [hXe]; grind)
  rw [hXe] at hD
  have hD' := hD
  obtain ⟨d1, d2⟩ := hD'
  have e16 : ((15 + 1 : Nat) : Rat) = 16 := rfl
  rw [e16] at d1 d2
  have t := t147
  have t0 := p2_pos (-147)
  exact ⟨D, iD, by grind, by grind, hD⟩
/-- What is seen is near the exact ratio. -/
theorem seen_near {x : Option Nat} {n : Int} (h1 : -16 ≤ n) (h2 : n ≤ 16) (hx : Is .f32 x ((n : Rat) * (1 / 16))) {c : Nat → Option Nat} {C : Nat → Rat} (hc : Six c C) {k : Nat} (hk : k < 3) {r : Rat} (hr : r * exW n = exS n C k) :
    ∃ s, Is .f32 (seenAt (fun i => lightAt x i) c k) s ∧ 0 ≤ s ∧ s ≤ r + r * (5 / 1000000) + 1 / 1000000000000000000000000000 ∧ r ≤ s + r * (5 / 1000000) + 1 / 1000000000000000000000000000 ∧ 0 ≤ r ∧ r ≤ 6 := by
  obtain ⟨D, iD, D0, ⟨d1, d2⟩, E0, E1⟩ := dot_near h1 h2 hx hc hk
  obtain ⟨W, iW, W1, W2, ⟨w1, w2⟩⟩ := whole_near h1 h2 hx
  obtain ⟨x1, x2⟩ := exW_all h1 h2
  have e16 : ((16 : Nat) : Rat) = 16 := rfl
  rw [e16] at d1 d2 w1 w2
  have t := t147
  have t0 := p2_pos (-147)
  have r0 : 0 ≤ r := quot_ge hr (by grind) (by grind)
  have r6 : r ≤ 6 := quot_le hr (by grind) (by grind)
  obtain ⟨q, hq⟩ := quot_mk D (show W ≠ 0 by grind)
  have q0 : 0 ≤ q := quot_ge hq (by grind) (by grind)
  have m1 := Rat.mul_nonneg r0 (show 0 ≤ W + exW n * (16 * (13 / 100000000)) + 16 * p2 (-147) - exW n by grind)
  have m2 := Rat.mul_nonneg r0 (show 0 ≤ exW n + exW n * (16 * (13 / 100000000)) + 16 * p2 (-147) - W by grind)
  have m3 := Rat.mul_nonneg r0 (show 0 ≤ 1 / 1000000000000000000000000000000 - p2 (-147) by grind)
  have m4 := Rat.mul_nonneg r0 (show 0 ≤ W - 39 / 10 by grind)
  have q1 : q ≤ r * (1 + 45 / 10000000) + 1 / 10000000000000000000000000000 := quot_le hq (by grind) (by grind)
  have q2 : r * (1 - 45 / 10000000) - 1 / 10000000000000000000000000000 ≤ q := quot_ge hq (by grind) (by grind)
  have e10 := k_10.1
  have e : D / W = q := by rw [← hq, Rat.mul_div_cancel (by grind)]
  obtain ⟨s, is, rs⟩ := is_div iD iW (by grind) (by rw [e]; exact fit_k 10 e10 (by decide) (by grind) (by grind))
  rw [e] at rs
  have p127 : (1024 : Rat) ≤ p2 127 := by have := p2_mono (show (10 : Int) ≤ 127 by decide); grind
  have g := rs.rel q0 (by grind)
  have t149 := p2_mono (show (-149 : Int) ≤ -147 by decide)
  exact ⟨s, is, rs.dn 0 ⟨0, by decide, .inl (rungV_zero _).symm⟩ q0, by grind, by grind, r0, r6⟩
end Go.Proofs.Ytmikeegecifbfaa

namespace Go.Proofs.Ytmikeegecifbfaa
open Go.RowKit
set_option maxRecDepth 100000

theorem cbrt_tiny {x : Option Nat} {v : Rat} (hx : Is .f32 x v) (h0 : 0 < v) (h1 : v < 1 / 1048576) : ∃ R, Is .f32 (cbrt x) R ∧ 0 ≤ R ∧ R ≤ 1 := by
  obtain ⟨a, rfl⟩ : ∃ a, x = some a := by obtain ⟨a, _, _, _, h, _⟩ := hx; exact ⟨a, h⟩
  obtain ⟨W, hw, ha, hW, hv, hz, hl⟩ := wide_pos hx h0
  obtain ⟨W', hw', _, _, hlo, _⟩ := wide_word (fin_is.2 ⟨v, hx⟩) hz
  rw [hw] at hw'
  injection hw' with hw'
  subst hw'
  obtain ⟨c1, c2, c3, c4, c5⟩ := e64
  have hlo' : 874 * 4503599627370496 ≤ W := by rw [Nat.mod_eq_of_lt (by omega)] at hlo; exact hlo
  have e20 : p2 ((20 : Nat) : Int) = 1048576 := by decide +kernel
  have g1 := rungV_shift Ieee.double (1003 * 4503599627370496) 20 (by omega)
  rw [c1, show 1003 * 4503599627370496 + 20 * 4503599627370496 = 4607182418800017408 from rfl, val64.1, e20] at g1
  have hhi : W < 1003 * 4503599627370496 := by
    apply Nat.lt_of_not_le
    intro h
    have := rungV_le Ieee.double h
    grind
  have hb : 4607182418800017408 ≤ cbrtB W ∧ cbrtB W < 4620693217682128896 := by unfold cbrtB cbrtQ; omega
  have hx' : cbrtX W ≤ 4607182418800017408 := by unfold cbrtX cbrtQ; omega
  have j1 := is_rung (k := .f64) (r := cbrtB W) (by show _ < Ieee.double.infRung; omega)
  have v1 : 1 ≤ rungV Ieee.double (cbrtB W) := by rw [← val64.1]; exact rungV_le _ hb.1
  have v2 : rungV Ieee.double (cbrtB W) ≤ 8 := by rw [← val64.2.2]; exact rungV_le _ (by omega)
  obtain ⟨r, ir, r1, r2, _⟩ := newtons_kap j1 v1 v2
  have j3 := is_rung (k := .f64) (r := cbrtX W) (by show _ < Ieee.double.infRung; omega)
  have x0 := rungV_nonneg Ieee.double (cbrtX W)
  have x1 : rungV Ieee.double (cbrtX W) ≤ 1 := by rw [← val64.1]; exact rungV_le _ hx'
  have x2 : rungV Ieee.double (cbrtX W) ≤ 1 / 8 := by
    have hx2 : cbrtX W ≤ 1020 * 4503599627370496 := by unfold cbrtX cbrtQ; omega
    have h2 := rungV_le Ieee.double hx2
    have h3 := rungV_shift Ieee.double (1020 * 4503599627370496) 3 (by omega)
    have e1 : p2 ((3 : Nat) : Int) = 8 := by decide +kernel
    rw [c1, show 1020 * 4503599627370496 + 3 * 4503599627370496 = 4607182418800017408 from rfl, val64.1, e1] at h3
    grind
  have m0 := Rat.mul_nonneg (show 0 ≤ r by grind) x0
  have m1 := Rat.mul_nonneg (show 0 ≤ 5 / 2 - r by grind) x0
  have j3' : Is .f64 (some (cbrtX W)) (rungV Ieee.double (cbrtX W)) := j3
  have e2 : p2 2 = 4 := by decide +kernel
  obtain ⟨g, ig, ng⟩ := is_mul ir j3' (fit64k 2 (by decide) (by rw [e2]; grind) (by rw [e2]; grind))
  have g0 := ng.dn 0 ⟨0, by decide, .inl (rungV_zero _).symm⟩ m0
  have e0 : p2 0 = 1 := p2_zero
  have gt : g ≤ 1 := by
    have h2 := ng.up 1 (by rw [← e0]; exact rep64_p2 0 (by decide) (by decide)) (by grind)
    exact h2
  have p127 : (4 : Rat) ≤ p2 127 := by have := p2_mono (show (2 : Int) ≤ 127 by decide); grind
  obtain ⟨R, iR, nR⟩ := is_conv (d := .f32) (by decide) ig (fit32 (by grind) (by grind))
  refine ⟨R, ?_, nR.dn 0 ⟨0, by decide, .inl (rungV_zero _).symm⟩ g0, ?_⟩
  · unfold cbrt
    simp only [hz, hl, Bool.false_eq_true, if_false]
    rw [ha]
    exact iR
  · exact nR.up 1 (by rw [← e0]; exact rep32_p2 0 (by decide) (by decide)) gt
theorem cbrt_upto {x : Option Nat} {v : Rat} (hx : Is .f32 x v) (h0 : 0 ≤ v) (h1 : v ≤ 8) : ∃ R, Is .f32 (cbrt x) R ∧ 0 ≤ R ∧ R ≤ 21 / 10 ∧ (1 / 1048576 ≤ v → R * R * R ≤ v * (1 + 1 / 2000000) ∧ v * (1 - 1 / 2000000) ≤ R * R * R) ∧ (v ≤ 3 → R ≤ 3 / 2) := by
  by_cases hz : v = 0
  · subst hz
    exact ⟨0, by rw [cbrt_zero hx]; exact zero32, Rat.le_refl, by decide +kernel, fun h => absurd h (by grind), fun _ => by decide +kernel⟩
  · by_cases h2 : 1 / 1048576 ≤ v
    · obtain ⟨R, iR, r0, r4, n1, n2⟩ := cbrt_pos hx h2 (by grind)
      refine ⟨R, iR, by grind, ?_, fun _ => ⟨n1, n2⟩, ?_⟩
      · apply Rat.not_lt.1
        intro h
        have := cube_mono (show (0 : Rat) ≤ 21 / 10 by grind) (Rat.le_of_lt h)
        grind
      · intro h3
        apply Rat.not_lt.1
        intro h
        have := cube_mono (show (0 : Rat) ≤ 3 / 2 by grind) (Rat.le_of_lt h)
        grind
    · obtain ⟨R, iR, r0, r2⟩ := cbrt_tiny hx (by grind) (by grind)
      exact ⟨R, iR, r0, by grind, fun h => absurd h h2, fun _ => by grind⟩

/-! ### Looks -/
theorem c116 : Is .f32 (canon .f32 1122500608) 116 := ⟨_, false, 15204352, -17, rfl, by decide, by decide +kernel⟩
theorem c500 : Is .f32 (canon .f32 1140457472) 500 := ⟨_, false, 16384000, -15, rfl, by decide, by decide +kernel⟩
theorem c200 : Is .f32 (canon .f32 1128792064) 200 := ⟨_, false, 13107200, -16, rfl, by decide, by decide +kernel⟩
theorem up_n (c : Nat) (h : c ≤ 16777216) {v w : Rat} (hr : Rnd Ieee.single v w) (hv : v ≤ (c : Rat)) : w ≤ (c : Rat) := hr.up _ (rep_nat32 c h) hv
theorem dn_n (c : Nat) (h : c ≤ 16777216) {v w : Rat} (hr : Rnd Ieee.single v w) (hv : -(c : Rat) ≤ v) : -(c : Rat) ≤ w := hr.dn _ (rep_nat32 c h).neg hv
theorem up_0 {v w : Rat} (hr : Rnd Ieee.single v w) (hv : 0 ≤ v) : 0 ≤ w := hr.dn 0 ⟨0, by decide, .inl (rungV_zero _).symm⟩ hv
theorem fit_n (c : Nat) (h : c ≤ 16777216) {v : Rat} (h1 : v ≤ (c : Rat)) (h2 : -(c : Rat) ≤ v) : Fit Ieee.single v := (rep_nat32 c h).fit.le h1 (by grind)
/-- A look of moderate size. -/
structure Mod (u : Nat → Option Nat) (U : Nat → Rat) : Prop where
  is : ∀ j, j < 3 → Is .f32 (u j) (U j)
  h0 : U 0 ≤ 160
  l0 : -160 ≤ U 0
  h1 : U 1 ≤ 750
  l1 : -750 ≤ U 1
  h2 : U 2 ≤ 300
  l2 : -300 ≤ U 2
theorem look_mod {f : Nat → Option Nat} {R : Nat → Rat} (hf : ∀ j, j < 3 → Is .f32 (f j) (R j) ∧ 0 ≤ R j ∧ R j ≤ 3 / 2) : ∃ U, Mod (look3 f) U ∧ U 0 ≤ 116 * R 1 - 16 + 4 / 100000 ∧ 116 * R 1 - 16 ≤ U 0 + 4 / 100000 := by
  obtain ⟨f0, a0, b0⟩ := hf 0 (by omega)
  obtain ⟨f1, a1, b1⟩ := hf 1 (by omega)
  obtain ⟨f2, a2, b2⟩ := hf 2 (by omega)
  have n232 : ((174 : Nat) : Rat) = 174 := rfl
  have n216 : ((160 : Nat) : Rat) = 160 := rfl
  have n2 : ((2 : Nat) : Rat) = 2 := rfl
  have n1000 : ((750 : Nat) : Rat) = 750 := rfl
  have n400 : ((300 : Nat) : Rat) = 300 := rfl
  obtain ⟨k8, k8'⟩ := k_8
  obtain ⟨p, ip, rp⟩ := nr_mul 8 k8 k8' (by decide) (by decide) c116 f1 (by grind) (by grind)
  have p1 := up_n 174 (by omega) rp.rnd (by grind)
  have p0 := up_0 rp.rnd (by grind)
  obtain ⟨L, iL, rL⟩ := nr_sub 8 k8 k8' (by decide) (by decide) ip i16 (by grind) (by grind)
  have L1 := up_n 160 (by omega) rL.rnd (by grind)
  have r32 : Rep Ieee.single (3 / 2) := by
    have h := rep_parts 3 (by decide) (by decide) 1 (by decide)
    have e1 : p2 (-((1 : Nat) : Int)) = 1 / 2 := by decide +kernel
    have e3 : ((3 : Int) : Rat) = 3 := rfl
    rw [e1, e3] at h
    have e : (3 : Rat) * (1 / 2) = 3 / 2 := by grind
    rw [e] at h
    exact h
  obtain ⟨d, id, rd⟩ := is_sub f0 f1 (fit_n 2 (by omega) (by grind) (by grind))
  have d1 := rd.up _ r32 (by grind)
  have d2 := rd.dn _ r32.neg (by grind)
  obtain ⟨A, iA, rA⟩ := is_mul c500 id (fit_n 750 (by omega) (by grind) (by grind))
  have A1 := up_n 750 (by omega) rA (by grind)
  have A2 := dn_n 750 (by omega) rA (by grind)
  obtain ⟨e, ie, re⟩ := is_sub f1 f2 (fit_n 2 (by omega) (by grind) (by grind))
  have e1 := re.up _ r32 (by grind)
  have e2 := re.dn _ r32.neg (by grind)
  obtain ⟨B, iB, rB⟩ := is_mul c200 ie (fit_n 300 (by omega) (by grind) (by grind))
  have B1 := up_n 300 (by omega) rB (by grind)
  have B2 := dn_n 300 (by omega) rB (by grind)
  have q1 := rp.hi
  have q2 := rp.lo
  have q3 := rL.hi
  have q4 := rL.lo
  refine ⟨fun j => if j = 0 then L else if j = 1 then A else B, ⟨fun j hj => ?_, ?_, ?_, ?_, ?_, ?_, ?_⟩, ?_, ?_⟩
  · have : j = 0 ∨ j = 1 ∨ j = 2 := by omega
    rcases this with rfl | rfl | rfl
    · exact iL
    · exact iA
    · exact iB
  all_goals (simp; grind)
end Go.Proofs.Ytmikeegecifbfaa

namespace Go.Proofs.Ytmikeegecifbfaa
open Go.RowKit
set_option maxRecDepth 100000

theorem sq_nonneg (a : Rat) : 0 ≤ a * a := by
  rcases Rat.le_total (a := 0) (b := a) with h | h
  · exact Rat.mul_nonneg h h
  · have := Rat.mul_nonneg (show 0 ≤ -a by grind) (show 0 ≤ -a by grind); grind
theorem sq_le {a b : Rat} (h1 : a ≤ b) (h2 : -b ≤ a) : a * a ≤ b * b := by
  have := Rat.mul_nonneg (show 0 ≤ b - a by grind) (show 0 ≤ b + a by grind); grind
theorem le_of_sq {a b : Rat} (hb : 0 ≤ b) (h : a * a ≤ b * b) : a ≤ b := by
  apply Rat.not_lt.1
  intro hlt
  have m1 := Rat.mul_pos (show 0 < a - b by grind) (show 0 < a by grind)
  have m2 := Rat.mul_nonneg (show 0 ≤ a - b by grind) hb
  grind
/-- A root: what is below it and what is above it. -/
theorem root_near {v w : Rat} (h : Rt Ieee.double v w) : (v ≤ (w + w * p2 (-52) + p2 (-1074)) * (w + w * p2 (-52) + p2 (-1074)) ∨ ¬ w ≤ p2 1000) ∧ (w = 0 ∨ ∃ c, 0 ≤ c ∧ c * c ≤ v ∧ w ≤ c + c * p2 (-52) + p2 (-1074)) := by
  obtain ⟨c1, c2, c3, c4, c5⟩ := e64
  obtain ⟨r, hr, hv⟩ := h.rep
  have hp := h.pos
  have h0 := rungV_nonneg Ieee.double r
  have hv' : w = rungV Ieee.double r := by rcases hv with h | h; exact h; grind
  constructor
  · by_cases hb : w ≤ p2 1000
    · left
      have hr1 : r + 1 < Ieee.double.infRung := by
        apply Nat.lt_of_not_le
        intro hle
        have h1 := rungV_le Ieee.double (show 2045 * 4503599627370496 + 4503599627370496 ≤ r by omega)
        have h2 := rungV_form Ieee.double 2045 4503599627370496 (.inr (by omega)) (by omega)
        rw [c1, c4] at h2
        have e : ((4503599627370496 : Nat) : Rat) * p2 (-1074 + ((2045 : Nat) : Int)) = p2 1023 := by
          rw [show (4503599627370496 : Nat) = 2 ^ 52 from rfl, ← p2_nat, ← p2_add]; rfl
        rw [e] at h2
        have h3 := p2_mono (show (1001 : Int) ≤ 1023 by decide)
        have h4 := p2_succ 1000
        rw [show (1000 : Int) + 1 = 1001 by decide] at h4
        have h5 := p2_pos 1000
        grind
      have hg := rungV_gap Ieee.double r
      rw [c4, c5, ← hv'] at hg
      have hlt := rungV_lt Ieee.double (show r < r + 1 by omega)
      rw [← hv'] at hlt
      have hn : ¬ rungV Ieee.double (r + 1) * rungV Ieee.double (r + 1) ≤ v := by
        intro hle
        have := h.dn _ ⟨r + 1, hr1, .inl rfl⟩ (rungV_nonneg _ _) hle
        grind
      have e52 : p2 (-((52 : Nat) : Int)) = p2 (-52) := rfl
      rw [e52] at hg
      have h6 := sq_le hg (by have := rungV_nonneg Ieee.double (r + 1); have := Rat.mul_nonneg hp (Rat.le_of_lt (p2_pos (-52))); have := p2_pos (-1074); grind)
      grind
    · exact .inr hb
  · by_cases hz : r = 0
    · left; rw [hv', hz, rungV_zero]
    · right
      obtain ⟨k, hk⟩ : ∃ k, r = k + 1 := ⟨r - 1, by omega⟩
      subst hk
      have hg := rungV_gap Ieee.double k
      rw [c4, c5, ← hv'] at hg
      have hlt := rungV_lt Ieee.double (show k < k + 1 by omega)
      rw [← hv'] at hlt
      refine ⟨rungV Ieee.double k, rungV_nonneg _ _, ?_, hg⟩
      apply Rat.not_lt.1
      intro hlt2
      have := h.up _ ⟨k, by omega, .inl rfl⟩ (rungV_nonneg _ _) (Rat.le_of_lt hlt2)
      grind
theorem small64 : p2 (-52) ≤ 1 / 4000000000000000 ∧ p2 (-1074) ≤ 1 / 1000000000000000000 := by
  constructor
  · decide +kernel
  · have := p2_mono (show (-1074 : Int) ≤ -60 by decide)
    have e : p2 (-60) ≤ 1 / 1000000000000000000 := by decide +kernel
    grind
/-- A root of a float32. -/
theorem froot_is {x : Option Nat} {v : Rat} (hx : Is .f32 x v) (h0 : 0 ≤ v) (h1 : v ≤ 16777216) : ∃ w R, Is .f32 (froot x) R ∧ Rt Ieee.double v w ∧ Rnd Ieee.single w R ∧ 0 ≤ w ∧ w ≤ 4096 := by
  have h2 := is_widen hx
  obtain ⟨w, iw, rw'⟩ := is_root h2 h0
  have e12 : p2 12 = 4096 := by decide +kernel
  have hw : w ≤ 4096 := rw'.up _ (by rw [← e12]; exact rep64_p2 12 (by decide) (by decide)) (by decide) (by grind)
  have p127 : (4096 : Rat) ≤ p2 127 := by have := p2_mono (show (12 : Int) ≤ 127 by decide); grind
  have hp := rw'.pos
  obtain ⟨R, iR, rR⟩ := is_conv (d := .f32) (by decide) iw (fit32 (by grind) (by grind))
  exact ⟨w, R, iR, rw', rR, hp, hw⟩
theorem froot_zero {x : Option Nat} (hx : Is .f32 x 0) : Is .f32 (froot x) 0 := by
  obtain ⟨w, R, iR, h, rR, w0, _⟩ := froot_is hx (by grind) (by grind)
  have : w ≤ 0 := h.up 0 ⟨0, by decide, .inl (rungV_zero _).symm⟩ (by grind) (by grind)
  have : w = 0 := by grind
  subst this
  have := rR.of_rep ⟨0, by decide, .inl (rungV_zero _).symm⟩
  rw [this] at iR
  exact iR
/-- Of two numbers that are near, the roots are near. -/
theorem froot_close {x y : Option Nat} {P Q : Rat} (hx : Is .f32 x P) (hy : Is .f32 y Q) (P0 : 0 ≤ P) (P1 : P ≤ 4000000) (Q0 : 0 ≤ Q) (Q1 : Q ≤ 4000000) (h : P ≤ Q * (1 + 5 / 10000000) + 1 / 1000000000) : ∃ R S, Is .f32 (froot x) R ∧ Is .f32 (froot y) S ∧ R ≤ S + 95 / 100000 ∧ 0 ≤ R ∧ 0 ≤ S ∧ R ≤ 2001 ∧ S ≤ 2001 := by
  obtain ⟨w, R, iR, hw, rR, w0, _⟩ := froot_is hx P0 (by grind)
  obtain ⟨z, S, iS, hz, rS, z0, _⟩ := froot_is hy Q0 (by grind)
  obtain ⟨t1, t2⟩ := small64
  have u1 := p2_pos (-52)
  have u2 := p2_pos (-1074)
  have n2000 : ((2000 : Nat) : Rat) = 2000 := rfl
  have r2000 : Rep Ieee.double (2000 : Rat) := rep_nat 2000 (by omega)
  have w1 : w ≤ 2000 := hw.up _ r2000 (by grind) (by grind)
  have z1 : z ≤ 2000 := hz.up _ r2000 (by grind) (by grind)
  -- Q is below the square of what is a little more than z
  obtain ⟨a1, _⟩ := root_near hz
  have p1000 : (4096 : Rat) ≤ p2 1000 := by have := p2_mono (show (12 : Int) ≤ 1000 by decide); have e12 : p2 12 = 4096 := (by decide +kernel); grind
  have a2 : Q ≤ (z + z * p2 (-52) + p2 (-1074)) * (z + z * p2 (-52) + p2 (-1074)) := by
    rcases a1 with a1 | a1
    · exact a1
    · exact absurd (show z ≤ p2 1000 by grind) a1
  obtain ⟨A, hA⟩ : ∃ A, A = z + z * p2 (-52) + p2 (-1074) := ⟨_, rfl⟩
  rw [← hA] at a2
  have m1 := Rat.mul_nonneg z0 (show 0 ≤ 1 / 4000000000000000 - p2 (-52) by grind)
  have m2 := Rat.mul_nonneg z0 (Rat.le_of_lt u1)
  have A0 : 0 ≤ A := by grind
  have A1 : A ≤ z + 1 / 100000000000 := by grind
  have hwz : w ≤ z + 70 / 100000 := by
    obtain ⟨_, b1⟩ := root_near hw
    rcases b1 with b1 | ⟨c, c0, c1, c2⟩
    · grind
    · have c3 : c ≤ A * (1 + 25 / 100000000) + 4 / 100000 := by
        apply le_of_sq (by grind)
        have := Rat.mul_nonneg A0 A0
        grind
      have m3 := Rat.mul_nonneg c0 (show 0 ≤ 1 / 4000000000000000 - p2 (-52) by grind)
      grind
  have e11 : p2 11 = 2048 := by decide +kernel
  have e11' : p2 (11 - 24) = 1 / 8192 := by decide +kernel
  have g1 := rR.gap 11 (by decide) (by decide) (by rw [e11]; grind) (by rw [e11]; grind)
  have g2 := rS.gap 11 (by decide) (by decide) (by rw [e11]; grind) (by rw [e11]; grind)
  rw [e11'] at g1 g2
  exact ⟨R, S, iR, iS, by grind, up_0 rR w0, up_0 rS z0, by grind, by grind⟩
/-- Squares of differences are the same both ways. -/
theorem write_sign (f : Ieee.Format) (m : Nat) (p : Int) : ∃ r, ∀ s, f.write (.number s m p) = f.word s r := by
  obtain ⟨r, _, h⟩ := nearest_sign f m p
  exact ⟨r, h⟩
theorem sqd_comm {x y : Option Nat} {u v : Rat} (hx : Is .f32 x u) (hy : Is .f32 y v) (hf : Fit Ieee.single (u - v)) : sqd x y = sqd y x := by
  obtain ⟨w, iw, _⟩ := is_sub hx hy hf
  obtain ⟨a, s, m, i, rfl, hd, _⟩ := hx
  obtain ⟨b, t, n, j, rfl, hd', _⟩ := hy
  have h1 : fsub (some a) (some b) = Option.map FloatKind.f32.format.write ((FloatKind.f32.decode a).sum (FloatKind.f32.decode b).opposite) := rfl
  have h2 : fsub (some b) (some a) = Option.map FloatKind.f32.format.write ((FloatKind.f32.decode b).sum (FloatKind.f32.decode a).opposite) := rfl
  rw [hd, hd'] at h1 h2
  simp only [Ieee.Datum.opposite, Ieee.Datum.sum] at h1 h2
  rw [Int.min_comm j i] at h2
  obtain ⟨T, hT⟩ : ∃ T, T = Ieee.signed s m (i - min i j).toNat + Ieee.signed (!t) n (j - min i j).toNat := ⟨_, rfl⟩
  have hT2 : Ieee.signed t n (j - min i j).toNat + Ieee.signed (!s) m (i - min i j).toNat = -T := by
    rw [hT]
    unfold Ieee.signed
    cases s <;> cases t <;> simp <;> omega
  rw [hT2] at h2
  rw [← hT] at h1
  rw [Int.natAbs_neg] at h2
  obtain ⟨r, hr⟩ := write_sign FloatKind.f32.format T.natAbs (min i j)
  rw [Option.map_some, hr] at h1 h2
  have key : ∀ s', fsub (some a) (some b) = some (FloatKind.f32.format.word s' r) → r < FloatKind.f32.format.infRung := by
    intro s' hs'
    have iw' : Is .f32 (some (FloatKind.f32.format.word s' r)) w := by rw [← hs']; exact iw
    obtain ⟨c, s2, m2, e2, hc, hd2, _⟩ := iw'
    injection hc with hc
    subst hc
    obtain ⟨h3, _⟩ := fin_read FloatKind.f32.format (binade_le .f32) hd2
    apply Nat.lt_of_not_le
    intro hle
    obtain ⟨r', hr', he'⟩ := nearest_sign FloatKind.f32.format T.natAbs (min i j)
    have := (he' s').symm.trans (hr s')
    have h4 : r' = r := by
      have hi := FloatKind.f32.format.infRung_lt
      have q1 := word_parts FloatKind.f32.format s' (show r' < _ by omega)
      rw [this] at q1
      unfold Ieee.Format.word at this
      split at this <;> omega
    have hi := FloatKind.f32.format.infRung_lt
    rw [(word_parts FloatKind.f32.format s' (show r < _ by omega)).1] at h3
    omega
  have hlt := key _ h1
  have sq : ∀ s', fmul (some (FloatKind.f32.format.word s' r)) (some (FloatKind.f32.format.word s' r)) = fmul (some (FloatKind.f32.format.word false r)) (some (FloatKind.f32.format.word false r)) := by
    intro s'
    have dec : ∀ q, ∃ m' e', FloatKind.f32.decode (FloatKind.f32.format.word q r) = .number q m' e' ∧ ∃ m0 e0, m' = m0 ∧ e' = e0 := by
      intro q
      have hi := FloatKind.f32.format.infRung_lt
      obtain ⟨p1, p2'⟩ := word_parts FloatKind.f32.format q (show r < _ by omega)
      obtain ⟨m', e', h3, _⟩ := read_fin FloatKind.f32.format (FloatKind.f32.format.word q r) (by rw [p1]; exact hlt)
      rw [p2'] at h3
      exact ⟨m', e', h3, m', e', rfl, rfl⟩
    have same : ∀ q m1 e1 m2 e2, FloatKind.f32.decode (FloatKind.f32.format.word q r) = .number q m1 e1 → FloatKind.f32.decode (FloatKind.f32.format.word false r) = .number false m2 e2 → m1 = m2 ∧ e1 = e2 := by
      intro q m1 e1 m2 e2 g1 g2
      have hi := FloatKind.f32.format.infRung_lt
      have p1 := (word_parts FloatKind.f32.format q (show r < _ by omega)).1
      have p3 := (word_parts FloatKind.f32.format false (show r < _ by omega)).1
      have g1' : FloatKind.f32.format.read _ = _ := g1
      have g2' : FloatKind.f32.format.read _ = _ := g2
      unfold Ieee.Format.read at g1' g2'
      dsimp only at g1' g2'
      rw [p1] at g1'
      rw [p3] at g2'
      by_cases hb : r < FloatKind.f32.format.binade
      · rw [if_pos hb] at g1' g2'
        injection g1' with _ a1 a2
        injection g2' with _ b1 b2
        exact ⟨a1.symm.trans b1, a2.symm.trans b2⟩
      · rw [if_neg hb, if_pos hlt] at g1' g2'
        injection g1' with _ a1 a2
        injection g2' with _ b1 b2
        exact ⟨a1.symm.trans b1, a2.symm.trans b2⟩
    obtain ⟨m1, e1, d1, _⟩ := dec s'
    obtain ⟨m2, e2, d2, _⟩ := dec false
    obtain ⟨g1, g2⟩ := same s' m1 e1 m2 e2 d1 d2
    subst g1; subst g2
    have f1 : ∀ q, FloatKind.f32.decode (FloatKind.f32.format.word q r) = .number q m1 e1 → fmul (some (FloatKind.f32.format.word q r)) (some (FloatKind.f32.format.word q r)) = some (FloatKind.f32.format.write (.number false (m1 * m1) (e1 + e1))) := by
      intro q hq
      show Option.map FloatKind.f32.format.write ((FloatKind.f32.decode _).product (FloatKind.f32.decode _)) = _
      rw [hq]
      simp only [Ieee.Datum.product]
      cases q <;> rfl
    rw [f1 s' d1, f1 false d2]
  unfold sqd
  rw [h1, h2]
  exact (sq _).trans (sq _).symm
end Go.Proofs.Ytmikeegecifbfaa

namespace Go.Proofs.Ytmikeegecifbfaa
open Go.RowKit
set_option maxRecDepth 100000

theorem sqd_is {x y : Option Nat} {u v : Rat} (c d : Nat) (hc : c ≤ 16777216) (hd : d ≤ 16777216) (hcd : c * c ≤ d) (hx : Is .f32 x u) (hy : Is .f32 y v) (h1 : u - v ≤ (c : Rat)) (h2 : -(c : Rat) ≤ u - v) :
    ∃ S, Is .f32 (sqd x y) S ∧ 0 ≤ S ∧ S ≤ (d : Rat) ∧ sqd x y = sqd y x := by
  obtain ⟨e, ie, re⟩ := is_sub hx hy (fit_n c hc h1 h2)
  have e1 := up_n c hc re h1
  have e2 := dn_n c hc re h2
  have q := sq_le e1 e2
  have q0 := sq_nonneg e
  have hcd' : (c : Rat) * (c : Rat) ≤ (d : Rat) := by have := cast_le hcd; rw [Rat.natCast_mul] at this; exact this
  have d0 : (0 : Rat) ≤ (d : Rat) := Rat.natCast_nonneg
  obtain ⟨S, iS, rS⟩ := is_mul ie ie (fit_n d hd (by grind) (by grind))
  exact ⟨S, iS, up_0 rS q0, up_n d hd rS (by grind), sqd_comm hx hy (fit_n c hc h1 h2)⟩
def mV : Rat := 8589935 * p2 (-33)
theorem milli : Is .f32 (canon .f32 981668463) mV := ⟨_, false, 8589935, -33, rfl, by decide, by decide +kernel⟩
theorem mV_near : 999999 / 1000000000 ≤ mV ∧ mV ≤ 1000001 / 1000000000 := by decide +kernel
theorem centi : Is .f32 (canon .f32 1008981770) (10737418 * p2 (-30)) := ⟨_, false, 10737418, -30, rfl, by decide, by decide +kernel⟩
theorem centi_near : (0 : Rat) ≤ 10737418 * p2 (-30) ∧ 10737418 * p2 (-30) ≤ 1 / 50 := by decide +kernel
theorem tint_is {u : Nat → Option Nat} {U : Nat → Rat} (hu : Mod u U) : ∃ a A, Is .f32 (tint u) a ∧ 1 ≤ a ∧ a ≤ 64 ∧ Is .f32 (fmul (tint u) (tint u)) A ∧ 1 ≤ A ∧ A ≤ 4096 := by
  have i1' := hu.is 1 (by omega)
  have i2' := hu.is 2 (by omega)
  have a1 := hu.h1
  have a2 := hu.l1
  have a3 := hu.h2
  have a4 := hu.l2
  have q1 := sq_le a1 (by grind)
  have q2 := sq_le a3 (by grind)
  have n1 := sq_nonneg (U 1)
  have n2 := sq_nonneg (U 2)
  have c1 : ((562500 : Nat) : Rat) = 562500 := rfl
  have c2 : ((90000 : Nat) : Rat) = 90000 := rfl
  have c3 : ((652500 : Nat) : Rat) = 652500 := rfl
  have c4 : ((4096 : Nat) : Rat) = 4096 := rfl
  have c5 : ((63 : Nat) : Rat) = 63 := rfl
  have c6 : ((64 : Nat) : Rat) = 64 := rfl
  have c7 : ((1 : Nat) : Rat) = 1 := rfl
  obtain ⟨s, is, rs⟩ := is_mul i1' i1' (fit_n 562500 (by omega) (by grind) (by grind))
  have s0 := up_0 rs n1
  have s1 := up_n 562500 (by omega) rs (by grind)
  obtain ⟨t, it, rt⟩ := is_mul i2' i2' (fit_n 90000 (by omega) (by grind) (by grind))
  have t0 := up_0 rt n2
  have t1 := up_n 90000 (by omega) rt (by grind)
  obtain ⟨p, ip, rp⟩ := is_add is it (fit_n 652500 (by omega) (by grind) (by grind))
  have p0 := up_0 rp (by grind)
  have p1 := up_n 652500 (by omega) rp (by grind)
  obtain ⟨w, R, iR, hw, rR, w0, _⟩ := froot_is ip p0 (by grind)
  have r1000 : Rep Ieee.double (1000 : Rat) := rep_nat 1000 (by omega)
  have w1 : w ≤ 1000 := hw.up _ r1000 (by grind) (by grind)
  have n1000 : ((1000 : Nat) : Rat) = 1000 := rfl
  have R0 := up_0 rR w0
  have R1 := up_n 1000 (by omega) rR (by grind)
  obtain ⟨d1, d2⟩ := centi_near
  have m0 := Rat.mul_nonneg d1 R0
  have m1 := Rat.mul_nonneg (show 0 ≤ 1 / 50 - 10737418 * p2 (-30) by grind) R0
  obtain ⟨q, iq, rq⟩ := is_mul centi iR (fit_n 63 (by omega) (by grind) (by grind))
  have q0 := up_0 rq m0
  have q3 := up_n 63 (by omega) rq (by grind)
  obtain ⟨a, ia, ra⟩ := is_add i1 iq (fit_n 64 (by omega) (by grind) (by grind))
  have a5 := up_n 64 (by omega) ra (by grind)
  have a6 : 1 ≤ a := by
    have := ra.dn _ (rep_nat32 1 (by omega)) (by rw [c7]; grind)
    rw [c7] at this; exact this
  have b0 : 1 ≤ a * a := by have := Rat.mul_nonneg (show 0 ≤ a - 1 by grind) (show 0 ≤ a + 1 by grind); grind
  have b1 : a * a ≤ 4096 := by have := Rat.mul_nonneg (show 0 ≤ 64 - a by grind) (show 0 ≤ a + 64 by grind); grind
  obtain ⟨A, iA, rA⟩ := is_mul ia ia (fit_n 4096 (by omega) (by grind) (by grind))
  have A1 := up_n 4096 (by omega) rA (by grind)
  have A0 : 1 ≤ A := by
    have := rA.dn _ (rep_nat32 1 (by omega)) (by rw [c7]; grind)
    rw [c7] at this; exact this
  exact ⟨a, A, ia, a6, by grind, iA, A0, by grind⟩
theorem dist_mod {u v : Nat → Option Nat} {U V : Nat → Rat} (hu : Mod u U) (hv : Mod v V) :
    ∃ P Q, Is .f32 (diffOf u v) P ∧ Is .f32 (distOf u v) Q ∧ P ≤ Q + 95 / 100000 ∧ 0 ≤ Q ∧ Q ≤ 2001 ∧ distOf u v = distOf v u := by
  have c320 : ((320 : Nat) : Rat) = 320 := rfl
  have c1500 : ((1500 : Nat) : Rat) = 1500 := rfl
  have c600 : ((600 : Nat) : Rat) = 600 := rfl
  have d0 : ((102400 : Nat) : Rat) = 102400 := rfl
  have d1 : ((2250000 : Nat) : Rat) = 2250000 := rfl
  have d2 : ((360000 : Nat) : Rat) = 360000 := rfl
  have d3 : ((4000000 : Nat) : Rat) = 4000000 := rfl
  have u0 := hu.h0
  have u1 := hu.l0
  have u2 := hu.h1
  have u3 := hu.l1
  have u4 := hu.h2
  have u5 := hu.l2
  have v0 := hv.h0
  have v1 := hv.l0
  have v2 := hv.h1
  have v3 := hv.l1
  have v4 := hv.h2
  have v5 := hv.l2
  obtain ⟨S0, i0, p0, q0, e0⟩ := sqd_is 320 102400 (by omega) (by omega) (by omega) (hu.is 0 (by omega)) (hv.is 0 (by omega)) (by grind) (by grind)
  obtain ⟨S1, i1', p1, q1, e1⟩ := sqd_is 1500 2250000 (by omega) (by omega) (by omega) (hu.is 1 (by omega)) (hv.is 1 (by omega)) (by grind) (by grind)
  obtain ⟨S2, i2', p2', q2, e2⟩ := sqd_is 600 360000 (by omega) (by omega) (by omega) (hu.is 2 (by omega)) (hv.is 2 (by omega)) (by grind) (by grind)
  have sym : distOf u v = distOf v u := by unfold distOf; rw [e0, e1, e2]
  have p127 : (4000000 : Rat) ≤ p2 127 := by have := p2_mono (show (22 : Int) ≤ 127 by decide); have e22 : p2 22 = 4194304 := (by decide +kernel); grind
  have tiny : p2 (-149) ≤ 1 / 1000000000000000 := by decide +kernel
  -- the distance
  obtain ⟨t, it, rt⟩ := is_add i0 i1' (fit_n 4000000 (by omega) (by grind) (by grind))
  have t0 := up_0 rt (by grind)
  have t1 := rt.rel (by grind) (by grind)
  obtain ⟨Q, iQ, rQ⟩ := is_add it i2' (fit_n 4000000 (by omega) (by grind) (by grind))
  have Q0 := up_0 rQ (by grind)
  have Q1 := rQ.rel (by grind) (by grind)
  -- the difference
  obtain ⟨c, ic, rc⟩ := is_add i1' i2' (fit_n 4000000 (by omega) (by grind) (by grind))
  have c0 := up_0 rc (by grind)
  have c1 := rc.rel (by grind) (by grind)
  obtain ⟨a, A, ia, _, _, iA, A1, _⟩ := tint_is hu
  obtain ⟨q, hq⟩ := quot_mk c (show A ≠ 0 by grind)
  have hqe : c / A = q := by rw [← hq, Rat.mul_div_cancel (by grind)]
  have qq0 : 0 ≤ q := quot_ge hq (by grind) (by grind)
  have qq1 : q ≤ c := quot_le hq (by grind) (by have := Rat.mul_nonneg c0 (show 0 ≤ A - 1 by grind); grind)
  obtain ⟨e, ie, re⟩ := is_div ic iA (by grind) (by rw [hqe]; exact fit_n 4000000 (by omega) (by grind) (by grind))
  rw [hqe] at re
  have ee0 := up_0 re qq0
  have ee1 := re.up c ic.rep qq1
  obtain ⟨P, iP, rP⟩ := is_add i0 ie (fit_n 4000000 (by omega) (by grind) (by grind))
  have P0 := up_0 rP (by grind)
  have P1 := rP.rel (by grind) (by grind)
  obtain ⟨R, S, iR, iS, h1, h2, h3, h4, h5⟩ := froot_close iP iQ P0 (by grind) Q0 (by grind) (by grind)
  exact ⟨R, S, iR, iS, h1, h3, h5, sym⟩
theorem diff_self {u : Nat → Option Nat} {U : Nat → Rat} (hu : Mod u U) : Is .f32 (diffOf u u) 0 := by
  have z : Rep Ieee.single 0 := ⟨0, by decide, .inl (rungV_zero _).symm⟩
  have key : ∀ j, j < 3 → Is .f32 (sqd (u j) (u j)) 0 := by
    intro j hj
    have h := hu.is j hj
    have e : U j - U j = 0 := by grind
    obtain ⟨d, id, rd⟩ := is_sub h h (by rw [e]; exact z.fit)
    rw [e] at rd
    rw [rd.of_rep z] at id
    have e2 : (0 : Rat) * 0 = 0 := by grind
    obtain ⟨s, is, rs⟩ := is_mul id id (by rw [e2]; exact z.fit)
    rw [e2] at rs
    rw [rs.of_rep z] at is
    exact is
  have add0 : ∀ {x y : Option Nat}, Is .f32 x 0 → Is .f32 y 0 → Is .f32 (fadd x y) 0 := by
    intro x y hx hy
    have e2 : (0 : Rat) + 0 = 0 := by grind
    obtain ⟨s, is, rs⟩ := is_add hx hy (by rw [e2]; exact z.fit)
    rw [e2] at rs
    rw [rs.of_rep z] at is
    exact is
  obtain ⟨a, A, ia, _, _, iA, A1, _⟩ := tint_is hu
  have hc := add0 (key 1 (by omega)) (key 2 (by omega))
  have e3 : 0 / A = 0 := by rw [Rat.div_def]; grind
  obtain ⟨s, is, rs⟩ := is_div hc iA (by grind) (by rw [e3]; exact z.fit)
  rw [e3] at rs
  rw [rs.of_rep z] at is
  exact froot_zero (add0 (key 0 (by omega)) is)
/-! ### What is seen of small curves, of greys, of sums -/
theorem seen_fin {x : Option Nat} {n : Int} (h1 : -16 ≤ n) (h2 : n ≤ 16) (hx : Is .f32 x ((n : Rat) * (1 / 16))) {c : Nat → Option Nat} {C : Nat → Rat} (hc : Six c C) : seenRes (fun i => lightAt x i) c = (seenAt (fun i => lightAt x i) c, 0) := by
  obtain ⟨w1, w2⟩ := exW_all h1 h2
  unfold seenRes
  rw [if_pos]
  refine allTo_true fun k hk => ?_
  obtain ⟨r, hr⟩ := quot_mk (exS n C k) (show exW n ≠ 0 by grind)
  obtain ⟨s, is, _⟩ := seen_near h1 h2 hx hc hk hr
  exact fin_is.2 ⟨s, is⟩
theorem exS_le {n : Int} (h1 : -16 ≤ n) (h2 : n ≤ 16) {x : Option Nat} (hx : Is .f32 x ((n : Rat) * (1 / 16))) {C : Nat → Rat} (hC : ∀ i, i < 16 → 0 ≤ C i ∧ C i ≤ 1) {k : Nat} (hk : k < 3) : exS n C k ≤ 11 := by
  have hT := exT_all h1 h2 hk
  have := rsum_le (p := fun i => oV (k * 16 + i) * (lightV n i * C i)) (q := fun i => oV (k * 16 + i) * lightV n i) 16 fun i hi => by
    obtain ⟨_, o1, o2⟩ := obs_fin (k * 16 + i) (by omega)
    obtain ⟨_, l1, l2⟩ := light_is h1 h2 hx hi
    obtain ⟨c0, c1⟩ := hC i hi
    have m0 := Rat.mul_nonneg (show 0 ≤ oV (k * 16 + i) by grind) (show 0 ≤ lightV n i by grind)
    have m1 := Rat.mul_nonneg m0 (show 0 ≤ 1 - C i by grind)
    grind
  unfold exS
  grind
theorem seen_le {x : Option Nat} {n : Int} (h1 : -16 ≤ n) (h2 : n ≤ 16) (hx : Is .f32 x ((n : Rat) * (1 / 16))) {c : Nat → Option Nat} {C : Nat → Rat} (hc : Six c C) (hC : ∀ i, i < 16 → C i ≤ 1) {k : Nat} (hk : k < 3) : ∃ s, Is .f32 (seenAt (fun i => lightAt x i) c k) s ∧ 0 ≤ s ∧ s ≤ 3 := by
  obtain ⟨w1, w2⟩ := exW_all h1 h2
  obtain ⟨r, hr⟩ := quot_mk (exS n C k) (show exW n ≠ 0 by grind)
  obtain ⟨s, is, s0, s1, s2, r0, _⟩ := seen_near h1 h2 hx hc hk hr
  have hE := exS_le h1 h2 hx (fun i hi => ⟨(hc.range hi).1, hC i hi⟩) hk
  have r1 : r ≤ 11 / 4 := quot_le hr (by grind) (by grind)
  exact ⟨s, is, s0, by grind⟩
/-- The sum of what is seen. -/
theorem seen_sum {x : Option Nat} {n : Int} (h1 : -16 ≤ n) (h2 : n ≤ 16) (hx : Is .f32 x ((n : Rat) * (1 / 16))) {c d e : Nat → Option Nat} {C D : Nat → Rat} (hc : Six c C) (hd : Six d D) (he : Six e fun i => C i + D i) {k : Nat} (hk : k < 3) :
    near (seenAt (fun i => lightAt x i) e k) (fadd (seenAt (fun i => lightAt x i) c k) (seenAt (fun i => lightAt x i) d k)) (canon .f32 953267991) = true ∧ (fadd (seenAt (fun i => lightAt x i) c k) (seenAt (fun i => lightAt x i) d k)).isSome = true := by
  obtain ⟨w1, w2⟩ := exW_all h1 h2
  obtain ⟨r, hr⟩ := quot_mk (exS n C k) (show exW n ≠ 0 by grind)
  obtain ⟨t, ht⟩ := quot_mk (exS n D k) (show exW n ≠ 0 by grind)
  have hs : (r + t) * exW n = exS n (fun i => C i + D i) k := by
    rw [Rat.add_mul, hr, ht]
    unfold exS
    rw [← rsum_add]
    exact rsum_eq 16 fun i _ => by grind
  obtain ⟨a, ia, a0, a1, a2, r0, _⟩ := seen_near h1 h2 hx hc hk hr
  obtain ⟨b, ib, b0, b1, b2, t0, _⟩ := seen_near h1 h2 hx hd hk ht
  obtain ⟨s, is, s0, s1, s2, _, r6⟩ := seen_near h1 h2 hx he hk hs
  obtain ⟨k3, k3'⟩ := k_3
  obtain ⟨w, iw, rw'⟩ := nr_add 3 k3 k3' (by decide) (by decide) ia ib (by grind) (by grind)
  have g1 := rw'.hi
  have g2 := rw'.lo
  obtain ⟨f1, f2⟩ := e4_near
  exact ⟨near_of is iw ie4 (by grind) (by grind), iw.some⟩
/-- A grey. -/
theorem grey_six {c : Nat → Option Nat} {g : Rat} (hc : ∀ i, i < 16 → Is .f32 (c i) g) {m : Nat} (hm : m ≤ 64) (hg : g = (m : Rat) * (1 / 64)) : Six c fun _ => g := fun i hi => ⟨hc i hi, m, by omega, hg⟩
theorem grey_seen {x : Option Nat} {n : Int} (h1 : -16 ≤ n) (h2 : n ≤ 16) (hx : Is .f32 x ((n : Rat) * (1 / 16))) {c : Nat → Option Nat} {g : Rat} (hc : ∀ i, i < 16 → Is .f32 (c i) g) {m : Nat} (hm : m ≤ 64) (hg : g = (m : Rat) * (1 / 64)) : ∃ s, Is .f32 (seenAt (fun i => lightAt x i) c 1) s ∧ (m = 0 → s = 0) ∧ s ≤ g + g * (5 / 1000000) + 1 / 1000000000000000000000000000 ∧ g ≤ s + g * (5 / 1000000) + 1 / 1000000000000000000000000000 := by
  have h6 := grey_six hc hm hg
  have hr : g * exW n = exS n (fun _ => g) 1 := by
    have := rsum_scale (fun i => oV (16 + i) * lightV n i) g 16
    unfold exS exW
    rw [Rat.mul_comm, ← this]
    exact rsum_eq 16 fun i _ => by grind
  obtain ⟨s, is, s0, s1, s2, _, _⟩ := seen_near h1 h2 hx h6 (by omega) hr
  refine ⟨s, is, fun h0 => ?_, s1, s2⟩
  subst h0
  have e0 : ((0 : Nat) : Rat) = 0 := rfl
  have g0 : g = 0 := by rw [hg, e0]; grind
  subst g0
  -- all terms are 0
  have z : Rep Ieee.single 0 := ⟨0, by decide, .inl (rungV_zero _).symm⟩
  have term : ∀ i, i < 16 → Is .f32 (fmul (obsAt (1 * 16 + i)) (fmul (lightAt x i) (c i))) 0 := by
    intro i hi
    have hb := both_is h1 h2 hx h6 hi
    have e1 : lightV n i * 0 = 0 := by grind
    have hb' : Is .f32 (fmul (lightAt x i) (c i)) 0 := by rw [← e1]; exact hb
    have e2 : oV (1 * 16 + i) * 0 = 0 := by grind
    obtain ⟨w, iw, rw'⟩ := is_mul (obs_is' (i := 1 * 16 + i) (by omega)) hb' (by rw [e2]; exact z.fit)
    rw [e2] at rw'
    rw [rw'.of_rep z] at iw
    exact iw
  have sum : ∀ k, k < 16 → Is .f32 (fsumTo (fun i => fmul (obsAt (1 * 16 + i)) (fmul (lightAt x i) (c i))) (k + 1)) 0 := by
    intro k
    induction k with
    | zero => intro h; exact term 0 (by omega)
    | succ k ih =>
      intro h
      have e2 : (0 : Rat) + 0 = 0 := by grind
      obtain ⟨w, iw, rw'⟩ := is_add (ih (by omega)) (term (k + 1) h) (by rw [e2]; exact z.fit)
      rw [e2] at rw'
      rw [rw'.of_rep z] at iw
      exact iw
  have hD : Is .f32 (dotOf (fun i => obsAt (1 * 16 + i)) fun i => fmul (lightAt x i) (c i)) 0 := sum 15 (by omega)
  obtain ⟨W, iW, W1, W2, _⟩ := whole_near h1 h2 hx
  have e3 : 0 / W = 0 := by rw [Rat.div_def]; grind
  obtain ⟨q, iq, rq⟩ := is_div hD iW (by grind) (by rw [e3]; exact z.fit)
  rw [e3] at rq
  rw [rq.of_rep z] at iq
  exact is.uniq iq
end Go.Proofs.Ytmikeegecifbfaa

namespace Go.Proofs.Ytmikeegecifbfaa
open Go.RowKit
set_option maxRecDepth 100000

def warmAt (m : Nat) : Option Nat := fdiv (fint ((m : Int) - 16)) (canon .f32 1098907648)
theorem warm_is {m : Nat} (h : m < 33) : Is .f32 (warmAt m) ((((m : Int) - 16 : Int) : Rat) * (1 / 16)) := by
  have e4 : p2 (-((4 : Nat) : Int)) = 1 / 16 := by decide +kernel
  have h := part_is ((m : Int) - 16) (by omega) (by omega) 4 (by omega) i16 (by rw [e4]; grind)
  rw [e4] at h
  exact h
theorem warm_ok {x : Option Nat} {n : Int} (h1 : -16 ≤ n) (h2 : n ≤ 16) (hx : Is .f32 x ((n : Rat) * (1 / 16))) : warmOk x = true := by
  have im1 : Is .f32 (canon .f32 3212836864) (-1) := ⟨_, true, 8388608, -23, rfl, by decide, by decide +kernel⟩
  have a1 : (-16 : Rat) ≤ (n : Rat) := by have := Rat.intCast_le_intCast.2 h1; simpa using this
  have a2 : (n : Rat) ≤ 16 := by have := Rat.intCast_le_intCast.2 h2; simpa using this
  unfold warmOk
  rw [fge_is hx im1, fle_is hx i1]
  simp
  constructor <;> grind
theorem light_res {x : Option Nat} {n : Int} (h1 : -16 ≤ n) (h2 : n ≤ 16) (hx : Is .f32 x ((n : Rat) * (1 / 16))) : lightRes x = (fun i => lightAt x i, 0) := by unfold lightRes; rw [if_pos (warm_ok h1 h2 hx)]
theorem seen_cong {l l' c c' : Nat → Option Nat} (hl : ∀ i, i < 16 → l i = l' i) (hc : ∀ i, i < 16 → c i = c' i) : seenAt l c = seenAt l' c' := by
  funext k
  unfold seenAt
  rw [dot_congr (p := fun i => obsAt (k * 16 + i)) (fun _ _ => rfl) (fun i hi => by show fmul (l i) (c i) = fmul (l' i) (c' i); rw [hl i hi, hc i hi]), dot_congr (p := fun i => obsAt (16 + i)) (fun _ _ => rfl) hl]
theorem res_cong {l l' c c' : Nat → Option Nat} (hl : ∀ i, i < 16 → l i = l' i) (hc : ∀ i, i < 16 → c i = c' i) : seenRes l c = seenRes l' c' := by unfold seenRes; rw [seen_cong hl hc]
theorem look_ok {u : Nat → Option Nat} {S : Nat → Rat} (h : ∀ k, k < 3 → Is .f32 (u k) (S k) ∧ 0 ≤ S k ∧ S k ≤ 3) : lookRes u = (look3 fun i => cbrt (u i), 0) ∧ ∃ U R, Mod (look3 fun i => cbrt (u i)) U ∧ U 0 ≤ 116 * R - 16 + 4 / 100000 ∧ 116 * R - 16 ≤ U 0 + 4 / 100000 ∧ Is .f32 (cbrt (u 1)) R ∧ 0 ≤ R ∧ (1 / 1048576 ≤ S 1 → R * R * R ≤ S 1 * (1 + 1 / 2000000) ∧ S 1 * (1 - 1 / 2000000) ≤ R * R * R) := by
  constructor
  · unfold lookRes
    rw [if_pos (allTo_true fun k hk => fin_is.2 ⟨_, (h k hk).1⟩)]
  · have key : ∀ k, ∃ R, k < 3 → Is .f32 (cbrt (u k)) R ∧ 0 ≤ R ∧ R ≤ 3 / 2 ∧ (1 / 1048576 ≤ S k → R * R * R ≤ S k * (1 + 1 / 2000000) ∧ S k * (1 - 1 / 2000000) ≤ R * R * R) := by
      intro k
      by_cases hk : k < 3
      · obtain ⟨a, b, c⟩ := h k hk
        obtain ⟨R, iR, R0, _, R2, R3⟩ := cbrt_upto a b (by grind)
        exact ⟨R, fun _ => ⟨iR, R0, R3 c, R2⟩⟩
      · exact ⟨0, fun h => absurd h hk⟩
    have hR := fun k (hk : k < 3) => (key k).choose_spec hk
    obtain ⟨U, hU, u1, u2⟩ := look_mod (f := fun i => cbrt (u i)) (R := fun k => (key k).choose) (fun j hj => ⟨(hR j hj).1, (hR j hj).2.1, (hR j hj).2.2.1⟩)
    exact ⟨U, _, hU, u1, u2, (hR 1 (by omega)).1, (hR 1 (by omega)).2.1, (hR 1 (by omega)).2.2.2⟩
/-- What is seen of a curve between 0 and 1, and its look. -/
theorem curve_look {x : Option Nat} {n : Int} (h1 : -16 ≤ n) (h2 : n ≤ 16) (hx : Is .f32 x ((n : Rat) * (1 / 16))) {c : Nat → Option Nat} {C : Nat → Rat} (hc : Six c C) (hC : ∀ i, i < 16 → C i ≤ 1) :
    seenRes (fun i => lightAt x i) c = (seenAt (fun i => lightAt x i) c, 0) ∧ (∀ k, k < 3 → (seenAt (fun i => lightAt x i) c k).isSome = true ∧ feq (seenAt (fun i => lightAt x i) c k) (seenAt (fun i => lightAt x i) c k) = true) ∧ lookRes (seenAt (fun i => lightAt x i) c) = (look3 fun i => cbrt (seenAt (fun i => lightAt x i) c i), 0) ∧ ∃ U, Mod (look3 fun i => cbrt (seenAt (fun i => lightAt x i) c i)) U := by
  have hs : ∀ k, ∃ s, k < 3 → Is .f32 (seenAt (fun i => lightAt x i) c k) s ∧ 0 ≤ s ∧ s ≤ 3 := by
    intro k
    by_cases hk : k < 3
    · obtain ⟨s, h⟩ := seen_le h1 h2 hx hc hC hk
      exact ⟨s, fun _ => h⟩
    · exact ⟨0, fun h => absurd h hk⟩
  have hS := fun k (hk : k < 3) => (hs k).choose_spec hk
  obtain ⟨a, U, _, hU, _⟩ := look_ok (u := seenAt (fun i => lightAt x i) c) (S := fun k => (hs k).choose) hS
  exact ⟨seen_fin h1 h2 hx hc, fun k hk => ⟨(hS k hk).1.some, by rw [feq_is (hS k hk).1 (hS k hk).1]; simp⟩, a, U, hU⟩
theorem cube_ratio {R S a b : Rat} (hS : 0 ≤ S) (ha : R * R * R ≤ a) (hb : b ≤ S * S * S) (hab : a ≤ b * (1 + 12 / 1000000)) : R ≤ S * (1 + 5 / 1000000) := by
  apply Rat.not_lt.1
  intro h
  have h1 := cube_mono (Rat.mul_nonneg hS (show (0 : Rat) ≤ 1 + 5 / 1000000 by grind)) (Rat.le_of_lt h)
  have h2 : S * (1 + 5 / 1000000) * (S * (1 + 5 / 1000000)) * (S * (1 + 5 / 1000000)) = S * S * S * ((1 + 5 / 1000000) * (1 + 5 / 1000000) * (1 + 5 / 1000000)) := by grind
  rw [h2] at h1
  have h3 : 0 ≤ S * S * S := Rat.mul_nonneg (Rat.mul_nonneg hS hS) hS
  have hz : S * S * S = 0 := by grind
  have h4 : R * R * R ≤ 0 := by grind
  have h5 : 0 < R := by have := Rat.mul_nonneg hS (show (0 : Rat) ≤ 1 + 5 / 1000000 by grind); grind
  have := Rat.mul_pos (Rat.mul_pos h5 h5) h5
  grind
/-- A grey's look: its lightness. -/
theorem grey_look {x : Option Nat} {n : Int} (h1 : -16 ≤ n) (h2 : n ≤ 16) (hx : Is .f32 x ((n : Rat) * (1 / 16))) {c : Nat → Option Nat} {g : Rat} (hc : ∀ i, i < 16 → Is .f32 (c i) g) {m : Nat} (hm : m ≤ 64) (hg : g = (m : Rat) * (1 / 64)) :
    lookUnderMade (seenRes (fun i => lightAt x i) c) = (look3 fun i => cbrt (seenAt (fun i => lightAt x i) c i), 0) ∧ ∃ U R, Is .f32 (look3 (fun i => cbrt (seenAt (fun i => lightAt x i) c i)) 0) U ∧ U ≤ 116 * R - 16 + 4 / 100000 ∧ 116 * R - 16 ≤ U + 4 / 100000 ∧ 0 ≤ R ∧ (m = 0 → R = 0) ∧ (1 ≤ m → R * R * R ≤ g * (1 + 56 / 10000000) ∧ g * (1 - 56 / 10000000) ≤ R * R * R) := by
  have h6 := grey_six hc hm hg
  have m0 : (0 : Rat) ≤ (m : Rat) := Rat.natCast_nonneg
  have m1 : (m : Rat) ≤ 64 := by have := cast_le hm; simpa using this
  have hg1 : g ≤ 1 := by grind
  have hs : ∀ k, ∃ s, k < 3 → Is .f32 (seenAt (fun i => lightAt x i) c k) s ∧ 0 ≤ s ∧ s ≤ 3 := by
    intro k
    by_cases hk : k < 3
    · obtain ⟨s, h⟩ := seen_le h1 h2 hx h6 (fun _ _ => hg1) hk
      exact ⟨s, fun _ => h⟩
    · exact ⟨0, fun h => absurd h hk⟩
  have hS := fun k (hk : k < 3) => (hs k).choose_spec hk
  obtain ⟨a, U, R, hU, u1, u2, iR, R0, hR⟩ := look_ok (u := seenAt (fun i => lightAt x i) c) (S := fun k => (hs k).choose) hS
  obtain ⟨s, is, sz, s1, s2⟩ := grey_seen h1 h2 hx hc hm hg
  have e := (hS 1 (by omega)).1.uniq is
  have e' : (hs 1).choose = s := e
  constructor
  · rw [seen_fin h1 h2 hx h6]
    unfold lookUnderMade
    simp only [if_true]
    exact a
  · refine ⟨U 0, R, hU.is 0 (by omega), u1, u2, R0, fun h0 => ?_, fun h1' => ?_⟩
    · have hz := sz h0
      subst hz
      rw [cbrt_zero is] at iR
      exact iR.uniq zero32
    · have c1 : (1 : Rat) ≤ (m : Rat) := by have := cast_le h1'; simpa using this
      have := hR (by show 1 / 1048576 ≤ (hs 1).choose; rw [e']; grind)
      have h3 : R * R * R ≤ (hs 1).choose * (1 + 1 / 2000000) ∧ (hs 1).choose * (1 - 1 / 2000000) ≤ R * R * R := this
      rw [e'] at h3
      constructor <;> grind
theorem grey_near {x y : Option Nat} {n k : Int} (h1 : -16 ≤ n) (h2 : n ≤ 16) (hx : Is .f32 x ((n : Rat) * (1 / 16))) (g1 : -16 ≤ k) (g2 : k ≤ 16) (hy : Is .f32 y ((k : Rat) * (1 / 16))) {c c' : Nat → Option Nat} {g : Rat} (hc : ∀ i, i < 16 → Is .f32 (c i) g) (hc' : ∀ i, i < 16 → Is .f32 (c' i) g) {m : Nat} (hm : m ≤ 64) (hg : g = (m : Rat) * (1 / 64)) :
    near (look3 (fun i => cbrt (seenAt (fun i => lightAt x i) c i)) 0) (look3 (fun i => cbrt (seenAt (fun i => lightAt y i) c' i)) 0) (canon .f32 981668463) = true := by
  obtain ⟨_, U, R, iU, u1, u2, R0, Rz, Rn⟩ := grey_look h1 h2 hx hc hm hg
  obtain ⟨_, V, S, iV, v1, v2, S0, Sz, Sn⟩ := grey_look g1 g2 hy hc' hm hg
  obtain ⟨q1, q2⟩ := mV_near
  have m1 : (m : Rat) ≤ 64 := by have := cast_le hm; simpa using this
  by_cases h0 : m = 0
  · have := Rz h0
    have := Sz h0
    exact near_of iU iV milli (by grind) (by grind)
  · have c1 : (1 : Rat) ≤ (m : Rat) := by have := cast_le (show 1 ≤ m by omega); simpa using this
    obtain ⟨a1, a2⟩ := Rn (by omega)
    obtain ⟨b1, b2⟩ := Sn (by omega)
    have r1 := cube_ratio S0 a1 b2 (by grind)
    have r2 := cube_ratio R0 b1 a2 (by grind)
    have R2 : R ≤ 11 / 10 := by
      apply Rat.not_lt.1
      intro h
      have := cube_mono (show (0 : Rat) ≤ 11 / 10 by grind) (Rat.le_of_lt h)
      grind
    have S2 : S ≤ 11 / 10 := by
      apply Rat.not_lt.1
      intro h
      have := cube_mono (show (0 : Rat) ≤ 11 / 10 by grind) (Rat.le_of_lt h)
      grind
    exact near_of iU iV milli (by grind) (by grind)
theorem white_near {x : Option Nat} {n : Int} (h1 : -16 ≤ n) (h2 : n ≤ 16) (hx : Is .f32 x ((n : Rat) * (1 / 16))) {c : Nat → Option Nat} (hc : ∀ i, i < 16 → Is .f32 (c i) 1) :
    near (look3 (fun i => cbrt (seenAt (fun i => lightAt x i) c i)) 0) (canon .f32 1120403456) (canon .f32 981668463) = true := by
  have e64' : ((64 : Nat) : Rat) = 64 := rfl
  obtain ⟨_, U, R, iU, u1, u2, R0, Rz, Rn⟩ := grey_look h1 h2 hx hc (m := 64) (by omega) (by rw [e64']; grind)
  obtain ⟨q1, q2⟩ := mV_near
  obtain ⟨a1, a2⟩ := Rn (by omega)
  have r1 := cube_ratio (S := 1) (by grind) a1 (b := 1) (by grind) (by grind)
  have r2 := cube_ratio (R := 1) (a := 1) R0 (by grind) a2 (by grind)
  have i100 : Is .f32 (canon .f32 1120403456) 100 := ⟨_, false, 13107200, -17, rfl, by decide, by decide +kernel⟩
  exact near_of iU i100 milli (by grind) (by grind)
theorem zero_warm : Is .f32 (canon .f32 0) (((0 : Int) : Rat) * (1 / 16)) := by
  have e : ((0 : Int) : Rat) * (1 / 16) = 0 := by decide +kernel
  rw [e]
  exact zero32
theorem white_m : (1 : Rat) = ((64 : Nat) : Rat) * (1 / 64) := by decide +kernel
theorem look_made {S : (Nat → Option Nat) × Int} {s p : Nat → Option Nat} (h : S = (s, 0)) (hl : lookRes s = (p, 0)) : lookUnderMade S = (p, 0) := by
  subst h
  unfold lookUnderMade
  rw [if_pos rfl]
  exact hl
theorem Mod.to {u v : Nat → Option Nat} {U : Nat → Rat} (h : Mod u U) (he : ∀ i, i < 3 → v i = u i) : Mod v U := ⟨fun j hj => by rw [he j hj]; exact h.is j hj, h.h0, h.l0, h.h1, h.l1, h.h2, h.l2⟩
theorem diff_facts {u v : Nat → Option Nat} {U V : Nat → Rat} (hu : Mod u U) (hv : Mod v V) : feq (diffOf u u) (canon .f32 0) = true ∧ feq (distOf u v) (distOf v u) = true ∧ (fadd (distOf u v) (canon .f32 981668463)).isSome = true ∧ fle (diffOf u v) (fadd (distOf u v) (canon .f32 981668463)) = true ∧ feq (diffOf u v) (diffOf u v) = true := by
  obtain ⟨P, Q, iP, iQ, h1, h2, h3, h4⟩ := dist_mod hu hv
  obtain ⟨q1, q2⟩ := mV_near
  have c : ((4000 : Nat) : Rat) = 4000 := rfl
  obtain ⟨s, is, rs⟩ := is_add iQ milli (fit_n 4000 (by omega) (by grind) (by grind))
  have hs := rs.dn P iP.rep (by grind)
  refine ⟨by rw [feq_is (diff_self hu) zero32]; simp, by rw [← h4, feq_is iQ iQ]; simp, is.some, ?_, by rw [feq_is iP iP]; simp⟩
  have is' : Is .f32 (fadd (distOf u v) (canon .f32 981668463)) s := is
  rw [fle_is iP is']
  simpa using hs
/-- What the calls of the last region give: distances ('D'), differences. -/
def GD (D : FuncId) (f : FuncId) (args : Array Value) (u : Value) : Prop :=
  ∃ x y r, args = #[.agg (fA 3 x), .agg (fA 3 y)] ∧ u = .float .f32 r ∧ canon .f32 r = if f = D then distOf (fun i => canon .f32 (x i)) (fun i => canon .f32 (y i)) else diffOf (fun i => canon .f32 (x i)) fun i => canon .f32 (y i)
theorem dist_cong {x y x' y' : Nat → Nat} (h1 : ∀ i, i < 3 → x i = x' i) (h2 : ∀ i, i < 3 → y i = y' i) : distOf (fun i => canon .f32 (x i)) (fun i => canon .f32 (y i)) = distOf (fun i => canon .f32 (x' i)) (fun i => canon .f32 (y' i)) := by
  unfold distOf
  simp only [h1 0 (by omega), h1 1 (by omega), h1 2 (by omega), h2 0 (by omega), h2 1 (by omega), h2 2 (by omega)]
theorem diff_cong {x y x' y' : Nat → Nat} (h1 : ∀ i, i < 3 → x i = x' i) (h2 : ∀ i, i < 3 → y i = y' i) : diffOf (fun i => canon .f32 (x i)) (fun i => canon .f32 (y i)) = diffOf (fun i => canon .f32 (x' i)) (fun i => canon .f32 (y' i)) := by
  unfold diffOf tint
  simp only [h1 0 (by omega), h1 1 (by omega), h1 2 (by omega), h2 0 (by omega), h2 1 (by omega), h2 2 (by omega)]
section
variable {D f : FuncId} {x y : Nat → Nat}
theorem GD.mk1 {r : Nat} (h : canon .f32 r = distOf (fun i => canon .f32 (x i)) fun i => canon .f32 (y i)) : GD D D #[.agg (fA 3 x), .agg (fA 3 y)] (.float .f32 r) := ⟨x, y, r, rfl, rfl, by rw [if_pos rfl]; exact h⟩
theorem GD.mk2 (hf : f ≠ D) {r : Nat} (h : canon .f32 r = diffOf (fun i => canon .f32 (x i)) fun i => canon .f32 (y i)) : GD D f #[.agg (fA 3 x), .agg (fA 3 y)] (.float .f32 r) := ⟨x, y, r, rfl, rfl, by rw [if_neg hf]; exact h⟩
theorem GD.of1 {u : Value} (h : GD D D #[.agg (fA 3 x), .agg (fA 3 y)] u) : ∃ r, u = .float .f32 r ∧ Hid (canon .f32 r = distOf (fun i => canon .f32 (x i)) fun i => canon .f32 (y i)) := by
  obtain ⟨x', y', r, ha, hu, hr⟩ := h
  rw [if_pos rfl] at hr
  simp only [Array.mk.injEq, List.cons.injEq, Value.agg.injEq, and_true] at ha
  exact ⟨r, hu, Lib.hid (hr.trans (dist_cong (fun i hi => (fA_inj ha.1 hi).symm) fun i hi => (fA_inj ha.2 hi).symm))⟩
theorem GD.of2 (hf : f ≠ D) {u : Value} (h : GD D f #[.agg (fA 3 x), .agg (fA 3 y)] u) : ∃ r, u = .float .f32 r ∧ Hid (canon .f32 r = diffOf (fun i => canon .f32 (x i)) fun i => canon .f32 (y i)) := by
  obtain ⟨x', y', r, ha, hu, hr⟩ := h
  rw [if_neg hf] at hr
  simp only [Array.mk.injEq, List.cons.injEq, Value.agg.injEq, and_true] at ha
  exact ⟨r, hu, Lib.hid (hr.trans (diff_cong (fun i hi => (fA_inj ha.1 hi).symm) fun i hi => (fA_inj ha.2 hi).symm))⟩
end
theorem drawn_is {v : Nat} (h : v < 65) : Is .f32 (canon .f32 (pw v)) ((v : Rat) * (1 / 64)) := by
  rw [pw_canon h, ← plain_word v h]
  have e6 : p2 (-((6 : Nat) : Int)) = 1 / 64 := by decide +kernel
  have := part_is (v : Int) (by omega) (by omega) 6 (by omega) i64 (by rw [e6]; grind)
  rw [e6, Rat.intCast_natCast] at this
  exact this
theorem drawn_six {V : Nat → Nat} (hV : ∀ i, V i < 65) {K : Nat → Nat} (hK : ∀ i, K i = pw (V i)) : Six (fun i => canon .f32 (K i)) fun i => ((V i : Nat) : Rat) * (1 / 64) := by
  intro i _
  refine ⟨?_, V i, by have := hV i; omega, rfl⟩
  show Is .f32 (canon .f32 (K i)) _
  rw [hK i]
  exact drawn_is (hV i)
theorem drawn_le {V : Nat → Nat} (hV : ∀ i, V i < 65) : ∀ i, i < 16 → ((V i : Nat) : Rat) * (1 / 64) ≤ 1 := by
  intro i _
  have : ((V i : Nat) : Rat) ≤ 64 := by have := cast_le (show V i ≤ 64 by have := hV i; omega); simpa using this
  grind
theorem six_add {c d e : Nat → Option Nat} {V U : Nat → Nat} (hV : ∀ i, V i < 65) (hU : ∀ i, U i < 65) (hc : Six c fun i => ((V i : Nat) : Rat) * (1 / 64)) (hd : Six d fun i => ((U i : Nat) : Rat) * (1 / 64)) (he : ∀ i, i < 16 → e i = fadd (c i) (d i)) : Six e fun i => ((V i : Nat) : Rat) * (1 / 64) + ((U i : Nat) : Rat) * (1 / 64) := by
  intro i hi
  have e6 : p2 (-((6 : Nat) : Int)) = 1 / 64 := by decide +kernel
  have h1 := hV i
  have h2 := hU i
  have r := rep_parts ((V i : Int) + (U i : Int)) (by omega) (by omega) 6 (by omega)
  rw [e6, Rat.intCast_add, Rat.intCast_natCast, Rat.intCast_natCast] at r
  have es : ((V i : Nat) : Rat) * (1 / 64) + ((U i : Nat) : Rat) * (1 / 64) = (((V i : Nat) : Rat) + ((U i : Nat) : Rat)) * (1 / 64) := by grind
  obtain ⟨w, iw, rw'⟩ := is_add (hc i hi).1 (hd i hi).1 (by show Fit _ (((V i : Nat) : Rat) * (1 / 64) + ((U i : Nat) : Rat) * (1 / 64)); rw [es]; exact r.fit)
  have rw2 : Rnd Ieee.single (((V i : Nat) : Rat) * (1 / 64) + ((U i : Nat) : Rat) * (1 / 64)) w := rw'
  rw [es] at rw2
  rw [rw2.of_rep r] at iw
  refine ⟨?_, V i + U i, by omega, ?_⟩
  · show Is .f32 (e i) (((V i : Nat) : Rat) * (1 / 64) + ((U i : Nat) : Rat) * (1 / 64))
    rw [he i hi, es]
    exact iw
  · show ((V i : Nat) : Rat) * (1 / 64) + ((U i : Nat) : Rat) * (1 / 64) = _
    rw [es, Rat.natCast_add]
theorem six_seen {x : Option Nat} {n : Int} (h1 : -16 ≤ n) (h2 : n ≤ 16) (hx : Is .f32 x ((n : Rat) * (1 / 16))) {c : Nat → Option Nat} {C : Nat → Rat} (hc : Six c C) : seenRes (fun i => lightAt x i) c = (seenAt (fun i => lightAt x i) c, 0) := seen_fin h1 h2 hx hc
end Go.Proofs.Ytmikeegecifbfaa
