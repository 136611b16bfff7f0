/- Third roots: the third power of what is found is near the number. No program is named here. -/
import Derived.Test.YtghmonkoleegjaaDC
import Derived.Test.YtghmonkoleegjaaNwt
import Derived.Test.YtghmonkoleegjaaApx
namespace Go.Proofs.Ytghmonkoleegjaa
open Go.RowKit

theorem cube_mono {a b : Rat} (ha : 0 ≤ a) (h : a ≤ b) : a * a * a ≤ b * b * b := by
  have h1 := Rat.mul_nonneg (show 0 ≤ b - a by grind) (Rat.mul_nonneg ha ha)
  have h2 := Rat.mul_nonneg (show 0 ≤ b - a by grind) (Rat.mul_nonneg (show 0 ≤ b by grind) ha)
  have h3 := Rat.mul_nonneg (show 0 ≤ b - a by grind) (Rat.mul_nonneg (show 0 ≤ b by grind) (show 0 ≤ b by grind))
  grind
theorem cube_lt {a b : Rat} (hb : 0 ≤ b) (h : a * a * a < b * b * b) : a < b := by
  refine Rat.not_le.1 ?_
  intro hle
  have := cube_mono hb hle
  grind
/-- Near by 'k', relative to the third power. -/
structure Kap (vb r k : Rat) : Prop where
  h1 : vb - r * r * r ≤ k * (r * r * r)
  h2 : r * r * r - vb ≤ k * (r * r * r)
theorem Kap.range {vb r k : Rat} (h : Kap vb r k) (k1 : k ≤ 9 / 25) (r0 : 0 ≤ r) (b1 : 1 ≤ vb) (b8 : vb ≤ 8) : 9 / 10 ≤ r ∧ r ≤ 5 / 2 := by
  obtain ⟨h1, h2⟩ := h
  obtain ⟨R, hR⟩ : ∃ R, R = r * r * r := ⟨_, rfl⟩
  have R0 : 0 ≤ R := by rw [hR]; exact Rat.mul_nonneg (Rat.mul_nonneg r0 r0) r0
  rw [← hR] at h1 h2
  have h3 := Rat.mul_nonneg (show 0 ≤ 9 / 25 - k by grind) R0
  have hlo : 729 / 1000 ≤ R := by grind
  have hhi : R ≤ 125 / 8 := by grind
  constructor
  · refine Rat.not_lt.1 ?_
    intro hlt
    have h4 : r * r * r < 9 / 10 * (9 / 10) * (9 / 10) := by
      refine Rat.not_le.1 ?_
      intro hle
      have h5 := Rat.mul_nonneg (show 0 ≤ 9 / 10 - r by grind) (Rat.mul_nonneg r0 r0)
      have h6 := Rat.mul_nonneg (show 0 ≤ 9 / 10 - r by grind) r0
      grind
    grind
  · refine Rat.not_lt.1 ?_
    intro hlt
    have h4 := cube_mono (show (0 : Rat) ≤ 5 / 2 by grind) (Rat.le_of_lt hlt)
    have h5 : (5 / 2 : Rat) * (5 / 2) * (5 / 2) < r * r * r := by
      refine Rat.not_le.1 ?_
      intro hle
      have h6 := Rat.mul_nonneg (show 0 ≤ r - 5 / 2 by grind) (Rat.mul_nonneg r0 r0)
      have h7 := Rat.mul_nonneg (show 0 ≤ r - 5 / 2 by grind) r0
      grind
    grind
theorem newton_kap {b r : Option Nat} {vb vr k l : Rat} (hb : Is .f64 b vb) (hr : Is .f64 r vr) (b1 : 1 ≤ vb) (b8 : vb ≤ 8) (r0 : 0 ≤ vr) (h : Kap vb vr k) (k0 : 0 ≤ k) (k1 : k ≤ 9 / 25) (l0 : 0 ≤ l) (hl : 3 * (1 / 100000000000) + (k / 3 + 1 / 100000000000) * (k / 3 + 1 / 100000000000) * 4 ≤ l * (1 - (k / 3 + 1 / 100000000000)) * (1 - (k / 3 + 1 / 100000000000)) * (1 - (k / 3 + 1 / 100000000000))) :
    ∃ v, Is .f64 (newton b r) v ∧ 0 ≤ v ∧ Kap vb v l := by
  obtain ⟨r1, r2⟩ := h.range k1 r0 b1 b8
  obtain ⟨v, iv, n1, n2⟩ := newton_near hb hr b1 b8 r1 r2
  obtain ⟨v', iv', v0, _⟩ := newton_step hb hr b1 b8 r1 (by grind)
  have := iv.uniq iv'
  subst this
  have hc := conv_step (vb := vb) (r := vr) (u := v) (θ := 3 * (vr * vr) * v - (2 * (vr * vr * vr) + vb)) (k := k) (l := l) r1 (by grind) (by grind) (by grind) h.h1 h.h2 k0 k1 l0 hl
  exact ⟨v, iv, by grind, hc.1, hc.2⟩
theorem newton_first {b : Option Nat} {vb : Rat} (hb : Is .f64 b vb) (b1 : 1 ≤ vb) (b8 : vb ≤ 8) : ∃ v, Is .f64 (newtons b 1) v ∧ 0 ≤ v ∧ Kap vb v (9 / 25) := by
  obtain ⟨v, iv, n1, n2⟩ := newton_near hb half3 b1 b8 (by decide +kernel) (by decide +kernel)
  refine ⟨v, iv, by grind, ?_⟩
  obtain ⟨s, hs⟩ : ∃ s, s = v - 1 := ⟨_, rfl⟩
  have hv : v = 1 + s := by grind
  subst hv
  have s1 : 147 / 1000 ≤ s := by grind
  have s2 : s ≤ 1187 / 1000 := by grind
  -- vb is near 27 s / 4
  have hb1 : vb ≤ 27 / 4 * s + 1 / 10000000000 := by grind
  have hb2 : 27 / 4 * s ≤ vb + 1 / 10000000000 := by grind
  have a0 : 0 ≤ (s - 1 / 2) * (s - 1 / 2) := by
    rcases Rat.le_total (a := s) (b := 1 / 2) with h | h
    · have := Rat.mul_nonneg (show 0 ≤ 1 / 2 - s by grind) (show 0 ≤ 1 / 2 - s by grind); grind
    · exact Rat.mul_nonneg (by grind) (by grind)
  have a1 := Rat.mul_nonneg a0 (show 0 ≤ s + 4 by grind)
  have a2 := Rat.mul_nonneg (Rat.mul_nonneg (show 0 ≤ s - 147 / 1000 by grind) (show 0 ≤ 1187 / 1000 - s by grind)) (show 0 ≤ s + 4334 / 1000 by grind)
  constructor <;> grind
theorem newtons_kap {b : Option Nat} {vb : Rat} (hb : Is .f64 b vb) (b1 : 1 ≤ vb) (b8 : vb ≤ 8) : ∃ v, Is .f64 (newtons b 6) v ∧ 9 / 10 ≤ v ∧ v ≤ 5 / 2 ∧ Kap vb v (1 / 10000000000) := by
  obtain ⟨v1, i1, p1, k1⟩ := newton_first hb b1 b8
  obtain ⟨v2, i2, p2, k2⟩ := newton_kap hb i1 b1 b8 p1 k1 (l := 9 / 100) (by decide +kernel) (by decide +kernel) (by decide +kernel) (by decide +kernel)
  obtain ⟨v3, i3, p3, k3⟩ := newton_kap hb i2 b1 b8 p2 k2 (l := 4 / 1000) (by decide +kernel) (by decide +kernel) (by decide +kernel) (by decide +kernel)
  obtain ⟨v4, i4, p4, k4⟩ := newton_kap hb i3 b1 b8 p3 k3 (l := 8 / 1000000) (by decide +kernel) (by decide +kernel) (by decide +kernel) (by decide +kernel)
  obtain ⟨v5, i5, p5, k5⟩ := newton_kap hb i4 b1 b8 p4 k4 (l := 1 / 10000000000) (by decide +kernel) (by decide +kernel) (by decide +kernel) (by decide +kernel)
  obtain ⟨v6, i6, p6, k6⟩ := newton_kap hb i5 b1 b8 p5 k5 (l := 1 / 10000000000) (by decide +kernel) (by decide +kernel) (by decide +kernel) (by decide +kernel)
  obtain ⟨g1, g2⟩ := k6.range (by decide +kernel) p6 b1 b8
  exact ⟨v6, i6, g1, g2, k6⟩
theorem cbrt_shift {B b x : Nat} {q : Int} (hlo : 4503599627370496 ≤ B) (hb : 4607182418800017408 ≤ b) (hx : 4503599627370496 ≤ x) (hBi : (b : Int) = (B : Int) - 3 * q * 4503599627370496) (hXi : (x : Int) = 4607182418800017408 + q * 4503599627370496) :
    rungV Ieee.double B = rungV Ieee.double b * (rungV Ieee.double x * rungV Ieee.double x * rungV Ieee.double x) := by
  obtain ⟨c1, c2, c3, c4, c5⟩ := e64
  have v1 := val64.1
  obtain ⟨O, hO⟩ : ∃ O : Nat, O = 4607182418800017408 := ⟨_, rfl⟩
  obtain ⟨D, hD⟩ : ∃ D : Nat, D = 4503599627370496 := ⟨_, rfl⟩
  rw [← hO] at v1 hb
  rw [← hD] at c1 hlo hx
  have hBi' : (b : Int) = (B : Int) - 3 * (q * (D : Int)) := by rw [hBi, hD]; omega
  have hXi' : (x : Int) = (O : Int) + q * (D : Int) := by rw [hXi, hD, hO]; rfl
  have hOD : D ≤ O := by omega
  clear hBi hXi hO hD c2
  rcases Int.le_total 0 q with hq | hq
  · obtain ⟨n, hn⟩ := Int.eq_ofNat_of_zero_le hq
    subst hn
    have e0 : ((n * D : Nat) : Int) = (n : Int) * (D : Int) := Int.natCast_mul n D
    rw [← e0] at hBi' hXi'
    have e1 : B = b + 3 * n * D := by rw [Nat.mul_assoc]; omega
    have e2 : x = O + n * D := by omega
    have h1 := rungV_shift Ieee.double b (3 * n) (by omega)
    have h2 := rungV_shift Ieee.double O n (by omega)
    rw [c1, ← e1] at h1
    rw [c1, ← e2, v1] at h2
    have e3 : p2 ((3 * n : Nat) : Int) = p2 n * p2 n * p2 n := by rw [← p2_add, ← p2_add]; congr 1; omega
    rw [h1, h2, e3]
    grind
  · obtain ⟨n, hn⟩ : ∃ n : Nat, q = -(n : Int) := ⟨(-q).toNat, by omega⟩
    subst hn
    have e0 : -(n : Int) * (D : Int) = -((n * D : Nat) : Int) := by rw [Int.natCast_mul]; exact Int.neg_mul ..
    rw [e0] at hBi' hXi'
    have e1 : b = B + 3 * n * D := by rw [Nat.mul_assoc]; omega
    have e2 : O = x + n * D := by omega
    have h1 := rungV_shift Ieee.double B (3 * n) (by omega)
    have h2 := rungV_shift Ieee.double x n (by omega)
    rw [c1, ← e1] at h1
    rw [c1, ← e2, v1] at h2
    have e3 : p2 ((3 * n : Nat) : Int) = p2 n * p2 n * p2 n := by rw [← p2_add, ← p2_add]; congr 1; omega
    rw [h1, e3]
    generalize rungV Ieee.double x = X at *
    generalize rungV Ieee.double B = V at *
    generalize p2 n = Y at *
    have : V * (Y * Y * Y) * (X * X * X) = V * ((X * Y) * (X * Y) * (X * Y)) := by grind
    rw [this, ← h2]
    grind
/-- The number whose root is taken, as a number from 1 to 8 and a third power of a power of two. -/
theorem cbrt_split {B : Nat} (hlo : 1003 * 4503599627370496 ≤ B) (hhi : B < 1043 * 4503599627370496) :
    ∃ vb X : Rat, Is .f64 (some (cbrtB B)) vb ∧ 1 ≤ vb ∧ vb ≤ 8 ∧ Is .f64 (some (cbrtX B)) X ∧ 1 / 128 ≤ X ∧ X ≤ 128 ∧ rungV Ieee.double B = vb * (X * X * X) := by
  obtain ⟨c1, c2, c3, c4, c5⟩ := e64
  have hb : 4607182418800017408 ≤ cbrtB B ∧ cbrtB B < 4620693217682128896 := by unfold cbrtB cbrtQ; omega
  have hx : 1016 * 4503599627370496 ≤ cbrtX B ∧ cbrtX B ≤ 1030 * 4503599627370496 := by unfold cbrtX cbrtQ; omega
  have i1 := is_rung (k := .f64) (r := cbrtB B) (by show _ < Ieee.double.infRung; omega)
  have v1 : 1 ≤ rungV Ieee.double (cbrtB B) := by rw [← val64.1]; exact rungV_le _ hb.1
  have v2 : rungV Ieee.double (cbrtB B) ≤ 8 := by rw [← val64.2.2]; exact rungV_le _ (by omega)
  have i3 := is_rung (k := .f64) (r := cbrtX B) (by show _ < Ieee.double.infRung; omega)
  have e7 : p2 ((7 : Nat) : Int) = 128 := by decide +kernel
  refine ⟨_, _, i1, v1, v2, i3, ?_, ?_, ?_⟩
  · have h1 := rungV_le Ieee.double hx.1
    have h2 := rungV_shift Ieee.double (1016 * 4503599627370496) 7 (by omega)
    rw [c1, show 1016 * 4503599627370496 + 7 * 4503599627370496 = 4607182418800017408 from rfl, val64.1, e7] at h2
    show _ ≤ rungV Ieee.double _
    grind
  · have h1 := rungV_le Ieee.double hx.2
    have h2 := rungV_shift Ieee.double 4607182418800017408 7 (by omega)
    rw [c1, show 4607182418800017408 + 7 * 4503599627370496 = 1030 * 4503599627370496 from rfl, val64.1, e7] at h2
    show rungV Ieee.double _ ≤ _
    grind
  · show _ = rungV Ieee.double (cbrtB B) * (rungV Ieee.double (cbrtX B) * rungV Ieee.double (cbrtX B) * rungV Ieee.double (cbrtX B))
    have hBi : (cbrtB B : Int) = (B : Int) - 3 * cbrtQ B * 4503599627370496 := by
      show ((((B : Int) - 3 * cbrtQ B * 4503599627370496).toNat : Nat) : Int) = _
      exact Int.toNat_of_nonneg (by have := hb.1; unfold cbrtB at this; omega)
    have hXi : (cbrtX B : Int) = 4607182418800017408 + cbrtQ B * 4503599627370496 := by
      show (((4607182418800017408 + cbrtQ B * 4503599627370496).toNat : Nat) : Int) = _
      exact Int.toNat_of_nonneg (by have := hx.1; unfold cbrtX at this; omega)
    generalize cbrtB B = b at *
    generalize cbrtX B = x at *
    generalize cbrtQ B = q at *
    clear i1 i3 v1 v2 e7
    exact cbrt_shift (by omega) hb.1 (by omega) hBi hXi
theorem cbrtSize_near {B : Nat} (hlo : 1003 * 4503599627370496 ≤ B) (hhi : B < 1043 * 4503599627370496) :
    ∃ R, Is .f32 (cbrtSize B) R ∧ 0 < R ∧ R ≤ 400 ∧ R * R * R ≤ rungV Ieee.double B * (1 + 1 / 2000000) ∧ rungV Ieee.double B * (1 - 1 / 2000000) ≤ R * R * R := by
  obtain ⟨vb, X, ib, b1, b8, iX, X1, X2, hV⟩ := cbrt_split hlo hhi
  obtain ⟨r, ir, r1, r2, kr⟩ := newtons_kap ib b1 b8
  rw [hV]
  have g0 : 0 ≤ (r - 9 / 10) * (X - 1 / 128) := Rat.mul_nonneg (by grind) (by grind)
  have g1 : 0 ≤ (5 / 2 - r) * X := Rat.mul_nonneg (by grind) (by grind)
  obtain ⟨g, hg⟩ : ∃ g, g = r * X := ⟨_, rfl⟩
  have g2 : 1 / 200 ≤ g := by grind
  have g3 : g ≤ 320 := by grind
  have e9 : p2 9 = 512 := by decide +kernel
  have e9' : p2 (9 - 51) ≤ 1 / 1000000000000 := by decide +kernel
  obtain ⟨m, im, nm⟩ := is_mul ir iX (by rw [← hg]; exact fit64k 9 (by decide) (by rw [e9]; grind) (by rw [e9]; grind))
  rw [← hg] at nm
  have m1 := near64 nm 9 (by decide) (by decide) (by rw [e9]; grind) (by rw [e9]; grind)
  have e127 : p2 9 ≤ p2 127 := p2_mono (by decide)
  obtain ⟨R, iR, nR⟩ := is_conv (d := .f32) (by decide) im (fit32 (by grind) (by grind))
  have R1 := Rnd.rel nR (by grind) (by grind)
  have e149 : p2 (-149) ≤ 1 / 1000000000000 := by decide +kernel
  refine ⟨R, iR, by grind, by grind, ?_⟩
  -- R is near g, relative
  have R2 : R ≤ g * (1 + 1 / 8000000) := by grind
  have R3 : g * (1 - 1 / 8000000) ≤ R := by grind
  have c1 := cube_mono (by grind) R2
  have c2 := cube_mono (show 0 ≤ g * (1 - 1 / 8000000) by grind) R3
  have hG : g * g * g = r * r * r * (X * X * X) := by rw [hg]; grind
  obtain ⟨G, hGd⟩ : ∃ G, G = g * g * g := ⟨_, rfl⟩
  have c1' : R * R * R ≤ G * (1 + 4 / 10000000) := by
    have : g * (1 + 1 / 8000000) * (g * (1 + 1 / 8000000)) * (g * (1 + 1 / 8000000)) = G * ((1 + 1 / 8000000) * (1 + 1 / 8000000) * (1 + 1 / 8000000)) := by rw [hGd]; grind
    rw [this] at c1
    have G0 : 0 ≤ G := by rw [hGd]; exact Rat.mul_nonneg (Rat.mul_nonneg (by grind) (by grind)) (by grind)
    grind
  have c2' : G * (1 - 4 / 10000000) ≤ R * R * R := by
    have : g * (1 - 1 / 8000000) * (g * (1 - 1 / 8000000)) * (g * (1 - 1 / 8000000)) = G * ((1 - 1 / 8000000) * (1 - 1 / 8000000) * (1 - 1 / 8000000)) := by rw [hGd]; grind
    rw [this] at c2
    have G0 : 0 ≤ G := by rw [hGd]; exact Rat.mul_nonneg (Rat.mul_nonneg (by grind) (by grind)) (by grind)
    grind
  obtain ⟨k1, k2⟩ := kr
  have X0 : 0 ≤ X * X * X := Rat.mul_nonneg (Rat.mul_nonneg (by grind) (by grind)) (by grind)
  have hG' : G = r * r * r * (X * X * X) := by rw [hGd, hG]
  generalize X * X * X = Y at *
  generalize r * r * r = S at *
  have a1 := Rat.mul_nonneg (show 0 ≤ 1 / 10000000000 * S - (vb - S) by grind) X0
  have a2 := Rat.mul_nonneg (show 0 ≤ 1 / 10000000000 * S - (S - vb) by grind) X0
  have a3 := Rat.mul_nonneg (show 0 ≤ vb by grind) X0
  obtain ⟨W, hW⟩ : ∃ W, W = vb * Y := ⟨_, rfl⟩
  rw [← hW]
  have a4 : W - G ≤ 1 / 10000000000 * G := by rw [hW, hG']; grind
  have a5 : G - W ≤ 1 / 10000000000 * G := by rw [hW, hG']; grind
  constructor <;> grind
/-- A positive number as a float64: its word. -/
theorem wide_pos {a : Nat} {v : Rat} (h : Is .f32 (some a) v) (h0 : 0 < v) : ∃ W, ccv .f32 .f64 (some a) = some W ∧ wideAbs a = W ∧ W < Ieee.double.infRung ∧ rungV Ieee.double W = v ∧ feq (some a) (canon .f32 0) = false ∧ flt (some a) (canon .f32 0) = false := by
  have hz32 : Is .f32 (canon .f32 0) 0 := ⟨0, false, 0, -149, by decide, by decide, by decide +kernel⟩
  have hz : feq (some a) (canon .f32 0) = false := by rw [feq_is h hz32]; simp; grind
  have hl : flt (some a) (canon .f32 0) = false := by rw [flt_is h hz32]; simp; grind
  obtain ⟨W, hw, hlt, hs, hlo, hhi⟩ := wide_word (fin_is.2 ⟨v, h⟩) hz
  rw [hl] at hs
  have h1 := of_decide_eq_false hs.symm
  have hm : W % 9223372036854775808 = W := Nat.mod_eq_of_lt (by omega)
  rw [hm] at hhi
  obtain ⟨c1, c2, c3, c4, c5⟩ := e64
  have hi := is_widen h
  rw [hw] at hi
  have hW : W < Ieee.double.infRung := by omega
  have hv := hi.uniq (is_rung (k := .f64) hW)
  exact ⟨W, hw, by unfold wideAbs; rw [hw]; exact hm, hW, hv.symm, hz, hl⟩
theorem word_between {W : Nat} {v : Rat} (hv : rungV Ieee.double W = v) (h1 : 1 / 1048576 ≤ v) (h2 : v ≤ 524288) : 1003 * 4503599627370496 ≤ W ∧ W < 1043 * 4503599627370496 := by
  obtain ⟨c1, c2, c3, c4, c5⟩ := e64
  have e20 : p2 ((20 : Nat) : Int) = 1048576 := by decide +kernel
  have g1 := rungV_shift Ieee.double (1003 * 4503599627370496) 20 (by omega)
  rw [c1, show 1003 * 4503599627370496 + 20 * 4503599627370496 = 4607182418800017408 from rfl, val64.1, e20] at g1
  have g2 := rungV_shift Ieee.double 4607182418800017408 20 (by omega)
  rw [c1, show 4607182418800017408 + 20 * 4503599627370496 = 1043 * 4503599627370496 from rfl, val64.1, e20] at g2
  constructor
  · apply Nat.le_of_not_lt
    intro h
    have := rungV_lt Ieee.double h
    grind
  · apply Nat.lt_of_not_le
    intro h
    have := rungV_le Ieee.double h
    grind
theorem cbrt_pos {x : Option Nat} {v : Rat} (hx : Is .f32 x v) (h1 : 1 / 1048576 ≤ v) (h2 : v ≤ 524288) :
    ∃ R, Is .f32 (cbrt x) R ∧ 0 < R ∧ R ≤ 400 ∧ R * R * R ≤ v * (1 + 1 / 2000000) ∧ v * (1 - 1 / 2000000) ≤ R * R * R := by
  obtain ⟨a, rfl⟩ : ∃ a, x = some a := by obtain ⟨a, _, _, _, h, _⟩ := hx; exact ⟨a, h⟩
  obtain ⟨W, hw, ha, hW, hv, hz, hl⟩ := wide_pos hx (by grind)
  obtain ⟨g1, g2⟩ := word_between hv h1 h2
  obtain ⟨R, i, r0, r4, n1, n2⟩ := cbrtSize_near g1 g2
  rw [hv] at n1 n2
  exact ⟨R, by unfold cbrt; simp only [hz, hl, Bool.false_eq_true, if_false]; rw [ha]; exact i, r0, r4, n1, n2⟩
theorem cbrt_zero {x : Option Nat} (hx : Is .f32 x 0) : cbrt x = canon .f32 0 := by
  obtain ⟨a, rfl⟩ : ∃ a, x = some a := by obtain ⟨a, _, _, _, h, _⟩ := hx; exact ⟨a, h⟩
  have hz32 : Is .f32 (canon .f32 0) 0 := ⟨0, false, 0, -149, by decide, by decide, by decide +kernel⟩
  have hz : feq (some a) (canon .f32 0) = true := by rw [feq_is hx hz32]; rfl
  unfold cbrt
  simp only [hz, if_true]
theorem zero32 : Is .f32 (canon .f32 0) 0 := ⟨0, false, 0, -149, by decide, by decide, by decide +kernel⟩
theorem is_cneg {k : FloatKind} {x : Option Nat} {v : Rat} (h : Is k x v) : Is k (cneg k x) (-v) := by
  obtain ⟨b, s, m, e, rfl, hd, rfl⟩ := h
  refine ⟨Op.negFloat k b, !s, m, e, rfl, ?_, ?_⟩
  · rw [decode_neg, hd]; rfl
  · exact sg_not ..
theorem negFloat_wide {a W : Nat} (h : ccv .f32 .f64 (some a) = some W) (hW : W < Ieee.double.infRung) : wideAbs (Op.negFloat .f32 a) = W := by
  unfold wideAbs
  rw [ccv_neg (by decide), h]
  show Op.negFloat .f64 W % 9223372036854775808 = W
  have h1 := (xor_top 63 W).1
  have e : Op.negFloat .f64 W = W ^^^ 2 ^ 63 := rfl
  rw [e, h1]
  obtain ⟨c1, c2, c3, c4, c5⟩ := e64
  exact Nat.mod_eq_of_lt (by omega)
/-- The third root of the number with the other sign. -/
theorem cbrt_cneg {x : Option Nat} {v : Rat} (hx : Is .f32 x v) (h0 : 0 < v) : cbrt (cneg .f32 x) = cneg .f32 (cbrt x) := by
  obtain ⟨a, rfl⟩ : ∃ a, x = some a := by obtain ⟨a, _, _, _, h, _⟩ := hx; exact ⟨a, h⟩
  obtain ⟨W, hw, ha, hW, hv, hz, hl⟩ := wide_pos hx h0
  have hn := is_cneg hx
  have hn1 : feq (cneg .f32 (some a)) (canon .f32 0) = false := by rw [feq_is hn zero32]; simp; grind
  have hn2 : flt (cneg .f32 (some a)) (canon .f32 0) = true := by rw [flt_is hn zero32]; simp; grind
  have e : cneg .f32 (some a) = some (Op.negFloat .f32 a) := rfl
  rw [e] at hn1 hn2 ⊢
  unfold cbrt
  simp only [hz, hl, hn1, hn2, Bool.false_eq_true, if_false, if_true]
  rw [ha, negFloat_wide hw hW]
/-- Third roots of numbers of some size, with their signs. -/
theorem cbrt_all {x : Option Nat} {v : Rat} (hx : Is .f32 x v) (h1 : v ≤ 524288) (h2 : -524288 ≤ v) (h0 : v = 0 ∨ 1 / 1048576 ≤ v ∨ v ≤ -(1 / 1048576)) :
    ∃ R E, Is .f32 (cbrt x) R ∧ Is .f32 (cbrt (cneg .f32 x)) (-R) ∧ R ≤ 400 ∧ -400 ≤ R ∧ 0 ≤ E ∧ E * 2000000 = (if v < 0 then -v else v) ∧ R * R * R ≤ v + E ∧ v ≤ R * R * R + E := by
  rcases h0 with h0 | h0 | h0
  · subst h0
    have hn := is_cneg hx
    have e : -(0 : Rat) = 0 := rfl
    rw [e] at hn
    refine ⟨0, 0, ?_, ?_, by grind, by grind, by grind, by grind, by grind, by grind⟩
    · rw [cbrt_zero hx]; exact zero32
    · rw [cbrt_zero hn]; exact zero32
  · obtain ⟨R, i, r0, r4, n1, n2⟩ := cbrt_pos hx h0 h1
    refine ⟨R, v / 2000000, i, ?_, r4, by grind, by grind, by grind, by grind, by grind⟩
    rw [cbrt_cneg hx (by grind)]
    exact is_cneg i
  · have hn := is_cneg hx
    obtain ⟨R, i, r0, r4, n1, n2⟩ := cbrt_pos hn (by grind) (by grind)
    have hx2 : x = cneg .f32 (cneg .f32 x) := by
      obtain ⟨a, rfl⟩ : ∃ a, x = some a := by obtain ⟨a, _, _, _, h, _⟩ := hx; exact ⟨a, h⟩
      show some a = some ((a ^^^ 2 ^ 31) ^^^ 2 ^ 31)
      rw [Nat.xor_assoc, Nat.xor_self, Nat.xor_zero]
    refine ⟨-R, -v / 2000000, ?_, ?_, by grind, by grind, by grind, by grind, by grind, by grind⟩
    · have := cbrt_cneg hn (by grind)
      rw [← hx2] at this
      rw [this]
      exact is_cneg i
    · have e : -(-R) = R := by grind
      rw [e]
      exact i
end Go.Proofs.Ytghmonkoleegjaa
