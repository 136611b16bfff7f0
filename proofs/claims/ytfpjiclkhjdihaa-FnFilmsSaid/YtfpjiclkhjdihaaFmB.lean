/- Three films, put together in two ways: nearly the same. No program is named here. -/
import Derived.Test.YtfpjiclkhjdihaaFmA
import Derived.Test.YtfpjiclkhjdihaaFlF
import Derived.Test.YtfpjiclkhjdihaaFnt
namespace Go.Proofs.Ytfpjiclkhjdihaa
open Go.RowKit
set_option maxRecDepth 100000

theorem mul_cancel {a b c : Rat} (h : c ≠ 0) (e : a * c = b * c) : a = b := by
  have h1 : a * c / c = a := Rat.mul_div_cancel h
  have h2 : b * c / c = b := Rat.mul_div_cancel h
  rw [← h1, e, h2]
section
variable {b t r s u x z : Rat}
theorem Asc.exT (h : Asc b t r s u x z) {P Q T1 T2 X : Rat} (hP : P * (1 - b * r) = u * u * b) (hT1 : T1 * (1 - b * r) = t * u) (hQ : Q * (1 - s * x) = u * u * x) (hT2 : T2 * (1 - s * x) = u * z)
    (hX : X * (1 - (s + P) * x) = T1 * z) : X * (1 - b * (r + Q)) = t * T2 := by
  have d1 := h.d1
  have d2 := h.d2
  obtain ⟨D1, e1⟩ : ∃ D, D = 1 - b * r := ⟨_, rfl⟩
  obtain ⟨D2, e2⟩ : ∃ D, D = 1 - s * x := ⟨_, rfl⟩
  rw [← e1] at hP hT1 d1
  rw [← e2] at hQ hT2 d2
  have eH : (1 - (s + P) * x) * D1 = D1 * D2 - u * u * b * x := by
    have : P * x * D1 = u * u * b * x := by rw [← hP]; grind
    rw [e2]; grind
  have eG : (1 - b * (r + Q)) * D2 = D1 * D2 - u * u * b * x := by
    have : Q * b * D2 = u * u * x * b := by rw [← hQ]; grind
    rw [e1]; grind
  have hXD : X * (D1 * D2 - u * u * b * x) = t * u * z := by
    rw [← eH, ← hT1]
    have : X * (1 - (s + P) * x) * D1 = T1 * z * D1 := by rw [hX]
    grind
  refine mul_cancel (c := D2) (by grind) ?_
  have : X * (1 - b * (r + Q)) * D2 = X * ((1 - b * (r + Q)) * D2) := by grind
  rw [this, eG, hXD]
  have : t * T2 * D2 = t * (T2 * D2) := by grind
  rw [this, hT2]
  grind
theorem Asc.exR (h : Asc b t r s u x z) {P Q T1 R1 Z : Rat} (hP : P * (1 - b * r) = u * u * b) (hT1 : T1 * (1 - b * r) = t * u) (hR1 : R1 * (1 - b * r) = t * t * r) (hQ : Q * (1 - s * x) = u * u * x)
    (hZ : Z * (1 - (s + P) * x) = T1 * T1 * x) : (R1 + Z) * (1 - b * (r + Q)) = t * t * (r + Q) := by
  have d1 := h.d1
  have d2 := h.d2
  obtain ⟨D1, e1⟩ : ∃ D, D = 1 - b * r := ⟨_, rfl⟩
  obtain ⟨D2, e2⟩ : ∃ D, D = 1 - s * x := ⟨_, rfl⟩
  rw [← e1] at hP hT1 hR1 d1
  rw [← e2] at hQ d2
  obtain ⟨Δ, eΔ⟩ : ∃ Δ, Δ = D1 * D2 - u * u * b * x := ⟨_, rfl⟩
  have eH : (1 - (s + P) * x) * D1 = Δ := by
    have : P * x * D1 = u * u * b * x := by rw [← hP]; grind
    rw [eΔ, e2]; grind
  have eG : (1 - b * (r + Q)) * D2 = Δ := by
    have : Q * b * D2 = u * u * x * b := by rw [← hQ]; grind
    rw [eΔ, e1]; grind
  have hZD : Z * Δ * D1 = t * t * (u * u) * x := by
    have e3 : Z * Δ = T1 * T1 * x * D1 := by
      rw [← eH, ← hZ]
      grind
    rw [e3]
    have : T1 * T1 * x * D1 * D1 = (T1 * D1) * (T1 * D1) * x := by grind
    rw [this, hT1]
    grind
  have h1 : (R1 + Z) * D1 * Δ = t * t * (r * Δ + u * u * x) := by
    have : (R1 + Z) * D1 * Δ = R1 * D1 * Δ + Z * Δ * D1 := by grind
    rw [this, hR1, hZD]
    grind
  have h2 : r * Δ + u * u * x = (r + Q) * D2 * D1 := by
    have : (r + Q) * D2 = r * D2 + u * u * x := by rw [← hQ]; grind
    rw [this, eΔ, e1]
    grind
  refine mul_cancel (c := D1 * D2) (Rat.ne_of_gt (Rat.mul_pos (by grind) (by grind))) ?_
  have : (R1 + Z) * (1 - b * (r + Q)) * (D1 * D2) = (R1 + Z) * D1 * ((1 - b * (r + Q)) * D2) := by grind
  rw [this, eG, h1, h2]
  grind
end
/-- Two quotients by near numbers. -/
theorem ratio_near {L X p T z G H c α β : Rat} (hL : L * G = p * z) (hX : X * H = T * z) (G0 : 0 < G) (H0 : 0 < H) (z0 : 0 ≤ z) (zc : z ≤ c * G) (α0 : 0 ≤ α) (β0 : 0 ≤ β)
    (a1 : p ≤ T + α) (a2 : T ≤ p + α) (b1 : T * (H - G) ≤ β * H) (b2 : T * (G - H) ≤ β * H) : L ≤ X + c * (α + β) ∧ X ≤ L + c * (α + β) := by
  have GH := Rat.mul_pos G0 H0
  have e : (L - X) * (G * H) = z * ((p - T) * H + T * (H - G)) := by
    have h1 : L * G * H = p * z * H := by rw [hL]
    have h2 : X * H * G = T * z * G := by rw [hX]
    grind
  have n0 := Rat.mul_nonneg z0 (Rat.le_of_lt H0)
  have n1 := Rat.mul_nonneg (show 0 ≤ T + α - p by grind) n0
  have n2 := Rat.mul_nonneg (show 0 ≤ p + α - T by grind) n0
  have n3 := Rat.mul_nonneg (show 0 ≤ β * H - T * (H - G) by grind) z0
  have n4 := Rat.mul_nonneg (show 0 ≤ β * H - T * (G - H) by grind) z0
  have n5 := Rat.mul_nonneg (show 0 ≤ c * G - z by grind) (Rat.mul_nonneg (show 0 ≤ α + β by grind) (Rat.le_of_lt H0))
  constructor
  · have : L - X ≤ c * (α + β) := Rat.le_of_mul_le_mul_right (c := G * H) (by grind) GH
    grind
  · have : -(c * (α + β)) ≤ L - X := Rat.le_of_mul_le_mul_right (c := G * H) (by grind) GH
    grind
theorem Cap.near {x : Option Nat} {v Q : Rat} (h : Cap x v Q) (hQ : Q ≤ 1 + 1 / 32768) : v ≤ Q + 1 / 32768 ∧ Q ≤ v + 1 / 32768 := by
  refine ⟨h.up, ?_⟩
  by_cases e : v < 1
  · exact h.dn e
  · have := h.v1
    grind
/-- The second way's numbers against the first way's. -/
theorem caps_near {lw rw : Option Nat} {l r L R X ε δ : Rat} (hl : Cap lw l L) (hr : Cap rw r R) (h1 : L ≤ X + ε) (h2 : (X ≤ L + ε) ∨ 1 ≤ L + ε) (h3 : R ≤ X + δ) (h4 : X ≤ R + δ) (ε0 : 0 ≤ ε) : l - r ≤ ε + δ + 2 / 32768 ∧ r - l ≤ ε + δ + 2 / 32768 := by
  have l1 := hl.v1
  have r1 := hr.v1
  have lu := hl.up
  have ru := hr.up
  constructor
  · by_cases e : r < 1
    · have := hr.dn e
      grind
    · grind
  · by_cases e : l < 1
    · have := hl.dn e
      rcases h2 with h2 | h2 <;> grind
    · grind
section
variable {b t r s u x z a : Rat} {fR fB fT gR gB gT hR hT : Option Nat}
/-- The films' words, one wavelength. -/
structure Wds (fR fB fT gR gB gT hR hT : Option Nat) (a b t r s u x z : Rat) : Prop where
  fR : Is .f32 fR a
  fB : Is .f32 fB b
  fT : Is .f32 fT t
  gR : Is .f32 gR r
  gB : Is .f32 gB s
  gT : Is .f32 gT u
  hR : Is .f32 hR x
  hT : Is .f32 hT z
theorem Asc.T1 (h : Asc b t r s u x z) {T : Rat} (hT : T * (1 - b * r) = t * u) : 0 ≤ T ∧ T ≤ 1 + 1 / 50000 := by
  have d1 := h.d1
  have m := Rat.mul_nonneg h.t0 h.u0
  have := ex_one h.t1 h.u0 h.u1 h.b0 (by have := h.b1; grind) h.r0 h.r1 h.bt h.ru
  exact ⟨quot_ge hT (by grind) (by grind), quot_le hT (by grind) (by grind)⟩
theorem Asc.T2 (h : Asc b t r s u x z) {T : Rat} (hT : T * (1 - s * x) = u * z) : 0 ≤ T ∧ T ≤ 1 + 1 / 50000 := by
  have d2 := h.d2
  have m := Rat.mul_nonneg h.u0 h.z0
  have := ex_one h.u1 h.z0 h.z1 h.s0 h.s1 h.x0 (by have := h.x1; grind) h.su h.xz
  exact ⟨quot_ge hT (by grind) (by grind), quot_le hT (by grind) (by grind)⟩
/-- T1 times how far the first two's back is off. -/
theorem off_small {T v Q : Rat} (T0 : 0 ≤ T) (T1 : T ≤ 1 + 1 / 50000) (hQ : Q ≤ 1 + 51 / 100000) (hlow : 1 < Q → T ≤ 56 / 100000) (v1 : v ≤ 1) (up : v ≤ Q + 1 / 32768) (dn : v < 1 → Q ≤ v + 1 / 32768) : T * (v - Q) ≤ 32 / 1000000 ∧ T * (Q - v) ≤ 32 / 1000000 := by
  have n1 := Rat.mul_nonneg T0 (show 0 ≤ Q + 1 / 32768 - v by grind)
  constructor
  · grind
  · by_cases e : v < 1
    · have n2 := Rat.mul_nonneg T0 (show 0 ≤ v + 1 / 32768 - Q by have := dn e; grind)
      grind
    · by_cases e2 : 1 < Q
      · have := hlow e2
        have n2 := Rat.mul_nonneg T0 (show 0 ≤ 1 + 51 / 100000 - Q by grind)
        have : v = 1 := by grind
        subst this
        grind
      · have n2 := Rat.mul_nonneg T0 (show 0 ≤ 1 - Q by grind)
        have : v = 1 := by grind
        subst this
        have n3 := Rat.mul_nonneg T0 (show 0 ≤ Q + 1 / 32768 - 1 by grind)
        grind
/-- The words of the three films put together, in two ways. -/
def sT (fB fT gR gT : Option Nat) : Option Nat := most (fdiv (fmul fT gT) (gapOf fB gR))
def sR (fR fB fT gR : Option Nat) : Option Nat := upon fR fT gR (gapOf fB gR)
def sB (gB gT fB gR : Option Nat) : Option Nat := upon gB gT fB (gapOf fB gR)
theorem lin_1 {H : Rat} (h : 28 / 1000 ≤ H) : 32 / 1000000 ≤ 115 / 100000 * H ∧ 0 < H := by constructor <;> grind
theorem lin_2 {H : Rat} (h : 1 / 67 ≤ H) : 32 / 1000000 ≤ 215 / 100000 * H ∧ 0 < H := by constructor <;> grind
theorem lin_3 {G : Rat} (h : 29 / 1000 ≤ G) : 0 < G ∧ ∀ x : Rat, x ≤ 971 / 1000 → x ≤ 67 / 2 * G := ⟨by grind, fun x hx => by grind⟩
theorem lin_4 {G : Rat} (h : 1 / 64 ≤ G) : 0 < G := by grind
set_option maxHeartbeats 4000000 in
theorem asc_near (h : Asc b t r s u x z) (a0 : 0 ≤ a) (a1 : a ≤ 1) (w : Wds fR fB fT gR gB gT hR hT a b t r s u x z) :
    near (sT (sB gB gT fB gR) (sT fB fT gR gT) hR hT) (sT fB fT (sR gR gB gT hR) (sT gB gT hR hT)) (canon .f32 1008981770) = true ∧
    near (sR (sR fR fB fT gR) (sB gB gT fB gR) (sT fB fT gR gT) hR) (sR fR fB fT (sR gR gB gT hR)) (canon .f32 1008981770) = true := by
  have d1 := h.d1
  have d2 := h.d2
  have b1 : b ≤ 1 := by have := h.b1; grind
  have x1 : x ≤ 1 := by have := h.x1; grind
  have sm := h.small
  -- what is meant
  obtain ⟨P, hP⟩ := quot_mk (u * u * b) (show 1 - b * r ≠ 0 by grind)
  obtain ⟨T1, hT1⟩ := quot_mk (t * u) (show 1 - b * r ≠ 0 by grind)
  obtain ⟨R1, hR1⟩ := quot_mk (t * t * r) (show 1 - b * r ≠ 0 by grind)
  obtain ⟨Q, hQ⟩ := quot_mk (u * u * x) (show 1 - s * x ≠ 0 by grind)
  obtain ⟨T2, hT2⟩ := quot_mk (u * z) (show 1 - s * x ≠ 0 by grind)
  have P0 := h.P0 hP
  have pB := h.pB hP
  have Q0 := h.Q0 hQ
  have qR := h.qR hQ
  have T1b := h.T1 hT1
  have T2b := h.T2 hT2
  have tt := Rat.mul_nonneg h.t0 (show 0 ≤ 1 - t by have := h.t1; grind)
  have tr := Rat.mul_nonneg (Rat.mul_nonneg h.t0 h.t0) (show 0 ≤ 1 - r by have := h.r1; grind)
  have tr0 := Rat.mul_nonneg (Rat.mul_nonneg h.t0 h.t0) h.r0
  have R10 : 0 ≤ R1 := quot_ge hR1 (by grind) (by grind)
  have R14 : R1 ≤ 4 := quot_le hR1 (by grind) (by grind)
  -- what is computed
  obtain ⟨d, id, d3, d4⟩ := gap_is w.fB w.gR h.b0 b1 h.r0 h.r1
  obtain ⟨k, ik, k3, k4⟩ := gap_is w.gB w.hR h.s0 h.s1 h.x0 x1
  obtain ⟨pt, cpT⟩ := t_cap w.fT w.gT id h.t0 h.t1 h.u0 h.u1 d3 d4 (by grind) hT1 (by grind)
  obtain ⟨pb, cpB⟩ := r_cap w.gB w.gT w.fB id h.s0 h.s1 h.u0 h.u1 h.b0 b1 d3 d4 (by grind) hP (by have := h.s0; grind)
  obtain ⟨pr, cpR⟩ := r_cap w.fR w.fT w.gR id a0 a1 h.t0 h.t1 h.r0 h.r1 d3 d4 (by grind) hR1 R14
  obtain ⟨qt, cqT⟩ := t_cap w.gT w.hT ik h.u0 h.u1 h.z0 h.z1 k3 k4 (by grind) hT2 (by grind)
  obtain ⟨qr, cqR⟩ := r_cap w.gR w.gT w.hR ik h.r0 h.r1 h.u0 h.u1 h.x0 x1 k3 k4 (by grind) hQ (by have := h.r0; grind)
  have npT := cpT.near (by grind)
  have nqT := cqT.near (by grind)
  have oB := off_small T1b.1 T1b.2 pB (h.pT_low hP hT1) cpB.v1 cpB.up cpB.dn
  have oR := off_small T2b.1 T2b.2 qR (h.qT_low hQ hT2) cqR.v1 cqR.up cqR.dn
  have zG := h.zG cpB.v1
  have zH := h.zH pB
  have tG := h.tG cqR.v1
  have tH := h.tH qR
  have TH := h.pT_H hP hT1
  -- names for the four gaps
  obtain ⟨G1, eG1⟩ : ∃ G, G = 1 - pb * x := ⟨_, rfl⟩
  obtain ⟨H1, eH1⟩ : ∃ G, G = 1 - (s + P) * x := ⟨_, rfl⟩
  obtain ⟨G2, eG2⟩ : ∃ G, G = 1 - b * qr := ⟨_, rfl⟩
  obtain ⟨H2, eH2⟩ : ∃ G, G = 1 - b * (r + Q) := ⟨_, rfl⟩
  rw [← eG1] at zG
  rw [← eH1] at zH TH
  rw [← eG2] at tG
  rw [← eH2] at tH
  obtain ⟨X, hX⟩ := quot_mk (T1 * z) (show H1 ≠ 0 by grind)
  obtain ⟨Z, hZ⟩ := quot_mk (T1 * T1 * x) (show H1 ≠ 0 by grind)
  have hX2 : X * H2 = T2 * t := by
    rw [eH1] at hX
    have := h.exT hP hT1 hQ hT2 hX
    rw [eH2, this]
    grind
  have hY : (R1 + Z) * H2 = t * t * (r + Q) := by
    rw [eH1] at hZ
    rw [eH2]
    exact h.exR hP hT1 hR1 hQ hZ
  obtain ⟨Lt, hLt⟩ := quot_mk (pt * z) (show G1 ≠ 0 by grind)
  obtain ⟨Lr, hLr⟩ := quot_mk (pt * pt * x) (show G1 ≠ 0 by grind)
  obtain ⟨Rt, hRt⟩ := quot_mk (qt * t) (show G2 ≠ 0 by grind)
  obtain ⟨Rr, hRr⟩ := quot_mk (t * t * qr) (show G2 ≠ 0 by grind)
  -- through all three
  have x0 := h.x0
  have b0 := h.b0
  have e1 : H1 - G1 = x * (pb - (s + P)) := by rw [eH1, eG1]; grind
  have e2 : H2 - G2 = b * (qr - (r + Q)) := by rw [eH2, eG2]; grind
  have u1 := Rat.mul_nonneg (show 0 ≤ 32 / 1000000 - T1 * (pb - (s + P)) by grind) x0
  have u2 := Rat.mul_nonneg (show 0 ≤ 32 / 1000000 - T1 * (s + P - pb) by grind) x0
  have u3 := Rat.mul_nonneg (show 0 ≤ 32 / 1000000 - T2 * (qr - (r + Q)) by grind) b0
  have u4 := Rat.mul_nonneg (show 0 ≤ 32 / 1000000 - T2 * (r + Q - qr) by grind) b0
  have s1 : T1 * (H1 - G1) ≤ 32 / 1000000 ∧ T1 * (G1 - H1) ≤ 32 / 1000000 := by
    have : T1 * (G1 - H1) = -(T1 * (H1 - G1)) := by grind
    rw [this, e1]
    constructor <;> grind
  have s2 : T2 * (H2 - G2) ≤ 32 / 1000000 ∧ T2 * (G2 - H2) ≤ 32 / 1000000 := by
    have : T2 * (G2 - H2) = -(T2 * (H2 - G2)) := by grind
    rw [this, e2]
    constructor <;> grind
  have k1 : 32 / 1000000 ≤ 115 / 100000 * H1 := (lin_1 zH.2).1
  have k2 : 32 / 1000000 ≤ 215 / 100000 * H2 := (lin_2 tH.2).1
  have G10 : 0 < G1 := (lin_3 zG.2).1
  have H10 : 0 < H1 := (lin_1 zH.2).2
  have G20 : 0 < G2 := lin_4 tG.2
  have H20 : 0 < H2 := (lin_2 tH.2).2
  have LX := ratio_near (c := 102 / 100) (α := 1 / 32768) (β := 115 / 100000) hLt hX G10 H10 h.z0 zG.1 (by decide +kernel) (by decide +kernel) npT.1 npT.2 (Rat.le_trans s1.1 k1) (Rat.le_trans s1.2 k1)
  have RX := ratio_near (c := 104 / 100) (α := 1 / 32768) (β := 215 / 100000) hRt hX2 G20 H20 h.t0 tG.1 (by decide +kernel) (by decide +kernel) nqT.1 nqT.2 (Rat.le_trans s2.1 k2) (Rat.le_trans s2.2 k2)
  -- back from all three
  have q1 : pt * pt ≤ T1 * T1 + 62 / 1000000 ∧ T1 * T1 ≤ pt * pt + 62 / 1000000 := by
    have v0 := cpT.v0
    have v1 := cpT.v1
    have m1 := Rat.mul_nonneg (show 0 ≤ T1 + 1 / 32768 - pt by grind) (show 0 ≤ pt + T1 by grind)
    have m2 := Rat.mul_nonneg (show 0 ≤ pt + 1 / 32768 - T1 by grind) (show 0 ≤ pt + T1 by grind)
    constructor <;> grind
  have s3 : T1 * T1 * (H1 - G1) ≤ 75 / 1000000 * H1 ∧ T1 * T1 * (G1 - H1) ≤ 75 / 1000000 * H1 := by
    have m1 := Rat.mul_nonneg T1b.1 (show 0 ≤ 32 / 1000000 - T1 * (H1 - G1) by grind)
    have m2 := Rat.mul_nonneg T1b.1 (show 0 ≤ 32 / 1000000 - T1 * (G1 - H1) by grind)
    constructor <;> grind
  have LZ := ratio_near (c := 67 / 2) (α := 62 / 1000000) (β := 75 / 1000000) hLr hZ G10 H10 h.x0 ((lin_3 zG.2).2 x h.x1) (by decide +kernel) (by decide +kernel) q1.1 q1.2 s3.1 s3.2
  have RY : Rr ≤ (R1 + Z) + 6 / 10000 ∧ R1 + Z ≤ Rr + 6 / 10000 := by
    have GH := Rat.mul_pos (show 0 < G2 by grind) (show 0 < H2 by grind)
    have e : (Rr - (R1 + Z)) * (G2 * H2) = t * t * (qr - (r + Q)) := by
      have h1 : Rr * G2 * H2 = t * t * qr * H2 := by rw [hRr]
      have h2 : (R1 + Z) * H2 * G2 = t * t * (r + Q) * G2 := by rw [hY]
      have h3 : t * t * qr * H2 - t * t * (r + Q) * G2 = t * t * (qr - (r + Q)) := by rw [eG2, eH2]; grind
      grind
    have hq : qr - (r + Q) ≤ 52 / 100000 ∧ r + Q - qr ≤ 52 / 100000 := by
      have up := cqR.up
      constructor
      · grind
      · by_cases e : qr < 1
        · have := cqR.dn e
          grind
        · grind
    have t2 := Rat.mul_nonneg h.t0 h.t0
    have m1 := Rat.mul_nonneg t2 (show 0 ≤ 52 / 100000 - (qr - (r + Q)) by grind)
    have m2 := Rat.mul_nonneg t2 (show 0 ≤ 52 / 100000 - (r + Q - qr) by grind)
    have m3 := Rat.mul_nonneg h.t0 (show 0 ≤ 104 / 100 * G2 - t by grind)
    have m4 := Rat.mul_nonneg (show 0 ≤ G2 by grind) (show 0 ≤ 108 / 100 * H2 - t by grind)
    constructor
    · have : Rr - (R1 + Z) ≤ 6 / 10000 := Rat.le_of_mul_le_mul_right (c := G2 * H2) (by rw [e]; grind) GH
      grind
    · have : -(6 / 10000) ≤ Rr - (R1 + Z) := Rat.le_of_mul_le_mul_right (c := G2 * H2) (by rw [e]; grind) GH
      grind
  -- the words
  have X0 : 0 ≤ X := quot_ge hX (by grind) (by have := Rat.mul_nonneg T1b.1 h.z0; grind)
  have Z0 : 0 ≤ Z := quot_ge hZ (by grind) (by have := Rat.mul_nonneg (Rat.mul_nonneg T1b.1 T1b.1) h.x0; grind)
  have X2 : X ≤ 2 := quot_le hX (by grind) (by have := Rat.mul_nonneg h.z0 (show 0 ≤ 1 + 1 / 50000 - T1 by grind); grind)
  have Y2 : R1 + Z ≤ 2 := by
    have := Rat.mul_nonneg h.t0 (show 0 ≤ 108 / 100 * H2 - t by grind)
    have := Rat.mul_nonneg (Rat.mul_nonneg h.t0 h.t0) (show 0 ≤ 1 + 51 / 100000 - (r + Q) by grind)
    exact quot_le hY (by grind) (by have := h.t1; grind)
  obtain ⟨g, ig, g3, g4⟩ := gap_is cpB.i w.hR cpB.v0 cpB.v1 h.x0 x1
  obtain ⟨j, ij, j3, j4⟩ := gap_is w.fB cqR.i h.b0 b1 cqR.v0 cqR.v1
  rw [← eG1] at g3 g4
  rw [← eG2] at j3 j4
  obtain ⟨lt, clT⟩ := t_cap cpT.i w.hT ig cpT.v0 cpT.v1 h.z0 h.z1 g3 g4 (by grind) hLt (by grind)
  obtain ⟨lr, clR⟩ := r_cap cpR.i cpT.i w.hR ig cpR.v0 cpR.v1 cpT.v0 cpT.v1 h.x0 x1 g3 g4 (by grind) hLr (by grind)
  obtain ⟨rt, crT⟩ := t_cap w.fT cqT.i ij h.t0 h.t1 cqT.v0 cqT.v1 j3 j4 (by grind) (by rw [hRt]; grind) (by grind)
  obtain ⟨rr, crR⟩ := r_cap w.fR w.fT cqR.i ij a0 a1 h.t0 h.t1 cqR.v0 cqR.v1 j3 j4 (by grind) hRr (by grind)
  have cV := centiV_near
  have nT := caps_near clT crT (X := X) (ε := 13 / 10000) (δ := 25 / 10000) (by grind) (.inl (by grind)) (by grind) (by grind) (by decide +kernel)
  have Lr0 : 0 ≤ Lr := quot_ge hLr (by grind) (by have := Rat.mul_nonneg (Rat.mul_nonneg cpT.v0 cpT.v0) h.x0; grind)
  have nR := caps_near clR crR (X := a + (R1 + Z)) (ε := 5 / 1000) (δ := 6 / 10000) (by have := cpR.up; grind) (by
    by_cases e : pr < 1
    · have := cpR.dn e
      exact .inl (by grind)
    · exact .inr (by grind)) (by grind) (by grind) (by decide +kernel)
  exact ⟨near_of clT.i crT.i centi_is (by grind) (by grind), near_of clR.i crR.i centi_is (by grind) (by grind)⟩
end
end Go.Proofs.Ytfpjiclkhjdihaa
