/- Sums of films, one wavelength: what is computed is near what is meant, and what is meant does not depend on the order. No program is named here. -/
import Derived.Test.YtfpjiclkhjdihaaFlD
import Derived.Test.YtfpjiclkhjdihaaDM
import Derived.Test.YtfpjiclkhjdihaaFnt
namespace Go.Proofs.Ytfpjiclkhjdihaa
open Go.RowKit
set_option maxRecDepth 100000

/-- A number that is nearly Q, but at most 1. -/
structure Cap (x : Option Nat) (v Q : Rat) : Prop where
  i : Is .f32 x v
  v0 : 0 ≤ v
  v1 : v ≤ 1
  up : v ≤ Q + 1 / 32768
  dn : v < 1 → Q ≤ v + 1 / 32768
theorem most_cap {x : Option Nat} {s Q : Rat} (is : Is .f32 x s) (s0 : 0 ≤ s) (h1 : s ≤ Q + 1 / 32768) (h2 : Q ≤ s + 1 / 32768) : ∃ v, Cap (most x) v Q := by
  by_cases hgt : 1 < s
  · refine ⟨1, ?_, by decide, by decide, by grind, fun h => absurd h (by grind)⟩
    unfold most
    rw [fgt_is is i1]
    simp only [hgt, decide_true, if_true]
    exact i1
  · refine ⟨s, ?_, s0, by grind, h1, fun _ => h2⟩
    unfold most
    rw [fgt_is is i1]
    simp only [hgt, decide_false, Bool.false_eq_true, if_false]
    exact is
theorem gap_is {bw qw : Option Nat} {b r : Rat} (ib : Is .f32 bw b) (iq : Is .f32 qw r) (b0 : 0 ≤ b) (b1 : b ≤ 1) (r0 : 0 ≤ r) (r1 : r ≤ 1) : ∃ d, Is .f32 (gapOf bw qw) d ∧ d ≤ 1 - b * r + 1 / 16777216 ∧ 1 - b * r ≤ d + 1 / 16777216 := by
  obtain ⟨z0, z1⟩ := h_0
  have m0 := Rat.mul_nonneg b0 r0
  have m1 := Rat.mul_nonneg b0 (show 0 ≤ 1 - r by grind)
  obtain ⟨p, ip, hp⟩ := nh_mul 0 z0 z1 (by decide) (by decide) ib iq (by grind) (by grind)
  have p0 := nonneg_of hp.rnd m0
  have pt := hp.top
  obtain ⟨d, id, hd⟩ := nh_sub 0 z0 z1 (by decide) (by decide) i1 ip (by grind) (by grind)
  have h1 := hp.hi
  have h2 := hp.lo
  have h3 := hd.hi
  have h4 := hd.lo
  exact ⟨d, id, by grind, by grind⟩
theorem quo_near {mw dw : Option Nat} {m d M D Q : Rat} (im : Is .f32 mw m) (id : Is .f32 dw d) (m0 : 0 ≤ m) (h1 : m ≤ M + 1 / 16777216) (h2 : M ≤ m + 1 / 16777216) (h3 : d ≤ D + 1 / 16777216) (h4 : D ≤ d + 1 / 16777216) (D0 : 1 / 66 ≤ D) (hQ : Q * D = M) (Q0 : 0 ≤ Q) (Q4 : Q ≤ 4) :
    ∃ q, Is .f32 (fdiv mw dw) q ∧ 0 ≤ q ∧ q ≤ 5 ∧ q ≤ Q + 1 / 48000 ∧ Q ≤ q + 1 / 48000 := by
  have d0 : 1 / 67 ≤ d := by grind
  obtain ⟨P, hP⟩ := quot_mk m (show d ≠ 0 by grind)
  have x1 := Rat.mul_nonneg Q0 (show 0 ≤ d + 1 / 16777216 - D by grind)
  have x2 := Rat.mul_nonneg Q0 (show 0 ≤ D + 1 / 16777216 - d by grind)
  have P0 : 0 ≤ P := quot_ge hP (by grind) (by grind)
  have P1 : P ≤ Q + 1 / 49500 := quot_le hP (by grind) (by grind)
  have P2 : Q ≤ P + 1 / 49500 := by
    have : Q - 1 / 49500 ≤ P := quot_ge hP (by grind) (by grind)
    grind
  obtain ⟨q, iq, hq⟩ := nr_div 3 k_3.1 k_3.2 (by decide) (by decide) im id (by grind) hP (by grind) (by grind)
  have q0 := nonneg_of hq.rnd P0
  have g1 := hq.hi
  have g2 := hq.lo
  exact ⟨q, iq, q0, by grind, by grind, by grind⟩
section
variable {tw uw dw aw rw : Option Nat} {t u d D Q a r : Rat}
theorem t_cap (it : Is .f32 tw t) (iu : Is .f32 uw u) (id : Is .f32 dw d) (t0 : 0 ≤ t) (t1 : t ≤ 1) (u0 : 0 ≤ u) (u1 : u ≤ 1) (h3 : d ≤ D + 1 / 16777216) (h4 : D ≤ d + 1 / 16777216) (D0 : 1 / 66 ≤ D) (hQ : Q * D = t * u) (Q4 : Q ≤ 4) : ∃ v, Cap (most (fdiv (fmul tw uw) dw)) v Q := by
  obtain ⟨z0, z1⟩ := h_0
  have m0 := Rat.mul_nonneg t0 u0
  have m1 := Rat.mul_nonneg t0 (show 0 ≤ 1 - u by grind)
  have Q0 : 0 ≤ Q := quot_ge hQ (by grind) (by grind)
  obtain ⟨m, im, hm⟩ := nh_mul 0 z0 z1 (by decide) (by decide) it iu (by grind) (by grind)
  have n0 := nonneg_of hm.rnd m0
  have g1 := hm.hi
  have g2 := hm.lo
  obtain ⟨q, iq, q0, q5, e1, e2⟩ := quo_near im id n0 (M := t * u) (by grind) (by grind) h3 h4 D0 hQ Q0 Q4
  exact most_cap iq q0 (by grind) (by grind)
theorem r_cap (ia : Is .f32 aw a) (it : Is .f32 tw t) (ir : Is .f32 rw r) (id : Is .f32 dw d) (a0 : 0 ≤ a) (a1 : a ≤ 1) (t0 : 0 ≤ t) (t1 : t ≤ 1) (r0 : 0 ≤ r) (r1 : r ≤ 1) (h3 : d ≤ D + 1 / 16777216) (h4 : D ≤ d + 1 / 16777216) (D0 : 1 / 66 ≤ D) (hQ : Q * D = t * t * r) (Q4 : Q ≤ 4) : ∃ v, Cap (upon aw tw rw dw) v (a + Q) := by
  obtain ⟨z0, z1⟩ := h_0
  have m0 := Rat.mul_nonneg t0 t0
  have m1 := Rat.mul_nonneg t0 (show 0 ≤ 1 - t by grind)
  have tt0 := Rat.mul_nonneg m0 r0
  have Q0 : 0 ≤ Q := quot_ge hQ (by grind) (by grind)
  obtain ⟨m, im, hm⟩ := nh_mul 0 z0 z1 (by decide) (by decide) it it (by grind) (by grind)
  have n0 := nonneg_of hm.rnd m0
  have nt := hm.top
  have g1 := hm.hi
  have g2 := hm.lo
  have y0 := Rat.mul_nonneg n0 r0
  have y1 := Rat.mul_nonneg n0 (show 0 ≤ 1 - r by grind)
  obtain ⟨k, ik, hk⟩ := nh_mul 0 z0 z1 (by decide) (by decide) im ir (by grind) (by grind)
  have k0 := nonneg_of hk.rnd y0
  have g3 := hk.hi
  have g4 := hk.lo
  have w1 := Rat.mul_nonneg (show 0 ≤ t * t + 1 / 33554432 - m by grind) r0
  have w2 := Rat.mul_nonneg (show 0 ≤ m + 1 / 33554432 - t * t by grind) r0
  obtain ⟨q, iq, q0, q5, e1, e2⟩ := quo_near ik id k0 (M := t * t * r) (by grind) (by grind) h3 h4 D0 hQ Q0 Q4
  obtain ⟨s, is, hs⟩ := nr_add 3 k_3.1 k_3.2 (by decide) (by decide) ia iq (by grind) (by grind)
  have s0 := nonneg_of hs.rnd (by grind)
  have g5 := hs.hi
  have g6 := hs.lo
  exact most_cap is s0 (by grind) (by grind)
theorem t_zero (it : Is .f32 tw 0) (iu : Is .f32 uw u) (id : Is .f32 dw d) (d0 : d ≠ 0) : Is .f32 (most (fdiv (fmul tw uw) dw)) 0 := by
  have m1 : (0 : Rat) * u = 0 := by grind
  obtain ⟨m, im, rm⟩ := is_mul it iu (by rw [m1]; exact rep_zero.fit)
  rw [m1] at rm
  rw [rm.of_rep rep_zero] at im
  have m3 : (0 : Rat) / d = 0 := by rw [Rat.div_def]; grind
  obtain ⟨q, iq, rq⟩ := is_div im id d0 (by rw [m3]; exact rep_zero.fit)
  rw [m3] at rq
  rw [rq.of_rep rep_zero] at iq
  have iq' : Is .f32 (fdiv (fmul tw uw) dw) 0 := iq
  unfold most
  rw [fgt_is iq' i1]
  have : ¬ ((1 : Rat) < 0) := by decide
  simp only [this, decide_false, Bool.false_eq_true, if_false]
  exact iq
theorem r_zero (ia : Is .f32 aw a) (it : Is .f32 tw 0) (ir : Is .f32 rw r) (id : Is .f32 dw d) (a1 : a ≤ 1) (d0 : d ≠ 0) : Is .f32 (upon aw tw rw dw) a := by
  have m1 : (0 : Rat) * 0 = 0 := by grind
  obtain ⟨m, im, rm⟩ := is_mul it it (by rw [m1]; exact rep_zero.fit)
  rw [m1] at rm
  rw [rm.of_rep rep_zero] at im
  have m2 : (0 : Rat) * r = 0 := by grind
  obtain ⟨k, ik, rk⟩ := is_mul im ir (by rw [m2]; exact rep_zero.fit)
  rw [m2] at rk
  rw [rk.of_rep rep_zero] at ik
  have m3 : (0 : Rat) / d = 0 := by rw [Rat.div_def]; grind
  obtain ⟨q, iq, rq⟩ := is_div ik id d0 (by rw [m3]; exact rep_zero.fit)
  rw [m3] at rq
  rw [rq.of_rep rep_zero] at iq
  have m4 : a + 0 = a := by grind
  obtain ⟨s, is, rs⟩ := is_add ia iq (by rw [m4]; exact ia.rep.fit)
  rw [m4] at rs
  rw [rs.of_rep ia.rep] at is
  have is' : Is .f32 (fadd aw (fdiv (fmul (fmul tw tw) rw) dw)) a := is
  unfold upon most
  rw [fgt_is is' i1]
  have : ¬ (1 < a) := by grind
  simp only [this, decide_false, Bool.false_eq_true, if_false]
  exact is'
end
/-! ### What is meant -/
/-- The numbers of three films, one wavelength: b, t of the first one; r, s, u of the second one; x, z of the third one. -/
structure Asc (b t r s u x z : Rat) : Prop where
  b0 : 0 ≤ b
  b1 : b ≤ 63 / 64
  t0 : 0 ≤ t
  t1 : t ≤ 1
  bt : b + t ≤ 1 + 51 / 100000
  r0 : 0 ≤ r
  r1 : r ≤ 1
  s0 : 0 ≤ s
  s1 : s ≤ 1
  u0 : 0 ≤ u
  u1 : u ≤ 1
  ru : r + u ≤ 1 + 51 / 100000
  su : s + u ≤ 1 + 51 / 100000
  x0 : 0 ≤ x
  x1 : x ≤ 971 / 1000
  z0 : 0 ≤ z
  z1 : z ≤ 1
  xz : x + z ≤ 1 + 51 / 100000
theorem ex_one {t u b r : Rat} (t1 : t ≤ 1) (u0 : 0 ≤ u) (u1 : u ≤ 1) (b0 : 0 ≤ b) (b1 : b ≤ 1) (r0 : 0 ≤ r) (r1 : r ≤ 1) (hb : b + t ≤ 1 + 51 / 100000) (hr : r + u ≤ 1 + 51 / 100000) : t * u + b * r ≤ 1 + 27 / 100000000 := by
  by_cases ht : 51 / 100000 ≤ t
  · by_cases hu : 51 / 100000 ≤ u
    · have h1 := Rat.mul_nonneg r0 (show 0 ≤ 1 + 51 / 100000 - t - b by grind)
      have h2 := Rat.mul_nonneg (show 0 ≤ 1 + 51 / 100000 - t by grind) (show 0 ≤ 1 + 51 / 100000 - u - r by grind)
      have h3 := Rat.mul_nonneg (show 0 ≤ 1 - t by grind) (show 0 ≤ u - 51 / 100000 by grind)
      have h4 := Rat.mul_nonneg (show 0 ≤ 1 - u by grind) (show 0 ≤ t - 51 / 100000 by grind)
      grind
    · have h1 := Rat.mul_nonneg b0 (show 0 ≤ 1 - r by grind)
      have h2 := Rat.mul_nonneg (show 0 ≤ t - 51 / 100000 by grind) (show 0 ≤ 1 - u by grind)
      grind
  · have h1 := Rat.mul_nonneg r0 (show 0 ≤ 1 - b by grind)
    by_cases hu : 51 / 100000 ≤ u
    · have h2 := Rat.mul_nonneg (show 0 ≤ u - 51 / 100000 by grind) (show 0 ≤ 1 - t by grind)
      grind
    · have h2 := Rat.mul_nonneg u0 (show 0 ≤ 51 / 100000 - t by grind)
      grind
section
variable {b t r s u x z : Rat}
theorem Asc.d1 (h : Asc b t r s u x z) : 1 / 64 ≤ 1 - b * r := by
  have := Rat.mul_nonneg h.b0 (show 0 ≤ 1 - r by have := h.r1; grind)
  have := h.b1
  grind
theorem Asc.d2 (h : Asc b t r s u x z) : 29 / 1000 ≤ 1 - s * x := by
  have := Rat.mul_nonneg h.x0 (show 0 ≤ 1 - s by have := h.s1; grind)
  have := h.x1
  grind
theorem Asc.tG (h : Asc b t r s u x z) {q : Rat} (q1 : q ≤ 1) : t ≤ 104 / 100 * (1 - b * q) ∧ 1 / 64 ≤ 1 - b * q := by
  have := Rat.mul_nonneg h.b0 (show 0 ≤ 1 - q by grind)
  have := h.b1
  have := h.bt
  constructor <;> grind
theorem Asc.tH (h : Asc b t r s u x z) {q : Rat} (q1 : q ≤ 1 + 51 / 100000) : t ≤ 108 / 100 * (1 - b * q) ∧ 1 / 67 ≤ 1 - b * q := by
  have := Rat.mul_nonneg h.b0 (show 0 ≤ 1 + 51 / 100000 - q by grind)
  have := h.b1
  have := h.bt
  constructor <;> grind
theorem Asc.zG (h : Asc b t r s u x z) {p : Rat} (p1 : p ≤ 1) : z ≤ 102 / 100 * (1 - p * x) ∧ 29 / 1000 ≤ 1 - p * x := by
  have := Rat.mul_nonneg h.x0 (show 0 ≤ 1 - p by grind)
  have := h.x1
  have := h.xz
  constructor <;> grind
theorem Asc.zH (h : Asc b t r s u x z) {p : Rat} (p1 : p ≤ 1 + 51 / 100000) : z ≤ 104 / 100 * (1 - p * x) ∧ 28 / 1000 ≤ 1 - p * x := by
  have := Rat.mul_nonneg h.x0 (show 0 ≤ 1 + 51 / 100000 - p by grind)
  have := h.x1
  have := h.xz
  constructor <;> grind
theorem Asc.small (h : Asc b t r s u x z) : u ≤ 17 / 16 * (1 - b * r) ∧ t ≤ 17 / 16 * (1 - b * r) ∧ u ≤ 104 / 100 * (1 - s * x) := by
  have d1 := h.d1
  have d2 := h.d2
  have := Rat.mul_nonneg h.r0 (show 0 ≤ 1 - b by have := h.b1; grind)
  have := Rat.mul_nonneg h.b0 (show 0 ≤ 1 - r by have := h.r1; grind)
  have := Rat.mul_nonneg h.s0 (show 0 ≤ 1 - x by have := h.x1; grind)
  have := h.ru
  have := h.bt
  have := h.su
  refine ⟨by grind, by grind, by grind⟩
theorem Asc.P0 (h : Asc b t r s u x z) {P : Rat} (hP : P * (1 - b * r) = u * u * b) : 0 ≤ P := by
  have d1 := h.d1
  have := Rat.mul_nonneg (Rat.mul_nonneg h.u0 h.u0) h.b0
  exact quot_ge hP (by grind) (by grind)
theorem Asc.pB (h : Asc b t r s u x z) {P : Rat} (hP : P * (1 - b * r) = u * u * b) : s + P ≤ 1 + 51 / 100000 := by
  have d1 := h.d1
  have h1 := Rat.mul_nonneg (show 0 ≤ 1 + 51 / 100000 - s - u by have := h.su; grind) (show 0 ≤ 1 - b * r by grind)
  have h2 := Rat.mul_nonneg h.b0 (show 0 ≤ 1 + 51 / 100000 - r - u by have := h.ru; grind)
  have h3 := Rat.mul_nonneg h.u0 (show 0 ≤ 1 - b * r - b * u by have := h.b1; grind)
  have : P ≤ 1 + 51 / 100000 - s := quot_le hP (by grind) (by grind)
  grind
theorem Asc.Q0 (h : Asc b t r s u x z) {Q : Rat} (hQ : Q * (1 - s * x) = u * u * x) : 0 ≤ Q := by
  have d2 := h.d2
  have := Rat.mul_nonneg (Rat.mul_nonneg h.u0 h.u0) h.x0
  exact quot_ge hQ (by grind) (by grind)
theorem Asc.qR (h : Asc b t r s u x z) {Q : Rat} (hQ : Q * (1 - s * x) = u * u * x) : r + Q ≤ 1 + 51 / 100000 := by
  have d2 := h.d2
  have h1 := Rat.mul_nonneg (show 0 ≤ 1 + 51 / 100000 - r - u by have := h.ru; grind) (show 0 ≤ 1 - s * x by grind)
  have h2 := Rat.mul_nonneg h.x0 (show 0 ≤ 1 + 51 / 100000 - s - u by have := h.su; grind)
  have h3 := Rat.mul_nonneg h.u0 (show 0 ≤ 1 - s * x - x * u by have := h.x1; grind)
  have : Q ≤ 1 + 51 / 100000 - r := quot_le hQ (by grind) (by grind)
  grind
/-- Where the sum's back would be more than 1, next to nothing goes through. -/
theorem Asc.pT_low (h : Asc b t r s u x z) {P T : Rat} (hP : P * (1 - b * r) = u * u * b) (hT : T * (1 - b * r) = t * u) (hb : 1 < s + P) : T ≤ 56 / 100000 := by
  have d1 := h.d1
  have h1 := Rat.mul_nonneg (show 0 ≤ P - (u - 51 / 100000) by have := h.su; grind) (show 0 ≤ 1 - b * r by grind)
  have h2 := Rat.mul_nonneg h.u0 (Rat.mul_nonneg h.b0 (show 0 ≤ 1 + 51 / 100000 - r - u by have := h.ru; grind))
  have hk := (h.tH (q := 1 + 51 / 100000) (by grind))
  obtain ⟨k, ek⟩ : ∃ k, k = 1 - b * (1 + 51 / 100000) := ⟨_, rfl⟩
  rw [← ek] at hk
  have u1 : u * k ≤ 51 / 100000 * (1 - b * r) := by rw [ek]; grind
  have h3 := Rat.mul_nonneg h.t0 (show 0 ≤ 51 / 100000 * (1 - b * r) - u * k by grind)
  have h4 : T * k ≤ 51 / 100000 * t := by
    refine Rat.le_of_mul_le_mul_right (c := 1 - b * r) ?_ (by grind)
    have : T * k * (1 - b * r) = t * (u * k) := by have := congrArg (· * k) hT; grind
    grind
  exact Rat.le_of_mul_le_mul_right (c := k) (by grind) (by grind)
theorem Asc.qT_low (h : Asc b t r s u x z) {Q T : Rat} (hQ : Q * (1 - s * x) = u * u * x) (hT : T * (1 - s * x) = u * z) (hb : 1 < r + Q) : T ≤ 56 / 100000 := by
  have d2 := h.d2
  have h1 := Rat.mul_nonneg (show 0 ≤ Q - (u - 51 / 100000) by have := h.ru; grind) (show 0 ≤ 1 - s * x by grind)
  have h2 := Rat.mul_nonneg h.u0 (Rat.mul_nonneg h.x0 (show 0 ≤ 1 + 51 / 100000 - s - u by have := h.su; grind))
  have hk := (h.zH (p := 1 + 51 / 100000) (by grind))
  obtain ⟨k, ek⟩ : ∃ k, k = 1 - (1 + 51 / 100000) * x := ⟨_, rfl⟩
  rw [← ek] at hk
  have u1 : u * k ≤ 51 / 100000 * (1 - s * x) := by rw [ek]; grind
  have h3 := Rat.mul_nonneg h.z0 (show 0 ≤ 51 / 100000 * (1 - s * x) - u * k by grind)
  have h4 : T * k ≤ 51 / 100000 * z := by
    refine Rat.le_of_mul_le_mul_right (c := 1 - s * x) ?_ (by grind)
    have : T * k * (1 - s * x) = z * (u * k) := by have := congrArg (· * k) hT; grind
    grind
  exact Rat.le_of_mul_le_mul_right (c := k) (by grind) (by grind)
/-- What goes through the first two, against what the third one sees of them. -/
theorem Asc.pT_H (h : Asc b t r s u x z) {P T : Rat} (hP : P * (1 - b * r) = u * u * b) (hT : T * (1 - b * r) = t * u) : T ≤ 23 / 10 * (1 - (s + P) * x) := by
  have d1 := h.d1
  refine Rat.le_of_mul_le_mul_right (c := 1 - b * r) ?_ (by grind)
  rw [hT]
  have eΔ : (1 - (s + P) * x) * (1 - b * r) = (1 - s * x) * (1 - b * r) - u * u * b * x := by have := congrArg (· * x) hP; grind
  have e2 : 23 / 10 * (1 - (s + P) * x) * (1 - b * r) = 23 / 10 * ((1 - s * x) * (1 - b * r) - u * u * b * x) := by rw [← eΔ]; grind
  rw [e2]
  clear e2 eΔ hP hT
  have hs := h.small
  have ht := (h.tH (q := 1 + 51 / 100000) (by grind)).1
  have h1 := Rat.mul_nonneg (Rat.mul_nonneg h.x0 (show 0 ≤ 1 + 51 / 100000 - s - u by have := h.su; grind)) (show 0 ≤ 1 - b * r by grind)
  have h2 := Rat.mul_nonneg (Rat.mul_nonneg h.u0 h.x0) (Rat.mul_nonneg h.b0 (show 0 ≤ 1 + 51 / 100000 - r - u by have := h.ru; grind))
  have h3 := Rat.mul_nonneg (Rat.mul_nonneg h.u0 h.x0) (show 0 ≤ 108 / 100 * (1 - b * (1 + 51 / 100000)) - t by grind)
  have h5 := Rat.mul_nonneg h.u0 h.x0
  have h6 := Rat.mul_nonneg h5 (show 0 ≤ 1 - b * (1 + 51 / 100000) by have := h.b1; grind)
  by_cases hx : 1 / 2 ≤ x
  · have h4 := Rat.mul_nonneg (Rat.mul_nonneg h.u0 h.t0) (show 0 ≤ x - 1 / 2 by grind)
    have h7 := Rat.mul_nonneg (show 0 ≤ 1 - (1 + 51 / 100000) * x by have := h.x1; grind) (show 0 ≤ 1 - b * r by grind)
    grind
  · have h4 := Rat.mul_nonneg h.t0 (show 0 ≤ 17 / 16 * (1 - b * r) - u by grind)
    have h8 := Rat.mul_nonneg (show 0 ≤ 1 - t by have := h.t1; grind) (show 0 ≤ 1 - b * r by grind)
    have h7 := Rat.mul_nonneg (show 0 ≤ 1 / 2 - x by grind) (show 0 ≤ 1 - b * r by grind)
    grind
end
end Go.Proofs.Ytfpjiclkhjdihaa
