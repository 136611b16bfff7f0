/- The logarithm of what is raised is nearly the exponent: step by step. No program is named here. -/
import Derived.Test.YtghmonkoleegjaaPln
namespace Go.Proofs.Ytghmonkoleegjaa
open Go.RowKit
set_option maxRecDepth 100000

def uOf (z : Rat) : Rat := (z - 1) / (z + 1)
def logA (z : Rat) : Rat := 2 * logB (uOf z) 15
theorem uOf_is {z : Rat} (h : 1 ≤ z) (h2 : z ≤ 21 / 10) : uOf z * (z + 1) = z - 1 ∧ 0 ≤ uOf z ∧ uOf z ≤ 2 / 5 := by
  have e : uOf z * (z + 1) = z - 1 := Rat.div_mul_cancel (by grind)
  exact ⟨e, quot_ge e (by grind) (by grind), quot_le e (by grind) (by grind)⟩
theorem logA_diff {z v : Rat} (h : 1 ≤ z) (hzv : z ≤ v) (h2 : v ≤ 21 / 10) : (logA v - logA z) * (v * (z + 1)) ≤ (v - z) * (v + 1) ∧ (v - z) * (z + 1) * (1 - 1 / 100000000000) ≤ (logA v - logA z) * (z * (v + 1)) := by
  obtain ⟨a1, a2, a3⟩ := uOf_is h (by grind)
  obtain ⟨b1, b2, b3⟩ := uOf_is (show 1 ≤ v by grind) h2
  unfold logA
  generalize uOf z = u at *
  generalize uOf v = w at *
  -- (w - u) (v + 1) (z + 1) = 2 (v - z)
  have e1 : (w - u) * ((v + 1) * (z + 1)) = 2 * (v - z) := by
    have : (w - u) * ((v + 1) * (z + 1)) = (w * (v + 1)) * (z + 1) - (u * (z + 1)) * (v + 1) := by grind
    rw [this, a1, b1]
    grind
  have huw : u ≤ w := by
    have := quot_ge (B := 0) e1 (Rat.mul_pos (by grind) (by grind)) (by grind)
    grind
  obtain ⟨d1, d2⟩ := logB_diff a2 huw 15
  have g1 := geoN_is u 15
  have g2 := geoN_is w 15
  have s1 := rpow_small a2 a3
  have s2 := rpow_nonneg b2 30
  have s3 := rpow_nonneg a2 30
  have e30 : 2 * 15 = 30 := rfl
  rw [e30] at g1 g2
  have e2 : (1 - w * w) * ((v + 1) * (v + 1)) = 4 * v := by
    have : (1 - w * w) * ((v + 1) * (v + 1)) = (v + 1) * (v + 1) - (w * (v + 1)) * (w * (v + 1)) := by grind
    rw [this, b1]
    grind
  have e3 : (1 - u * u) * ((z + 1) * (z + 1)) = 4 * z := by
    have : (1 - u * u) * ((z + 1) * (z + 1)) = (z + 1) * (z + 1) - (u * (z + 1)) * (u * (z + 1)) := by grind
    rw [this, a1]
    grind
  have w1 : 0 ≤ 1 - w * w := by have := Rat.mul_nonneg (show 0 ≤ 2 / 5 - w by grind) b2; grind
  have w2 : 0 ≤ 1 - u * u := by have := Rat.mul_nonneg (show 0 ≤ 2 / 5 - u by grind) a2; grind
  generalize rpow u 30 = ru at *
  generalize rpow w 30 = rw' at *
  generalize geoN u 15 = gu at *
  generalize geoN w 15 = gw at *
  obtain ⟨L, hL⟩ : ∃ L, L = logB w 15 - logB u 15 := ⟨_, rfl⟩
  rw [← hL] at d1 d2
  have eL : 2 * logB w 15 - 2 * logB u 15 = 2 * L := by grind
  rw [eL]
  constructor
  · -- L (1 - w w) ≤ w - u
    have m1 := Rat.mul_nonneg (show 0 ≤ (w - u) * gw - L by grind) w1
    have m2 : (w - u) * gw * (1 - w * w) = (w - u) * (1 - rw') := by rw [← g2]; grind
    have m3 := Rat.mul_nonneg (show 0 ≤ w - u by grind) s2
    have m4 : L * (1 - w * w) ≤ w - u := by grind
    have m5 := Rat.mul_le_mul_of_nonneg_right m4 (show 0 ≤ (v + 1) * ((v + 1) * (z + 1)) from Rat.mul_nonneg (by grind) (Rat.mul_nonneg (by grind) (by grind)))
    have m6 : L * (1 - w * w) * ((v + 1) * ((v + 1) * (z + 1))) = L * (4 * v) * (z + 1) := by rw [← e2]; grind
    have m7 : (w - u) * ((v + 1) * ((v + 1) * (z + 1))) = 2 * (v - z) * (v + 1) := by rw [← e1]; grind
    rw [m6, m7] at m5
    grind
  · have m1 := Rat.mul_nonneg (show 0 ≤ L - (w - u) * gu by grind) w2
    have m2 : (w - u) * gu * (1 - u * u) = (w - u) * (1 - ru) := by rw [← g1]; grind
    have m3 := Rat.mul_nonneg (show 0 ≤ w - u by grind) (show 0 ≤ 1 / 100000000000 - ru by grind)
    have m4 : (w - u) * (1 - 1 / 100000000000) ≤ L * (1 - u * u) := by grind
    have m5 := Rat.mul_le_mul_of_nonneg_right m4 (show 0 ≤ (z + 1) * ((v + 1) * (z + 1)) from Rat.mul_nonneg (by grind) (Rat.mul_nonneg (by grind) (by grind)))
    have m6 : L * (1 - u * u) * ((z + 1) * ((v + 1) * (z + 1))) = L * (4 * z) * (v + 1) := by rw [← e3]; grind
    have m7 : (w - u) * (1 - 1 / 100000000000) * ((z + 1) * ((v + 1) * (z + 1))) = 2 * (v - z) * (z + 1) * (1 - 1 / 100000000000) := by rw [← e1]; grind
    rw [m6, m7] at m5
    grind
/-- It grows no faster than what it is taken of, nor much slower. -/
theorem logA_lip {z v : Rat} (h : 1 ≤ z) (hzv : z ≤ v) (h2 : v ≤ 21 / 10) : 0 ≤ logA v - logA z ∧ logA v - logA z ≤ v - z ∧ (v - z) * (4 / 10) ≤ logA v - logA z := by
  obtain ⟨d1, d2⟩ := logA_diff h hzv h2
  generalize logA v - logA z = a at *
  have p1 : 0 < z * (v + 1) := Rat.mul_pos (by grind) (by grind)
  have p2' : 0 < v * (z + 1) := Rat.mul_pos (by grind) (by grind)
  have m0 : 0 ≤ (v - z) * (z + 1) * (1 - 1 / 100000000000) := Rat.mul_nonneg (Rat.mul_nonneg (by grind) (by grind)) (by grind)
  have a0 : 0 ≤ a := Rat.le_of_mul_le_mul_right (a := 0) (c := z * (v + 1)) (by grind) p1
  refine ⟨a0, ?_, ?_⟩
  · apply Rat.le_of_mul_le_mul_right (c := v * (z + 1)) _ p2'
    have := Rat.mul_nonneg (show 0 ≤ v - z by grind) (show 0 ≤ v * z - 1 by have := Rat.mul_nonneg (show 0 ≤ v - 1 by grind) (show 0 ≤ z - 1 by grind); grind)
    grind
  · apply Rat.le_of_mul_le_mul_right (c := z * (v + 1)) _ p1
    have h3 : z * (v + 1) * (4 / 10) ≤ (z + 1) * (1 - 1 / 100000000000) := by
      have := Rat.mul_nonneg (show 0 ≤ z by grind) (show 0 ≤ 21 / 10 - v by grind)
      grind
    have := Rat.mul_nonneg (show 0 ≤ v - z by grind) (show 0 ≤ (z + 1) * (1 - 1 / 100000000000) - z * (v + 1) * (4 / 10) by grind)
    grind
theorem logA_one : logA 1 = 0 := by decide +kernel
/-- One small step. -/
theorem log_step {y h : Rat} (h0 : 0 ≤ y) (hh : 0 ≤ h) (h1 : y + h ≤ 7 / 10) :
    logA (expE (y + h) 14) - logA (expE y 14) - h ≤ 11 / 10 * (h * h) + h * (1 / 10000000000) ∧ -(11 / 10 * (h * h) + h * (1 / 10000000000)) ≤ logA (expE (y + h) 14) - logA (expE y 14) - h := by
  obtain ⟨r1, r2⟩ := expE_range h0 (show y ≤ 7 / 10 by grind) 14 (by omega)
  obtain ⟨r3, r4⟩ := expE_range (show 0 ≤ y + h by grind) h1 14 (by omega)
  rw [if_pos rfl] at r2 r4
  obtain ⟨l1, l2⟩ := expE_lip h0 (show y ≤ y + h by grind) h1 14 (by omega)
  obtain ⟨x1, x2⟩ := expD_diff h0 (show y ≤ y + h by grind) h1 14 (by omega)
  obtain ⟨n1, n2⟩ := expD_near h0 (show y ≤ 7 / 10 by grind)
  obtain ⟨n3, n4⟩ := expD_near (show 0 ≤ y + h by grind) h1
  obtain ⟨d1, d2⟩ := logA_diff r1 l1 r4
  have eh : y + h - y = h := by grind
  rw [eh] at x1 x2
  generalize logA (expE (y + h) 14) - logA (expE y 14) = a at *
  generalize expE y 14 = z at *
  generalize expE (y + h) 14 = v at *
  generalize expD y 14 = c at *
  generalize expD (y + h) 14 = d at *
  have hv : v - z ≤ h * v := by have := Rat.mul_nonneg hh (show 0 ≤ v - d by grind); grind
  have hv2 : h * (z - 1 / 1000000000000) ≤ v - z := by have := Rat.mul_nonneg hh (show 0 ≤ c - (z - 1 / 1000000000000) by grind); grind
  have hv3 : v - z ≤ 21 / 10 * h := by have := Rat.mul_nonneg hh (show 0 ≤ 21 / 10 - v by grind); grind
  have k1 := Rat.mul_nonneg hh (show 0 ≤ 21 / 10 * h - (v - z) by grind)
  have hhh := Rat.mul_nonneg hh hh
  constructor
  · -- (a - h) (z + 1) ≤ h (v - z)
    have m1 := Rat.mul_nonneg (show 0 ≤ h * v - (v - z) by grind) (show 0 ≤ v + 1 by grind)
    have m2 : a * (v * (z + 1)) ≤ h * (v + 1) * v := by grind
    have m3 : a * (z + 1) ≤ h * (v + 1) := by
      apply Rat.le_of_mul_le_mul_right (c := v) _ (by grind)
      grind
    have m4 : (a - h) * (z + 1) ≤ h * (v - z) := by grind
    apply Rat.le_of_mul_le_mul_right (c := z + 1) _ (by grind)
    have m5 := Rat.mul_nonneg (show 0 ≤ 11 / 10 * (h * h) + h * (1 / 10000000000) by grind) (show 0 ≤ z + 1 - 2 by grind)
    grind
  · have m1 := Rat.mul_nonneg (show 0 ≤ (v - z) - h * (z - 1 / 1000000000000) by grind) (show 0 ≤ (z + 1) * (1 - 1 / 100000000000) by grind)
    have m2 : h * (z - 1 / 1000000000000) * ((z + 1) * (1 - 1 / 100000000000)) ≤ a * (z * (v + 1)) := by grind
    have m3 : h * (z * (1 - 1 / 1000000000000)) * ((z + 1) * (1 - 1 / 100000000000)) ≤ h * (z - 1 / 1000000000000) * ((z + 1) * (1 - 1 / 100000000000)) := by
      have := Rat.mul_nonneg (Rat.mul_nonneg hh (show 0 ≤ (z - 1) * (1 / 1000000000000) by grind)) (show 0 ≤ (z + 1) * (1 - 1 / 100000000000) by grind)
      grind
    have m4 : h * ((z + 1) * ((1 - 1 / 1000000000000) * (1 - 1 / 100000000000))) ≤ a * (v + 1) := by
      apply Rat.le_of_mul_le_mul_right (c := z) _ (by grind)
      grind
    have m5 : -(21 / 10 * (h * h) + h * (4 / 100000000000)) ≤ (a - h) * (v + 1) := by
      have q1 := Rat.mul_nonneg hh (show 0 ≤ 21 / 10 - z by grind)
      grind
    apply Rat.le_of_mul_le_mul_right (c := v + 1) _ (by grind)
    have m6 := Rat.mul_nonneg (show 0 ≤ 11 / 10 * (h * h) + h * (1 / 10000000000) by grind) (show 0 ≤ v + 1 - 2 by grind)
    grind
theorem log_steps {h : Rat} (hh : 0 ≤ h) : ∀ k : Nat, (k : Rat) * h ≤ 7 / 10 → logA (expE ((k : Rat) * h) 14) - (k : Rat) * h ≤ (k : Rat) * (11 / 10 * (h * h) + h * (1 / 10000000000)) ∧ -((k : Rat) * (11 / 10 * (h * h) + h * (1 / 10000000000))) ≤ logA (expE ((k : Rat) * h) 14) - (k : Rat) * h
  | 0, _ => by
    have e0 : ((0 : Nat) : Rat) = 0 := rfl
    rw [e0]
    have e : (0 : Rat) * h = 0 := by grind
    rw [e, expE_one, logA_one]
    constructor <;> grind
  | k + 1, hk => by
    have e : ((k + 1 : Nat) : Rat) = (k : Rat) + 1 := by rw [Rat.natCast_add]; rfl
    rw [e] at hk ⊢
    have c0 : (0 : Rat) ≤ (k : Rat) := Rat.natCast_nonneg
    obtain ⟨h1, h2⟩ := log_steps hh k (by grind)
    have e2 : ((k : Rat) + 1) * h = (k : Rat) * h + h := by grind
    rw [e2] at hk ⊢
    obtain ⟨s1, s2⟩ := log_step (Rat.mul_nonneg c0 hh) hh hk
    constructor <;> grind
theorem log_exp {y : Rat} (h0 : 0 ≤ y) (h1 : y ≤ 7 / 10) : logA (expE y 14) ≤ y + 1 / 10000000 ∧ y ≤ logA (expE y 14) + 1 / 10000000 := by
  obtain ⟨h, hd⟩ : ∃ h, h = y / 10000000 := ⟨_, rfl⟩
  have hy : y = ((10000000 : Nat) : Rat) * h := by
    have : ((10000000 : Nat) : Rat) = 10000000 := rfl
    rw [this]; grind
  obtain ⟨s1, s2⟩ := log_steps (h := h) (by grind) 10000000 (by rw [← hy]; exact h1)
  rw [← hy] at s1 s2
  have : ((10000000 : Nat) : Rat) = 10000000 := rfl
  rw [this] at s1 s2 hy
  have m := Rat.mul_nonneg (show 0 ≤ h by grind) (show 0 ≤ 7 / 100000000 - h by grind)
  generalize logA (expE y 14) = a at *
  constructor <;> grind
end Go.Proofs.Ytghmonkoleegjaa
