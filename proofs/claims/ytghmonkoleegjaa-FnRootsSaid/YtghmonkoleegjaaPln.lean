/- The logarithm that is found of what is raised is nearly the exponent. No program is named here. -/
import Derived.Test.YtghmonkoleegjaaPex
namespace Go.Proofs.Ytghmonkoleegjaa
open Go.RowKit
set_option maxRecDepth 100000

def rpow (u : Rat) : Nat → Rat
  | 0 => 1
  | n + 1 => rpow u n * u
def odd (n : Nat) : Rat := ((2 * n + 1 : Nat) : Rat)
def logB (u : Rat) : Nat → Rat
  | 0 => 0
  | n + 1 => logB u n + rpow u (2 * n + 1) / odd n
def geoN (u : Rat) : Nat → Rat
  | 0 => 0
  | n + 1 => geoN u n + rpow u (2 * n)
theorem rpow_nonneg {u : Rat} (h : 0 ≤ u) : ∀ n, 0 ≤ rpow u n
  | 0 => by unfold rpow; grind
  | n + 1 => Rat.mul_nonneg (rpow_nonneg h n) h
theorem rpow_mono {u v : Rat} (h : 0 ≤ u) (huv : u ≤ v) : ∀ n, rpow u n ≤ rpow v n
  | 0 => Rat.le_refl
  | n + 1 => by
    have h1 := rpow_mono h huv n
    have h2 := rpow_nonneg h n
    unfold rpow
    have h3 := Rat.mul_nonneg (show 0 ≤ rpow v n - rpow u n by grind) (show 0 ≤ v by grind)
    have h4 := Rat.mul_nonneg h2 (show 0 ≤ v - u by grind)
    grind
theorem rpow_diff {u v : Rat} (h : 0 ≤ u) (huv : u ≤ v) : ∀ n, ((n + 1 : Nat) : Rat) * ((v - u) * rpow u n) ≤ rpow v (n + 1) - rpow u (n + 1) ∧ rpow v (n + 1) - rpow u (n + 1) ≤ ((n + 1 : Nat) : Rat) * ((v - u) * rpow v n)
  | 0 => by
    have e : ((0 + 1 : Nat) : Rat) = 1 := rfl
    rw [e]
    unfold rpow rpow
    constructor <;> grind
  | n + 1 => by
    obtain ⟨h1, h2⟩ := rpow_diff h huv n
    have e : ((n + 1 + 1 : Nat) : Rat) = ((n + 1 : Nat) : Rat) + 1 := by rw [Rat.natCast_add]; rfl
    rw [e]
    have c0 : (0 : Rat) ≤ ((n + 1 : Nat) : Rat) := Rat.natCast_nonneg
    generalize ((n + 1 : Nat) : Rat) = c at *
    have e1 : rpow v (n + 1 + 1) = rpow v (n + 1) * v := rfl
    have e2 : rpow u (n + 1 + 1) = rpow u (n + 1) * u := rfl
    have e3 : rpow v (n + 1) = rpow v n * v := rfl
    have e4 : rpow u (n + 1) = rpow u n * u := rfl
    rw [e1, e2]
    have p1 := rpow_nonneg h n
    have p2' := rpow_nonneg (show 0 ≤ v by grind) n
    have p3 := rpow_mono h huv (n + 1)
    have m1 := Rat.mul_nonneg (show 0 ≤ rpow v (n + 1) - rpow u (n + 1) - c * ((v - u) * rpow u n) by grind) h
    have m2 := Rat.mul_nonneg (show 0 ≤ rpow v (n + 1) - rpow u (n + 1) by grind) (show 0 ≤ v - u by grind)
    have m3 := Rat.mul_nonneg (show 0 ≤ c * ((v - u) * rpow v n) - (rpow v (n + 1) - rpow u (n + 1)) by grind) h
    have m4 := Rat.mul_nonneg (Rat.mul_nonneg c0 (show 0 ≤ v - u by grind)) (Rat.mul_nonneg p2' (show 0 ≤ v - u by grind))
    rw [e3, e4] at *
    generalize rpow v n = a at *
    generalize rpow u n = b at *
    constructor <;> grind
theorem logB_diff {u v : Rat} (h : 0 ≤ u) (huv : u ≤ v) : ∀ n, (v - u) * geoN u n ≤ logB v n - logB u n ∧ logB v n - logB u n ≤ (v - u) * geoN v n
  | 0 => by unfold geoN logB; constructor <;> grind
  | n + 1 => by
    obtain ⟨h1, h2⟩ := logB_diff h huv n
    obtain ⟨h3, h4⟩ := rpow_diff h huv (2 * n)
    have hc : (0 : Rat) < odd n := by have := cast_lt (show 0 < 2 * n + 1 by omega); exact this
    unfold geoN logB
    have e : ((2 * n + 1 : Nat) : Rat) = odd n := rfl
    rw [e] at h3 h4
    obtain ⟨q, hq⟩ := quot_mk (rpow u (2 * n + 1)) (show odd n ≠ 0 by grind)
    obtain ⟨s, hs⟩ := quot_mk (rpow v (2 * n + 1)) (show odd n ≠ 0 by grind)
    have e1 : rpow u (2 * n + 1) / odd n = q := by rw [← hq, Rat.mul_div_cancel (by grind)]
    have e2 : rpow v (2 * n + 1) / odd n = s := by rw [← hs, Rat.mul_div_cancel (by grind)]
    rw [e1, e2]
    have hd : (s - q) * odd n = rpow v (2 * n + 1) - rpow u (2 * n + 1) := by grind
    have g1 : (v - u) * rpow u (2 * n) ≤ s - q := quot_ge hd hc (by grind)
    have g2 : s - q ≤ (v - u) * rpow v (2 * n) := quot_le hd hc (by grind)
    constructor <;> grind
theorem geoN_is (u : Rat) : ∀ n, (1 - u * u) * geoN u n = 1 - rpow u (2 * n)
  | 0 => by unfold geoN rpow; grind
  | n + 1 => by
    have h := geoN_is u n
    unfold geoN
    have e : rpow u (2 * (n + 1)) = rpow u (2 * n) * u * u := rfl
    rw [e]
    grind
theorem rpow_small {u : Rat} (h : 0 ≤ u) (h1 : u ≤ 2 / 5) : rpow u 30 ≤ 1 / 100000000000 := by
  have h2 := rpow_mono h h1 30
  have h3 : rpow (2 / 5) 30 ≤ 1 / 100000000000 := by decide +kernel
  grind

/-- The slope of the sum of powers. -/
def expD (y : Rat) : Nat → Rat
  | 0 => 0
  | j + 1 => (expE y j + y * expD y j) / ((14 - (j : Int) : Int) : Rat)
theorem expE_succ (y : Rat) (j : Nat) : expE y (j + 1) = 1 + y / ((14 - (j : Int) : Int) : Rat) * expE y j := rfl
theorem expD_succ (y : Rat) (j : Nat) : expD y (j + 1) = (expE y j + y * expD y j) / ((14 - (j : Int) : Int) : Rat) := rfl
theorem expD_nonneg {y : Rat} (h0 : 0 ≤ y) (h1 : y ≤ 7 / 10) : ∀ j, j ≤ 14 → 0 ≤ expD y j
  | 0, _ => Rat.le_refl
  | j + 1, hj => by
    have h := expD_nonneg h0 h1 j (by omega)
    obtain ⟨r1, r2⟩ := expE_range h0 h1 j (by omega)
    obtain ⟨D, hD, d1, d14, d2⟩ := step_den j (by omega)
    unfold expD
    rw [← hD]
    obtain ⟨q, hq⟩ := quot_mk (expE y j + y * expD y j) (show D ≠ 0 by grind)
    have e : (expE y j + y * expD y j) / D = q := by rw [← hq, Rat.mul_div_cancel (by grind)]
    rw [e]
    have := Rat.mul_nonneg h0 h
    exact quot_ge hq (by grind) (by grind)
theorem expD_diff {y z : Rat} (h0 : 0 ≤ y) (hyz : y ≤ z) (h1 : z ≤ 7 / 10) : ∀ j, j ≤ 14 → (z - y) * expD y j ≤ expE z j - expE y j ∧ expE z j - expE y j ≤ (z - y) * expD z j
  | 0, _ => by unfold expD expE; constructor <;> grind
  | j + 1, hj => by
    obtain ⟨g1, g2⟩ := expD_diff h0 hyz h1 j (by omega)
    obtain ⟨l1, l2⟩ := expE_lip h0 hyz h1 j (by omega)
    obtain ⟨D, hD, d1, d14, d2⟩ := step_den j (by omega)
    have n1 := expD_nonneg h0 (show y ≤ 7 / 10 by grind) j (by omega)
    have n2 := expD_nonneg (show 0 ≤ z by grind) h1 j (by omega)
    rw [expE_succ, expE_succ, expD_succ, expD_succ, ← hD]
    obtain ⟨q, hq⟩ := quot_mk (expE y j + y * expD y j) (show D ≠ 0 by grind)
    obtain ⟨s, hs⟩ := quot_mk (expE z j + z * expD z j) (show D ≠ 0 by grind)
    obtain ⟨i, hi⟩ := quot_mk 1 (show D ≠ 0 by grind)
    have e1 : (expE y j + y * expD y j) / D = q := by rw [← hq, Rat.mul_div_cancel (by grind)]
    have e2 : (expE z j + z * expD z j) / D = s := by rw [← hs, Rat.mul_div_cancel (by grind)]
    have e3 : y / D = y * i := by rw [Rat.div_def]; congr 1; have := Rat.inv_mul_cancel D (by grind); grind
    have e4 : z / D = z * i := by rw [Rat.div_def]; congr 1; have := Rat.inv_mul_cancel D (by grind); grind
    rw [e1, e2, e3, e4]
    generalize expE y j = a at *
    generalize expE z j = b at *
    generalize expD y j = c at *
    generalize expD z j = d at *
    have hd : (1 + z * i * b - (1 + y * i * a)) * D = z * b - y * a := by grind
    have m1 := Rat.mul_nonneg (show 0 ≤ z - y by grind) (Rat.mul_nonneg (show 0 ≤ z - y by grind) n2)
    have m2 := Rat.mul_nonneg (show 0 ≤ z - y by grind) (Rat.mul_nonneg (show 0 ≤ z - y by grind) n1)
    have m3 := Rat.mul_nonneg h0 (show 0 ≤ (z - y) * d - (b - a) by grind)
    have m4 := Rat.mul_nonneg (show 0 ≤ z by grind) (show 0 ≤ (b - a) - (z - y) * c by grind)
    have e5 : (z - y) * q * D = (z - y) * (a + y * c) := by rw [Rat.mul_assoc, hq]
    have e6 : (z - y) * s * D = (z - y) * (b + z * d) := by rw [Rat.mul_assoc, hs]
    constructor
    · exact quot_ge hd (by grind) (by rw [e5]; grind)
    · exact quot_le hd (by grind) (by rw [e6]; grind)
theorem expD_last (y : Rat) : expE y 14 - expD y 14 = rpow y 14 / 87178291200 := by
  have c : ∀ j : Nat, ((14 - (j : Int) : Int) : Rat) = 14 - (j : Rat) := fun j => by rw [Rat.intCast_sub]; rfl
  simp only [expE, expD, rpow, c]
  have n0 : ((0 : Nat) : Rat) = 0 := rfl
  have n1 : ((1 : Nat) : Rat) = 1 := rfl
  have n2 : ((2 : Nat) : Rat) = 2 := rfl
  have n3 : ((3 : Nat) : Rat) = 3 := rfl
  have n4 : ((4 : Nat) : Rat) = 4 := rfl
  have n5 : ((5 : Nat) : Rat) = 5 := rfl
  have n6 : ((6 : Nat) : Rat) = 6 := rfl
  have n7 : ((7 : Nat) : Rat) = 7 := rfl
  have n8 : ((8 : Nat) : Rat) = 8 := rfl
  have n9 : ((9 : Nat) : Rat) = 9 := rfl
  have n10 : ((10 : Nat) : Rat) = 10 := rfl
  have n11 : ((11 : Nat) : Rat) = 11 := rfl
  have n12 : ((12 : Nat) : Rat) = 12 := rfl
  have n13 : ((13 : Nat) : Rat) = 13 := rfl
  simp only [n0, n1, n2, n3, n4, n5, n6, n7, n8, n9, n10, n11, n12, n13]
  grind
theorem expD_near {y : Rat} (h0 : 0 ≤ y) (h1 : y ≤ 7 / 10) : expD y 14 ≤ expE y 14 ∧ expE y 14 ≤ expD y 14 + 1 / 1000000000000 := by
  have h := expD_last y
  have h2 := rpow_nonneg h0 14
  have h3 := rpow_mono h0 h1 14
  have h4 : rpow (7 / 10) 14 ≤ 1 / 100 := by decide +kernel
  constructor <;> grind
end Go.Proofs.Ytghmonkoleegjaa
