/- Powers: their numbers; all of them are finite. No program is named here. -/
import Derived.Test.YtghmonkoleegjaaFlo
namespace Go.Proofs.Ytghmonkoleegjaa
open Go.RowKit
set_option maxRecDepth 100000

def one64 : Option Nat := some 4607182418800017408
def two64 : Option Nat := some 4611686018427387904
def ln64 : Option Nat := some 4604418534313441775
def powU (z : Option Nat) : Option Nat := ddiv (dsub z one64) (dadd z one64)
def powS (v : Option Nat) : Nat → Option Nat
  | 0 => some 0
  | j + 1 => dadd (ddiv one64 (dint (2 * (14 - (j : Int)) + 1))) (dmul v (powS v j))
def powL (z : Option Nat) (e : Int) : Option Nat := dadd (dint e) (ddiv (dmul (dmul two64 (powU z)) (powS (dmul (powU z) (powU z)) 15)) ln64)
def powT (z : Option Nat) (e : Int) (x : Option Nat) : Option Nat := dmul (powL z e) (ccv .f32 .f64 x)
def powY (t : Option Nat) : Option Nat := dmul (dsub t (flr t)) ln64
def powP (y : Option Nat) : Nat → Option Nat
  | 0 => one64
  | j + 1 => dadd one64 (dmul (ddiv y (dint (14 - (j : Int)))) (powP y j))

theorem one_is : Is .f64 one64 1 := ⟨_, false, 4503599627370496, -52, rfl, by decide, by decide +kernel⟩
theorem two_is : Is .f64 two64 2 := ⟨_, false, 4503599627370496, -51, rfl, by decide, by decide +kernel⟩
theorem zero_is64 : Is .f64 (some 0) 0 := ⟨_, false, 0, -1074, rfl, by decide, by decide +kernel⟩
def lnV : Rat := 6243314768165359 * p2 (-53)
theorem ln_is : Is .f64 ln64 lnV := ⟨_, false, 6243314768165359, -53, rfl, by decide, by decide +kernel⟩
theorem ln_near : 69 / 100 ≤ lnV ∧ lnV ≤ 7 / 10 := by decide +kernel
/-- Whole numbers bound what is rounded. -/
theorem r64n (c : Nat) (h : c ≤ 9007199254740992) {v w : Rat} (hr : Rnd Ieee.double v w) (hv : v ≤ (c : Rat)) : w ≤ (c : Rat) := hr.up _ (rep_nat c h) hv
theorem r64m (c : Nat) (h : c ≤ 9007199254740992) {v w : Rat} (hr : Rnd Ieee.double v w) (hv : -(c : Rat) ≤ v) : -(c : Rat) ≤ w := hr.dn _ (rep_nat c h).neg hv
theorem r64z {v w : Rat} (hr : Rnd Ieee.double v w) (hv : 0 ≤ v) : 0 ≤ w := by
  have := r64m 0 (by omega) hr (by simpa using hv)
  simpa using this
theorem fit64n (c : Nat) (h : c ≤ 9007199254740992) {v : Rat} (h1 : v ≤ (c : Rat)) (h2 : -(c : Rat) ≤ v) : Fit Ieee.double v := (rep_nat c h).fit.le h1 (by grind)
theorem half_rep : Rep Ieee.double (1 / 2) := by
  have := rep64_p2 (-1) (by decide) (by decide)
  have e : p2 (-1) = 1 / 2 := by decide +kernel
  rw [e] at this
  exact this

/-- The number that is raised lies from 1 to 2: its 'u' and 'v' are small. -/
theorem powU_is {z : Option Nat} {vz : Rat} (hz : Is .f64 z vz) (h1 : 1 ≤ vz) (h2 : vz ≤ 2) : ∃ u, Is .f64 (powU z) u ∧ 0 ≤ u ∧ u ≤ 1 / 2 := by
  obtain ⟨a, ia, ra⟩ := is_sub hz one_is (fit64n 1 (by omega) (by simp; grind) (by simp; grind))
  obtain ⟨b, ib, rb⟩ := is_add hz one_is (fit64n 3 (by omega) (by simp; grind) (by simp; grind))
  have a0 := r64z ra (by grind)
  have a1 := r64n 1 (by omega) ra (by simp; grind)
  have b0 : (2 : Rat) ≤ b := rb.dn _ (rep_nat 2 (by omega)) (by have e : ((2 : Nat) : Rat) = 2 := rfl; grind)
  have a1' : a ≤ 1 := by simpa using a1
  obtain ⟨Q, hQ⟩ : ∃ Q, Q = a / b := ⟨_, rfl⟩
  have hQb := div_eq (show b ≠ 0 by grind) hQ
  have q0 : 0 ≤ Q := by
    apply Rat.le_of_mul_le_mul_right (c := b) _ (by grind)
    rw [hQb]; grind
  have q1 : Q ≤ 1 / 2 := by
    apply Rat.le_of_mul_le_mul_right (c := b) _ (by grind)
    rw [hQb]; grind
  obtain ⟨u, iu, ru⟩ := is_div ia ib (by grind) (by rw [← hQ]; exact fit64n 1 (by omega) (by simp; grind) (by simp; grind))
  rw [← hQ] at ru
  exact ⟨u, iu, r64z ru q0, ru.up _ half_rep q1⟩
theorem powV_is {u : Option Nat} {vu : Rat} (hu : Is .f64 u vu) (h0 : 0 ≤ vu) (h1 : vu ≤ 1 / 2) : ∃ v, Is .f64 (dmul u u) v ∧ 0 ≤ v ∧ v ≤ 1 / 2 := by
  have q0 := Rat.mul_nonneg h0 h0
  have q1 := Rat.mul_nonneg h0 (show 0 ≤ 1 / 2 - vu by grind)
  obtain ⟨v, iv, rv⟩ := is_mul hu hu (fit64n 1 (by omega) (by simp; grind) (by simp; grind))
  exact ⟨v, iv, r64z rv q0, rv.up _ half_rep (by grind)⟩
theorem powS_is {v : Option Nat} {vv : Rat} (hv : Is .f64 v vv) (h0 : 0 ≤ vv) (h1 : vv ≤ 1 / 2) : ∀ j, j ≤ 15 → ∃ s, Is .f64 (powS v j) s ∧ 0 ≤ s ∧ s ≤ 2
  | 0, _ => ⟨0, zero_is64, by decide, by decide⟩
  | j + 1, hj => by
    obtain ⟨s, is, s0, s2⟩ := powS_is hv h0 h1 j (by omega)
    have id := dint_is (2 * (14 - (j : Int)) + 1) (by omega) (by omega)
    obtain ⟨D, hD⟩ : ∃ D : Rat, D = ((2 * (14 - (j : Int)) + 1 : Int) : Rat) := ⟨_, rfl⟩
    rw [← hD] at id
    have D1 : 1 ≤ D := by rw [hD]; have := Rat.intCast_le_intCast.2 (show (1 : Int) ≤ 2 * (14 - (j : Int)) + 1 by omega); simpa using this
    obtain ⟨Q, hQ⟩ : ∃ Q, Q = 1 / D := ⟨_, rfl⟩
    have hQb := div_eq (show D ≠ 0 by grind) hQ
    have q0 : 0 ≤ Q := by
      apply Rat.le_of_mul_le_mul_right (c := D) _ (by grind)
      rw [hQb]; grind
    have q1 : Q ≤ 1 := by
      apply Rat.le_of_mul_le_mul_right (c := D) _ (by grind)
      rw [hQb]; grind
    obtain ⟨a, ia, ra⟩ := is_div one_is id (by grind) (by rw [← hQ]; exact fit64n 1 (by omega) (by simp; grind) (by simp; grind))
    rw [← hQ] at ra
    have a0 := r64z ra q0
    have a1 : a ≤ 1 := by simpa using r64n 1 (by omega) ra (by simpa using q1)
    have m0 := Rat.mul_nonneg h0 s0
    have m1 : vv * s ≤ 1 := by
      have := Rat.mul_nonneg h0 (show 0 ≤ 2 - s by grind)
      grind
    obtain ⟨b, ib, rb⟩ := is_mul hv is (fit64n 1 (by omega) (by simpa using m1) (by simp; grind))
    have b0 := r64z rb m0
    have b1 : b ≤ 1 := by simpa using r64n 1 (by omega) rb (by simpa using m1)
    obtain ⟨c, ic, rc⟩ := is_add ia ib (fit64n 2 (by omega) (by have e : ((2 : Nat) : Rat) = 2 := rfl; grind) (by have e : ((2 : Nat) : Rat) = 2 := rfl; grind))
    refine ⟨c, ic, r64z rc (by grind), ?_⟩
    have e : ((2 : Nat) : Rat) = 2 := rfl
    have := r64n 2 (by omega) rc (by grind)
    grind
theorem powL_is {z : Option Nat} {vz : Rat} (hz : Is .f64 z vz) (h1 : 1 ≤ vz) (h2 : vz ≤ 2) {e : Int} (he1 : -200 ≤ e) (he2 : e ≤ 200) : ∃ l, Is .f64 (powL z e) l ∧ -256 ≤ l ∧ l ≤ 256 := by
  obtain ⟨u, iu, u0, u1⟩ := powU_is hz h1 h2
  obtain ⟨v, iv, v0, v1⟩ := powV_is iu u0 u1
  obtain ⟨s, is, s0, s2⟩ := powS_is iv v0 v1 15 (by omega)
  have e1 : ((1 : Nat) : Rat) = 1 := rfl
  have e2 : ((2 : Nat) : Rat) = 2 := rfl
  have e4 : ((4 : Nat) : Rat) = 4 := rfl
  have e256 : ((256 : Nat) : Rat) = 256 := rfl
  obtain ⟨a, ia, ra⟩ := is_mul two_is iu (fit64n 1 (by omega) (by grind) (by grind))
  have a0 := r64z ra (by grind)
  have a1 := r64n 1 (by omega) ra (by grind)
  have m0 := Rat.mul_nonneg a0 s0
  have m1 : a * s ≤ 2 := by
    have := Rat.mul_nonneg a0 (show 0 ≤ 2 - s by grind)
    grind
  obtain ⟨b, ib, rb⟩ := is_mul ia is (fit64n 2 (by omega) (by grind) (by grind))
  have b0 := r64z rb m0
  have b1 := r64n 2 (by omega) rb (by grind)
  obtain ⟨g1, g2⟩ := ln_near
  obtain ⟨Q, hQ⟩ : ∃ Q, Q = b / lnV := ⟨_, rfl⟩
  have hQb := div_eq (show lnV ≠ 0 by grind) hQ
  have q0 : 0 ≤ Q := by
    apply Rat.le_of_mul_le_mul_right (c := lnV) _ (by grind)
    rw [hQb]; grind
  have q1 : Q ≤ 4 := by
    apply Rat.le_of_mul_le_mul_right (c := lnV) _ (by grind)
    rw [hQb]; grind
  obtain ⟨c, ic, rc⟩ := is_div ib ln_is (by grind) (by rw [← hQ]; exact fit64n 4 (by omega) (by grind) (by grind))
  rw [← hQ] at rc
  have c0 := r64z rc q0
  have c1 := r64n 4 (by omega) rc (by grind)
  have id := dint_is e (by omega) (by omega)
  have d1 : (-200 : Rat) ≤ (e : Rat) := by have := Rat.intCast_le_intCast.2 he1; simpa using this
  have d2 : (e : Rat) ≤ 200 := by have := Rat.intCast_le_intCast.2 he2; simpa using this
  obtain ⟨l, il, rl⟩ := is_add id ic (fit64n 256 (by omega) (by grind) (by grind))
  refine ⟨l, il, ?_, ?_⟩
  · have := r64m 256 (by omega) rl (by grind)
    grind
  · have := r64n 256 (by omega) rl (by grind)
    grind
theorem powT_is {z : Option Nat} {vz : Rat} (hz : Is .f64 z vz) (h1 : 1 ≤ vz) (h2 : vz ≤ 2) {e : Int} (he1 : -200 ≤ e) (he2 : e ≤ 200) {x : Option Nat} {vx : Rat} (hx : Is .f32 x vx) (x0 : 0 ≤ vx) (x1 : vx ≤ 16) :
    ∃ t, Is .f64 (powT z e x) t ∧ -4096 ≤ t ∧ t ≤ 4096 := by
  obtain ⟨l, il, l0, l1⟩ := powL_is hz h1 h2 he1 he2
  have iw := is_widen hx
  have e1 : ((4096 : Nat) : Rat) = 4096 := rfl
  have a1 := Rat.mul_nonneg (show 0 ≤ l + 256 by grind) x0
  have a2 := Rat.mul_nonneg (show 0 ≤ 256 - l by grind) x0
  obtain ⟨t, it, rt⟩ := is_mul il iw (fit64n 4096 (by omega) (by grind) (by grind))
  refine ⟨t, it, ?_, ?_⟩
  · have := r64m 4096 (by omega) rt (by grind)
    grind
  · have := r64n 4096 (by omega) rt (by grind)
    grind
/-- What is left of 't', times a number below 1. -/
theorem powY_is {t : Option Nat} {vt : Rat} (ht : Is .f64 t vt) (h1 : -4096 ≤ vt) (h2 : vt ≤ 4096) : ∃ (K : Int) (y : Rat), Is .f64 (flr t) (K : Rat) ∧ (K : Rat) ≤ vt ∧ vt < (K : Rat) + 1 ∧ Is .f64 (powY t) y ∧ 0 ≤ y ∧ y ≤ 1 := by
  obtain ⟨K, ik, k1, k2⟩ := flr_is ht (by grind) (by grind)
  have e1 : ((1 : Nat) : Rat) = 1 := rfl
  obtain ⟨a, ia, ra⟩ := is_sub ht ik (fit64n 1 (by omega) (by grind) (by grind))
  have a0 := r64z ra (by grind)
  have a1 := r64n 1 (by omega) ra (by grind)
  obtain ⟨g1, g2⟩ := ln_near
  have m0 := Rat.mul_nonneg a0 (show 0 ≤ lnV by grind)
  have m1 : a * lnV ≤ 1 := by
    have := Rat.mul_nonneg a0 (show 0 ≤ 1 - lnV by grind)
    grind
  obtain ⟨y, iy, ry⟩ := is_mul ia ln_is (fit64n 1 (by omega) (by grind) (by grind))
  refine ⟨K, y, ik, k1, k2, iy, r64z ry m0, ?_⟩
  have := r64n 1 (by omega) ry (by grind)
  grind
theorem powP_is {y : Option Nat} {vy : Rat} (hy : Is .f64 y vy) (h0 : 0 ≤ vy) (h1 : vy ≤ 1) : ∀ j, j ≤ 14 → ∃ p, Is .f64 (powP y j) p ∧ 1 ≤ p ∧ p ≤ (if j = 14 then 8 else 4)
  | 0, _ => ⟨1, one_is, Rat.le_refl, by decide +kernel⟩
  | j + 1, hj => by
    obtain ⟨p, ip, p1, p4⟩ := powP_is hy h0 h1 j (by omega)
    rw [if_neg (by omega)] at p4
    have id := dint_is (14 - (j : Int)) (by omega) (by omega)
    obtain ⟨D, hD⟩ : ∃ D : Rat, D = ((14 - (j : Int) : Int) : Rat) := ⟨_, rfl⟩
    rw [← hD] at id
    have D1 : 1 ≤ D := by rw [hD]; have := Rat.intCast_le_intCast.2 (show (1 : Int) ≤ 14 - (j : Int) by omega); simpa using this
    obtain ⟨Q, hQ⟩ : ∃ Q, Q = vy / D := ⟨_, rfl⟩
    have hQb := div_eq (show D ≠ 0 by grind) hQ
    have e1 : ((1 : Nat) : Rat) = 1 := rfl
    have e3 : ((3 : Nat) : Rat) = 3 := rfl
    have e4 : ((4 : Nat) : Rat) = 4 := rfl
    have e8 : ((8 : Nat) : Rat) = 8 := rfl
    have q0 : 0 ≤ Q := by
      apply Rat.le_of_mul_le_mul_right (c := D) _ (by grind)
      rw [hQb]; grind
    have q1 : Q ≤ 1 := by
      apply Rat.le_of_mul_le_mul_right (c := D) _ (by grind)
      rw [hQb]; grind
    obtain ⟨a, ia, ra⟩ := is_div hy id (by grind) (by rw [← hQ]; exact fit64n 1 (by omega) (by grind) (by grind))
    rw [← hQ] at ra
    have a0 := r64z ra q0
    have a1 := r64n 1 (by omega) ra (by grind)
    have m0 := Rat.mul_nonneg a0 (show 0 ≤ p by grind)
    have m1 : a * p ≤ 4 := by
      have := Rat.mul_nonneg (show 0 ≤ 1 - a by grind) (show 0 ≤ p by grind)
      grind
    obtain ⟨b, ib, rb⟩ := is_mul ia ip (fit64n 4 (by omega) (by grind) (by grind))
    have b0 := r64z rb m0
    have b1 := r64n 4 (by omega) rb (by grind)
    obtain ⟨c, ic, rc⟩ := is_add one_is ib (fit64n 8 (by omega) (by grind) (by grind))
    refine ⟨c, ic, ?_, ?_⟩
    · have := rc.dn _ (rep_nat 1 (by omega)) (by grind)
      grind
    · by_cases hl : j + 1 = 14
      · rw [if_pos hl]
        have := r64n 8 (by omega) rc (by grind)
        grind
      · rw [if_neg hl]
        -- a is at most a half
        have D2 : 2 ≤ D := by rw [hD]; have := Rat.intCast_le_intCast.2 (show (2 : Int) ≤ 14 - (j : Int) by omega); simpa using this
        have q2 : Q ≤ 1 / 2 := by
          apply Rat.le_of_mul_le_mul_right (c := D) _ (by grind)
          rw [hQb]; grind
        have a2 := ra.up _ half_rep q2
        have m2 : a * p ≤ 2 := by
          have := Rat.mul_nonneg (show 0 ≤ 1 / 2 - a by grind) (show 0 ≤ p by grind)
          grind
        have e2 : ((2 : Nat) : Rat) = 2 := rfl
        have b2 := r64n 2 (by omega) rb (by grind)
        have := r64n 4 (by omega) rc (by grind)
        grind
end Go.Proofs.Ytghmonkoleegjaa
