/- Powers in floats: the logarithm that is found and the power of two that is found are near the exact ones. No program is named here. -/
import Derived.Test.YtghmonkoleegjaaPlq
namespace Go.Proofs.Ytghmonkoleegjaa
open Go.RowKit
set_option maxRecDepth 100000

def logS (v : Rat) : Nat → Rat
  | 0 => 0
  | j + 1 => 1 / ((2 * (14 - (j : Int)) + 1 : Int) : Rat) + v * logS v j
theorem logS_logB (u : Rat) : u * logS (u * u) 15 = logB u 15 := by
  have c : ∀ j : Nat, ((2 * (14 - (j : Int)) + 1 : Int) : Rat) = 2 * (14 - (j : Rat)) + 1 := fun j => by
    rw [Rat.intCast_add, Rat.intCast_mul, Rat.intCast_sub]; rfl
  have d : ∀ j : Nat, odd j = 2 * (j : Rat) + 1 := fun j => by unfold odd; rw [Rat.natCast_add, Rat.natCast_mul]; rfl
  simp only [logS, logB, rpow, c, d]
  have n0 : ((0 : Nat) : Rat) = 0 := rfl
  have n1 : ((1 : Nat) : Rat) = 1 := rfl
  have n2 : ((2 : Nat) : Rat) = 2 := rfl
  have n3 : ((3 : Nat) : Rat) = 3 := rfl
  have n4 : ((4 : Nat) : Rat) = 4 := rfl
  have n5 : ((5 : Nat) : Rat) = 5 := rfl
  have n6 : ((6 : Nat) : Rat) = 6 := rfl
  have n7 : ((7 : Nat) : Rat) = 7 := rfl
  have n8 : ((8 : Nat) : Rat) = 8 := rfl
  have n9 : ((9 : Nat) : Rat) = 9 := rfl
  have n10 : ((10 : Nat) : Rat) = 10 := rfl
  have n11 : ((11 : Nat) : Rat) = 11 := rfl
  have n12 : ((12 : Nat) : Rat) = 12 := rfl
  have n13 : ((13 : Nat) : Rat) = 13 := rfl
  have n14 : ((14 : Nat) : Rat) = 14 := rfl
  simp only [n0, n1, n2, n3, n4, n5, n6, n7, n8, n9, n10, n11, n12, n13, n14]
  grind
theorem odd_den (j : Nat) (h : j < 15) : ∃ D : Rat, D = ((2 * (14 - (j : Int)) + 1 : Int) : Rat) ∧ 1 ≤ D := by
  refine ⟨_, rfl, ?_⟩
  have := Rat.intCast_le_intCast.2 (show (1 : Int) ≤ 2 * (14 - (j : Int)) + 1 by omega); simpa using this
theorem logS_range {v : Rat} (h0 : 0 ≤ v) (h1 : v ≤ 1 / 5) : ∀ j, j ≤ 15 → 0 ≤ logS v j ∧ logS v j ≤ 3 / 2
  | 0, _ => by unfold logS; constructor <;> grind
  | j + 1, hj => by
    obtain ⟨g1, g2⟩ := logS_range h0 h1 j (by omega)
    obtain ⟨D, hD, d1⟩ := odd_den j (by omega)
    have es : logS v (j + 1) = 1 / ((2 * (14 - (j : Int)) + 1 : Int) : Rat) + v * logS v j := rfl
    rw [es, ← hD]
    obtain ⟨i, hi⟩ := quot_mk 1 (show D ≠ 0 by grind)
    have e : 1 / D = i := by rw [← hi, Rat.mul_div_cancel (by grind)]
    rw [e]
    have i0 : 0 ≤ i := quot_ge hi (by grind) (by grind)
    have i1 : i ≤ 1 := quot_le hi (by grind) (by grind)
    have m0 := Rat.mul_nonneg h0 g1
    have m1 := Rat.mul_nonneg (show 0 ≤ 1 / 5 - v by grind) g1
    constructor <;> grind
theorem powS_near {v : Option Nat} {vv w : Rat} (hv : Is .f64 v vv) (v0 : 0 ≤ vv) (v1 : vv ≤ 19 / 100) (w0 : 0 ≤ w) (n1 : vv ≤ w + 1 / 100000000000000) (n2 : w ≤ vv + 1 / 100000000000000) :
    ∀ j, j ≤ 15 → ∃ s, Is .f64 (powS v j) s ∧ s ≤ logS w j + 1 / 10000000000000 ∧ logS w j ≤ s + 1 / 10000000000000
  | 0, _ => ⟨0, zero_is64, by unfold logS; grind, by unfold logS; grind⟩
  | j + 1, hj => by
    obtain ⟨s, is, s1, s2⟩ := powS_near hv v0 v1 w0 n1 n2 j (by omega)
    obtain ⟨g1, g2⟩ := logS_range w0 (show w ≤ 1 / 5 by grind) j (by omega)
    have id := dint_is (2 * (14 - (j : Int)) + 1) (by omega) (by omega)
    obtain ⟨D, hD, d1⟩ := odd_den j (by omega)
    rw [← hD] at id
    have es : logS w (j + 1) = 1 / ((2 * (14 - (j : Int)) + 1 : Int) : Rat) + w * logS w j := rfl
    rw [es, ← hD]
    obtain ⟨i, hi⟩ := quot_mk 1 (show D ≠ 0 by grind)
    have e : 1 / D = i := by rw [← hi, Rat.mul_div_cancel (by grind)]
    rw [e]
    have i0 : 0 ≤ i := quot_ge hi (by grind) (by grind)
    have i1 : i ≤ 1 := quot_le hi (by grind) (by grind)
    have e0 : p2 0 = 1 := p2_zero
    have e1 : p2 1 = 2 := by decide +kernel
    have t1 : p2 (1 - 51) ≤ 1 / 500000000000000 := by decide +kernel
    have t0 : p2 (0 - 51) ≤ 1 / 1000000000000000 := by decide +kernel
    obtain ⟨a, ia, ra⟩ := is_div one_is id (by grind) (by rw [e]; exact fit64k 0 (by decide) (by rw [e0]; grind) (by rw [e0]; grind))
    rw [e] at ra
    have a1 := near64 ra 0 (by decide) (by decide) (by rw [e0]; grind) (by rw [e0]; grind)
    generalize logS w j = x at *
    have m0 := Rat.mul_nonneg v0 (show 0 ≤ x + 1 / 10000000000000 - s by grind)
    have m1 := Rat.mul_nonneg v0 (show 0 ≤ s + 1 / 10000000000000 - x by grind)
    have m2 := Rat.mul_nonneg (show 0 ≤ w + 1 / 100000000000000 - vv by grind) (show 0 ≤ x by grind)
    have m3 := Rat.mul_nonneg (show 0 ≤ vv + 1 / 100000000000000 - w by grind) (show 0 ≤ x by grind)
    have m4 := Rat.mul_nonneg v0 (show 0 ≤ 3 / 2 - x by grind)
    have m5 := Rat.mul_nonneg v0 (show 0 ≤ x by grind)
    have m6 := Rat.mul_nonneg w0 (show 0 ≤ x by grind)
    have m7 := Rat.mul_nonneg w0 (show 0 ≤ 3 / 2 - x by grind)
    obtain ⟨b, ib, rb⟩ := is_mul hv is (fit64k 0 (by decide) (by rw [e0]; grind) (by rw [e0]; grind))
    have b1 := near64 rb 0 (by decide) (by decide) (by rw [e0]; grind) (by rw [e0]; grind)
    obtain ⟨c, ic, rc⟩ := is_add ia ib (fit64k 1 (by decide) (by rw [e1]; grind) (by rw [e1]; grind))
    have c1 := near64 rc 1 (by decide) (by decide) (by rw [e1]; grind) (by rw [e1]; grind)
    exact ⟨c, ic, by grind, by grind⟩
theorem logB_lip {u v : Rat} (h : 0 ≤ u) (huv : u ≤ v) (h2 : v ≤ 2 / 5) : 0 ≤ logB v 15 - logB u 15 ∧ logB v 15 - logB u 15 ≤ 2 * (v - u) := by
  obtain ⟨d1, d2⟩ := logB_diff h huv 15
  have g1 := geoN_is u 15
  have g2 := geoN_is v 15
  have s1 := rpow_nonneg h 30
  have s2 := rpow_nonneg (show 0 ≤ v by grind) 30
  have s3 := rpow_small h (show u ≤ 2 / 5 by grind)
  have e30 : 2 * 15 = 30 := rfl
  rw [e30] at g1 g2
  have w1 : 0 < 1 - v * v := by have := Rat.mul_nonneg (show 0 ≤ 2 / 5 - v by grind) (show 0 ≤ v by grind); grind
  have w3 : 1 / 2 ≤ 1 - v * v := by have := Rat.mul_nonneg (show 0 ≤ 2 / 5 - v by grind) (show 0 ≤ v by grind); grind
  have w2 : 0 < 1 - u * u := by have := Rat.mul_nonneg (show 0 ≤ 2 / 5 - u by grind) h; grind
  have x1 : geoN v 15 ≤ 2 := by
    apply Rat.le_of_mul_le_mul_left (c := 1 - v * v) _ w1
    rw [g2]; grind
  have x2 : 0 ≤ geoN u 15 := by
    apply Rat.le_of_mul_le_mul_left (c := 1 - u * u) _ w2
    rw [g1]; grind
  have m1 := Rat.mul_nonneg (show 0 ≤ v - u by grind) x2
  have m2 := Rat.mul_nonneg (show 0 ≤ v - u by grind) (show 0 ≤ 2 - geoN v 15 by grind)
  constructor <;> grind
theorem powL_near {z : Option Nat} {vz : Rat} (hz : Is .f64 z vz) (h1 : 1 ≤ vz) (h2 : vz ≤ 2) {e : Int} (he1 : -60 ≤ e) (he2 : e ≤ 60) {g : Rat} (hg : g * lnV = logA vz) :
    ∃ l, Is .f64 (powL z e) l ∧ l ≤ (e : Rat) + g + 1 / 10000000000 ∧ (e : Rat) + g ≤ l + 1 / 10000000000 ∧ 0 ≤ g ∧ g ≤ 3 / 2 := by
  obtain ⟨u1, u2, u3⟩ := uOf_is h1 (show vz ≤ 21 / 10 by grind)
  have u4 : uOf vz ≤ 34 / 100 := quot_le u1 (by grind) (by grind)
  have e0 : p2 0 = 1 := p2_zero
  have e1 : p2 1 = 2 := by decide +kernel
  have e2 : p2 2 = 4 := by decide +kernel
  have e6 : p2 6 = 64 := by decide +kernel
  have t0 : p2 (0 - 51) ≤ 1 / 2000000000000000 := by decide +kernel
  have t1 : p2 (1 - 51) ≤ 1 / 1000000000000000 := by decide +kernel
  have t2 : p2 (2 - 51) ≤ 1 / 500000000000000 := by decide +kernel
  have t6 : p2 (6 - 51) ≤ 1 / 20000000000000 := by decide +kernel
  -- u
  obtain ⟨a, ia, ra⟩ := is_sub hz one_is (fit64k 0 (by decide) (by rw [e0]; grind) (by rw [e0]; grind))
  have a1 := near64 ra 0 (by decide) (by decide) (by rw [e0]; grind) (by rw [e0]; grind)
  have a0 := r64z ra (by grind)
  obtain ⟨b, ib, rb⟩ := is_add hz one_is (fit64k 2 (by decide) (by rw [e2]; grind) (by rw [e2]; grind))
  have b1 := near64 rb 2 (by decide) (by decide) (by rw [e2]; grind) (by rw [e2]; grind)
  obtain ⟨q, hq⟩ := quot_mk a (show b ≠ 0 by grind)
  have eq : a / b = q := by rw [← hq, Rat.mul_div_cancel (by grind)]
  have q0 : 0 ≤ q := quot_ge hq (by grind) (by grind)
  have q1 : q ≤ 1 / 2 := quot_le hq (by grind) (by grind)
  obtain ⟨u, iu, ru⟩ := is_div ia ib (by grind) (by rw [eq]; exact fit64k 0 (by decide) (by rw [e0]; grind) (by rw [e0]; grind))
  rw [eq] at ru
  have ru1 := near64 ru 0 (by decide) (by decide) (by rw [e0]; grind) (by rw [e0]; grind)
  have ru0 := r64z ru q0
  obtain ⟨U, hU⟩ : ∃ U, U = uOf vz := ⟨_, rfl⟩
  rw [← hU] at u1 u2 u3 u4
  have hgB : logA vz = 2 * logB U 15 := by unfold logA; rw [hU]
  -- q is near U
  have q2 : q ≤ U + 5 / 1000000000000000 ∧ U ≤ q + 5 / 1000000000000000 := by
    have m1 := Rat.mul_nonneg q0 (show 0 ≤ b + 1 / 500000000000000 - (vz + 1) by grind)
    have m2 := Rat.mul_nonneg q0 (show 0 ≤ vz + 1 + 1 / 500000000000000 - b by grind)
    have hd : (q - U) * (vz + 1) = q * (vz + 1) - (vz - 1) := by rw [← u1]; grind
    have hd2 : (U - q) * (vz + 1) = (vz - 1) - q * (vz + 1) := by rw [← u1]; grind
    have x1 := quot_le (B := 5 / 1000000000000000) hd (by grind) (by grind)
    have x2 := quot_le (B := 5 / 1000000000000000) hd2 (by grind) (by grind)
    grind
  have n1 : u ≤ U + 6 / 1000000000000000 ∧ U ≤ u + 6 / 1000000000000000 := by grind
  -- v
  have p0 := Rat.mul_nonneg ru0 ru0
  have p1 := Rat.mul_nonneg ru0 (show 0 ≤ 35 / 100 - u by grind)
  obtain ⟨v, iv, rv⟩ := is_mul iu iu (fit64k 0 (by decide) (by rw [e0]; grind) (by rw [e0]; grind))
  have v1 := near64 rv 0 (by decide) (by decide) (by rw [e0]; grind) (by rw [e0]; grind)
  have v0 := r64z rv p0
  obtain ⟨s, is, s1, s2⟩ := powS_near iv v0 (by grind) p0 (by grind) (by grind) 15 (by omega)
  obtain ⟨g1, g2⟩ := logS_range p0 (show u * u ≤ 1 / 5 by grind) 15 (by omega)
  have hS := logS_logB u
  generalize logS (u * u) 15 = x at *
  -- 2 u s
  obtain ⟨c, ic, rc⟩ := is_mul two_is iu (fit64k 0 (by decide) (by rw [e0]; grind) (by rw [e0]; grind))
  have c1 := near64 rc 0 (by decide) (by decide) (by rw [e0]; grind) (by rw [e0]; grind)
  have c0 := r64z rc (by grind)
  have m1 := Rat.mul_nonneg c0 (show 0 ≤ x + 1 / 10000000000000 - s by grind)
  have m2 := Rat.mul_nonneg c0 (show 0 ≤ s + 1 / 10000000000000 - x by grind)
  have m3 := Rat.mul_nonneg (show 0 ≤ 2 * u + 1 / 2000000000000000 - c by grind) g1
  have m4 := Rat.mul_nonneg (show 0 ≤ c + 1 / 2000000000000000 - 2 * u by grind) g1
  have m5 := Rat.mul_nonneg ru0 (show 0 ≤ 3 / 2 - x by grind)
  have m6 := Rat.mul_nonneg c0 g1
  have m7 := Rat.mul_nonneg c0 (show 0 ≤ 2 - s by grind)
  obtain ⟨d, id, rd⟩ := is_mul ic is (fit64k 2 (by decide) (by rw [e2]; grind) (by rw [e2]; grind))
  have d1 := near64 rd 2 (by decide) (by decide) (by rw [e2]; grind) (by rw [e2]; grind)
  -- near 2 logB U
  have n2 : d ≤ logA vz + 1 / 10000000000000 * 5 ∧ logA vz ≤ d + 1 / 10000000000000 * 5 := by
    rw [hgB]
    rcases Rat.le_total (a := u) (b := U) with hl | hl
    · obtain ⟨l1, l2⟩ := logB_lip ru0 hl u3
      grind
    · obtain ⟨l1, l2⟩ := logB_lip u2 hl (show u ≤ 2 / 5 by grind)
      grind
  have hA0 : 0 ≤ logA vz ∧ logA vz ≤ 1 := by
    have := logA_lip (show (1 : Rat) ≤ 1 by grind) h1 (show vz ≤ 21 / 10 by grind)
    rw [logA_one] at this
    grind
  obtain ⟨k1, k2⟩ := lnV_range
  have g0 : 0 ≤ g := quot_ge hg (by grind) (by grind)
  have g3 : g ≤ 3 / 2 := quot_le hg (by grind) (by grind)
  obtain ⟨r, hr⟩ := quot_mk d (show lnV ≠ 0 by grind)
  have er : d / lnV = r := by rw [← hr, Rat.mul_div_cancel (by grind)]
  have hd1 : (r - g) * lnV = d - logA vz := by rw [← hg, ← hr]; grind
  have hd2 : (g - r) * lnV = logA vz - d := by rw [← hg, ← hr]; grind
  have n3 := quot_le (B := 1 / 1000000000000) hd1 (by grind) (by grind)
  have n4 := quot_le (B := 1 / 1000000000000) hd2 (by grind) (by grind)
  obtain ⟨f, jf, rf⟩ := is_div id ln_is (by grind) (by rw [er]; exact fit64k 2 (by decide) (by rw [e2]; grind) (by rw [e2]; grind))
  rw [er] at rf
  have f1 := near64 rf 2 (by decide) (by decide) (by rw [e2]; grind) (by rw [e2]; grind)
  have ie := dint_is e (by omega) (by omega)
  have x1 : (-60 : Rat) ≤ (e : Rat) := by have := Rat.intCast_le_intCast.2 he1; simpa using this
  have x2 : (e : Rat) ≤ 60 := by have := Rat.intCast_le_intCast.2 he2; simpa using this
  obtain ⟨l, il, rl⟩ := is_add ie jf (fit64k 6 (by decide) (by rw [e6]; grind) (by rw [e6]; grind))
  have l1 := near64 rl 6 (by decide) (by decide) (by rw [e6]; grind) (by rw [e6]; grind)
  refine ⟨l, il, by grind, by grind, g0, g3⟩
end Go.Proofs.Ytghmonkoleegjaa
