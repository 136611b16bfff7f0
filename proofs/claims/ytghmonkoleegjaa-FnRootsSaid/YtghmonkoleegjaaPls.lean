/- Powers in floats: what follows for powers of powers, and for powers of greater numbers. No program is named here. -/
import Derived.Test.YtghmonkoleegjaaPlr
import Derived.Test.YtghmonkoleegjaaPC
namespace Go.Proofs.Ytghmonkoleegjaa
open Go.RowKit
set_option maxRecDepth 100000

/-- A positive number as a power of two times a number from 1 to 2, with its logarithm. -/
structure Lg (x : Option Nat) (v : Rat) (e : Int) (z g : Rat) : Prop where
  val : v = z * p2 e
  z1 : 1 ≤ z
  z2 : z ≤ 2
  log : g * lnV = logA z
  g0 : 0 ≤ g
  g1 : g ≤ 3 / 2
  e1 : -60 ≤ e
  e2 : e ≤ 60
  man : Is .f64 (some (powMan (wordOf (ccv .f32 .f64 x)))) z
  exp : powExp (wordOf (ccv .f32 .f64 x)) = e
theorem man_exp {W : Nat} (h1 : 4503599627370496 ≤ W) : rungV Ieee.double W = rungV Ieee.double (powMan W) * p2 (powExp W) := by
  obtain ⟨c1, c2, c3, c4, c5⟩ := e64
  have hd := Nat.div_add_mod W 4503599627370496
  have hm := Nat.mod_lt W (show 4503599627370496 > 0 by omega)
  have hE : 1 ≤ W / 4503599627370496 := by omega
  unfold powMan powExp
  generalize W / 4503599627370496 = E at *
  generalize W % 4503599627370496 = M at *
  obtain ⟨D, hD⟩ : ∃ D : Nat, D = 4503599627370496 := ⟨_, rfl⟩
  have e1 : W = (E - 1) * D + (D + M) := by rw [← hd, ← hD, Nat.mul_comm D E, Nat.sub_mul, Nat.one_mul]; have := Nat.mul_le_mul_right D hE; omega
  have e2 : 4607182418800017408 + M = 1022 * D + (D + M) := by rw [hD]; omega
  rw [← hD] at c1 hm
  rw [e2, e1]
  have h2 := rungV_form Ieee.double (E - 1) (D + M) (.inr (by omega)) (by omega)
  have h3 := rungV_form Ieee.double 1022 (D + M) (.inr (by omega)) (by omega)
  rw [c1, c4] at h2 h3
  rw [h2, h3, Rat.mul_assoc, ← p2_add]
  congr 2
  omega
theorem lg_of {x : Option Nat} {v : Rat} (hx : Is .f32 x v) (h1 : 1 / 1099511627776 ≤ v) (h2 : v ≤ 524288) : ∃ e z g, Lg x v e z g := by
  obtain ⟨a, rfl⟩ : ∃ a, x = some a := by obtain ⟨a, _, _, _, h, _⟩ := hx; exact ⟨a, h⟩
  have hz32 : Is .f32 (canon .f32 0) 0 := ⟨0, false, 0, -149, by decide, by decide, by decide +kernel⟩
  obtain ⟨W, hw, g1, g2⟩ := pow_wide (fin_is.2 ⟨v, hx⟩) (by rw [feq_is hx hz32]; simp; grind) (by rw [fge_is hx hz32]; simp; grind)
  have hi := is_widen hx
  rw [hw] at hi
  obtain ⟨c1, c2, c3, c4, c5⟩ := e64
  have hv := hi.uniq (is_rung (k := .f64) (r := W) (by show _ < Ieee.double.infRung; omega))
  have hv' : v = rungV Ieee.double W := hv
  obtain ⟨m1, m2, m3⟩ := man_is W
  obtain ⟨k1, k2⟩ := lnV_range
  obtain ⟨g, hg⟩ := quot_mk (logA (rungV Ieee.double (powMan W))) (show lnV ≠ 0 by grind)
  have hA0 : 0 ≤ logA (rungV Ieee.double (powMan W)) ∧ logA (rungV Ieee.double (powMan W)) ≤ 1 := by
    have := logA_lip (show (1 : Rat) ≤ 1 by grind) m2 (by grind)
    rw [logA_one] at this
    grind
  have e20 : p2 ((20 : Nat) : Int) = 1048576 := by decide +kernel
  have e40 : p2 ((40 : Nat) : Int) = 1099511627776 := by decide +kernel
  have t1 := rungV_shift Ieee.double (983 * 4503599627370496) 40 (by omega)
  rw [c1, show 983 * 4503599627370496 + 40 * 4503599627370496 = 4607182418800017408 from rfl, val64.1, e40] at t1
  have t2 := rungV_shift Ieee.double 4607182418800017408 20 (by omega)
  rw [c1, show 4607182418800017408 + 20 * 4503599627370496 = 1043 * 4503599627370496 from rfl, val64.1, e20] at t2
  have b1 : 983 * 4503599627370496 ≤ W := by
    apply Nat.le_of_not_lt
    intro h
    have := rungV_lt Ieee.double h
    grind
  have b2 : W < 1043 * 4503599627370496 := by
    apply Nat.lt_of_not_le
    intro h
    have := rungV_le Ieee.double h
    grind
  refine ⟨powExp W, _, g, ⟨by rw [hv']; exact man_exp (by omega), m2, m3, hg, quot_ge hg (by grind) (by grind), quot_le hg (by grind) (by grind), by unfold powExp; omega, by unfold powExp; omega, ?_, ?_⟩⟩
  · rw [hw]; exact m1
  · rw [hw]; rfl
theorem Lg.range {x : Option Nat} {v z g : Rat} {e : Int} (h : Lg x v e z g) : (-60 : Rat) ≤ (e : Rat) ∧ (e : Rat) ≤ 60 := by
  constructor
  · have := Rat.intCast_le_intCast.2 h.e1; simpa using this
  · have := Rat.intCast_le_intCast.2 h.e2; simpa using this
theorem Lg.at {x X : Option Nat} {v z g vX : Rat} {e : Int} (h : Lg x v e z g) (hX : Is .f32 X vX) (x0 : 0 ≤ vX) (x4 : vX ≤ 4) : ∃ t, Is .f64 (powAt x X) t ∧ t ≤ ((e : Rat) + g) * vX + 1 / 1000000000 ∧ ((e : Rat) + g) * vX ≤ t + 1 / 1000000000 := by
  obtain ⟨l, il, l1, l2, _, _⟩ := powL_near h.man h.z1 h.z2 (e := e) h.e1 h.e2 h.log
  obtain ⟨q1, q2⟩ := h.range
  have g0 := h.g0
  have g1 := h.g1
  have iX := is_widen hX
  have e8 : p2 8 = 256 := by decide +kernel
  have t8 : p2 (8 - 51) ≤ 1 / 1000000000000 := by decide +kernel
  have m1 := Rat.mul_nonneg (show 0 ≤ (e : Rat) + g + 1 / 10000000000 - l by grind) x0
  have m2 := Rat.mul_nonneg (show 0 ≤ l + 1 / 10000000000 - ((e : Rat) + g) by grind) x0
  have m3 := Rat.mul_nonneg (show 0 ≤ l + 62 by grind) x0
  have m4 := Rat.mul_nonneg (show 0 ≤ 62 - l by grind) x0
  obtain ⟨t, it, rt⟩ := is_mul il iX (fit64k 8 (by decide) (by rw [e8]; grind) (by rw [e8]; grind))
  have t1 := near64 rt 8 (by decide) (by decide) (by rw [e8]; grind) (by rw [e8]; grind)
  refine ⟨t, ?_, by grind, by grind⟩
  unfold powAt powT
  rw [h.exp]
  exact it

/-- The power of two to K + f, as the steps work it out. -/
def twoTo (K : Int) (f : Rat) : Rat := p2 K * expE (f * lnV) 14
theorem frac_range {f : Rat} (h0 : 0 ≤ f) (h1 : f ≤ 1) : 0 ≤ f * lnV ∧ f * lnV ≤ lnV ∧ lnV ≤ 7 / 10 := by
  obtain ⟨k1, k2⟩ := lnV_range
  have m1 := Rat.mul_nonneg h0 (show 0 ≤ lnV by grind)
  have m2 := Rat.mul_nonneg (show 0 ≤ 1 - f by grind) (show 0 ≤ lnV by grind)
  constructor
  · exact m1
  · constructor <;> grind
theorem twoTo_range {f : Rat} (h0 : 0 ≤ f) (h1 : f ≤ 1) : 1 ≤ expE (f * lnV) 14 ∧ expE (f * lnV) 14 ≤ 2 + 1 / 100000000000 - (1 - f) * lnV ∧ 1 + f * lnV ≤ expE (f * lnV) 14 ∧ expE (f * lnV) 14 ≤ 1 + 5 / 3 * f ∧ 2 - 1 / 100000000000 - 5 / 3 * (1 - f) ≤ expE (f * lnV) 14 := by
  obtain ⟨f1, f2, f3⟩ := frac_range h0 h1
  obtain ⟨r1, r2⟩ := expE_range f1 (by grind) 14 (by omega)
  obtain ⟨k1, k2⟩ := lnV_range
  have g1 := expE_grow f1 f2 f3
  have g2 := expE_grow (show (0 : Rat) ≤ 0 by grind) f1 (show f * lnV ≤ 7 / 10 by grind)
  obtain ⟨l1, l2⟩ := expE_lip f1 f2 f3 14 (by omega)
  obtain ⟨l3, l4⟩ := expE_lip (show (0 : Rat) ≤ 0 by grind) f1 (show f * lnV ≤ 7 / 10 by grind) 14 (by omega)
  rw [if_pos rfl] at l2 l4
  rw [expE_one] at g2 l3 l4
  obtain ⟨t1, t2⟩ := expE_two
  have m1 := Rat.mul_nonneg h0 (show 0 ≤ 694 / 1000 - lnV by grind)
  have m2 := Rat.mul_nonneg (show 0 ≤ 1 - f by grind) (show 0 ≤ 694 / 1000 - lnV by grind)
  generalize expE (f * lnV) 14 = a at *
  generalize expE lnV 14 = b at *
  refine ⟨r1, by grind, by grind, by grind, by grind⟩
theorem whole_cases {K L : Int} {f h d : Rat} (f0 : 0 ≤ f) (f1 : f < 1) (h0 : 0 ≤ h) (h1 : h < 1) (hd : (K : Rat) + f + d = (L : Rat) + h) (d0 : 0 ≤ d) (d1 : d ≤ 1 / 2) : L = K ∨ L = K + 1 := by
  have a1 : (L : Rat) < ((K + 2 : Int) : Rat) := by rw [Rat.intCast_add]; have : ((2 : Int) : Rat) = 2 := rfl; grind
  have a2 : ((K - 1 : Int) : Rat) < (L : Rat) := by rw [Rat.intCast_sub]; have : ((1 : Int) : Rat) = 1 := rfl; grind
  have b1 := Rat.intCast_lt_intCast.1 a1
  have b2 := Rat.intCast_lt_intCast.1 a2
  omega
theorem twoTo_lip {K L : Int} {f h d : Rat} (f0 : 0 ≤ f) (f1 : f < 1) (h0 : 0 ≤ h) (h1 : h < 1) (hd : (K : Rat) + f + d = (L : Rat) + h) (d0 : 0 ≤ d) (d1 : d ≤ 1 / 2) :
    twoTo L h ≤ twoTo K f * (1 + 4 * d + 1 / 10000000000) ∧ twoTo K f * (1 - 1 / 10000000000) ≤ twoTo L h := by
  obtain ⟨r1, r2, r3, r4, r5⟩ := twoTo_range f0 (show f ≤ 1 by grind)
  obtain ⟨s1, s2, s3, s4, s5⟩ := twoTo_range h0 (show h ≤ 1 by grind)
  obtain ⟨k1, k2⟩ := lnV_range
  have hp := p2_pos K
  unfold twoTo
  rcases whole_cases f0 f1 h0 h1 hd d0 d1 with rfl | rfl
  · have e : h = f + d := by grind
    subst e
    obtain ⟨f2, f3, f4⟩ := frac_range f0 (show f ≤ 1 by grind)
    obtain ⟨f5, f6, _⟩ := frac_range h0 (show f + d ≤ 1 by grind)
    have m0 := Rat.mul_nonneg d0 (show 0 ≤ lnV by grind)
    have m1 := Rat.mul_nonneg d0 (show 0 ≤ 694 / 1000 - lnV by grind)
    obtain ⟨l1, l2⟩ := expE_lip f2 (show f * lnV ≤ (f + d) * lnV by grind) (by grind) 14 (by omega)
    rw [if_pos rfl] at l2
    generalize expE (f * lnV) 14 = a at *
    generalize expE ((f + d) * lnV) 14 = b at *
    have m2 := Rat.mul_nonneg d0 (show 0 ≤ a - 1 by grind)
    have h2 : b ≤ a * (1 + 4 * d + 1 / 10000000000) := by grind
    have h3 : a * (1 - 1 / 10000000000) ≤ b := by grind
    have n1 := Rat.mul_nonneg (Rat.le_of_lt hp) (show 0 ≤ a * (1 + 4 * d + 1 / 10000000000) - b by grind)
    have n2 := Rat.mul_nonneg (Rat.le_of_lt hp) (show 0 ≤ b - a * (1 - 1 / 10000000000) by grind)
    constructor <;> grind
  · have e : h = f + d - 1 := by rw [Rat.intCast_add] at hd; have : ((1 : Int) : Rat) = 1 := rfl; grind
    rw [p2_succ]
    generalize expE (f * lnV) 14 = a at *
    generalize expE (h * lnV) 14 = b at *
    have m2 := Rat.mul_nonneg d0 (show 0 ≤ a - 1 by grind)
    have m3 := Rat.mul_nonneg h0 (show 0 ≤ lnV by grind)
    have m4 := Rat.mul_nonneg (show 0 ≤ 1 - f by grind) (show 0 ≤ lnV by grind)
    have h2 : 2 * b ≤ a * (1 + 4 * d + 1 / 10000000000) := by grind
    have h3 : a * (1 - 1 / 10000000000) ≤ 2 * b := by grind
    have n1 := Rat.mul_nonneg (Rat.le_of_lt hp) (show 0 ≤ a * (1 + 4 * d + 1 / 10000000000) - 2 * b by grind)
    have n2 := Rat.mul_nonneg (Rat.le_of_lt hp) (show 0 ≤ 2 * b - a * (1 - 1 / 10000000000) by grind)
    constructor <;> grind
theorem twoTo_grow {K L : Int} {f h d : Rat} (f0 : 0 ≤ f) (f1 : f < 1) (h0 : 0 ≤ h) (h1 : h < 1) (hd : (K : Rat) + f + d = (L : Rat) + h) (d0 : 1 / 100 ≤ d) : twoTo K f * (1 + 1 / 1000) ≤ twoTo L h := by
  obtain ⟨r1, r2, r3, r4, r5⟩ := twoTo_range f0 (show f ≤ 1 by grind)
  obtain ⟨s1, s2, s3, s4, s5⟩ := twoTo_range h0 (show h ≤ 1 by grind)
  obtain ⟨k1, k2⟩ := lnV_range
  have hp := p2_pos K
  have a2 : ((K - 1 : Int) : Rat) < (L : Rat) := by rw [Rat.intCast_sub]; have : ((1 : Int) : Rat) = 1 := rfl; grind
  have b2 := Rat.intCast_lt_intCast.1 a2
  have m4 := Rat.mul_nonneg (show 0 ≤ 1 - f by grind) (show 0 ≤ lnV by grind)
  have m5 := Rat.mul_nonneg h0 (show 0 ≤ lnV - 693 / 1000 by grind)
  have m6 := Rat.mul_nonneg (show 0 ≤ 1 - f by grind) (show 0 ≤ lnV - 693 / 1000 by grind)
  unfold twoTo
  by_cases hL : L = K
  · subst hL
    have e : h = f + d := by grind
    subst e
    obtain ⟨f2, f3, f4⟩ := frac_range f0 (show f ≤ 1 by grind)
    obtain ⟨f5, f6, _⟩ := frac_range h0 (show f + d ≤ 1 by grind)
    have m1 := Rat.mul_nonneg (show 0 ≤ d - 1 / 100 by grind) (show 0 ≤ lnV by grind)
    have l1 := expE_grow f2 (show f * lnV ≤ (f + d) * lnV by grind) (by grind)
    generalize expE (f * lnV) 14 = a at *
    generalize expE ((f + d) * lnV) 14 = b at *
    have n1 := Rat.mul_nonneg (Rat.le_of_lt hp) (show 0 ≤ b - a * (1 + 1 / 1000) by grind)
    grind
  · by_cases hL2 : L = K + 1
    · subst hL2
      have e : h = f + d - 1 := by rw [Rat.intCast_add] at hd; have : ((1 : Int) : Rat) = 1 := rfl; grind
      rw [p2_succ]
      generalize expE (f * lnV) 14 = a at *
      generalize expE (h * lnV) 14 = b at *
      have n1 := Rat.mul_nonneg (Rat.le_of_lt hp) (show 0 ≤ 2 * b - a * (1 + 1 / 1000) by grind)
      grind
    · have h4 := p2_mono (show K + 1 + 1 ≤ L by omega)
      rw [p2_succ, p2_succ] at h4
      generalize expE (f * lnV) 14 = a at *
      generalize expE (h * lnV) 14 = b at *
      have n1 := Rat.mul_nonneg (Rat.le_of_lt hp) (show 0 ≤ 21 / 10 - a by grind)
      have n2 := Rat.mul_nonneg (show 0 ≤ p2 L by grind) (show 0 ≤ b - 1 by grind)
      grind
/-- What the floats give of 't'. -/
theorem pow_exp {t : Option Nat} {vt : Rat} (ht : Is .f64 t vt) (h1 : -60 ≤ vt) (h2 : vt ≤ 60) : ∃ (K : Int) (f R : Rat) (x : Option Nat), vt = (K : Rat) + f ∧ 0 ≤ f ∧ f < 1 ∧ powOf t = (x, 0) ∧ Is .f32 x R ∧ R ≤ twoTo K f * (1 + 1 / 5000000) ∧ twoTo K f * (1 - 1 / 5000000) ≤ R := by
  have g1 : dgt t (some 4638144666238189568) = false := by unfold dgt; rw [is_gt ht lit120.1]; simp; grind
  have g2 : dlt t (some 13861516703092965376) = false := by unfold dlt; rw [is_lt ht lit120.2]; simp; grind
  obtain ⟨K', k, W, hk, ik, hi, n2, n1, hW, w1, w2, hend⟩ := pow_end ht (by grind) (by grind) g1 g2
  obtain ⟨K, y, ik2, k1, k2, iy, y0, y1⟩ := powY_is ht (by grind) (by grind)
  rw [hk] at ik2
  have hKK := ik2.uniq ik
  have hK : K = K' := by
    have a := Rat.intCast_le_intCast.1 (show (K : Rat) ≤ (K' : Rat) by grind)
    have b := Rat.intCast_le_intCast.1 (show (K' : Rat) ≤ (K : Rat) by grind)
    omega
  subst hK
  obtain ⟨f, hf⟩ : ∃ f, f = vt - (K : Rat) := ⟨_, rfl⟩
  have f0 : 0 ≤ f := by grind
  have f1 : f < 1 := by grind
  -- y is near f ln
  have ya : ∃ y', Is .f64 (powY t) y' ∧ y' ≤ f * lnV + 1 / 100000000000000 ∧ f * lnV ≤ y' + 1 / 100000000000000 := by
    have e0 : p2 0 = 1 := p2_zero
    have t0 : p2 (0 - 51) ≤ 1 / 1000000000000000 := by decide +kernel
    obtain ⟨q1, q2⟩ := lnV_range
    rw [← hk] at ik
    obtain ⟨a, ia, ra⟩ := is_sub ht ik (fit64k 0 (by decide) (by rw [e0]; grind) (by rw [e0]; grind))
    have a1 := near64 ra 0 (by decide) (by decide) (by rw [e0]; grind) (by rw [e0]; grind)
    have a0 := r64z ra (by grind)
    have m1 := Rat.mul_nonneg a0 (show 0 ≤ lnV by grind)
    have m2 := Rat.mul_nonneg (show 0 ≤ f + 1 / 1000000000000000 - a by grind) (show 0 ≤ lnV by grind)
    have m3 := Rat.mul_nonneg (show 0 ≤ a + 1 / 1000000000000000 - f by grind) (show 0 ≤ lnV by grind)
    have m4 := Rat.mul_nonneg (show 0 ≤ 1 - f by grind) (show 0 ≤ lnV by grind)
    obtain ⟨b, ib, rb⟩ := is_mul ia ln_is (fit64k 0 (by decide) (by rw [e0]; grind) (by rw [e0]; grind))
    have b1 := near64 rb 0 (by decide) (by decide) (by rw [e0]; grind) (by rw [e0]; grind)
    exact ⟨b, ib, by grind, by grind⟩
  obtain ⟨y', iy', ya1, ya2⟩ := ya
  have := iy.uniq iy'
  subst this
  obtain ⟨f2, f3, f4⟩ := frac_range f0 (show f ≤ 1 by grind)
  obtain ⟨q1, q2⟩ := lnV_range
  obtain ⟨p, ip, p1, p2'⟩ := powP_near iy y0 (by grind) 14 (by omega)
  rw [hW] at ip
  obtain ⟨c1, c2, c3, c4, c5⟩ := e64
  have hpW := ip.uniq (is_rung (k := .f64) (r := W) (by show _ < Ieee.double.infRung; omega))
  have hpW' : p = rungV Ieee.double W := hpW
  obtain ⟨E, hE⟩ : ∃ E, E = expE (f * lnV) 14 := ⟨_, rfl⟩
  have hr := twoTo_range f0 (show f ≤ 1 by grind)
  rw [← hE] at hr
  have pE : p ≤ E + 1 / 100000000000 ∧ E ≤ p + 1 / 100000000000 := by
    rw [hE]
    rcases Rat.le_total (a := y) (b := f * lnV) with hl | hl
    · obtain ⟨l1, l2⟩ := expE_lip y0 hl (by grind) 14 (by omega)
      rw [if_pos rfl] at l2
      grind
    · obtain ⟨l1, l2⟩ := expE_lip f2 hl (by grind) 14 (by omega)
      rw [if_pos rfl] at l2
      grind
  -- the power of two
  have b120 : K ≤ 60 ∧ -61 ≤ K := by
    constructor
    · exact Rat.intCast_le_intCast.1 (show (K : Rat) ≤ ((60 : Int) : Rat) by have e : ((60 : Int) : Rat) = 60 := rfl; grind)
    · exact Rat.intCast_le_intCast.1 (show ((-61 : Int) : Rat) ≤ (K : Rat) by
        have a : ((-62 : Int) : Rat) < (K : Rat) := by have e : ((-62 : Int) : Rat) = -62 := rfl; grind
        have := Rat.intCast_lt_intCast.1 a
        exact Rat.intCast_le_intCast.2 (by omega))
  have hup : rungV Ieee.double (upBy W K) = p * p2 K := by
    rw [hpW']
    obtain ⟨D, hD⟩ : ∃ D : Nat, D = 4503599627370496 := ⟨_, rfl⟩
    unfold upBy
    rcases Int.le_total 0 K with hq | hq
    · obtain ⟨n, hn⟩ := Int.eq_ofNat_of_zero_le hq
      subst hn
      have h3 := rungV_shift Ieee.double W n (by omega)
      rw [c1] at h3
      have e1 : ((W : Int) + (n : Int) * 4503599627370496).toNat = W + n * 4503599627370496 := by omega
      rw [e1]
      exact h3
    · obtain ⟨n, hn⟩ : ∃ n : Nat, K = -(n : Int) := ⟨(-K).toNat, by omega⟩
      subst hn
      obtain ⟨V, hV⟩ : ∃ V : Nat, V + n * 4503599627370496 = W := ⟨W - n * 4503599627370496, by omega⟩
      have h3 := rungV_shift Ieee.double V n (by omega)
      rw [c1, hV] at h3
      have e1 : ((W : Int) + -(n : Int) * 4503599627370496).toNat = V := by omega
      rw [e1, h3, Rat.mul_assoc, ← p2_add]
      have : (n : Int) + -(n : Int) = 0 := by omega
      rw [this, p2_zero]
      grind
  obtain ⟨u1, u2, u3⟩ := up_val w1 w2 n2 n1
  have iu : Is .f64 (some (upBy W K)) (rungV Ieee.double (upBy W K)) := is_rung (k := .f64) (by rw [show FloatKind.f64.format = Ieee.double from rfl]; omega)
  have pk0 := p2_pos K
  have t127 := p2_mono (show (123 : Int) ≤ 127 by decide)
  have n0 := rungV_nonneg Ieee.double (upBy W K)
  obtain ⟨R, iR, rR⟩ := is_conv (d := .f32) (by decide) iu (fit32 (by grind) (by grind))
  have R1 := Rnd.rel rR n0 (by grind)
  rw [hup] at R1
  have tiny : p2 (-149) ≤ p2 K * (1 / 1000000000000) := by
    have a := p2_mono (show (-149 : Int) ≤ -88 + -61 by decide)
    rw [p2_add] at a
    have b := p2_mono b120.2
    have c : p2 (-88) ≤ 1 / 1000000000000 := by decide +kernel
    have d := Rat.mul_nonneg (show 0 ≤ 1 / 1000000000000 - p2 (-88) by grind) (Rat.le_of_lt pk0)
    have e := Rat.mul_nonneg (Rat.le_of_lt (p2_pos (-88))) (show 0 ≤ p2 K - p2 (-61) by grind)
    grind
  have hof : powOf t = (powEnd t, 0) := powOf_mid g1 g2
  refine ⟨K, f, R, powEnd t, by grind, f0, f1, hof, by rw [hend]; exact iR, ?_, ?_⟩
  · unfold twoTo
    rw [← hE]
    have m1 := Rat.mul_nonneg (Rat.le_of_lt pk0) (show 0 ≤ E + 1 / 100000000000 - p by grind)
    have m2 := Rat.mul_nonneg (Rat.le_of_lt pk0) (show 0 ≤ E - 1 by grind)
    grind
  · unfold twoTo
    rw [← hE]
    have m1 := Rat.mul_nonneg (Rat.le_of_lt pk0) (show 0 ≤ p + 1 / 100000000000 - E by grind)
    have m2 := Rat.mul_nonneg (Rat.le_of_lt pk0) (show 0 ≤ E - 1 by grind)
    have m3 := Rat.mul_nonneg (Rat.le_of_lt pk0) (show 0 ≤ E + 1 / 100000000000 - p by grind)
    grind
end Go.Proofs.Ytghmonkoleegjaa
