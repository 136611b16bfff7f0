/- Whole numbers among the float64: the greatest one that is no greater, and conversions. No program is named here. -/
import Derived.Test.YtmikeegecifbfaaDB
namespace Go.Proofs.Ytmikeegecifbfaa
open Go.RowKit
set_option maxRecDepth 100000

theorem cut_gap (n d : Nat) : n / (1 <<< min d (n.log2 + 2)) = n / 2 ^ d ∧ n % (1 <<< min d (n.log2 + 2)) = n % 2 ^ d := by
  rw [Nat.one_shiftLeft]
  by_cases h : d ≤ n.log2 + 2
  · rw [Nat.min_eq_left h]; exact ⟨rfl, rfl⟩
  · rw [Nat.min_eq_right (by omega)]
    have h1 : n < 2 ^ (n.log2 + 1) := Nat.lt_log2_self
    have h2 : 2 ^ (n.log2 + 1) ≤ 2 ^ (n.log2 + 2) := Nat.pow_le_pow_right (by omega) (by omega)
    have h3 : 2 ^ (n.log2 + 2) ≤ 2 ^ d := Nat.pow_le_pow_right (by omega) (by omega)
    rw [Nat.div_eq_of_lt (by omega), Nat.div_eq_of_lt (by omega), Nat.mod_eq_of_lt (by omega), Nat.mod_eq_of_lt (by omega)]
    exact ⟨rfl, rfl⟩
theorem cut_zero (s : Bool) (n d : Nat) : Ieee.Toward.zero.cut s n d = n / 2 ^ d := by
  obtain ⟨h1, h2⟩ := cut_gap n d
  unfold Ieee.Toward.cut
  simp only [h1]
  rfl
theorem cut_down (s : Bool) (n d : Nat) : Ieee.Toward.down.cut s n d = n / 2 ^ d + (s && n % 2 ^ d != 0).toNat := by
  obtain ⟨h1, h2⟩ := cut_gap n d
  unfold Ieee.Toward.cut
  simp only [h1, h2]

theorem sg_int (s : Bool) (c : Nat) : sg s (c : Rat) = ((if s then -(c : Int) else (c : Int) : Int) : Rat) := by
  cases s
  · simp only [sg, Bool.false_eq_true, if_false]; rw [Rat.intCast_natCast]
  · simp only [sg, if_true]; rw [Rat.intCast_neg, Rat.intCast_natCast]
theorem rep_nat (c : Nat) (h : c ≤ 9007199254740992) : Rep Ieee.double (c : Rat) := by
  obtain ⟨c1, c2, c3, c4, c5⟩ := e64
  have h1 := rep_dyadic Ieee.double c 0 (by rw [c1]; omega) (by rw [c4]; decide) (by
    rw [p2_zero, Rat.mul_one]
    have e53 : p2 53 = ((9007199254740992 : Nat) : Rat) := p2_nat 53
    have h2 := p2_mono (show (53 : Int) ≤ 1023 by decide)
    have h3 := cast_le h
    have h4 : (0 : Rat) ≤ (c : Rat) := Rat.natCast_nonneg
    exact fit64 (by grind) (by grind))
  rw [p2_zero, Rat.mul_one] at h1
  exact h1
/-- A whole number is written as it is. -/
theorem write_int (s : Bool) (c : Nat) (h : c ≤ 9007199254740992) : Is .f64 (some (FloatKind.f64.encode (.number s c 0))) (sg s (c : Rat)) := by
  have hr := rep_nat c h
  have hr' : Rep Ieee.double (sg s (c : Rat)) := by cases s; exact hr; exact hr.neg
  have e0 : (c : Rat) * p2 0 = (c : Rat) := by rw [p2_zero, Rat.mul_one]
  obtain ⟨r, h1, h2, h3⟩ := write_rnd Ieee.double s c 0 (by rw [e0]; exact hr'.fit)
  rw [e0] at h3
  have h4 := h3.of_rep hr'
  have h5 : FloatKind.f64.encode (.number s c 0) = Ieee.double.word s r := h2
  rw [h5, ← h4]
  exact Is.of_word (k := .f64) s h1

/-- The greatest whole number that is no greater. -/
def flr : Option Nat → Option Nat
  | some b => some (FloatKind.f64.encode ((FloatKind.f64.decode b).integral .down))
  | none => none
theorem shift_val (m : Nat) (i : Int) : ∃ n d : Nat, n = m <<< i.toNat ∧ d = (-i).toNat ∧ (m : Rat) * p2 i * ((2 ^ d : Nat) : Rat) = (n : Rat) := by
  refine ⟨_, _, rfl, rfl, ?_⟩
  rw [Nat.shiftLeft_eq, Rat.natCast_mul, ← p2_nat, ← p2_nat, Rat.mul_assoc, ← p2_add]
  congr 2
  omega
theorem flr_is {x : Option Nat} {v : Rat} (hx : Is .f64 x v) (h1 : v ≤ 4503599627370496) (h2 : -v ≤ 4503599627370496) : ∃ K : Int, Is .f64 (flr x) (K : Rat) ∧ (K : Rat) ≤ v ∧ v < (K : Rat) + 1 := by
  obtain ⟨b, s, m, i, rfl, hd, rfl⟩ := hx
  obtain ⟨n, d, hn, hdd, hv⟩ := shift_val m i
  have hG : 0 < 2 ^ d := Nat.two_pow_pos _
  have e1 : (FloatKind.f64.decode b).integral .down = .number s (n / 2 ^ d + (s && n % 2 ^ d != 0).toNat) 0 := by
    rw [hd]
    show Ieee.Datum.number s (Ieee.Toward.down.cut s (m <<< i.toNat) (-i).toNat) 0 = _
    rw [cut_down, ← hn, ← hdd]
  obtain ⟨c, hc⟩ : ∃ c, c = n / 2 ^ d + (s && n % 2 ^ d != 0).toNat := ⟨_, rfl⟩
  have hm := Nat.div_add_mod n (2 ^ d)
  have hl := Nat.mod_lt n hG
  generalize 2 ^ d = G at *
  generalize n / G = q at *
  generalize n % G = t at *
  generalize hV : (m : Rat) * p2 i = V at *
  have hV0 : 0 ≤ V := by rw [← hV]; exact Rat.mul_nonneg Rat.natCast_nonneg (Rat.le_of_lt (p2_pos _))
  have hVle : V ≤ 4503599627370496 := by cases s <;> simp [sg] at h1 h2 <;> grind
  have hGr : (0 : Rat) < (G : Rat) := by have := cast_lt hG; simpa using this
  have hG1 : (1 : Rat) ≤ (G : Rat) := by have := cast_le (show 1 ≤ G from hG); simpa using this
  -- q ≤ V < q + 1
  have hn' : (n : Rat) = (G : Rat) * (q : Rat) + (t : Rat) := by rw [← hm, Rat.natCast_add, Rat.natCast_mul]
  have ht0 : (0 : Rat) ≤ (t : Rat) := Rat.natCast_nonneg
  have ht1 := cast_lt hl
  have hq1 : (q : Rat) ≤ V := by
    apply Rat.le_of_mul_le_mul_right (c := (G : Rat)) _ hGr
    rw [hv, hn']; grind
  have hq2 : V < (q : Rat) + 1 := by
    apply Rat.lt_of_mul_lt_mul_right (c := (G : Rat)) _ (Rat.le_of_lt hGr)
    rw [hv, hn']; grind
  have hqb : q ≤ 4503599627370496 := by
    apply Nat.le_of_not_lt
    intro h
    have := cast_le (show 4503599627370497 ≤ q from h)
    have e : ((4503599627370497 : Nat) : Rat) = 4503599627370497 := rfl
    grind
  have hcb : c ≤ 4503599627370497 := by rw [hc]; have : (s && t != 0).toNat ≤ 1 := Bool.toNat_le _; omega
  refine ⟨if s then -(c : Int) else (c : Int), ?_, ?_, ?_⟩
  · rw [← sg_int]
    unfold flr
    simp only [e1, ← hc]
    exact write_int s c (by omega)
  · rw [← sg_int]
    cases s
    · simp only [sg, Bool.false_eq_true, if_false]
      simp at hc
      rw [hc]
      exact hq1
    · simp only [sg, if_true]
      by_cases h0 : t = 0
      · subst h0
        simp at hc
        rw [hc]
        have : V * (G : Rat) = (q : Rat) * (G : Rat) := by rw [hv, hn']; simp; grind
        have : V ≤ (q : Rat) := Rat.le_of_mul_le_mul_right (by rw [this]; exact Rat.le_refl) hGr
        grind
      · have : c = q + 1 := by rw [hc]; simp [h0]
        subst this
        rw [Rat.natCast_add]
        have e : ((1 : Nat) : Rat) = 1 := rfl
        grind
  · rw [← sg_int]
    cases s
    · simp only [sg, Bool.false_eq_true, if_false]
      simp at hc
      rw [hc]
      exact hq2
    · simp only [sg, if_true]
      by_cases h0 : t = 0
      · subst h0
        simp at hc
        rw [hc]
        grind
      · have : c = q + 1 := by rw [hc]; simp [h0]
        subst this
        have h6 : 0 < t := Nat.pos_of_ne_zero h0
        have h7 := cast_lt h6
        have e0 : ((0 : Nat) : Rat) = 0 := rfl
        have : (q : Rat) < V := by
          apply Rat.lt_of_mul_lt_mul_right (c := (G : Rat)) _ (Rat.le_of_lt hGr)
          rw [hv, hn']; grind
        rw [Rat.natCast_add]
        have e : ((1 : Nat) : Rat) = 1 := rfl
        grind
/-- A whole float64 as an int64. -/
theorem toInt_is {b : Nat} {K : Int} (hx : Is .f64 (some b) (K : Rat)) (h1 : -9007199254740992 ≤ K) (h2 : K ≤ 9007199254740992) : floatToIntVal .f64 b .i64 = some K := by
  obtain ⟨b', s, m, i, hb, hd, hv⟩ := hx
  cases hb
  obtain ⟨n, d, hn, hdd, hval⟩ := shift_val m i
  have hG : 0 < 2 ^ d := Nat.two_pow_pos _
  have e1 : (FloatKind.f64.decode b).toInt .zero = some (Ieee.signed s (n / 2 ^ d) 0) := by
    rw [hd]
    show some (Ieee.signed s (Ieee.Toward.zero.cut s (m <<< i.toNat) (-i).toNat) 0) = _
    rw [cut_zero, ← hn, ← hdd]
  have hGr : (0 : Rat) < ((2 ^ d : Nat) : Rat) := by have := cast_lt hG; simpa using this
  have hK : (m : Rat) * p2 i = ((if s then -K else K : Int) : Rat) := by
    cases s
    · simpa [sg] using hv
    · simp only [sg, if_true] at hv
      simp only [if_true]
      rw [Rat.intCast_neg, ← hv]; grind
  have hn2 : ((n : Int) : Rat) = (((if s then -K else K) * (2 ^ d : Nat) : Int) : Rat) := by
    rw [Rat.intCast_natCast, ← hval, hK, Rat.intCast_mul, Rat.intCast_natCast]
  have hn3 : (n : Int) = (if s then -K else K) * ((2 ^ d : Nat) : Int) := Rat.intCast_inj.1 hn2
  have hq : ((n / 2 ^ d : Nat) : Int) = if s then -K else K := by
    rw [Int.natCast_ediv, hn3]
    exact Int.mul_ediv_cancel _ (by omega)
  have e2 : Ieee.signed s (n / 2 ^ d) 0 = K := by
    unfold Ieee.signed
    rw [Nat.shiftLeft_zero]
    cases s
    · simpa using hq
    · simp only [if_true] at hq ⊢
      omega
  unfold floatToIntVal
  rw [e1, e2]
  simp only
  rw [if_pos]
  constructor
  · have : IntKind.i64.min = -9223372036854775808 := rfl
    omega
  · have : IntKind.i64.max = 9223372036854775807 := rfl
    omega
/-- A whole number as a float64. -/
def dint (i : Int) : Option Nat := canon .f64 (floatOfInt .f64 i)
theorem dint_is (i : Int) (h1 : -9007199254740992 ≤ i) (h2 : i ≤ 9007199254740992) : Is .f64 (dint i) (i : Rat) := by
  have h := write_int (decide (i < 0)) i.natAbs (by omega)
  have e : sg (decide (i < 0)) (i.natAbs : Rat) = (i : Rat) := by
    rw [sg_int]
    congr 1
    by_cases h0 : i < 0
    · simp [h0]; omega
    · simp [h0]; omega
  rw [e] at h
  have hb : floatOfInt .f64 i = FloatKind.f64.encode (.number (decide (i < 0)) i.natAbs 0) := rfl
  rw [← hb] at h
  unfold dint
  obtain ⟨b, s, m, p, he, hd, hv⟩ := h
  have hb' : floatOfInt .f64 i = b := by injection he
  rw [hb', canon_some (by rw [hd]; rfl)]
  exact ⟨b, s, m, p, rfl, hd, hv⟩
end Go.Proofs.Ytmikeegecifbfaa
