/- Whole numbers and fractions as float32; nearness of floats from nearness of numbers. No program is named here. Square roots: what lies below and above. No program is named here. -/
import Derived.Test.YtfpjiclkhjdihaaHlf
import Derived.Test.YtfpjiclkhjdihaaFlo
import Derived.Test.YtfpjiclkhjdihaaDra
import Derived.Test.YtfpjiclkhjdihaaCZ
namespace Go.Proofs.Ytfpjiclkhjdihaa
open Go.RowKit

theorem rep_nat32 (c : Nat) (h : c ≤ 16777216) : Rep Ieee.single (c : Rat) := by
  obtain ⟨c1, c2, c3, c4, c5⟩ := e32
  have h1 := rep_dyadic Ieee.single c 0 (by rw [c1]; omega) (by rw [c4]; decide) (by
    rw [p2_zero, Rat.mul_one]
    have e53 : p2 24 = ((16777216 : Nat) : Rat) := p2_nat 24
    have h2 := p2_mono (show (24 : Int) ≤ 127 by decide)
    have h3 := cast_le h
    have h4 : (0 : Rat) ≤ (c : Rat) := Rat.natCast_nonneg
    exact fit32 (by grind) (by grind))
  rw [p2_zero, Rat.mul_one] at h1
  exact h1
theorem write_int32 (s : Bool) (c : Nat) (h : c ≤ 16777216) : Is .f32 (some (FloatKind.f32.encode (.number s c 0))) (sg s (c : Rat)) := by
  have hr := rep_nat32 c h
  have hr' : Rep Ieee.single (sg s (c : Rat)) := by cases s; exact hr; exact hr.neg
  have e0 : (c : Rat) * p2 0 = (c : Rat) := by rw [p2_zero, Rat.mul_one]
  obtain ⟨r, h1, h2, h3⟩ := write_rnd Ieee.single s c 0 (by rw [e0]; exact hr'.fit)
  rw [e0] at h3
  have h4 := h3.of_rep hr'
  have h5 : FloatKind.f32.encode (.number s c 0) = Ieee.single.word s r := h2
  rw [h5, ← h4]
  exact Is.of_word (k := .f32) s h1
theorem fint_is (i : Int) (h1 : -16777216 ≤ i) (h2 : i ≤ 16777216) : Is .f32 (fint i) (i : Rat) := by
  have h := write_int32 (decide (i < 0)) i.natAbs (by omega)
  have e : sg (decide (i < 0)) (i.natAbs : Rat) = (i : Rat) := by
    rw [sg_int]
    congr 1
    by_cases h0 : i < 0
    · simp [h0]; omega
    · simp [h0]; omega
  rw [e] at h
  have hb : floatOfInt .f32 i = FloatKind.f32.encode (.number (decide (i < 0)) i.natAbs 0) := rfl
  rw [← hb] at h
  have hn : (FloatKind.f32.decode (floatOfInt .f32 i)).isNaN = false := by
    obtain ⟨b, s, m, p, he, hd, hv⟩ := h
    injection he with he
    rw [he, hd]; rfl
  unfold fint
  rw [canon_some hn]
  exact h
/-- A whole number of parts of a power of two. -/
theorem rep_parts (i : Int) (h1 : -16777216 ≤ i) (h2 : i ≤ 16777216) (n : Nat) (hn : n ≤ 100) : Rep Ieee.single ((i : Rat) * p2 (-(n : Int))) := by
  obtain ⟨c1, c2, c3, c4, c5⟩ := e32
  have hs : ∀ c : Nat, c ≤ 16777216 → Rep Ieee.single ((c : Rat) * p2 (-(n : Int))) := by
    intro c hc
    refine rep_dyadic Ieee.single c _ (by rw [c1]; omega) (by rw [c4]; omega) ?_
    have e24 : p2 24 = ((16777216 : Nat) : Rat) := p2_nat 24
    have h2 := p2_mono (show (24 : Int) ≤ 127 by decide)
    have h3 := cast_le hc
    have h4 : (0 : Rat) ≤ (c : Rat) := Rat.natCast_nonneg
    have h5 := p2_mono (show -(n : Int) ≤ 0 by omega)
    rw [p2_zero] at h5
    have h6 := p2_pos (-(n : Int))
    have m1 := Rat.mul_nonneg h4 (show 0 ≤ 1 - p2 (-(n : Int)) by grind)
    have m2 := Rat.mul_nonneg h4 (Rat.le_of_lt h6)
    exact fit32 (by grind) (by grind)
  rcases Int.le_total 0 i with h | h
  · obtain ⟨c, rfl⟩ := Int.eq_ofNat_of_zero_le h
    exact hs c (by omega)
  · obtain ⟨c, hc⟩ : ∃ c : Nat, i = -(c : Int) := ⟨(-i).toNat, by omega⟩
    subst hc
    have := (hs c (by omega)).neg
    rw [Rat.intCast_neg]
    have e : -((c : Int) : Rat) * p2 (-(n : Int)) = -((c : Rat) * p2 (-(n : Int))) := by rw [Rat.intCast_natCast]; grind
    rw [e]
    exact this
theorem part_is (i : Int) (h1 : -16777216 ≤ i) (h2 : i ≤ 16777216) (n : Nat) (hn : n ≤ 100) {c : Option Nat} {d : Rat} (hc : Is .f32 c d) (hd : p2 (-(n : Int)) * d = 1) : Is .f32 (fdiv (fint i) c) ((i : Rat) * p2 (-(n : Int))) := by
  have hr := rep_parts i h1 h2 n hn
  have d0 : d ≠ 0 := by intro h; rw [h] at hd; grind
  have e : (i : Rat) / d = (i : Rat) * p2 (-(n : Int)) := by
    have : (i : Rat) = (i : Rat) * p2 (-(n : Int)) * d := by rw [Rat.mul_assoc, hd]; grind
    rw [this, Rat.mul_div_cancel d0, ← this]
  obtain ⟨w, iw, rw'⟩ := is_div (fint_is i h1 h2) hc d0 (by rw [e]; exact hr.fit)
  rw [e] at rw'
  rw [rw'.of_rep hr] at iw
  exact iw
theorem near_of {x y b : Option Nat} {u v w : Rat} (hx : Is .f32 x u) (hy : Is .f32 y v) (hb : Is .f32 b w) (h1 : u - v ≤ w) (h2 : v - u ≤ w) : near x y b = true := by
  have hr := hb.rep
  obtain ⟨a, ia, ra⟩ := is_sub hx hy (hr.fit.le h1 (by grind))
  obtain ⟨c, ic, rc⟩ := is_sub hy hx (hr.fit.le h2 (by grind))
  unfold near fsub
  rw [fle_is ia hb, fle_is ic hb]
  have a1 := ra.up _ hr h1
  have c1 := rc.up _ hr h2
  simp [a1, c1]
theorem i8 : Is .f32 (canon .f32 1090519040) 8 := ⟨_, false, 8388608, -20, rfl, by decide, by decide +kernel⟩
theorem i16 : Is .f32 (canon .f32 1098907648) 16 := ⟨_, false, 8388608, -19, rfl, by decide, by decide +kernel⟩
theorem i64 : Is .f32 (canon .f32 1115684864) 64 := ⟨_, false, 8388608, -17, rfl, by decide, by decide +kernel⟩
theorem i1 : Is .f32 (canon .f32 1065353216) 1 := ⟨_, false, 8388608, -23, rfl, by decide, by decide +kernel⟩
theorem i2 : Is .f32 (canon .f32 1073741824) 2 := ⟨_, false, 8388608, -22, rfl, by decide, by decide +kernel⟩
def e5V : Rat := 10995116 * p2 (-40)
theorem ie5 : Is .f32 (canon .f32 925353388) e5V := ⟨_, false, 10995116, -40, rfl, by decide, by decide +kernel⟩
theorem e5_near : 999999 / 100000000000 ≤ e5V ∧ e5V ≤ 1 / 100000 := by decide +kernel
def e4V : Rat := 13743895 * p2 (-37)
theorem ie4 : Is .f32 (canon .f32 953267991) e4V := ⟨_, false, 13743895, -37, rfl, by decide, by decide +kernel⟩
theorem e4_near : 999999 / 10000000000 ≤ e4V ∧ e4V ≤ 1000001 / 10000000000 := by decide +kernel
/-! ### Words of results -/
theorem cop_some {op : BinOp} {x y : Option Nat} (h : (cop op .f32 x y).isSome = true) : x.isSome = true ∧ y.isSome = true := by
  cases x with
  | none => cases h
  | some a =>
    cases y with
    | none => cases h
    | some b => exact ⟨rfl, rfl⟩
theorem Is.some {k : FloatKind} {x : Option Nat} {v : Rat} (h : Is k x v) : x.isSome = true := by
  obtain ⟨b, _, _, _, h, _⟩ := h
  rw [h]; rfl
theorem near_some {x y b : Option Nat} (h : near x y b = true) : x.isSome = true ∧ y.isSome = true ∧ b.isSome = true := by
  unfold near at h
  rw [Bool.and_eq_true] at h
  have h1 := h.1
  unfold fle at h1
  have h2 : (cord .f32 (fsub x y) b).isSome = true := by
    cases hc : cord .f32 (fsub x y) b with
    | none => rw [hc] at h1; cases h1
    | some o => rfl
  have h3 : (fsub x y).isSome = true ∧ b.isSome = true := by
    cases hs : fsub x y with
    | none => rw [hs] at h2; cases h2
    | some a =>
      cases b with
      | none => rw [hs] at h2; cases h2
      | some c => exact ⟨rfl, rfl⟩
  have h4 := cop_some h3.1
  exact ⟨h4.1, h4.2, h3.2⟩
/-- An operation whose result is a number gives one word and draws nothing. -/
theorem op_word {op : BinOp} {x y : Nat} (h : (cop op .f32 (canon .f32 x) (canon .f32 y)).isSome = true) : ∃ r, (∀ w, fval op .f32 x y w = r) ∧ fcnt op .f32 x y = 0 ∧ canon .f32 r = cop op .f32 (canon .f32 x) (canon .f32 y) := by
  have h1 := cop_some h
  obtain ⟨a, ha⟩ := Option.isSome_iff_exists.1 h1.1
  obtain ⟨b, hb⟩ := Option.isSome_iff_exists.1 h1.2
  obtain ⟨rfl, _⟩ := canon_eq_some ha
  obtain ⟨rfl, _⟩ := canon_eq_some hb
  rw [ha, hb] at h ⊢
  obtain ⟨r, hr⟩ := Option.isSome_iff_exists.1 h
  have hr' : floatBits op .f32 x y = some r := hr
  obtain ⟨g1, g2⟩ := fval_of hr'
  refine ⟨r, g1, g2, ?_⟩
  have := canon_fval op .f32 x y default
  rw [g1, ha, hb] at this
  exact this
theorem order_eq {x y : Nat} (h : feq (canon .f32 x) (canon .f32 y) = true) : FloatKind.f32.format.order x y = some .eq := by
  rw [← o_eq] at h
  exact eq_of_beq h
theorem RetFC.code {w : World} {q : Option Nat × Int} {p : Option Nat} {c : Int} {e : Ending} {w' : World} (hr : RetFC w q.1 q.2 e w') (h : q = (p, c)) : RetFC w p c e w' := by subst h; exact hr
end Go.Proofs.Ytfpjiclkhjdihaa

namespace Go.Proofs.Ytfpjiclkhjdihaa
open Go.RowKit

theorem sq_nonneg (a : Rat) : 0 ≤ a * a := by
  rcases Rat.le_total (a := 0) (b := a) with h | h
  · exact Rat.mul_nonneg h h
  · have := Rat.mul_nonneg (show 0 ≤ -a by grind) (show 0 ≤ -a by grind); grind
theorem sq_le {a b : Rat} (h1 : a ≤ b) (h2 : -b ≤ a) : a * a ≤ b * b := by
  have := Rat.mul_nonneg (show 0 ≤ b - a by grind) (show 0 ≤ b + a by grind); grind
theorem le_of_sq {a b : Rat} (hb : 0 ≤ b) (h : a * a ≤ b * b) : a ≤ b := by
  apply Rat.not_lt.1
  intro hlt
  have m1 := Rat.mul_pos (show 0 < a - b by grind) (show 0 < a by grind)
  have m2 := Rat.mul_nonneg (show 0 ≤ a - b by grind) hb
  grind
/-- A root: what is below it and what is above it. -/
theorem root_near {v w : Rat} (h : Rt Ieee.double v w) : (v ≤ (w + w * p2 (-52) + p2 (-1074)) * (w + w * p2 (-52) + p2 (-1074)) ∨ ¬ w ≤ p2 1000) ∧ (w = 0 ∨ ∃ c, 0 ≤ c ∧ c * c ≤ v ∧ w ≤ c + c * p2 (-52) + p2 (-1074)) := by
  obtain ⟨c1, c2, c3, c4, c5⟩ := e64
  obtain ⟨r, hr, hv⟩ := h.rep
  have hp := h.pos
  have h0 := rungV_nonneg Ieee.double r
  have hv' : w = rungV Ieee.double r := by rcases hv with h | h; exact h; grind
  constructor
  · by_cases hb : w ≤ p2 1000
    · left
      have hr1 : r + 1 < Ieee.double.infRung := by
        apply Nat.lt_of_not_le
        intro hle
        have h1 := rungV_le Ieee.double (show 2045 * 4503599627370496 + 4503599627370496 ≤ r by omega)
        have h2 := rungV_form Ieee.double 2045 4503599627370496 (.inr (by omega)) (by omega)
        rw [c1, c4] at h2
        have e : ((4503599627370496 : Nat) : Rat) * p2 (-1074 + ((2045 : Nat) : Int)) = p2 1023 := by
          rw [show (4503599627370496 : Nat) = 2 ^ 52 from rfl, ← p2_nat, ← p2_add]; rfl
        rw [e] at h2
        have h3 := p2_mono (show (1001 : Int) ≤ 1023 by decide)
        have h4 := p2_succ 1000
        rw [show (1000 : Int) + 1 = 1001 by decide] at h4
        have h5 := p2_pos 1000
        grind
      have hg := rungV_gap Ieee.double r
      rw [c4, c5, ← hv'] at hg
      have hlt := rungV_lt Ieee.double (show r < r + 1 by omega)
      rw [← hv'] at hlt
      have hn : ¬ rungV Ieee.double (r + 1) * rungV Ieee.double (r + 1) ≤ v := by
        intro hle
        have := h.dn _ ⟨r + 1, hr1, .inl rfl⟩ (rungV_nonneg _ _) hle
        grind
      have e52 : p2 (-((52 : Nat) : Int)) = p2 (-52) := rfl
      rw [e52] at hg
      have h6 := sq_le hg (by have := rungV_nonneg Ieee.double (r + 1); have := Rat.mul_nonneg hp (Rat.le_of_lt (p2_pos (-52))); have := p2_pos (-1074); grind)
      grind
    · exact .inr hb
  · by_cases hz : r = 0
    · left; rw [hv', hz, rungV_zero]
    · right
      obtain ⟨k, hk⟩ : ∃ k, r = k + 1 := ⟨r - 1, by omega⟩
      subst hk
      have hg := rungV_gap Ieee.double k
      rw [c4, c5, ← hv'] at hg
      have hlt := rungV_lt Ieee.double (show k < k + 1 by omega)
      rw [← hv'] at hlt
      refine ⟨rungV Ieee.double k, rungV_nonneg _ _, ?_, hg⟩
      apply Rat.not_lt.1
      intro hlt2
      have := h.up _ ⟨k, by omega, .inl rfl⟩ (rungV_nonneg _ _) (Rat.le_of_lt hlt2)
      grind
theorem small64 : p2 (-52) ≤ 1 / 4000000000000000 ∧ p2 (-1074) ≤ 1 / 1000000000000000000 := by
  constructor
  · decide +kernel
  · have := p2_mono (show (-1074 : Int) ≤ -60 by decide)
    have e : p2 (-60) ≤ 1 / 1000000000000000000 := by decide +kernel
    grind
/-- A root of a float32. -/
theorem froot_is {x : Option Nat} {v : Rat} (hx : Is .f32 x v) (h0 : 0 ≤ v) (h1 : v ≤ 16777216) : ∃ w R, Is .f32 (froot x) R ∧ Rt Ieee.double v w ∧ Rnd Ieee.single w R ∧ 0 ≤ w ∧ w ≤ 4096 := by
  have h2 := is_widen hx
  obtain ⟨w, iw, rw'⟩ := is_root h2 h0
  have e12 : p2 12 = 4096 := by decide +kernel
  have hw : w ≤ 4096 := rw'.up _ (by rw [← e12]; exact rep64_p2 12 (by decide) (by decide)) (by decide) (by grind)
  have p127 : (4096 : Rat) ≤ p2 127 := by have := p2_mono (show (12 : Int) ≤ 127 by decide); grind
  have hp := rw'.pos
  obtain ⟨R, iR, rR⟩ := is_conv (d := .f32) (by decide) iw (fit32 (by grind) (by grind))
  exact ⟨w, R, iR, rw', rR, hp, hw⟩
theorem froot_zero {x : Option Nat} (hx : Is .f32 x 0) : Is .f32 (froot x) 0 := by
  obtain ⟨w, R, iR, h, rR, w0, _⟩ := froot_is hx (by grind) (by grind)
  have : w ≤ 0 := h.up 0 ⟨0, by decide, .inl (rungV_zero _).symm⟩ (by grind) (by grind)
  have : w = 0 := by grind
  subst this
  have := rR.of_rep ⟨0, by decide, .inl (rungV_zero _).symm⟩
  rw [this] at iR
  exact iR
/-- The square of a root is the number, nearly. -/
theorem root_near' {v w : Rat} (h : Rt Ieee.double v w) (v0 : 0 ≤ v) (w0 : 0 ≤ w) (w3 : w ≤ 3) : w * w ≤ v + 1 / 100000000000 ∧ v ≤ w * w + 1 / 100000000000 := by
  obtain ⟨a1, a2⟩ := root_near h
  obtain ⟨t1, t2⟩ := small64
  have u1 := p2_pos (-52)
  have u2 := p2_pos (-1074)
  have p1000 : (4096 : Rat) ≤ p2 1000 := by have := p2_mono (show (12 : Int) ≤ 1000 by decide); have e12 : p2 12 = 4096 := (by decide +kernel); grind
  constructor
  · rcases a2 with a2 | ⟨c, c0, c1, c2⟩
    · subst a2; grind
    · by_cases hcw : w ≤ c
      · have := sq_le hcw (by grind); grind
      · have m1 := Rat.mul_nonneg (show 0 ≤ 3 - c by grind) (Rat.le_of_lt u1)
        have hd : w - c ≤ 1 / 100000000000000 := by grind
        have m2 := Rat.mul_nonneg (show 0 ≤ 1 / 100000000000000 - (w - c) by grind) (show 0 ≤ w + c by grind)
        grind
  · rcases a1 with a1 | a1
    · obtain ⟨e, he⟩ : ∃ e, e = w * p2 (-52) + p2 (-1074) := ⟨_, rfl⟩
      have m1 := Rat.mul_nonneg (show 0 ≤ 3 - w by grind) (Rat.le_of_lt u1)
      have m2 := Rat.mul_nonneg w0 (Rat.le_of_lt u1)
      have e0 : 0 ≤ e := by grind
      have e1 : e ≤ 1 / 100000000000000 := by grind
      have a3 : v ≤ (w + e) * (w + e) := by rw [he]; have : w + (w * p2 (-52) + p2 (-1074)) = w + w * p2 (-52) + p2 (-1074) := by grind
                                            rw [this]; exact a1
      have m3 := Rat.mul_nonneg e0 (show 0 ≤ 3 - w by grind)
      have m4 := Rat.mul_nonneg e0 (show 0 ≤ 1 / 100000000000000 - e by grind)
      clear he a1 a2
      grind
    · exact absurd (show w ≤ p2 1000 by grind) a1
end Go.Proofs.Ytfpjiclkhjdihaa
