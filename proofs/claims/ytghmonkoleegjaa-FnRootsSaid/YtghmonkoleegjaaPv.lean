/- Powers: what the program and the reference give, as one function; its parts are finite. No program is walked here. -/
import Derived.Test.YtghmonkoleegjaaPA
namespace Go.Proofs.Ytghmonkoleegjaa
open Go.RowKit
set_option maxRecDepth 100000

def powMan (B : Nat) : Nat := 4607182418800017408 + B % 4503599627370496
def powExp (B : Nat) : Int := ((B / 4503599627370496 : Nat) : Int) - 1023
def wholeOf (k : Option Nat) : Int := match k with | some b => (floatToIntVal .f64 b .i64).getD 0 | none => 0
def wordOf (p : Option Nat) : Nat := match p with | some b => b | none => 0
def powEnd (t : Option Nat) : Option Nat := ccv .f64 .f32 (some (upBy (wordOf (powP (powY t) 14)) (wholeOf (flr t))))
def dgt (x y : Option Nat) : Bool := cord .f64 x y == some .gt
def powOf (t : Option Nat) : Option Nat × Int := if dgt t (some 4638144666238189568) then (canon .f32 0, 2) else if dlt t (some 13861516703092965376) then (canon .f32 0, 0) else (powEnd t, 0)
def powOk (a x : Option Nat) : Bool := fin a && fge a (canon .f32 0) && (fge x (canon .f32 0) && fle x (canon .f32 1098907648))
def powAt (a x : Option Nat) : Option Nat := powT (some (powMan (wordOf (ccv .f32 .f64 a)))) (powExp (wordOf (ccv .f32 .f64 a))) x
def powRes (a x : Option Nat) : Option Nat × Int := if powOk a x then if feq a (canon .f32 0) then (canon .f32 0, 0) else powOf (powAt a x) else (canon .f32 0, 2)

theorem man_is (B : Nat) : Is .f64 (some (powMan B)) (rungV Ieee.double (powMan B)) ∧ 1 ≤ rungV Ieee.double (powMan B) ∧ rungV Ieee.double (powMan B) ≤ 2 := by
  have h := Nat.mod_lt B (show 4503599627370496 > 0 by omega)
  have h1 : 4607182418800017408 ≤ powMan B := by unfold powMan; omega
  have h2 : powMan B ≤ 4611686018427387904 := by unfold powMan; omega
  refine ⟨is_rung (k := .f64) (by rw [show FloatKind.f64.format = Ieee.double from rfl, e64.2.1]; omega), ?_, ?_⟩
  · rw [← val64.1]; exact rungV_le _ h1
  · rw [← val64.2.1]; exact rungV_le _ h2
theorem lit120 : Is .f64 (some 4638144666238189568) 120 ∧ Is .f64 (some 13861516703092965376) (-120) := ⟨⟨_, false, 8444249301319680, -46, rfl, by decide, by decide +kernel⟩, ⟨_, true, 8444249301319680, -46, rfl, by decide, by decide +kernel⟩⟩
/-- A float64 from 1 to 8 has a word between theirs. -/
theorem word_range {p : Option Nat} {v : Rat} (h : Is .f64 p v) (hlt : ∀ b, p = some b → b < 2 * Ieee.double.signWeight) (h1 : 1 ≤ v) (h2 : v ≤ 8) : ∃ W, p = some W ∧ 4607182418800017408 ≤ W ∧ W ≤ 4620693217682128896 := by
  obtain ⟨R, hR, hv⟩ := h.rep
  have h0 := rungV_nonneg FloatKind.f64.format R
  have hv' : v = rungV FloatKind.f64.format R := by rcases hv with hv | hv; exact hv; grind
  rw [hv'] at h h1 h2
  have hR0 : 0 < R := by
    apply Nat.pos_of_ne_zero
    intro e
    subst e
    rw [rungV_zero] at h1
    grind
  have hw := word_of_is h hlt hR0
  refine ⟨R, hw, ?_, ?_⟩
  · apply Nat.le_of_not_lt
    intro hlt'
    have := rungV_lt Ieee.double hlt'
    rw [val64.1] at this
    have h1' : 1 ≤ rungV Ieee.double R := h1
    grind
  · apply Nat.le_of_not_lt
    intro hlt'
    have := rungV_lt Ieee.double hlt'
    rw [val64.2.2] at this
    have h2' : rungV Ieee.double R ≤ 8 := h2
    grind
/-- What follows from a 't' between -120 and 120. -/
theorem pow_end {t : Option Nat} {vt : Rat} (ht : Is .f64 t vt) (h1 : -4096 ≤ vt) (h2 : vt ≤ 4096) (g1 : dgt t (some 4638144666238189568) = false) (g2 : dlt t (some 13861516703092965376) = false) :
    ∃ (K : Int) (k W : Nat), flr t = some k ∧ Is .f64 (some k) (K : Rat) ∧ floatToIntVal .f64 k .i64 = some K ∧ -120 ≤ K ∧ K ≤ 120 ∧ powP (powY t) 14 = some W ∧ 4607182418800017408 ≤ W ∧ W ≤ 4620693217682128896 ∧ powEnd t = ccv .f64 .f32 (some (upBy W K)) := by
  have c1 : vt ≤ 120 := by
    unfold dgt at g1
    rw [is_gt ht lit120.1] at g1
    have := of_decide_eq_false g1
    grind
  have c2 : -120 ≤ vt := by
    unfold dlt at g2
    rw [is_lt ht lit120.2] at g2
    have := of_decide_eq_false g2
    grind
  obtain ⟨K, y, ik, k1, k2, iy, y0, y1⟩ := powY_is ht h1 h2
  obtain ⟨p, ip, p1, p8⟩ := powP_is iy y0 y1 14 (by omega)
  rw [if_pos rfl] at p8
  obtain ⟨W, hW, w1, w2⟩ := word_range ip (fun b h => cop_lt h) p1 p8
  have hk : ∃ k, flr t = some k := by
    cases t with
    | none => obtain ⟨_, _, _, _, h, _⟩ := ht; cases h
    | some b => exact ⟨_, rfl⟩
  obtain ⟨k, hk⟩ := hk
  rw [hk] at ik
  have n1 : K ≤ 120 := by
    have : (K : Rat) ≤ ((120 : Int) : Rat) := by have e : ((120 : Int) : Rat) = 120 := rfl; grind
    exact Rat.intCast_le_intCast.1 this
  have n2 : -120 ≤ K := by
    have : ((-121 : Int) : Rat) < (K : Rat) := by have e : ((-121 : Int) : Rat) = -121 := rfl; grind
    have := Rat.intCast_lt_intCast.1 this
    omega
  have hi := toInt_is ik (by omega) (by omega)
  refine ⟨K, k, W, hk, ik, hi, n2, n1, hW, w1, w2, ?_⟩
  unfold powEnd wholeOf wordOf
  rw [hk, hW]
  simp only [hi, Option.getD_some]
theorem up_val {W : Nat} {K : Int} (h1 : 4607182418800017408 ≤ W) (h2 : W ≤ 4620693217682128896) (k1 : -120 ≤ K) (k2 : K ≤ 120) : upBy W K < 9218868437227405312 ∧ 0 < upBy W K ∧ rungV Ieee.double (upBy W K) ≤ p2 123 := by
  obtain ⟨c1, c2, c3, c4, c5⟩ := e64
  have e : upBy W K ≤ 4620693217682128896 + 120 * 4503599627370496 := by unfold upBy; omega
  refine ⟨by omega, by unfold upBy; omega, ?_⟩
  have h3 := rungV_le Ieee.double e
  have h4 := rungV_shift Ieee.double 4620693217682128896 120 (by omega)
  rw [c1, val64.2.2] at h4
  have h5 : p2 123 = 8 * p2 ((120 : Nat) : Int) := by rw [show (123 : Int) = 3 + ((120 : Nat) : Int) from rfl, p2_add]; congr 1
  grind
theorem up_fits {W : Nat} {K : Int} (h1 : 4607182418800017408 ≤ W) (h2 : W ≤ 4620693217682128896) (k1 : -120 ≤ K) (k2 : K ≤ 120) : Fits .f64 .f32 (upBy W K) ∧ canon .f64 (upBy W K) = some (upBy W K) := by
  obtain ⟨h3, h4, h5⟩ := up_val h1 h2 k1 k2
  have i : Is .f64 (some (upBy W K)) (rungV Ieee.double (upBy W K)) := is_rung (k := .f64) (by rw [show FloatKind.f64.format = Ieee.double from rfl, e64.2.1]; exact h3)
  have h0 := rungV_nonneg Ieee.double (upBy W K)
  have h6 := p2_mono (show (123 : Int) ≤ 127 by decide)
  have h7 := p2_pos 127
  exact ⟨i.fits (fit32 (by grind) (by grind)), canon_word h3⟩
/-- A positive number as a float64. -/
theorem pow_wide {a : Nat} (hf : fin (some a) = true) (hz : feq (some a) (canon .f32 0) = false) (hp : fge (some a) (canon .f32 0) = true) :
    ∃ W, ccv .f32 .f64 (some a) = some W ∧ 874 * 4503599627370496 ≤ W ∧ W < 1151 * 4503599627370496 := by
  obtain ⟨W, h1, h2, h3, h4, h5⟩ := wide_word hf hz
  have h6 : flt (some a) (canon .f32 0) = false := by
    obtain ⟨v, hv⟩ := fin_is.1 hf
    have hz32 : Is .f32 (canon .f32 0) 0 := ⟨0, false, 0, -149, by decide, by decide, by decide +kernel⟩
    rw [fge_is hv hz32] at hp
    rw [flt_is hv hz32]
    have := of_decide_eq_true hp
    simp
    grind
  rw [h6] at h3
  have h7 := of_decide_eq_false h3.symm
  rw [Nat.mod_eq_of_lt (by omega)] at h4 h5
  exact ⟨W, h1, h4, h5⟩
end Go.Proofs.Ytghmonkoleegjaa
