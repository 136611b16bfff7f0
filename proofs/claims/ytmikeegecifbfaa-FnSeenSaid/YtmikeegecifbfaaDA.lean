/- Contracts: third roots. -/
import Derived.Test.YtmikeegecifbfaaCL
import Derived.Test.YtmikeegecifbfaaCZ
import Derived.Test.YtmikeegecifbfaaCub
namespace Go.Proofs.Ytmikeegecifbfaa
open Go.RowKit
set_option maxRecDepth 100000

/-! ### Signs -/
def cneg (k : FloatKind) : Option Nat → Option Nat
  | some b => some (Op.negFloat k b)
  | none => none
theorem xor_top (n b : Nat) : (b ^^^ 2 ^ n) % 2 ^ n = b % 2 ^ n ∧ ((b ^^^ 2 ^ n) / 2 ^ n % 2 == 1) = !(b / 2 ^ n % 2 == 1) := by
  constructor
  · rw [Nat.xor_mod_two_pow, Nat.mod_self, Nat.xor_zero]
  · rw [← Nat.shiftRight_eq_div_pow, Nat.shiftRight_xor_distrib, Nat.shiftRight_eq_div_pow, Nat.shiftRight_eq_div_pow, Nat.div_self (Nat.two_pow_pos _)]
    generalize b / 2 ^ n = q
    have h1 : (q ^^^ 1) % 2 = (q % 2) ^^^ 1 := Nat.xor_mod_two_pow (a := q) (b := 1) (n := 1)
    rw [h1]
    have h2 : q % 2 = 0 ∨ q % 2 = 1 := by omega
    rcases h2 with h | h <;> rw [h] <;> rfl
theorem decode_neg (k : FloatKind) (b : Nat) : k.decode (Op.negFloat k b) = (k.decode b).opposite := by
  obtain ⟨h1, h2⟩ := xor_top (k.format.exponentBits + k.format.fractionBits) b
  have e1 : Op.negFloat k b % k.format.signWeight = b % k.format.signWeight := h1
  have e2 : (Op.negFloat k b / k.format.signWeight % 2 == 1) = !(b / k.format.signWeight % 2 == 1) := h2
  show k.format.read _ = (k.format.read b).opposite
  unfold Ieee.Format.read
  dsimp only
  rw [e1, e2]
  split
  · rfl
  · split
    · rfl
    · split <;> rfl
theorem canon_neg (k : FloatKind) (b : Nat) : canon k (Op.negFloat k b) = cneg k (canon k b) := by
  unfold canon
  rw [decode_neg, opposite_isNaN]
  split <;> rfl
theorem neg_word (f : Ieee.Format) (s : Bool) {r : Nat} (h : r < f.signWeight) : (f.word s r) ^^^ f.signWeight = f.word (!s) r := by
  have hw : 0 < f.signWeight := Nat.two_pow_pos _
  have h1 : (f.word s r ^^^ f.signWeight) % f.signWeight = f.word s r % f.signWeight := (xor_top (f.exponentBits + f.fractionBits) (f.word s r)).1
  have h2 : (f.word s r ^^^ f.signWeight) / f.signWeight = f.word s r / f.signWeight ^^^ 1 := by
    have := @Nat.xor_div_two_pow (f.word s r) (2 ^ (f.exponentBits + f.fractionBits)) (f.exponentBits + f.fractionBits)
    rw [Nat.div_self (Nat.two_pow_pos _)] at this
    exact this
  have h3 := Nat.div_add_mod (f.word s r ^^^ f.signWeight) f.signWeight
  rw [h1, h2, (word_parts f s h).1] at h3
  rw [← h3]
  unfold Ieee.Format.word
  cases s
  · simp [Nat.div_eq_of_lt h]
  · simp [Nat.add_div_left _ hw, Nat.div_eq_of_lt h]
theorem nearest_sign (f : Ieee.Format) (m : Nat) (p : Int) : ∃ r, r ≤ f.infRung ∧ ∀ s, f.nearest s m p = f.word s r := by
  unfold Ieee.Format.nearest
  by_cases hm : m = 0
  · exact ⟨0, Nat.zero_le _, fun s => by rw [if_pos hm]⟩
  · exact ⟨_, Nat.min_le_right .., fun s => by rw [if_neg hm]; cases s <;> rfl⟩
theorem ccv_neg {s d : FloatKind} (hne : s ≠ d) {b : Nat} : ccv s d (some (Op.negFloat s b)) = cneg d (ccv s d (some b)) := by
  show floatToFloatBits s (Op.negFloat s b) d = cneg d (floatToFloatBits s b d)
  unfold floatToFloatBits
  rw [if_neg hne, if_neg hne, decode_neg]
  have hi := d.format.infRung_lt
  cases hd : s.decode b with
  | nan g t => rfl
  | infinity g =>
    show some (d.format.word (!g) d.format.infRung) = some (d.format.word g d.format.infRung ^^^ d.format.signWeight)
    rw [neg_word _ _ hi]
  | number g m e =>
    obtain ⟨r, hr, hn⟩ := nearest_sign d.format m e
    have e1 : ∀ s, d.encode (.number s m e) = d.format.word s r := hn
    simp only [Ieee.Datum.opposite, e1]
    have e2 : ∀ s, (d.decode (d.format.word s r)).isInfinity = decide (r = d.format.infRung) := by
      intro s
      show (d.format.read _).isInfinity = _
      rw [isInf_read _ (binade_le d), (word_parts d.format s (show r < d.format.signWeight by omega)).1]
    rw [e2, e2]
    by_cases h : r = d.format.infRung
    · simp [h, cneg]
    · simp only [h, decide_false, Bool.false_eq_true, if_false]
      show some (d.format.word (!g) r) = some (d.format.word g r ^^^ d.format.signWeight)
      rw [neg_word _ _ (by omega)]

/-! ### The third root -/
/-- The number of times that 8 is taken off; what is left; what that was taken for. -/
def cbrtQ (B : Nat) : Int := (((B / 4503599627370496 : Nat) : Int) - 1023) / 3
def cbrtB (B : Nat) : Nat := ((B : Int) - 3 * cbrtQ B * 4503599627370496).toNat
def cbrtX (B : Nat) : Nat := (4607182418800017408 + cbrtQ B * 4503599627370496).toNat
/-- The root of the number with the word 'B'. -/
def cbrtSize (B : Nat) : Option Nat := ccv .f64 .f32 (dmul (newtons (some (cbrtB B)) 6) (some (cbrtX B)))
def wideAbs (a : Nat) : Nat := (match ccv .f32 .f64 (some a) with | some W => W | none => 0) % 9223372036854775808
def cbrt (x : Option Nat) : Option Nat :=
  match x with
  | none => none
  | some a => if feq (some a) (canon .f32 0) then canon .f32 0 else if flt (some a) (canon .f32 0) then cneg .f32 (cbrtSize (wideAbs a)) else cbrtSize (wideAbs a)

/-- What widening gives of a finite number other than 0. -/
theorem wide_word {a : Nat} (hf : fin (some a) = true) (hz : feq (some a) (canon .f32 0) = false) :
    ∃ W, ccv .f32 .f64 (some a) = some W ∧ W < 18446744073709551616 ∧ (flt (some a) (canon .f32 0) = decide (9223372036854775808 ≤ W)) ∧ 874 * 4503599627370496 ≤ W % 9223372036854775808 ∧ W % 9223372036854775808 < 1151 * 4503599627370496 := by
  obtain ⟨v, hv⟩ := fin_is.1 hf
  have h1 := is_widen hv
  have hW := h1
  obtain ⟨W, s, m, e, hw, hd, hval⟩ := hW
  obtain ⟨c1, c2, c3, c4, c5⟩ := e64
  have hlt : W < 18446744073709551616 := by
    have h2 : ccv .f32 .f64 (some a) = floatToFloatBits .f32 a .f64 := rfl
    rw [h2] at hw
    unfold floatToFloatBits at hw
    rw [if_neg (by decide)] at hw
    have hl := fun d => write_lt Ieee.double d
    rw [c3] at hl
    split at hw
    · cases hw
    · injection hw with hw; rw [← hw]; exact hl _
    · split at hw
      · cases hw
      · injection hw with hw; rw [← hw]; exact hl _
  obtain ⟨h3, h4⟩ := fin_read Ieee.double (by decide) hd
  obtain ⟨m', e', h5, _⟩ := read_fin Ieee.double W h3
  have h5' : Ieee.double.read W = .number s m e := hd
  rw [h5'] at h5
  injection h5 with h6
  rw [c3] at h3 h4 h6
  have hz32 : Is .f32 (canon .f32 0) 0 := ⟨0, false, 0, -149, by decide, by decide, by decide +kernel⟩
  have hvz : v ≠ 0 := by
    intro h
    rw [feq_is hv hz32] at hz
    simp [h] at hz
  -- the size
  have hsz : v = rungV Ieee.double (W % 9223372036854775808) ∨ v = -rungV Ieee.double (W % 9223372036854775808) := by
    rw [← hval, h4]
    cases s
    · exact .inl rfl
    · exact .inr rfl
  have hrep := hv.rep
  have hle := rep32_le hrep
  have hge : p2 (-149) ≤ rungV Ieee.double (W % 9223372036854775808) := by
    obtain ⟨r, hr, hvr⟩ := hrep
    obtain ⟨b1, b2, b3, b4, b5⟩ := e32
    have hr0 : 1 ≤ r := by
      apply Nat.pos_of_ne_zero
      intro h
      subst h
      have : rungV FloatKind.f32.format 0 = 0 := rungV_zero _
      rw [this] at hvr
      grind
    have h7 := rungV_le Ieee.single hr0
    have h8 := rungV_form Ieee.single 0 1 (.inl rfl) (by omega)
    rw [b4] at h8
    have e8 : rungV Ieee.single 1 = p2 (-149) := by
      have : (0 * Ieee.single.binade + 1) = 1 := by omega
      rw [this] at h8
      rw [h8]
      simp
    rw [e8] at h7
    have h9 := rungV_nonneg Ieee.double (W % 9223372036854775808)
    have h10 : rungV Ieee.single r = rungV Ieee.double (W % 9223372036854775808) := by
      have h11 := rungV_nonneg Ieee.single r
      have hvr' : v = rungV Ieee.single r ∨ v = -rungV Ieee.single r := hvr
      grind
    grind
  have hlo : 874 * 4503599627370496 ≤ W % 9223372036854775808 := by
    apply Nat.le_of_not_lt
    intro h
    have h7 := rungV_lt Ieee.double h
    have h8 := rungV_form Ieee.double 873 4503599627370496 (.inr (by omega)) (by omega)
    rw [c1, c4] at h8
    have e8 : ((4503599627370496 : Nat) : Rat) * p2 (-1074 + ((873 : Nat) : Int)) = p2 (-149) := by
      rw [show (4503599627370496 : Nat) = 2 ^ 52 from rfl, ← p2_nat, ← p2_add]
      rfl
    rw [e8] at h8
    have e9 : (873 * 4503599627370496 + 4503599627370496 : Nat) = 874 * 4503599627370496 := by omega
    rw [e9] at h8
    grind
  have hhi : W % 9223372036854775808 < 1151 * 4503599627370496 := by
    apply Nat.lt_of_not_le
    intro h
    have h7 := rungV_le Ieee.double h
    have h8 := rungV_form Ieee.double 1150 4503599627370496 (.inr (by omega)) (by omega)
    rw [c1, c4] at h8
    have e8 : ((4503599627370496 : Nat) : Rat) * p2 (-1074 + ((1150 : Nat) : Int)) = p2 128 := by
      rw [show (4503599627370496 : Nat) = 2 ^ 52 from rfl, ← p2_nat, ← p2_add]
      rfl
    rw [e8] at h8
    have e9 : (1150 * 4503599627370496 + 4503599627370496 : Nat) = 1151 * 4503599627370496 := by omega
    rw [e9] at h8
    -- a float32 is below 2 ^ 128
    obtain ⟨r, hr, hvr⟩ := hrep
    obtain ⟨b1, b2, b3, b4, b5⟩ := e32
    have h10 := rungV_lt Ieee.single (show r < 254 * 8388608 + 8388608 by have h11 : r < Ieee.single.infRung := hr; omega)
    have h12 := rungV_form Ieee.single 254 8388608 (.inr (by omega)) (by omega)
    rw [b1, b4] at h12
    have e12 : ((8388608 : Nat) : Rat) * p2 (-149 + ((254 : Nat) : Int)) = p2 128 := by
      rw [show (8388608 : Nat) = 2 ^ 23 from rfl, ← p2_nat, ← p2_add]
      rfl
    rw [e12] at h12
    have h13 := rungV_nonneg Ieee.single r
    have hvr' : v = rungV Ieee.single r ∨ v = -rungV Ieee.single r := hvr
    grind
  refine ⟨W, hw, hlt, ?_, hlo, hhi⟩
  rw [flt_is hv hz32]
  have hpos : 0 < rungV Ieee.double (W % 9223372036854775808) := by have := p2_pos (-149); grind
  have hs : s = decide (9223372036854775808 ≤ W) := by
    rw [h6, Bool.eq_iff_iff]
    simp
    omega
  rw [← hs, Bool.eq_iff_iff, decide_eq_true_eq, ← hval, h4]
  cases s
  · simp [sg]; grind
  · simp [sg]; grind
end Go.Proofs.Ytmikeegecifbfaa
