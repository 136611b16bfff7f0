/- The third root: powers of two are taken off exactly; Newton's steps stay between bounds. No program is named here. Contracts: third roots. Contracts: third roots, the walks. Whole numbers among the float64: the greatest one that is no greater, and conversions. No program is named here. -/
import Derived.Test.YtfpjiclkhjdihaaHlf
import Derived.Test.YtfpjiclkhjdihaaCP
import Derived.Test.YtfpjiclkhjdihaaCZ
namespace Go.Proofs.Ytfpjiclkhjdihaa

def dadd (x y : Option Nat) : Option Nat := cop .add .f64 x y
def dsub (x y : Option Nat) : Option Nat := cop .sub .f64 x y
def dmul (x y : Option Nat) : Option Nat := cop .mul .f64 x y
def ddiv (x y : Option Nat) : Option Nat := cop .quo .f64 x y
def dlt (x y : Option Nat) : Bool := cord .f64 x y == some .lt
def dge (x y : Option Nat) : Bool := cord .f64 x y == some .gt || cord .f64 x y == some .eq
section
variable (x y : Nat) (w : World)
theorem d_add : canon .f64 (fval .add .f64 x y w) = dadd (canon .f64 x) (canon .f64 y) := canon_fval ..
theorem d_sub : canon .f64 (fval .sub .f64 x y w) = dsub (canon .f64 x) (canon .f64 y) := canon_fval ..
theorem d_mul : canon .f64 (fval .mul .f64 x y w) = dmul (canon .f64 x) (canon .f64 y) := canon_fval ..
theorem d_div : canon .f64 (fval .quo .f64 x y w) = ddiv (canon .f64 x) (canon .f64 y) := canon_fval ..
theorem od_lt : (FloatKind.f64.format.order x y == some .lt) = dlt (canon .f64 x) (canon .f64 y) := by rw [order_canon]; rfl
theorem od_ge : (FloatKind.f64.format.order x y == some .gt || FloatKind.f64.format.order x y == some .eq) = dge (canon .f64 x) (canon .f64 y) := by rw [order_canon]; rfl
end

/-! ### The word of a number -/
theorem write_lt (f : Ieee.Format) (d : Ieee.Datum) : f.write d < 2 * f.signWeight := by
  have hi := f.infRung_lt
  have hw : ∀ s r, r < f.signWeight → f.word s r < 2 * f.signWeight := by
    intro s r h
    unfold Ieee.Format.word
    split <;> omega
  have hb : f.infRung + f.binade = f.signWeight := by
    unfold Ieee.Format.infRung Ieee.Format.signWeight Ieee.Format.binade
    have h1 : 1 ≤ 2 ^ f.exponentBits := Nat.one_le_two_pow
    obtain ⟨q, hq⟩ : ∃ q, 2 ^ f.exponentBits = q + 1 := ⟨2 ^ f.exponentBits - 1, by omega⟩
    rw [Nat.pow_add, hq, Nat.add_sub_cancel, Nat.add_mul]
    omega
  cases d with
  | number s m e =>
    show f.nearest s m e < _
    unfold Ieee.Format.nearest
    dsimp only
    split
    · exact hw _ _ (by omega)
    · exact hw _ _ (Nat.lt_of_le_of_lt (Nat.min_le_right ..) hi)
  | infinity s => exact hw _ _ hi
  | nan s t =>
    exact hw _ _ (by have := Nat.mod_lt t (binade_pos f); omega)
theorem cop_lt {op : BinOp} {k : FloatKind} {x y : Option Nat} {r : Nat} (h : cop op k x y = some r) : r < 2 * k.format.signWeight := by
  cases x with
  | none => cases h
  | some a =>
    cases y with
    | none => cases h
    | some b =>
      have h : floatBits op k a b = some r := h
      unfold floatBits at h
      split at h
      all_goals first | (obtain ⟨d, _, rfl⟩ := Option.map_eq_some_iff.1 h; exact write_lt _ d) | cases h
theorem rungV_inj {f : Ieee.Format} {r s : Nat} (h : rungV f r = rungV f s) : r = s := by
  rcases Nat.lt_trichotomy r s with h1 | h1 | h1
  · have := rungV_lt f h1; grind
  · exact h1
  · have := rungV_lt f h1; grind
/-- A number above 0 has one word. -/
theorem word_of_is {k : FloatKind} {x : Option Nat} {R : Nat} (h : Is k x (rungV k.format R)) (hlt : ∀ b, x = some b → b < 2 * k.format.signWeight) (h0 : 0 < R) : x = some R := by
  obtain ⟨b, s, m, e, rfl, hd, hv⟩ := h
  obtain ⟨h1, h2⟩ := fin_read k.format (binade_le k) hd
  have hpos : 0 < rungV k.format R := by have := rungV_lt k.format h0; rw [rungV_zero] at this; exact this
  have hs : s = false := by
    cases s
    · rfl
    · unfold sg at hv
      simp only [if_true] at hv
      have := rungV_nonneg k.format (b % k.format.signWeight)
      grind
  subst hs
  unfold sg at hv
  simp only [Bool.false_eq_true, if_false] at hv
  rw [h2] at hv
  have e1 := rungV_inj hv
  obtain ⟨m', e', h3, _⟩ := read_fin k.format b h1
  have h4 : k.format.read b = .number false m e := hd
  rw [h3] at h4
  injection h4 with h5
  have h6 := hlt b rfl
  have hw : 0 < k.format.signWeight := Nat.two_pow_pos _
  have h7 : b / k.format.signWeight < 2 := Nat.div_lt_of_lt_mul (by omega)
  have h8 : b / k.format.signWeight = 0 := by
    have h8 : (b / k.format.signWeight % 2 == 1) = false := h5
    have h9 : ¬ b / k.format.signWeight % 2 = 1 := by simpa using h8
    generalize b / k.format.signWeight = q at *
    omega
  have h9 := Nat.div_add_mod b k.format.signWeight
  rw [h8] at h9
  congr 1
  omega
theorem is_rung {k : FloatKind} {r : Nat} (h : r < k.format.infRung) : Is k (some r) (rungV k.format r) := Is.of_word (k := k) false h
/-- A word times two, as a number. -/
theorem rungV_shift (f : Ieee.Format) (r j : Nat) (h : f.binade ≤ r) : rungV f (r + j * f.binade) = rungV f r * p2 j := by
  have hb := binade_pos f
  unfold rungV
  rw [if_neg (by have : 0 ≤ j * f.binade := Nat.zero_le _; omega), if_neg (by omega), Nat.add_mul_mod_self_right, Nat.add_mul_div_right _ _ hb]
  have h1 : 0 < r / f.binade := Nat.div_pos h hb
  rw [show f.leastPlace + ((r / f.binade + j - 1 : Nat) : Int) = f.leastPlace + ((r / f.binade - 1 : Nat) : Int) + (j : Int) by omega, p2_add]
  grind

theorem val64 : rungV Ieee.double 4607182418800017408 = 1 ∧ rungV Ieee.double 4611686018427387904 = 2 ∧ rungV Ieee.double 4620693217682128896 = 8 := by
  obtain ⟨c1, c2, c3, c4, c5⟩ := e64
  have h1 := rungV_form Ieee.double 1022 4503599627370496 (.inr (by omega)) (by omega)
  rw [c1, c4] at h1
  have e1 : ((4503599627370496 : Nat) : Rat) * p2 (-1074 + ((1022 : Nat) : Int)) = 1 := by
    rw [show (4503599627370496 : Nat) = 2 ^ 52 from rfl, ← p2_nat, ← p2_add]
    exact p2_zero
  rw [e1] at h1
  have h2 := rungV_shift Ieee.double 4607182418800017408 1 (by omega)
  have h3 := rungV_shift Ieee.double 4607182418800017408 3 (by omega)
  rw [c1] at h2 h3
  have e0 : (1022 * 4503599627370496 + 4503599627370496 : Nat) = 4607182418800017408 := rfl
  have e2 : (4607182418800017408 + 1 * 4503599627370496 : Nat) = 4611686018427387904 := rfl
  have e3 : (4607182418800017408 + 3 * 4503599627370496 : Nat) = 4620693217682128896 := rfl
  rw [e0] at h1
  rw [e2, h1, p2_nat] at h2
  rw [e3, h1, p2_nat] at h3
  exact ⟨h1, by rw [h2]; decide +kernel, by rw [h3]; decide +kernel⟩
theorem lt_words {a b : Nat} (ha : a < Ieee.double.infRung) (hb : b < Ieee.double.infRung) : dlt (some a) (some b) = decide (a < b) ∧ dge (some a) (some b) = decide (b ≤ a) := by
  have h1 := is_rung (k := .f64) ha
  have h2 := is_rung (k := .f64) hb
  have h3 : ∀ x y, rungV Ieee.double x < rungV Ieee.double y ↔ x < y := by
    intro x y
    constructor
    · intro h
      apply Nat.lt_of_not_le
      intro h'
      have := rungV_le Ieee.double h'
      grind
    · exact rungV_lt _
  constructor
  · show (cord .f64 _ _ == some .lt) = _
    rw [is_lt h1 h2, Bool.eq_iff_iff]
    simp only [decide_eq_true_eq]
    exact h3 a b
  · show (cord .f64 _ _ == some .gt || cord .f64 _ _ == some .eq) = _
    rw [is_ge h1 h2, Bool.eq_iff_iff]
    simp only [decide_eq_true_eq]
    have := h3 a b
    constructor
    · intro h; apply Nat.le_of_not_lt; intro h'; have h5 := this.2 h'; have h : rungV Ieee.double b ≤ rungV Ieee.double a := h; grind
    · intro h; have := rungV_le Ieee.double h; exact this
/-- A power of two times a number: the word goes up by so many binades. -/
theorem dmul_p2 {a c R : Nat} {q : Rat} (ha : a < Ieee.double.infRung) (hc : c < Ieee.double.infRung) (hcv : rungV Ieee.double c = q) (hR : R < Ieee.double.infRung) (h0 : 0 < R) (hv : rungV Ieee.double a * q = rungV Ieee.double R) : dmul (some a) (some c) = some R := by
  have h1 := is_rung (k := .f64) ha
  have h2 := is_rung (k := .f64) hc
  have hrep : Rep Ieee.double (rungV Ieee.double R) := ⟨R, hR, .inl rfl⟩
  have h3 : rungV FloatKind.f64.format a * rungV FloatKind.f64.format c = rungV Ieee.double R := by
    show rungV Ieee.double a * rungV Ieee.double c = _
    rw [hcv, hv]
  obtain ⟨w, h4, h5⟩ := is_mul h1 h2 (by rw [h3]; exact hrep.fit)
  rw [h3] at h5
  rw [h5.of_rep hrep] at h4
  exact word_of_is h4 (fun b h => cop_lt h) h0
theorem ddiv_p2 {a c R : Nat} {q : Rat} (ha : a < Ieee.double.infRung) (hc : c < Ieee.double.infRung) (hcv : rungV Ieee.double c = q) (hq : q ≠ 0) (hR : R < Ieee.double.infRung) (h0 : 0 < R) (hv : rungV Ieee.double a = rungV Ieee.double R * q) : ddiv (some a) (some c) = some R := by
  have h1 := is_rung (k := .f64) ha
  have h2 := is_rung (k := .f64) hc
  have hrep : Rep Ieee.double (rungV Ieee.double R) := ⟨R, hR, .inl rfl⟩
  have h3 : rungV FloatKind.f64.format a / rungV FloatKind.f64.format c = rungV Ieee.double R := by
    show rungV Ieee.double a / rungV Ieee.double c = _
    rw [hcv, hv, Rat.mul_div_cancel hq]
  obtain ⟨w, h4, h5⟩ := is_div h1 h2 (by show rungV Ieee.double c ≠ 0; rw [hcv]; exact hq) (by rw [h3]; exact hrep.fit)
  rw [h3] at h5
  rw [h5.of_rep hrep] at h4
  exact word_of_is h4 (fun b h => cop_lt h) h0
theorem scale_up {a : Nat} (h1 : 4503599627370496 ≤ a) (h2 : a + 3 * 4503599627370496 < 9218868437227405312) : dmul (some a) (some 4620693217682128896) = some (a + 3 * 4503599627370496) := by
  obtain ⟨c1, c2, c3, c4, c5⟩ := e64
  have := rungV_shift Ieee.double a 3 (by omega)
  rw [c1] at this
  exact dmul_p2 (by omega) (by omega) val64.2.2 (by omega) (by omega) (by rw [this, p2_nat]; congr 1)
theorem scale_down {a : Nat} (h1 : 4 * 4503599627370496 ≤ a) (h2 : a < 9218868437227405312) : ddiv (some a) (some 4620693217682128896) = some (a - 3 * 4503599627370496) := by
  obtain ⟨c1, c2, c3, c4, c5⟩ := e64
  have := rungV_shift Ieee.double (a - 3 * 4503599627370496) 3 (by omega)
  rw [c1, show a - 3 * 4503599627370496 + 3 * 4503599627370496 = a by omega] at this
  exact ddiv_p2 (by omega) (by omega) val64.2.2 (by decide) (by omega) (by omega) (by rw [this, p2_nat]; congr 1)
theorem twice {a : Nat} (h1 : 4503599627370496 ≤ a) (h2 : a + 4503599627370496 < 9218868437227405312) : dmul (some a) (some 4611686018427387904) = some (a + 4503599627370496) := by
  obtain ⟨c1, c2, c3, c4, c5⟩ := e64
  have := rungV_shift Ieee.double a 1 (by omega)
  rw [c1, Nat.one_mul] at this
  exact dmul_p2 (by omega) (by omega) val64.2.1 (by omega) (by omega) (by rw [this, p2_nat]; congr 1)
theorem halved {a : Nat} (h1 : 2 * 4503599627370496 ≤ a) (h2 : a < 9218868437227405312) : ddiv (some a) (some 4611686018427387904) = some (a - 4503599627370496) := by
  obtain ⟨c1, c2, c3, c4, c5⟩ := e64
  have := rungV_shift Ieee.double (a - 4503599627370496) 1 (by omega)
  rw [c1, Nat.one_mul, show a - 4503599627370496 + 4503599627370496 = a by omega] at this
  exact ddiv_p2 (by omega) (by omega) val64.2.1 (by decide) (by omega) (by omega) (by rw [this, p2_nat]; congr 1)

/-! ### Newton's steps -/
def newton (b r : Option Nat) : Option Nat := dsub r (ddiv (dsub (dmul (dmul r r) r) b) (dmul (dmul (some 4613937818241073152) r) r))
def newtons (b : Option Nat) : Nat → Option Nat
  | 0 => some 4609434218613702656
  | n + 1 => newton b (newtons b n)

theorem near64 {v w : Rat} (h : Rnd Ieee.double v w) (k : Int) (h0 : -1000 ≤ k) (hk : k ≤ 1000) (h1 : v ≤ p2 k) (h2 : -v ≤ p2 k) : w ≤ v + p2 (k - 51) ∧ v ≤ w + p2 (k - 51) := by
  obtain ⟨c1, c2, c3, c4, c5⟩ := e64
  have hp := p2_mono (show k ≤ 1023 by omega)
  have hf : Fit Ieee.double v := fit64 (by grind) (by grind)
  have hn := h.near hf h1 h2
  rw [c4, c5] at hn
  have e1 : p2 k * p2 (-(52 : Nat)) = p2 (k - 52) := by rw [← p2_add]; congr 1
  rw [e1] at hn
  have e2 : p2 (k - 51) = p2 (k - 52) + p2 (k - 52) := by rw [show k - 51 = (k - 52) + 1 by omega, p2_succ]; grind
  have e3 := p2_mono (show (-1074 : Int) ≤ k - 52 by omega)
  grind
theorem fit64k {v : Rat} (k : Int) (hk : k ≤ 1000) (h1 : v ≤ p2 k) (h2 : -v ≤ p2 k) : Fit Ieee.double v := by
  have hp := p2_mono (show k ≤ 1023 by omega)
  exact fit64 (by grind) (by grind)
theorem three64 : Is .f64 (some 4613937818241073152) 3 := ⟨_, false, 6755399441055744, -51, rfl, by decide, by decide +kernel⟩
theorem half3 : Is .f64 (some 4609434218613702656) (3 / 2) := ⟨_, false, 6755399441055744, -52, rfl, by decide, by decide +kernel⟩

theorem pk (k : Int) : p2 k = (2 : Rat) ^ k := rfl
theorem div_eq {x y q : Rat} (hy : y ≠ 0) (h : q = x / y) : q * y = x := by rw [h, Rat.div_mul_cancel hy]
theorem newton_step {b r : Option Nat} {vb vr : Rat} (hb : Is .f64 b vb) (hr : Is .f64 r vr) (h1 : 1 ≤ vb) (h2 : vb ≤ 8) (h3 : 9 / 10 ≤ vr) (h4 : vr ≤ 4) :
    ∃ v, Is .f64 (newton b r) v ∧ 9 / 10 ≤ v ∧ v ≤ 4 := by
  have e7 : p2 7 = 128 := by decide +kernel
  have e5 : p2 5 = 32 := by decide +kernel
  have e4 : p2 4 = 16 := by decide +kernel
  have e6 : p2 6 = 64 := by decide +kernel
  have t47 : p2 (4 - 51) ≤ 1 / 100000000000 := by decide +kernel
  have t44 : p2 (7 - 51) ≤ 1 / 100000000000 := by decide +kernel
  have t46 : p2 (5 - 51) ≤ 1 / 100000000000 := by decide +kernel
  have t45 : p2 (6 - 51) ≤ 1 / 100000000000 := by decide +kernel
  -- r * r
  have q0 : 0 ≤ vr * vr := Rat.mul_nonneg (by grind) (by grind)
  have q1 : vr * vr ≤ 16 := by have := Rat.mul_nonneg (show 0 ≤ 4 - vr by grind) (show 0 ≤ 4 + vr by grind); grind
  have q2 : 81 / 100 ≤ vr * vr := by have := Rat.mul_nonneg (show 0 ≤ vr - 9 / 10 by grind) (show 0 ≤ vr + 9 / 10 by grind); grind
  obtain ⟨s1, i1, n1⟩ := is_mul hr hr (fit64k 4 (by decide) (by rw [e4]; exact q1) (by rw [e4]; grind))
  have m1 := near64 n1 4 (by decide) (by decide) (by rw [e4]; exact q1) (by rw [e4]; grind)
  -- r * r * r
  have q3 : s1 * vr ≤ 68 := by have := Rat.mul_nonneg (show 0 ≤ 17 - s1 by grind) (show 0 ≤ vr by grind); grind
  have q4 : 0 ≤ s1 * vr := Rat.mul_nonneg (by grind) (by grind)
  obtain ⟨s2, i2, n2⟩ := is_mul i1 hr (fit64k 7 (by decide) (by rw [e7]; grind) (by rw [e7]; grind))
  have m2 := near64 n2 7 (by decide) (by decide) (by rw [e7]; grind) (by rw [e7]; grind)
  obtain ⟨s3, i3, n3⟩ := is_sub i2 hb (fit64k 7 (by decide) (by rw [e7]; grind) (by rw [e7]; grind))
  have m3 := near64 n3 7 (by decide) (by decide) (by rw [e7]; grind) (by rw [e7]; grind)
  -- 3 * r * r
  obtain ⟨s4, i4, n4⟩ := is_mul three64 hr (fit64k 4 (by decide) (by rw [e4]; grind) (by rw [e4]; grind))
  have m4 := near64 n4 4 (by decide) (by decide) (by rw [e4]; grind) (by rw [e4]; grind)
  have q5 : s4 * vr ≤ 52 := by have := Rat.mul_nonneg (show 0 ≤ 13 - s4 by grind) (show 0 ≤ vr by grind); grind
  have q6 : 2 ≤ s4 * vr := by
    have := Rat.mul_nonneg (show 0 ≤ s4 - 26 / 10 by grind) (show 0 ≤ vr - 9 / 10 by grind)
    grind
  obtain ⟨s5, i5, n5⟩ := is_mul i4 hr (fit64k 6 (by decide) (by rw [e6]; grind) (by rw [e6]; grind))
  have m5 := near64 n5 6 (by decide) (by decide) (by rw [e6]; grind) (by rw [e6]; grind)
  have q7 : 1 ≤ s5 := by grind
  -- what they are near
  have c0 : s2 ≤ vr * vr * vr + 1 / 1000000000 ∧ vr * vr * vr ≤ s2 + 1 / 1000000000 := by
    have a1 := Rat.mul_nonneg (show 0 ≤ vr * vr + 1 / 100000000000 - s1 by grind) (show 0 ≤ vr by grind)
    have a2 := Rat.mul_nonneg (show 0 ≤ s1 + 1 / 100000000000 - vr * vr by grind) (show 0 ≤ vr by grind)
    grind
  have c1 : s5 ≤ 3 * (vr * vr) + 1 / 1000000000 ∧ 3 * (vr * vr) ≤ s5 + 1 / 1000000000 := by
    have a1 := Rat.mul_nonneg (show 0 ≤ 3 * vr + 1 / 100000000000 - s4 by grind) (show 0 ≤ vr by grind)
    have a2 := Rat.mul_nonneg (show 0 ≤ s4 + 1 / 100000000000 - 3 * vr by grind) (show 0 ≤ vr by grind)
    grind
  -- the quotient
  obtain ⟨Q, hQ⟩ : ∃ Q, Q = s3 / s5 := ⟨_, rfl⟩
  have hQs := div_eq (show s5 ≠ 0 by grind) hQ
  have c2 : -9 ≤ s3 ∧ s3 ≤ 68 := by grind
  have q8 : Q ≤ 32 := by
    apply Rat.le_of_mul_le_mul_right (c := s5) _ (by grind)
    rw [hQs]
    -- s3 is near r ^ 3 - b, s5 near 3 r ^ 2, and r is at most 4
    have a1 := Rat.mul_nonneg (show 0 ≤ 4 - vr by grind) q0
    grind
  have q9 : -32 ≤ Q := by
    apply Rat.le_of_mul_le_mul_right (c := s5) _ (by grind)
    rw [hQs]
    grind
  obtain ⟨s6, i6, n6⟩ := is_div i3 i5 (by grind) (by rw [← hQ]; exact fit64k 5 (by decide) (by rw [e5]; exact q8) (by rw [e5]; grind))
  rw [← hQ] at n6
  have m6 := near64 n6 5 (by decide) (by decide) (by rw [e5]; exact q8) (by rw [e5]; grind)
  obtain ⟨s7, i7, n7⟩ := is_sub hr i6 (fit64k 6 (by decide) (by rw [e6]; grind) (by rw [e6]; grind))
  have m7 := near64 n7 6 (by decide) (by decide) (by rw [e6]; grind) (by rw [e6]; grind)
  refine ⟨s7, i7, ?_, ?_⟩
  · -- 2 r ^ 3 + b is at least 3 r ^ 2
    have a1 := Rat.mul_nonneg (Rat.mul_nonneg (show 0 ≤ 2 * vr + 1 by grind) (show 0 ≤ (vr - 1) * (vr - 1) by
      rcases Rat.le_total (a := vr) (b := 1) with h | h
      · have := Rat.mul_nonneg (show 0 ≤ 1 - vr by grind) (show 0 ≤ 1 - vr by grind); grind
      · exact Rat.mul_nonneg (by grind) (by grind))) (show (0 : Rat) ≤ 1 by decide)
    have a2 : s5 * (91 / 100) ≤ s5 * (vr - Q) := by
      have b1 := Rat.mul_nonneg (show 0 ≤ s5 + 1 / 1000000000 - 3 * (vr * vr) by grind) (show 0 ≤ vr by grind)
      have b2 := Rat.mul_nonneg (show 0 ≤ 3 * (vr * vr) + 1 / 1000000000 - s5 by grind) (show 0 ≤ vr by grind)
      grind
    have a3 := Rat.le_of_mul_le_mul_left a2 (by grind)
    grind
  · have a1 := Rat.mul_nonneg (show 0 ≤ vr - 9 / 10 by grind) (show 0 ≤ 201 / 20 * vr - 2 * (vr * vr) + 1809 / 200 by
      have := Rat.mul_nonneg (show 0 ≤ vr by grind) (show 0 ≤ 4 - vr by grind)
      grind)
    have a2 : s5 * (vr - Q) ≤ s5 * (396 / 100) := by
      have b1 := Rat.mul_nonneg (show 0 ≤ s5 + 1 / 1000000000 - 3 * (vr * vr) by grind) (show 0 ≤ vr by grind)
      have b2 := Rat.mul_nonneg (show 0 ≤ 3 * (vr * vr) + 1 / 1000000000 - s5 by grind) (show 0 ≤ vr by grind)
      grind
    have a3 := Rat.le_of_mul_le_mul_left a2 (by grind)
    grind
theorem newtons_is {b : Option Nat} {vb : Rat} (hb : Is .f64 b vb) (h1 : 1 ≤ vb) (h2 : vb ≤ 8) : ∀ n, ∃ v, Is .f64 (newtons b n) v ∧ 9 / 10 ≤ v ∧ v ≤ 4
  | 0 => ⟨_, half3, by decide +kernel, by decide +kernel⟩
  | n + 1 => by
    obtain ⟨v, h3, h4, h5⟩ := newtons_is hb h1 h2 n
    exact newton_step hb h3 h1 h2 h4 h5
end Go.Proofs.Ytfpjiclkhjdihaa

namespace Go.Proofs.Ytfpjiclkhjdihaa
open Go.RowKit
set_option maxRecDepth 100000

/-! ### Signs -/
def cneg (k : FloatKind) : Option Nat → Option Nat
  | some b => some (Op.negFloat k b)
  | none => none
theorem xor_top (n b : Nat) : (b ^^^ 2 ^ n) % 2 ^ n = b % 2 ^ n ∧ ((b ^^^ 2 ^ n) / 2 ^ n % 2 == 1) = !(b / 2 ^ n % 2 == 1) := by
  constructor
  · rw [Nat.xor_mod_two_pow, Nat.mod_self, Nat.xor_zero]
  · rw [← Nat.shiftRight_eq_div_pow, Nat.shiftRight_xor_distrib, Nat.shiftRight_eq_div_pow, Nat.shiftRight_eq_div_pow, Nat.div_self (Nat.two_pow_pos _)]
    generalize b / 2 ^ n = q
    have h1 : (q ^^^ 1) % 2 = (q % 2) ^^^ 1 := Nat.xor_mod_two_pow (a := q) (b := 1) (n := 1)
    rw [h1]
    have h2 : q % 2 = 0 ∨ q % 2 = 1 := by omega
    rcases h2 with h | h <;> rw [h] <;> rfl
theorem decode_neg (k : FloatKind) (b : Nat) : k.decode (Op.negFloat k b) = (k.decode b).opposite := by
  obtain ⟨h1, h2⟩ := xor_top (k.format.exponentBits + k.format.fractionBits) b
  have e1 : Op.negFloat k b % k.format.signWeight = b % k.format.signWeight := h1
  have e2 : (Op.negFloat k b / k.format.signWeight % 2 == 1) = !(b / k.format.signWeight % 2 == 1) := h2
  show k.format.read _ = (k.format.read b).opposite
  unfold Ieee.Format.read
  dsimp only
  rw [e1, e2]
  split
  · rfl
  · split
    · rfl
    · split <;> rfl
theorem canon_neg (k : FloatKind) (b : Nat) : canon k (Op.negFloat k b) = cneg k (canon k b) := by
  unfold canon
  rw [decode_neg, opposite_isNaN]
  split <;> rfl
theorem neg_word (f : Ieee.Format) (s : Bool) {r : Nat} (h : r < f.signWeight) : (f.word s r) ^^^ f.signWeight = f.word (!s) r := by
  have hw : 0 < f.signWeight := Nat.two_pow_pos _
  have h1 : (f.word s r ^^^ f.signWeight) % f.signWeight = f.word s r % f.signWeight := (xor_top (f.exponentBits + f.fractionBits) (f.word s r)).1
  have h2 : (f.word s r ^^^ f.signWeight) / f.signWeight = f.word s r / f.signWeight ^^^ 1 := by
    have := @Nat.xor_div_two_pow (f.word s r) (2 ^ (f.exponentBits + f.fractionBits)) (f.exponentBits + f.fractionBits)
    rw [Nat.div_self (Nat.two_pow_pos _)] at this
    exact this
  have h3 := Nat.div_add_mod (f.word s r ^^^ f.signWeight) f.signWeight
  rw [h1, h2, (word_parts f s h).1] at h3
  rw [← h3]
  unfold Ieee.Format.word
  cases s
  · simp [Nat.div_eq_of_lt h]
  · simp [Nat.add_div_left _ hw, Nat.div_eq_of_lt h]
theorem nearest_sign (f : Ieee.Format) (m : Nat) (p : Int) : ∃ r, r ≤ f.infRung ∧ ∀ s, f.nearest s m p = f.word s r := by
  unfold Ieee.Format.nearest
  by_cases hm : m = 0
  · exact ⟨0, Nat.zero_le _, fun s => by rw [if_pos hm]⟩
  · exact ⟨_, Nat.min_le_right .., fun s => by rw [if_neg hm]; cases s <;> rfl⟩
theorem ccv_neg {s d : FloatKind} (hne : s ≠ d) {b : Nat} : ccv s d (some (Op.negFloat s b)) = cneg d (ccv s d (some b)) := by
  show floatToFloatBits s (Op.negFloat s b) d = cneg d (floatToFloatBits s b d)
  unfold floatToFloatBits
  rw [if_neg hne, if_neg hne, decode_neg]
  have hi := d.format.infRung_lt
  cases hd : s.decode b with
  | nan g t => rfl
  | infinity g =>
    show some (d.format.word (!g) d.format.infRung) = some (d.format.word g d.format.infRung ^^^ d.format.signWeight)
    rw [neg_word _ _ hi]
  | number g m e =>
    obtain ⟨r, hr, hn⟩ := nearest_sign d.format m e
    have e1 : ∀ s, d.encode (.number s m e) = d.format.word s r := hn
    simp only [Ieee.Datum.opposite, e1]
    have e2 : ∀ s, (d.decode (d.format.word s r)).isInfinity = decide (r = d.format.infRung) := by
      intro s
      show (d.format.read _).isInfinity = _
      rw [isInf_read _ (binade_le d), (word_parts d.format s (show r < d.format.signWeight by omega)).1]
    rw [e2, e2]
    by_cases h : r = d.format.infRung
    · simp [h, cneg]
    · simp only [h, decide_false, Bool.false_eq_true, if_false]
      show some (d.format.word (!g) r) = some (d.format.word g r ^^^ d.format.signWeight)
      rw [neg_word _ _ (by omega)]

/-! ### The third root -/
/-- The number of times that 8 is taken off; what is left; what that was taken for. -/
def cbrtQ (B : Nat) : Int := (((B / 4503599627370496 : Nat) : Int) - 1023) / 3
def cbrtB (B : Nat) : Nat := ((B : Int) - 3 * cbrtQ B * 4503599627370496).toNat
def cbrtX (B : Nat) : Nat := (4607182418800017408 + cbrtQ B * 4503599627370496).toNat
/-- The root of the number with the word 'B'. -/
def cbrtSize (B : Nat) : Option Nat := ccv .f64 .f32 (dmul (newtons (some (cbrtB B)) 6) (some (cbrtX B)))
def wideAbs (a : Nat) : Nat := (match ccv .f32 .f64 (some a) with | some W => W | none => 0) % 9223372036854775808
def cbrt (x : Option Nat) : Option Nat :=
  match x with
  | none => none
  | some a => if feq (some a) (canon .f32 0) then canon .f32 0 else if flt (some a) (canon .f32 0) then cneg .f32 (cbrtSize (wideAbs a)) else cbrtSize (wideAbs a)

/-- What widening gives of a finite number other than 0. -/
theorem wide_word {a : Nat} (hf : fin (some a) = true) (hz : feq (some a) (canon .f32 0) = false) :
    ∃ W, ccv .f32 .f64 (some a) = some W ∧ W < 18446744073709551616 ∧ (flt (some a) (canon .f32 0) = decide (9223372036854775808 ≤ W)) ∧ 874 * 4503599627370496 ≤ W % 9223372036854775808 ∧ W % 9223372036854775808 < 1151 * 4503599627370496 := by
  obtain ⟨v, hv⟩ := fin_is.1 hf
  have h1 := is_widen hv
  have hW := h1
  obtain ⟨W, s, m, e, hw, hd, hval⟩ := hW
  obtain ⟨c1, c2, c3, c4, c5⟩ := e64
  have hlt : W < 18446744073709551616 := by
    have h2 : ccv .f32 .f64 (some a) = floatToFloatBits .f32 a .f64 := rfl
    rw [h2] at hw
    unfold floatToFloatBits at hw
    rw [if_neg (by decide)] at hw
    have hl := fun d => write_lt Ieee.double d
    rw [c3] at hl
    split at hw
    · cases hw
    · injection hw with hw; rw [← hw]; exact hl _
    · split at hw
      · cases hw
      · injection hw with hw; rw [← hw]; exact hl _
  obtain ⟨h3, h4⟩ := fin_read Ieee.double (by decide) hd
  obtain ⟨m', e', h5, _⟩ := read_fin Ieee.double W h3
  have h5' : Ieee.double.read W = .number s m e := hd
  rw [h5'] at h5
  injection h5 with h6
  rw [c3] at h3 h4 h6
  have hz32 : Is .f32 (canon .f32 0) 0 := ⟨0, false, 0, -149, by decide, by decide, by decide +kernel⟩
  have hvz : v ≠ 0 := by
    intro h
    rw [feq_is hv hz32] at hz
    simp [h] at hz
  -- the size
  have hsz : v = rungV Ieee.double (W % 9223372036854775808) ∨ v = -rungV Ieee.double (W % 9223372036854775808) := by
    rw [← hval, h4]
    cases s
    · exact .inl rfl
    · exact .inr rfl
  have hrep := hv.rep
  have hle := rep32_le hrep
  have hge : p2 (-149) ≤ rungV Ieee.double (W % 9223372036854775808) := by
    obtain ⟨r, hr, hvr⟩ := hrep
    obtain ⟨b1, b2, b3, b4, b5⟩ := e32
    have hr0 : 1 ≤ r := by
      apply Nat.pos_of_ne_zero
      intro h
      subst h
      have : rungV FloatKind.f32.format 0 = 0 := rungV_zero _
      rw [this] at hvr
      grind
    have h7 := rungV_le Ieee.single hr0
    have h8 := rungV_form Ieee.single 0 1 (.inl rfl) (by omega)
    rw [b4] at h8
    have e8 : rungV Ieee.single 1 = p2 (-149) := by
      have : (0 * Ieee.single.binade + 1) = 1 := by omega
      rw [this] at h8
      rw [h8]
      simp
    rw [e8] at h7
    have h9 := rungV_nonneg Ieee.double (W % 9223372036854775808)
    have h10 : rungV Ieee.single r = rungV Ieee.double (W % 9223372036854775808) := by
      have h11 := rungV_nonneg Ieee.single r
      have hvr' : v = rungV Ieee.single r ∨ v = -rungV Ieee.single r := hvr
      grind
    grind
  have hlo : 874 * 4503599627370496 ≤ W % 9223372036854775808 := by
    apply Nat.le_of_not_lt
    intro h
    have h7 := rungV_lt Ieee.double h
    have h8 := rungV_form Ieee.double 873 4503599627370496 (.inr (by omega)) (by omega)
    rw [c1, c4] at h8
    have e8 : ((4503599627370496 : Nat) : Rat) * p2 (-1074 + ((873 : Nat) : Int)) = p2 (-149) := by
      rw [show (4503599627370496 : Nat) = 2 ^ 52 from rfl, ← p2_nat, ← p2_add]
      rfl
    rw [e8] at h8
    have e9 : (873 * 4503599627370496 + 4503599627370496 : Nat) = 874 * 4503599627370496 := by omega
    rw [e9] at h8
    grind
  have hhi : W % 9223372036854775808 < 1151 * 4503599627370496 := by
    apply Nat.lt_of_not_le
    intro h
    have h7 := rungV_le Ieee.double h
    have h8 := rungV_form Ieee.double 1150 4503599627370496 (.inr (by omega)) (by omega)
    rw [c1, c4] at h8
    have e8 : ((4503599627370496 : Nat) : Rat) * p2 (-1074 + ((1150 : Nat) : Int)) = p2 128 := by
      rw [show (4503599627370496 : Nat) = 2 ^ 52 from rfl, ← p2_nat, ← p2_add]
      rfl
    rw [e8] at h8
    have e9 : (1150 * 4503599627370496 + 4503599627370496 : Nat) = 1151 * 4503599627370496 := by omega
    rw [e9] at h8
    -- a float32 is below 2 ^ 128
    obtain ⟨r, hr, hvr⟩ := hrep
    obtain ⟨b1, b2, b3, b4, b5⟩ := e32
    have h10 := rungV_lt Ieee.single (show r < 254 * 8388608 + 8388608 by have h11 : r < Ieee.single.infRung := hr; omega)
    have h12 := rungV_form Ieee.single 254 8388608 (.inr (by omega)) (by omega)
    rw [b1, b4] at h12
    have e12 : ((8388608 : Nat) : Rat) * p2 (-149 + ((254 : Nat) : Int)) = p2 128 := by
      rw [show (8388608 : Nat) = 2 ^ 23 from rfl, ← p2_nat, ← p2_add]
      rfl
    rw [e12] at h12
    have h13 := rungV_nonneg Ieee.single r
    have hvr' : v = rungV Ieee.single r ∨ v = -rungV Ieee.single r := hvr
    grind
  refine ⟨W, hw, hlt, ?_, hlo, hhi⟩
  rw [flt_is hv hz32]
  have hpos : 0 < rungV Ieee.double (W % 9223372036854775808) := by have := p2_pos (-149); grind
  have hs : s = decide (9223372036854775808 ≤ W) := by
    rw [h6, Bool.eq_iff_iff]
    simp
    omega
  rw [← hs, Bool.eq_iff_iff, decide_eq_true_eq, ← hval, h4]
  cases s
  · simp [sg]; grind
  · simp [sg]; grind
end Go.Proofs.Ytfpjiclkhjdihaa

namespace Go.Proofs.Ytfpjiclkhjdihaa
open Go.RowKit
set_option maxRecDepth 100000

theorem fval_of {op : BinOp} {k : FloatKind} {x y r : Nat} (h : floatBits op k x y = some r) : (∀ w, fval op k x y w = r) ∧ fcnt op k x y = 0 := by
  unfold fval fcnt
  rw [h]
  exact ⟨fun _ => rfl, rfl⟩
theorem cval_of {s d : FloatKind} {b r : Nat} (h : floatToFloatBits s b d = some r) : (∀ w, cval s d b w = r) ∧ ccnt s d b = 0 := by
  unfold cval ccnt
  rw [h]
  exact ⟨fun _ => rfl, rfl⟩
theorem canon_word {W : Nat} (h : W < 9218868437227405312) : canon .f64 W = some W := by
  apply canon_some
  rw [nanW64]
  simp
  omega
theorem fin_canon {a : Nat} (h : fin (canon .f32 a) = true) : canon .f32 a = some a := by
  cases hc : canon .f32 a with
  | none => rw [hc] at h; cases h
  | some b => obtain ⟨rfl, _⟩ := canon_eq_some hc; rfl
theorem od_ge_w {a b : Nat} (ha : a < 9218868437227405312) (hb : b < 9218868437227405312) : (FloatKind.f64.format.order a b == some .gt || FloatKind.f64.format.order a b == some .eq) = decide (b ≤ a) := by
  rw [od_ge, canon_word ha, canon_word hb]
  exact (lt_words (by rw [e64.2.1]; exact ha) (by rw [e64.2.1]; exact hb)).2
theorem od_lt_w {a b : Nat} (ha : a < 9218868437227405312) (hb : b < 9218868437227405312) : (FloatKind.f64.format.order a b == some .lt) = decide (a < b) := by
  rw [od_lt, canon_word ha, canon_word hb]
  exact (lt_words (by rw [e64.2.1]; exact ha) (by rw [e64.2.1]; exact hb)).1
section
variable {P : Program} (w : World)
@[go_sem] theorem run_fneg (k : FloatKind) (b : Nat) : (Op.unary UnOp.neg (.float k b)).run P w = .ok (.float k (Op.negFloat k b)) w := rfl
end
def RetDq (w : World) (v : Option Nat) (e : Ending) (w' : World) : Prop := ∃ r, e = .returned (.float .f64 r) ∧ canon .f64 r = v ∧ Drawn w w'
def fword : Value → Nat
  | .float _ b => b
  | _ => 0
/-- How far a number is from the greatest one. -/
def dnTo (v : Value) : Nat := fword v
def upTo (v : Value) : Nat := 9218868437227405312 - fword v
/-- After some rounds that take 8 off. -/
def Down (B : Nat) (b x : Value) : Prop := ∃ W k X, b = .float .f64 W ∧ x = .float .f64 X ∧ Hid (W + 3 * k * 4503599627370496 = B ∧ X = 4607182418800017408 + k * 4503599627370496 ∧ (k = 0 ∨ 4607182418800017408 ≤ W))
/-- After some rounds that put 8 on. -/
def Up (B X0 : Nat) (b x : Value) : Prop := ∃ W k X, b = .float .f64 W ∧ x = .float .f64 X ∧ Hid (W = B + 3 * k * 4503599627370496 ∧ X + k * 4503599627370496 = X0 ∧ (k = 0 ∨ W < 4620693217682128896))
/-- One round of either loop, as facts for the walk. -/
structure Go8 (op1 op2 : BinOp) (W X W2 X2 : Nat) : Prop where
  a : ∀ w, fval op1 .f64 W 4620693217682128896 w = W2
  ac : fcnt op1 .f64 W 4620693217682128896 = 0
  b : ∀ w, fval op2 .f64 X 4611686018427387904 w = X2
  bc : fcnt op2 .f64 X 4611686018427387904 = 0
theorem go_down {W X V : Nat} (h0 : V + 13510798882111488 = W) (h1 : 4620693217682128896 ≤ W) (h2 : W < 9218868437227405312) (h3 : 4503599627370496 ≤ X) (h4 : X + 4503599627370496 < 9218868437227405312) : Go8 .quo .mul W X V (X + 4503599627370496) := by
  have h5 := scale_down (a := W) (by omega) h2
  have h6 : W - 3 * 4503599627370496 = V := by omega
  rw [h6] at h5
  obtain ⟨a, b⟩ := fval_of (op := .quo) h5
  obtain ⟨c, d⟩ := fval_of (op := .mul) (twice (a := X) h3 h4)
  exact ⟨a, b, c, d⟩
theorem sub_some {W : Nat} (h : 13510798882111488 ≤ W) : ∃ V, V + 13510798882111488 = W := ⟨W - 13510798882111488, by omega⟩
theorem go_up {W X : Nat} (h1 : 4503599627370496 ≤ W) (h2 : W < 4607182418800017408) (h3 : 2 * 4503599627370496 ≤ X) (h4 : X < 9218868437227405312) : Go8 .mul .quo W X (W + 3 * 4503599627370496) (X - 4503599627370496) := by
  obtain ⟨a, b⟩ := fval_of (op := .mul) (scale_up (a := W) h1 (by omega))
  obtain ⟨c, d⟩ := fval_of (op := .quo) (halved (a := X) h3 h4)
  exact ⟨a, b, c, d⟩
theorem cbrt_end {B W X k X0 W0 k0 : Nat} (h0 : W0 + 3 * k0 * 4503599627370496 = B ∧ X0 = 4607182418800017408 + k0 * 4503599627370496 ∧ (k0 = 0 ∨ 4607182418800017408 ≤ W0)) (h1 : W = W0 + 3 * k * 4503599627370496 ∧ X + k * 4503599627370496 = X0 ∧ (k = 0 ∨ W < 4620693217682128896))
    (h2 : W0 < 4620693217682128896) (h3 : 4607182418800017408 ≤ W) : W = cbrtB B ∧ X = cbrtX B ∧ W < 4620693217682128896 := by
  unfold cbrtB cbrtX cbrtQ
  omega
/-- The narrowed root is no number that does not fit. -/
theorem cbrt_fits {B r : Nat} (hlo : 874 * 4503599627370496 ≤ B) (hhi : B < 1151 * 4503599627370496) (hr : canon .f64 r = dmul (newtons (some (cbrtB B)) 6) (some (cbrtX B))) : Fits .f64 .f32 r ∧ canon .f64 r = some r := by
  obtain ⟨c1, c2, c3, c4, c5⟩ := e64
  have hb : 4607182418800017408 ≤ cbrtB B ∧ cbrtB B < 4620693217682128896 := by unfold cbrtB cbrtQ; omega
  have hx : cbrtX B ≤ 4607182418800017408 + 42 * 4503599627370496 := by unfold cbrtX cbrtQ; omega
  have i1 := is_rung (k := .f64) (r := cbrtB B) (by show _ < Ieee.double.infRung; omega)
  have v1 : 1 ≤ rungV Ieee.double (cbrtB B) := by rw [← val64.1]; exact rungV_le _ hb.1
  have v2 : rungV Ieee.double (cbrtB B) ≤ 8 := by rw [← val64.2.2]; exact rungV_le _ (by omega)
  obtain ⟨v, i2, h1, h2⟩ := newtons_is i1 v1 v2 6
  have i3 := is_rung (k := .f64) (r := cbrtX B) (by show _ < Ieee.double.infRung; omega)
  have hX0 := rungV_nonneg Ieee.double (cbrtX B)
  have hX1 := rungV_le Ieee.double hx
  have h42 := rungV_shift Ieee.double 4607182418800017408 42 (by omega)
  rw [c1, val64.1] at h42
  have e42 : p2 ((42 : Nat) : Int) = 4398046511104 := by decide +kernel
  rw [e42] at h42
  have hX2 : rungV Ieee.double (cbrtX B) ≤ 4398046511104 := by grind
  have hv : v * rungV Ieee.double (cbrtX B) ≤ 17592186044416 := by
    have := Rat.mul_nonneg (show 0 ≤ 4 - v by grind) hX0
    grind
  have hv0 : 0 ≤ v * rungV Ieee.double (cbrtX B) := Rat.mul_nonneg (by grind) hX0
  have e44 : p2 44 = 17592186044416 := by decide +kernel
  have hm44 := p2_mono (show (44 : Int) ≤ 1000 by decide)
  obtain ⟨u, i4, n4⟩ := is_mul i2 i3 (fit64k 44 (by decide) (by rw [e44]; exact hv) (by rw [e44]; have : 0 ≤ v * rungV FloatKind.f64.format (cbrtX B) := hv0; grind))
  have e100 : p2 100 = 1267650600228229401496703205376 := by decide +kernel
  have hu1 : u ≤ p2 100 := n4.up _ (rep64_p2 100 (by decide) (by decide)) (by rw [e100]; have : v * rungV FloatKind.f64.format (cbrtX B) ≤ 17592186044416 := hv; grind)
  have hu0 : 0 ≤ u := n4.dn _ ⟨0, by rw [show FloatKind.f64.format = Ieee.double from rfl]; omega, .inl (rungV_zero _).symm⟩ hv0
  have h127 := p2_mono (show (100 : Int) ≤ 127 by decide)
  have i5 : Is .f64 (canon .f64 r) u := by rw [hr]; exact i4
  have hc : canon .f64 r = some r := by
    cases hq : canon .f64 r with
    | none => rw [hq] at i5; obtain ⟨_, _, _, _, h, _⟩ := i5; cases h
    | some y => obtain ⟨rfl, _⟩ := canon_eq_some hq; rfl
  rw [hc] at i5
  exact ⟨i5.fits (fit32 (by grind) (by have := p2_pos 127; grind)), hc⟩

theorem fits_neg {s d : FloatKind} {b : Nat} (h : Fits s d b) : Fits s d (Op.negFloat s b) := by
  intro hn
  rw [decode_neg, opposite_isNaN] at hn
  have h1 := h hn
  by_cases hne : s = d
  · subst hne; simp [floatToFloat_same]
  · obtain ⟨r, hr⟩ := Option.isSome_iff_exists.1 h1
    have h2 := ccv_neg hne (b := b)
    have h3 : ccv s d (some b) = some r := hr
    rw [h3] at h2
    exact Option.isSome_iff_exists.2 ⟨_, h2⟩

end Go.Proofs.Ytfpjiclkhjdihaa

namespace Go.Proofs.Ytfpjiclkhjdihaa
open Go.RowKit
set_option maxRecDepth 100000

theorem cut_gap (n d : Nat) : n / (1 <<< min d (n.log2 + 2)) = n / 2 ^ d ∧ n % (1 <<< min d (n.log2 + 2)) = n % 2 ^ d := by
  rw [Nat.one_shiftLeft]
  by_cases h : d ≤ n.log2 + 2
  · rw [Nat.min_eq_left h]; exact ⟨rfl, rfl⟩
  · rw [Nat.min_eq_right (by omega)]
    have h1 : n < 2 ^ (n.log2 + 1) := Nat.lt_log2_self
    have h2 : 2 ^ (n.log2 + 1) ≤ 2 ^ (n.log2 + 2) := Nat.pow_le_pow_right (by omega) (by omega)
    have h3 : 2 ^ (n.log2 + 2) ≤ 2 ^ d := Nat.pow_le_pow_right (by omega) (by omega)
    rw [Nat.div_eq_of_lt (by omega), Nat.div_eq_of_lt (by omega), Nat.mod_eq_of_lt (by omega), Nat.mod_eq_of_lt (by omega)]
    exact ⟨rfl, rfl⟩
theorem cut_zero (s : Bool) (n d : Nat) : Ieee.Toward.zero.cut s n d = n / 2 ^ d := by
  obtain ⟨h1, h2⟩ := cut_gap n d
  unfold Ieee.Toward.cut
  simp only [h1]
  rfl
theorem cut_down (s : Bool) (n d : Nat) : Ieee.Toward.down.cut s n d = n / 2 ^ d + (s && n % 2 ^ d != 0).toNat := by
  obtain ⟨h1, h2⟩ := cut_gap n d
  unfold Ieee.Toward.cut
  simp only [h1, h2]

theorem sg_int (s : Bool) (c : Nat) : sg s (c : Rat) = ((if s then -(c : Int) else (c : Int) : Int) : Rat) := by
  cases s
  · simp only [sg, Bool.false_eq_true, if_false]; rw [Rat.intCast_natCast]
  · simp only [sg, if_true]; rw [Rat.intCast_neg, Rat.intCast_natCast]
theorem rep_nat (c : Nat) (h : c ≤ 9007199254740992) : Rep Ieee.double (c : Rat) := by
  obtain ⟨c1, c2, c3, c4, c5⟩ := e64
  have h1 := rep_dyadic Ieee.double c 0 (by rw [c1]; omega) (by rw [c4]; decide) (by
    rw [p2_zero, Rat.mul_one]
    have e53 : p2 53 = ((9007199254740992 : Nat) : Rat) := p2_nat 53
    have h2 := p2_mono (show (53 : Int) ≤ 1023 by decide)
    have h3 := cast_le h
    have h4 : (0 : Rat) ≤ (c : Rat) := Rat.natCast_nonneg
    exact fit64 (by grind) (by grind))
  rw [p2_zero, Rat.mul_one] at h1
  exact h1
/-- A whole number is written as it is. -/
theorem write_int (s : Bool) (c : Nat) (h : c ≤ 9007199254740992) : Is .f64 (some (FloatKind.f64.encode (.number s c 0))) (sg s (c : Rat)) := by
  have hr := rep_nat c h
  have hr' : Rep Ieee.double (sg s (c : Rat)) := by cases s; exact hr; exact hr.neg
  have e0 : (c : Rat) * p2 0 = (c : Rat) := by rw [p2_zero, Rat.mul_one]
  obtain ⟨r, h1, h2, h3⟩ := write_rnd Ieee.double s c 0 (by rw [e0]; exact hr'.fit)
  rw [e0] at h3
  have h4 := h3.of_rep hr'
  have h5 : FloatKind.f64.encode (.number s c 0) = Ieee.double.word s r := h2
  rw [h5, ← h4]
  exact Is.of_word (k := .f64) s h1

/-- The greatest whole number that is no greater. -/
def flr : Option Nat → Option Nat
  | some b => some (FloatKind.f64.encode ((FloatKind.f64.decode b).integral .down))
  | none => none
theorem shift_val (m : Nat) (i : Int) : ∃ n d : Nat, n = m <<< i.toNat ∧ d = (-i).toNat ∧ (m : Rat) * p2 i * ((2 ^ d : Nat) : Rat) = (n : Rat) := by
  refine ⟨_, _, rfl, rfl, ?_⟩
  rw [Nat.shiftLeft_eq, Rat.natCast_mul, ← p2_nat, ← p2_nat, Rat.mul_assoc, ← p2_add]
  congr 2
  omega
theorem flr_is {x : Option Nat} {v : Rat} (hx : Is .f64 x v) (h1 : v ≤ 4503599627370496) (h2 : -v ≤ 4503599627370496) : ∃ K : Int, Is .f64 (flr x) (K : Rat) ∧ (K : Rat) ≤ v ∧ v < (K : Rat) + 1 := by
  obtain ⟨b, s, m, i, rfl, hd, rfl⟩ := hx
  obtain ⟨n, d, hn, hdd, hv⟩ := shift_val m i
  have hG : 0 < 2 ^ d := Nat.two_pow_pos _
  have e1 : (FloatKind.f64.decode b).integral .down = .number s (n / 2 ^ d + (s && n % 2 ^ d != 0).toNat) 0 := by
    rw [hd]
    show Ieee.Datum.number s (Ieee.Toward.down.cut s (m <<< i.toNat) (-i).toNat) 0 = _
    rw [cut_down, ← hn, ← hdd]
  obtain ⟨c, hc⟩ : ∃ c, c = n / 2 ^ d + (s && n % 2 ^ d != 0).toNat := ⟨_, rfl⟩
  have hm := Nat.div_add_mod n (2 ^ d)
  have hl := Nat.mod_lt n hG
  generalize 2 ^ d = G at *
  generalize n / G = q at *
  generalize n % G = t at *
  generalize hV : (m : Rat) * p2 i = V at *
  have hV0 : 0 ≤ V := by rw [← hV]; exact Rat.mul_nonneg Rat.natCast_nonneg (Rat.le_of_lt (p2_pos _))
  have hVle : V ≤ 4503599627370496 := by cases s <;> simp [sg] at h1 h2 <;> grind
  have hGr : (0 : Rat) < (G : Rat) := by have := cast_lt hG; simpa using this
  have hG1 : (1 : Rat) ≤ (G : Rat) := by have := cast_le (show 1 ≤ G from hG); simpa using this
  -- q ≤ V < q + 1
  have hn' : (n : Rat) = (G : Rat) * (q : Rat) + (t : Rat) := by rw [← hm, Rat.natCast_add, Rat.natCast_mul]
  have ht0 : (0 : Rat) ≤ (t : Rat) := Rat.natCast_nonneg
  have ht1 := cast_lt hl
  have hq1 : (q : Rat) ≤ V := by
    apply Rat.le_of_mul_le_mul_right (c := (G : Rat)) _ hGr
    rw [hv, hn']; grind
  have hq2 : V < (q : Rat) + 1 := by
    apply Rat.lt_of_mul_lt_mul_right (c := (G : Rat)) _ (Rat.le_of_lt hGr)
    rw [hv, hn']; grind
  have hqb : q ≤ 4503599627370496 := by
    apply Nat.le_of_not_lt
    intro h
    have := cast_le (show 4503599627370497 ≤ q from h)
    have e : ((4503599627370497 : Nat) : Rat) = 4503599627370497 := rfl
    grind
  have hcb : c ≤ 4503599627370497 := by rw [hc]; have : (s && t != 0).toNat ≤ 1 := Bool.toNat_le _; omega
  refine ⟨if s then -(c : Int) else (c : Int), ?_, ?_, ?_⟩
  · rw [← sg_int]
    unfold flr
    simp only [e1, ← hc]
    exact write_int s c (by omega)
  · rw [← sg_int]
    cases s
    · simp only [sg, Bool.false_eq_true, if_false]
      simp at hc
      rw [hc]
      exact hq1
    · simp only [sg, if_true]
      by_cases h0 : t = 0
      · subst h0
        simp at hc
        rw [hc]
        have : V * (G : Rat) = (q : Rat) * (G : Rat) := by rw [hv, hn']; simp; grind
        have : V ≤ (q : Rat) := Rat.le_of_mul_le_mul_right (by rw [this]; exact Rat.le_refl) hGr
        grind
      · have : c = q + 1 := by rw [hc]; simp [h0]
        subst this
        rw [Rat.natCast_add]
        have e : ((1 : Nat) : Rat) = 1 := rfl
        grind
  · rw [← sg_int]
    cases s
    · simp only [sg, Bool.false_eq_true, if_false]
      simp at hc
      rw [hc]
      exact hq2
    · simp only [sg, if_true]
      by_cases h0 : t = 0
      · subst h0
        simp at hc
        rw [hc]
        grind
      · have : c = q + 1 := by rw [hc]; simp [h0]
        subst this
        have h6 : 0 < t := Nat.pos_of_ne_zero h0
        have h7 := cast_lt h6
        have e0 : ((0 : Nat) : Rat) = 0 := rfl
        have : (q : Rat) < V := by
          apply Rat.lt_of_mul_lt_mul_right (c := (G : Rat)) _ (Rat.le_of_lt hGr)
          rw [hv, hn']; grind
        rw [Rat.natCast_add]
        have e : ((1 : Nat) : Rat) = 1 := rfl
        grind
/-- A whole float64 as an int64. -/
theorem toInt_is {b : Nat} {K : Int} (hx : Is .f64 (some b) (K : Rat)) (h1 : -9007199254740992 ≤ K) (h2 : K ≤ 9007199254740992) : floatToIntVal .f64 b .i64 = some K := by
  obtain ⟨b', s, m, i, hb, hd, hv⟩ := hx
  cases hb
  obtain ⟨n, d, hn, hdd, hval⟩ := shift_val m i
  have hG : 0 < 2 ^ d := Nat.two_pow_pos _
  have e1 : (FloatKind.f64.decode b).toInt .zero = some (Ieee.signed s (n / 2 ^ d) 0) := by
    rw [hd]
    show some (Ieee.signed s (Ieee.Toward.zero.cut s (m <<< i.toNat) (-i).toNat) 0) = _
    rw [cut_zero, ← hn, ← hdd]
  have hGr : (0 : Rat) < ((2 ^ d : Nat) : Rat) := by have := cast_lt hG; simpa using this
  have hK : (m : Rat) * p2 i = ((if s then -K else K : Int) : Rat) := by
    cases s
    · simpa [sg] using hv
    · simp only [sg, if_true] at hv
      simp only [if_true]
      rw [Rat.intCast_neg, ← hv]; grind
  have hn2 : ((n : Int) : Rat) = (((if s then -K else K) * (2 ^ d : Nat) : Int) : Rat) := by
    rw [Rat.intCast_natCast, ← hval, hK, Rat.intCast_mul, Rat.intCast_natCast]
  have hn3 : (n : Int) = (if s then -K else K) * ((2 ^ d : Nat) : Int) := Rat.intCast_inj.1 hn2
  have hq : ((n / 2 ^ d : Nat) : Int) = if s then -K else K := by
    rw [Int.natCast_ediv, hn3]
    exact Int.mul_ediv_cancel _ (by omega)
  have e2 : Ieee.signed s (n / 2 ^ d) 0 = K := by
    unfold Ieee.signed
    rw [Nat.shiftLeft_zero]
    cases s
    · simpa using hq
    · simp only [if_true] at hq ⊢
      omega
  unfold floatToIntVal
  rw [e1, e2]
  simp only
  rw [if_pos]
  constructor
  · have : IntKind.i64.min = -9223372036854775808 := rfl
    omega
  · have : IntKind.i64.max = 9223372036854775807 := rfl
    omega
/-- A whole number as a float64. -/
def dint (i : Int) : Option Nat := canon .f64 (floatOfInt .f64 i)
theorem dint_is (i : Int) (h1 : -9007199254740992 ≤ i) (h2 : i ≤ 9007199254740992) : Is .f64 (dint i) (i : Rat) := by
  have h := write_int (decide (i < 0)) i.natAbs (by omega)
  have e : sg (decide (i < 0)) (i.natAbs : Rat) = (i : Rat) := by
    rw [sg_int]
    congr 1
    by_cases h0 : i < 0
    · simp [h0]; omega
    · simp [h0]; omega
  rw [e] at h
  have hb : floatOfInt .f64 i = FloatKind.f64.encode (.number (decide (i < 0)) i.natAbs 0) := rfl
  rw [← hb] at h
  unfold dint
  obtain ⟨b, s, m, p, he, hd, hv⟩ := h
  have hb' : floatOfInt .f64 i = b := by injection he
  rw [hb', canon_some (by rw [hd]; rfl)]
  exact ⟨b, s, m, p, rfl, hd, hv⟩
end Go.Proofs.Ytfpjiclkhjdihaa
