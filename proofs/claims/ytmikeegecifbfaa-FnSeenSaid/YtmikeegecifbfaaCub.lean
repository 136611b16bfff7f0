/- The third root: powers of two are taken off exactly; Newton's steps stay between bounds. No program is named here. -/
import Derived.Test.YtmikeegecifbfaaCnv
namespace Go.Proofs.Ytmikeegecifbfaa

def dadd (x y : Option Nat) : Option Nat := cop .add .f64 x y
def dsub (x y : Option Nat) : Option Nat := cop .sub .f64 x y
def dmul (x y : Option Nat) : Option Nat := cop .mul .f64 x y
def ddiv (x y : Option Nat) : Option Nat := cop .quo .f64 x y
def dlt (x y : Option Nat) : Bool := cord .f64 x y == some .lt
def dge (x y : Option Nat) : Bool := cord .f64 x y == some .gt || cord .f64 x y == some .eq
section
variable (x y : Nat) (w : World)
theorem d_add : canon .f64 (fval .add .f64 x y w) = dadd (canon .f64 x) (canon .f64 y) := canon_fval ..
theorem d_sub : canon .f64 (fval .sub .f64 x y w) = dsub (canon .f64 x) (canon .f64 y) := canon_fval ..
theorem d_mul : canon .f64 (fval .mul .f64 x y w) = dmul (canon .f64 x) (canon .f64 y) := canon_fval ..
theorem d_div : canon .f64 (fval .quo .f64 x y w) = ddiv (canon .f64 x) (canon .f64 y) := canon_fval ..
theorem od_lt : (FloatKind.f64.format.order x y == some .lt) = dlt (canon .f64 x) (canon .f64 y) := by rw [order_canon]; rfl
theorem od_ge : (FloatKind.f64.format.order x y == some .gt || FloatKind.f64.format.order x y == some .eq) = dge (canon .f64 x) (canon .f64 y) := by rw [order_canon]; rfl
end

/-! ### The word of a number -/
theorem write_lt (f : Ieee.Format) (d : Ieee.Datum) : f.write d < 2 * f.signWeight := by
  have hi := f.infRung_lt
  have hw : ∀ s r, r < f.signWeight → f.word s r < 2 * f.signWeight := by
    intro s r h
    unfold Ieee.Format.word
    split <;> omega
  have hb : f.infRung + f.binade = f.signWeight := by
    unfold Ieee.Format.infRung Ieee.Format.signWeight Ieee.Format.binade
    have h1 : 1 ≤ 2 ^ f.exponentBits := Nat.one_le_two_pow
    obtain ⟨q, hq⟩ : ∃ q, 2 ^ f.exponentBits = q + 1 := ⟨2 ^ f.exponentBits - 1, by omega⟩
    rw [Nat.pow_add, hq, Nat.add_sub_cancel, Nat.add_mul]
    omega
  cases d with
  | number s m e =>
    show f.nearest s m e < _
    unfold Ieee.Format.nearest
    dsimp only
    split
    · exact hw _ _ (by omega)
    · exact hw _ _ (Nat.lt_of_le_of_lt (Nat.min_le_right ..) hi)
  | infinity s => exact hw _ _ hi
  | nan s t =>
    exact hw _ _ (by have := Nat.mod_lt t (binade_pos f); omega)
theorem cop_lt {op : BinOp} {k : FloatKind} {x y : Option Nat} {r : Nat} (h : cop op k x y = some r) : r < 2 * k.format.signWeight := by
  cases x with
  | none => cases h
  | some a =>
    cases y with
    | none => cases h
    | some b =>
      have h : floatBits op k a b = some r := h
      unfold floatBits at h
      split at h
      all_goals first | (obtain ⟨d, _, rfl⟩ := Option.map_eq_some_iff.1 h; exact write_lt _ d) | cases h
theorem rungV_inj {f : Ieee.Format} {r s : Nat} (h : rungV f r = rungV f s) : r = s := by
  rcases Nat.lt_trichotomy r s with h1 | h1 | h1
  · have := rungV_lt f h1; grind
  · exact h1
  · have := rungV_lt f h1; grind
/-- A number above 0 has one word. -/
theorem word_of_is {k : FloatKind} {x : Option Nat} {R : Nat} (h : Is k x (rungV k.format R)) (hlt : ∀ b, x = some b → b < 2 * k.format.signWeight) (h0 : 0 < R) : x = some R := by
  obtain ⟨b, s, m, e, rfl, hd, hv⟩ := h
  obtain ⟨h1, h2⟩ := fin_read k.format (binade_le k) hd
  have hpos : 0 < rungV k.format R := by have := rungV_lt k.format h0; rw [rungV_zero] at this; exact this
  have hs : s = false := by
    cases s
    · rfl
    · unfold sg at hv
      simp only [if_true] at hv
      have := rungV_nonneg k.format (b % k.format.signWeight)
      grind
  subst hs
  unfold sg at hv
  simp only [Bool.false_eq_true, if_false] at hv
  rw [h2] at hv
  have e1 := rungV_inj hv
  obtain ⟨m', e', h3, _⟩ := read_fin k.format b h1
  have h4 : k.format.read b = .number false m e := hd
  rw [h3] at h4
  injection h4 with h5
  have h6 := hlt b rfl
  have hw : 0 < k.format.signWeight := Nat.two_pow_pos _
  have h7 : b / k.format.signWeight < 2 := Nat.div_lt_of_lt_mul (by omega)
  have h8 : b / k.format.signWeight = 0 := by
    have h8 : (b / k.format.signWeight % 2 == 1) = false := h5
    have h9 : ¬ b / k.format.signWeight % 2 = 1 := by simpa using h8
    generalize b / k.format.signWeight = q at *
    omega
  have h9 := Nat.div_add_mod b k.format.signWeight
  rw [h8] at h9
  congr 1
  omega
theorem is_rung {k : FloatKind} {r : Nat} (h : r < k.format.infRung) : Is k (some r) (rungV k.format r) := Is.of_word (k := k) false h
/-- A word times two, as a number. -/
theorem rungV_shift (f : Ieee.Format) (r j : Nat) (h : f.binade ≤ r) : rungV f (r + j * f.binade) = rungV f r * p2 j := by
  have hb := binade_pos f
  unfold rungV
  rw [if_neg (by have : 0 ≤ j * f.binade := Nat.zero_le _; omega), if_neg (by omega), Nat.add_mul_mod_self_right, Nat.add_mul_div_right _ _ hb]
  have h1 : 0 < r / f.binade := Nat.div_pos h hb
  rw [show f.leastPlace + ((r / f.binade + j - 1 : Nat) : Int) = f.leastPlace + ((r / f.binade - 1 : Nat) : Int) + (j : Int) by omega, p2_add]
  grind

theorem val64 : rungV Ieee.double 4607182418800017408 = 1 ∧ rungV Ieee.double 4611686018427387904 = 2 ∧ rungV Ieee.double 4620693217682128896 = 8 := by
  obtain ⟨c1, c2, c3, c4, c5⟩ := e64
  have h1 := rungV_form Ieee.double 1022 4503599627370496 (.inr (by omega)) (by omega)
  rw [c1, c4] at h1
  have e1 : ((4503599627370496 : Nat) : Rat) * p2 (-1074 + ((1022 : Nat) : Int)) = 1 := by
    rw [show (4503599627370496 : Nat) = 2 ^ 52 from rfl, ← p2_nat, ← p2_add]
    exact p2_zero
  rw [e1] at h1
  have h2 := rungV_shift Ieee.double 4607182418800017408 1 (by omega)
  have h3 := rungV_shift Ieee.double 4607182418800017408 3 (by omega)
  rw [c1] at h2 h3
  have e0 : (1022 * 4503599627370496 + 4503599627370496 : Nat) = 4607182418800017408 := rfl
  have e2 : (4607182418800017408 + 1 * 4503599627370496 : Nat) = 4611686018427387904 := rfl
  have e3 : (4607182418800017408 + 3 * 4503599627370496 : Nat) = 4620693217682128896 := rfl
  rw [e0] at h1
  rw [e2, h1, p2_nat] at h2
  rw [e3, h1, p2_nat] at h3
  exact ⟨h1, by rw [h2]; decide +kernel, by rw [h3]; decide +kernel⟩
theorem lt_words {a b : Nat} (ha : a < Ieee.double.infRung) (hb : b < Ieee.double.infRung) : dlt (some a) (some b) = decide (a < b) ∧ dge (some a) (some b) = decide (b ≤ a) := by
  have h1 := is_rung (k := .f64) ha
  have h2 := is_rung (k := .f64) hb
  have h3 : ∀ x y, rungV Ieee.double x < rungV Ieee.double y ↔ x < y := by
    intro x y
    constructor
    · intro h
      apply Nat.lt_of_not_le
      intro h'
      have := rungV_le Ieee.double h'
      grind
    · exact rungV_lt _
  constructor
  · show (cord .f64 _ _ == some .lt) = _
    rw [is_lt h1 h2, Bool.eq_iff_iff]
    simp only [decide_eq_true_eq]
    exact h3 a b
  · show (cord .f64 _ _ == some .gt || cord .f64 _ _ == some .eq) = _
    rw [is_ge h1 h2, Bool.eq_iff_iff]
    simp only [decide_eq_true_eq]
    have := h3 a b
    constructor
    · intro h; apply Nat.le_of_not_lt; intro h'; have h5 := this.2 h'; have h : rungV Ieee.double b ≤ rungV Ieee.double a := h; grind
    · intro h; have := rungV_le Ieee.double h; exact this
/-- A power of two times a number: the word goes up by so many binades. -/
theorem dmul_p2 {a c R : Nat} {q : Rat} (ha : a < Ieee.double.infRung) (hc : c < Ieee.double.infRung) (hcv : rungV Ieee.double c = q) (hR : R < Ieee.double.infRung) (h0 : 0 < R) (hv : rungV Ieee.double a * q = rungV Ieee.double R) : dmul (some a) (some c) = some R := by
  have h1 := is_rung (k := .f64) ha
  have h2 := is_rung (k := .f64) hc
  have hrep : Rep Ieee.double (rungV Ieee.double R) := ⟨R, hR, .inl rfl⟩
  have h3 : rungV FloatKind.f64.format a * rungV FloatKind.f64.format c = rungV Ieee.double R := by
    show rungV Ieee.double a * rungV Ieee.double c = _
    rw [hcv, hv]
  obtain ⟨w, h4, h5⟩ := is_mul h1 h2 (by rw [h3]; exact hrep.fit)
  rw [h3] at h5
  rw [h5.of_rep hrep] at h4
  exact word_of_is h4 (fun b h => cop_lt h) h0
theorem ddiv_p2 {a c R : Nat} {q : Rat} (ha : a < Ieee.double.infRung) (hc : c < Ieee.double.infRung) (hcv : rungV Ieee.double c = q) (hq : q ≠ 0) (hR : R < Ieee.double.infRung) (h0 : 0 < R) (hv : rungV Ieee.double a = rungV Ieee.double R * q) : ddiv (some a) (some c) = some R := by
  have h1 := is_rung (k := .f64) ha
  have h2 := is_rung (k := .f64) hc
  have hrep : Rep Ieee.double (rungV Ieee.double R) := ⟨R, hR, .inl rfl⟩
  have h3 : rungV FloatKind.f64.format a / rungV FloatKind.f64.format c = rungV Ieee.double R := by
    show rungV Ieee.double a / rungV Ieee.double c = _
    rw [hcv, hv, Rat.mul_div_cancel hq]
  obtain ⟨w, h4, h5⟩ := is_div h1 h2 (by show rungV Ieee.double c ≠ 0; rw [hcv]; exact hq) (by rw [h3]; exact hrep.fit)
  rw [h3] at h5
  rw [h5.of_rep hrep] at h4
  exact word_of_is h4 (fun b h => cop_lt h) h0
theorem scale_up {a : Nat} (h1 : 4503599627370496 ≤ a) (h2 : a + 3 * 4503599627370496 < 9218868437227405312) : dmul (some a) (some 4620693217682128896) = some (a + 3 * 4503599627370496) := by
  obtain ⟨c1, c2, c3, c4, c5⟩ := e64
  have := rungV_shift Ieee.double a 3 (by omega)
  rw [c1] at this
  exact dmul_p2 (by omega) (by omega) val64.2.2 (by omega) (by omega) (by rw [this, p2_nat]; congr 1)
theorem scale_down {a : Nat} (h1 : 4 * 4503599627370496 ≤ a) (h2 : a < 9218868437227405312) : ddiv (some a) (some 4620693217682128896) = some (a - 3 * 4503599627370496) := by
  obtain ⟨c1, c2, c3, c4, c5⟩ := e64
  have := rungV_shift Ieee.double (a - 3 * 4503599627370496) 3 (by omega)
  rw [c1, show a - 3 * 4503599627370496 + 3 * 4503599627370496 = a by omega] at this
  exact ddiv_p2 (by omega) (by omega) val64.2.2 (by decide) (by omega) (by omega) (by rw [this, p2_nat]; congr 1)
theorem twice {a : Nat} (h1 : 4503599627370496 ≤ a) (h2 : a + 4503599627370496 < 9218868437227405312) : dmul (some a) (some 4611686018427387904) = some (a + 4503599627370496) := by
  obtain ⟨c1, c2, c3, c4, c5⟩ := e64
  have := rungV_shift Ieee.double a 1 (by omega)
  rw [c1, Nat.one_mul] at this
  exact dmul_p2 (by omega) (by omega) val64.2.1 (by omega) (by omega) (by rw [this, p2_nat]; congr 1)
theorem halved {a : Nat} (h1 : 2 * 4503599627370496 ≤ a) (h2 : a < 9218868437227405312) : ddiv (some a) (some 4611686018427387904) = some (a - 4503599627370496) := by
  obtain ⟨c1, c2, c3, c4, c5⟩ := e64
  have := rungV_shift Ieee.double (a - 4503599627370496) 1 (by omega)
  rw [c1, Nat.one_mul, show a - 4503599627370496 + 4503599627370496 = a by omega] at this
  exact ddiv_p2 (by omega) (by omega) val64.2.1 (by decide) (by omega) (by omega) (by rw [this, p2_nat]; congr 1)

/-! ### Newton's steps -/
def newton (b r : Option Nat) : Option Nat := dsub r (ddiv (dsub (dmul (dmul r r) r) b) (dmul (dmul (some 4613937818241073152) r) r))
def newtons (b : Option Nat) : Nat → Option Nat
  | 0 => some 4609434218613702656
  | n + 1 => newton b (newtons b n)

theorem near64 {v w : Rat} (h : Rnd Ieee.double v w) (k : Int) (h0 : -1000 ≤ k) (hk : k ≤ 1000) (h1 : v ≤ p2 k) (h2 : -v ≤ p2 k) : w ≤ v + p2 (k - 51) ∧ v ≤ w + p2 (k - 51) := by
  obtain ⟨c1, c2, c3, c4, c5⟩ := e64
  have hp := p2_mono (show k ≤ 1023 by omega)
  have hf : Fit Ieee.double v := fit64 (by grind) (by grind)
  have hn := h.near hf h1 h2
  rw [c4, c5] at hn
  have e1 : p2 k * p2 (-(52 : Nat)) = p2 (k - 52) := by rw [← p2_add]; congr 1
  rw [e1] at hn
  have e2 : p2 (k - 51) = p2 (k - 52) + p2 (k - 52) := by rw [show k - 51 = (k - 52) + 1 by omega, p2_succ]; grind
  have e3 := p2_mono (show (-1074 : Int) ≤ k - 52 by omega)
  grind
theorem fit64k {v : Rat} (k : Int) (hk : k ≤ 1000) (h1 : v ≤ p2 k) (h2 : -v ≤ p2 k) : Fit Ieee.double v := by
  have hp := p2_mono (show k ≤ 1023 by omega)
  exact fit64 (by grind) (by grind)
theorem three64 : Is .f64 (some 4613937818241073152) 3 := ⟨_, false, 6755399441055744, -51, rfl, by decide, by decide +kernel⟩
theorem half3 : Is .f64 (some 4609434218613702656) (3 / 2) := ⟨_, false, 6755399441055744, -52, rfl, by decide, by decide +kernel⟩

theorem pk (k : Int) : p2 k = (2 : Rat) ^ k := rfl
theorem div_eq {x y q : Rat} (hy : y ≠ 0) (h : q = x / y) : q * y = x := by rw [h, Rat.div_mul_cancel hy]
theorem newton_step {b r : Option Nat} {vb vr : Rat} (hb : Is .f64 b vb) (hr : Is .f64 r vr) (h1 : 1 ≤ vb) (h2 : vb ≤ 8) (h3 : 9 / 10 ≤ vr) (h4 : vr ≤ 4) :
    ∃ v, Is .f64 (newton b r) v ∧ 9 / 10 ≤ v ∧ v ≤ 4 := by
  have e7 : p2 7 = 128 := by decide +kernel
  have e5 : p2 5 = 32 := by decide +kernel
  have e4 : p2 4 = 16 := by decide +kernel
  have e6 : p2 6 = 64 := by decide +kernel
  have t47 : p2 (4 - 51) ≤ 1 / 100000000000 := by decide +kernel
  have t44 : p2 (7 - 51) ≤ 1 / 100000000000 := by decide +kernel
  have t46 : p2 (5 - 51) ≤ 1 / 100000000000 := by decide +kernel
  have t45 : p2 (6 - 51) ≤ 1 / 100000000000 := by decide +kernel
  -- r * r
  have q0 : 0 ≤ vr * vr := Rat.mul_nonneg (by grind) (by grind)
  have q1 : vr * vr ≤ 16 := by have := Rat.mul_nonneg (show 0 ≤ 4 - vr by grind) (show 0 ≤ 4 + vr by grind); grind
  have q2 : 81 / 100 ≤ vr * vr := by have := Rat.mul_nonneg (show 0 ≤ vr - 9 / 10 by grind) (show 0 ≤ vr + 9 / 10 by grind); grind
  obtain ⟨s1, i1, n1⟩ := is_mul hr hr (fit64k 4 (by decide) (by rw [e4]; exact q1) (by rw [e4]; grind))
  have m1 := near64 n1 4 (by decide) (by decide) (by rw [e4]; exact q1) (by rw [e4]; grind)
  -- r * r * r
  have q3 : s1 * vr ≤ 68 := by have := Rat.mul_nonneg (show 0 ≤ 17 - s1 by grind) (show 0 ≤ vr by grind); grind
  have q4 : 0 ≤ s1 * vr := Rat.mul_nonneg (by grind) (by grind)
  obtain ⟨s2, i2, n2⟩ := is_mul i1 hr (fit64k 7 (by decide) (by rw [e7]; grind) (by rw [e7]; grind))
  have m2 := near64 n2 7 (by decide) (by decide) (by rw [e7]; grind) (by rw [e7]; grind)
  obtain ⟨s3, i3, n3⟩ := is_sub i2 hb (fit64k 7 (by decide) (by rw [e7]; grind) (by rw [e7]; grind))
  have m3 := near64 n3 7 (by decide) (by decide) (by rw [e7]; grind) (by rw [e7]; grind)
  -- 3 * r * r
  obtain ⟨s4, i4, n4⟩ := is_mul three64 hr (fit64k 4 (by decide) (by rw [e4]; grind) (by rw [e4]; grind))
  have m4 := near64 n4 4 (by decide) (by decide) (by rw [e4]; grind) (by rw [e4]; grind)
  have q5 : s4 * vr ≤ 52 := by have := Rat.mul_nonneg (show 0 ≤ 13 - s4 by grind) (show 0 ≤ vr by grind); grind
  have q6 : 2 ≤ s4 * vr := by
    have := Rat.mul_nonneg (show 0 ≤ s4 - 26 / 10 by grind) (show 0 ≤ vr - 9 / 10 by grind)
    grind
  obtain ⟨s5, i5, n5⟩ := is_mul i4 hr (fit64k 6 (by decide) (by rw [e6]; grind) (by rw [e6]; grind))
  have m5 := near64 n5 6 (by decide) (by decide) (by rw [e6]; grind) (by rw [e6]; grind)
  have q7 : 1 ≤ s5 := by grind
  -- what they are near
  have c0 : s2 ≤ vr * vr * vr + 1 / 1000000000 ∧ vr * vr * vr ≤ s2 + 1 / 1000000000 := by
    have a1 := Rat.mul_nonneg (show 0 ≤ vr * vr + 1 / 100000000000 - s1 by grind) (show 0 ≤ vr by grind)
    have a2 := Rat.mul_nonneg (show 0 ≤ s1 + 1 / 100000000000 - vr * vr by grind) (show 0 ≤ vr by grind)
    grind
  have c1 : s5 ≤ 3 * (vr * vr) + 1 / 1000000000 ∧ 3 * (vr * vr) ≤ s5 + 1 / 1000000000 := by
    have a1 := Rat.mul_nonneg (show 0 ≤ 3 * vr + 1 / 100000000000 - s4 by grind) (show 0 ≤ vr by grind)
    have a2 := Rat.mul_nonneg (show 0 ≤ s4 + 1 / 100000000000 - 3 * vr by grind) (show 0 ≤ vr by grind)
    grind
  -- the quotient
  obtain ⟨Q, hQ⟩ : ∃ Q, Q = s3 / s5 := ⟨_, rfl⟩
  have hQs := div_eq (show s5 ≠ 0 by grind) hQ
  have c2 : -9 ≤ s3 ∧ s3 ≤ 68 := by grind
  have q8 : Q ≤ 32 := by
    apply Rat.le_of_mul_le_mul_right (c := s5) _ (by grind)
    rw [hQs]
    -- s3 is near r ^ 3 - b, s5 near 3 r ^ 2, and r is at most 4
    have a1 := Rat.mul_nonneg (show 0 ≤ 4 - vr by grind) q0
    grind
  have q9 : -32 ≤ Q := by
    apply Rat.le_of_mul_le_mul_right (c := s5) _ (by grind)
    rw [hQs]
    grind
  obtain ⟨s6, i6, n6⟩ := is_div i3 i5 (by grind) (by rw [← hQ]; exact fit64k 5 (by decide) (by rw [e5]; exact q8) (by rw [e5]; grind))
  rw [← hQ] at n6
  have m6 := near64 n6 5 (by decide) (by decide) (by rw [e5]; exact q8) (by rw [e5]; grind)
  obtain ⟨s7, i7, n7⟩ := is_sub hr i6 (fit64k 6 (by decide) (by rw [e6]; grind) (by rw [e6]; grind))
  have m7 := near64 n7 6 (by decide) (by decide) (by rw [e6]; grind) (by rw [e6]; grind)
  refine ⟨s7, i7, ?_, ?_⟩
  · -- 2 r ^ 3 + b is at least 3 r ^ 2
    have a1 := Rat.mul_nonneg (Rat.mul_nonneg (show 0 ≤ 2 * vr + 1 by grind) (show 0 ≤ (vr - 1) * (vr - 1) by
      rcases Rat.le_total (a := vr) (b := 1) with h | h
      · have := Rat.mul_nonneg (show 0 ≤ 1 - vr by grind) (show 0 ≤ 1 - vr by grind); grind
      · exact Rat.mul_nonneg (by grind) (by grind))) (show (0 : Rat) ≤ 1 by decide)
    have a2 : s5 * (91 / 100) ≤ s5 * (vr - Q) := by
      have b1 := Rat.mul_nonneg (show 0 ≤ s5 + 1 / 1000000000 - 3 * (vr * vr) by grind) (show 0 ≤ vr by grind)
      have b2 := Rat.mul_nonneg (show 0 ≤ 3 * (vr * vr) + 1 / 1000000000 - s5 by grind) (show 0 ≤ vr by grind)
      grind
    have a3 := Rat.le_of_mul_le_mul_left a2 (by grind)
    grind
  · have a1 := Rat.mul_nonneg (show 0 ≤ vr - 9 / 10 by grind) (show 0 ≤ 201 / 20 * vr - 2 * (vr * vr) + 1809 / 200 by
      have := Rat.mul_nonneg (show 0 ≤ vr by grind) (show 0 ≤ 4 - vr by grind)
      grind)
    have a2 : s5 * (vr - Q) ≤ s5 * (396 / 100) := by
      have b1 := Rat.mul_nonneg (show 0 ≤ s5 + 1 / 1000000000 - 3 * (vr * vr) by grind) (show 0 ≤ vr by grind)
      have b2 := Rat.mul_nonneg (show 0 ≤ 3 * (vr * vr) + 1 / 1000000000 - s5 by grind) (show 0 ≤ vr by grind)
      grind
    have a3 := Rat.le_of_mul_le_mul_left a2 (by grind)
    grind
theorem newtons_is {b : Option Nat} {vb : Rat} (hb : Is .f64 b vb) (h1 : 1 ≤ vb) (h2 : vb ≤ 8) : ∀ n, ∃ v, Is .f64 (newtons b n) v ∧ 9 / 10 ≤ v ∧ v ≤ 4
  | 0 => ⟨_, half3, by decide +kernel, by decide +kernel⟩
  | n + 1 => by
    obtain ⟨v, h3, h4, h5⟩ := newtons_is hb h1 h2 n
    exact newton_step hb h3 h1 h2 h4 h5
end Go.Proofs.Ytmikeegecifbfaa
