/- Comparisons, square roots and conversions of floats, on the numbers that words stand for. No program is named here. -/
import Derived.Test.YtmikeegecifbfaaOps
import Derived.Test.YtmikeegecifbfaaFin
namespace Go.Proofs.Ytmikeegecifbfaa

/-! ### Comparisons -/
theorem is_order {k : FloatKind} {x y : Option Nat} {u v : Rat} (hx : Is k x u) (hy : Is k y v) : ∃ o, cord k x y = some o ∧ (o = .lt ↔ u < v) ∧ (o = .eq ↔ u = v) ∧ (o = .gt ↔ v < u) := by
  obtain ⟨a, s, m, i, rfl, hd, rfl⟩ := hx
  obtain ⟨b, t, n, j, rfl, hd', rfl⟩ := hy
  have h1 : cord k (some a) (some b) = (k.decode a).order (k.decode b) := rfl
  rw [h1, hd, hd']
  refine ⟨_, rfl, ?_⟩
  have e1 := signed_dq s m i (min i j) (by omega)
  have e2 := signed_dq t n j (min i j) (by omega)
  rw [← e1, ← e2]
  generalize Ieee.signed s m (i - min i j).toNat = A
  generalize Ieee.signed t n (j - min i j).toNat = B
  have hP := p2_pos (min i j)
  generalize p2 (min i j) = P at *
  have hl : ∀ A B : Int, (A : Rat) * P < (B : Rat) * P ↔ A < B := by
    intro A B
    rw [← Rat.intCast_lt_intCast]
    constructor
    · intro h; exact Rat.lt_of_mul_lt_mul_right h (Rat.le_of_lt hP)
    · intro h; exact mul_lt_r h hP
  rw [hl, hl]
  have he : (A : Rat) * P = (B : Rat) * P ↔ A = B := by
    constructor
    · intro h
      have h1 := hl A B
      have h2 := hl B A
      rw [h] at h1 h2
      have : ¬ (B : Rat) * P < (B : Rat) * P := by grind
      have h3 : ¬ A < B := fun h => this (h1.2 h)
      have h4 : ¬ B < A := fun h => this (h2.2 h)
      omega
    · rintro rfl; rfl
  rw [he]
  exact ⟨Int.compare_eq_lt, Int.compare_eq_eq, Int.compare_eq_gt⟩
section
variable {k : FloatKind} {x y : Option Nat} {u v : Rat} (hx : Is k x u) (hy : Is k y v)
include hx hy
theorem is_lt : (cord k x y == some .lt) = decide (u < v) := by obtain ⟨o, h, h1, h2, h3⟩ := is_order hx hy; rw [h, Bool.eq_iff_iff]; simp [h1]
theorem is_gt : (cord k x y == some .gt) = decide (v < u) := by obtain ⟨o, h, h1, h2, h3⟩ := is_order hx hy; rw [h, Bool.eq_iff_iff]; simp [h3]
theorem is_eq : (cord k x y == some .eq) = decide (u = v) := by obtain ⟨o, h, h1, h2, h3⟩ := is_order hx hy; rw [h, Bool.eq_iff_iff]; simp [h2]
theorem is_le : (cord k x y == some .lt || cord k x y == some .eq) = decide (u ≤ v) := by rw [is_lt hx hy, is_eq hx hy, Bool.eq_iff_iff]; simp; grind
theorem is_ge : (cord k x y == some .gt || cord k x y == some .eq) = decide (v ≤ u) := by rw [is_gt hx hy, is_eq hx hy, Bool.eq_iff_iff]; simp; grind
end
theorem flt_is {x y : Option Nat} {u v : Rat} (hx : Is .f32 x u) (hy : Is .f32 y v) : flt x y = decide (u < v) := is_lt hx hy
theorem fgt_is {x y : Option Nat} {u v : Rat} (hx : Is .f32 x u) (hy : Is .f32 y v) : fgt x y = decide (v < u) := is_gt hx hy
theorem feq_is {x y : Option Nat} {u v : Rat} (hx : Is .f32 x u) (hy : Is .f32 y v) : feq x y = decide (u = v) := is_eq hx hy
theorem fle_is {x y : Option Nat} {u v : Rat} (hx : Is .f32 x u) (hy : Is .f32 y v) : fle x y = decide (u ≤ v) := is_le hx hy
theorem fge_is {x y : Option Nat} {u v : Rat} (hx : Is .f32 x u) (hy : Is .f32 y v) : fge x y = decide (v ≤ u) := is_ge hx hy
theorem Is.uniq {k : FloatKind} {x : Option Nat} {u v : Rat} (hx : Is k x u) (hy : Is k x v) : u = v := by
  obtain ⟨a, s, m, i, rfl, hd, rfl⟩ := hx
  obtain ⟨b, t, n, j, h, hd', rfl⟩ := hy
  injection h with h
  subst h
  rw [hd] at hd'
  injection hd' with h1 h2 h3
  subst h1; subst h2; subst h3
  rfl

theorem fin_is {x : Option Nat} : fin x = true ↔ ∃ v, Is .f32 x v := by
  constructor
  · intro h
    cases x with
    | none => cases h
    | some b =>
      have h1 : b % 2147483648 < 2139095040 := of_decide_eq_true h
      obtain ⟨m, e, h2, h3⟩ := read_fin Ieee.single b (by rw [show Ieee.single.signWeight = 2147483648 by decide, show Ieee.single.infRung = 2139095040 by decide]; exact h1)
      exact ⟨_, b, _, m, e, rfl, h2, rfl⟩
  · rintro ⟨v, b, s, m, e, rfl, hd, _⟩
    have := (num32 hd).2.2.2.1
    simp [fin, this]

/-! ### Numbers that a format has -/
theorem rung_dyadic (f : Ieee.Format) (M : Nat) : ∀ j : Nat, M ≤ 2 * f.binade → ∃ r, rungV f r = (M : Rat) * p2 (f.leastPlace + j) := by
  intro j
  induction j generalizing M with
  | zero => exact fun h => ⟨0 * f.binade + M, rungV_form f 0 M (.inl rfl) h⟩
  | succ j ih =>
    intro h
    by_cases hM : f.binade ≤ M
    · exact ⟨_, rungV_form f (j + 1) M (.inr hM) h⟩
    · obtain ⟨r, hr⟩ := ih (2 * M) (by omega)
      refine ⟨r, ?_⟩
      rw [hr, show f.leastPlace + ((j + 1 : Nat) : Int) = f.leastPlace + (j : Int) + 1 by omega, p2_succ, Rat.natCast_mul]
      have : ((2 : Nat) : Rat) = 2 := rfl
      grind
theorem Rep.of_rung {f : Ieee.Format} {r : Nat} (hf : Fit f (rungV f r)) : Rep f (rungV f r) := by
  obtain ⟨R, hR, h1, _⟩ := hf
  refine ⟨r, ?_, .inl rfl⟩
  rcases Nat.lt_or_ge R r with h | h
  · have := rungV_lt f h
    grind
  · omega
theorem rep_dyadic (f : Ieee.Format) (M : Nat) (E : Int) (hM : M ≤ 2 * f.binade) (hE : f.leastPlace ≤ E) (hf : Fit f ((M : Rat) * p2 E)) : Rep f ((M : Rat) * p2 E) := by
  obtain ⟨j, rfl⟩ := Int.le.dest hE
  obtain ⟨r, hr⟩ := rung_dyadic f M j hM
  rw [← hr] at hf ⊢
  exact Rep.of_rung hf
theorem Fit.le {f : Ieee.Format} {u v : Rat} (h : Fit f v) (h1 : u ≤ v) (h2 : -u ≤ v) : Fit f u := by
  obtain ⟨r, hr, h3, h4⟩ := h
  exact ⟨r, hr, by grind, by grind⟩

theorem e32 : Ieee.single.binade = 8388608 ∧ Ieee.single.infRung = 2139095040 ∧ Ieee.single.signWeight = 2147483648 ∧ Ieee.single.leastPlace = -149 ∧ Ieee.single.fractionBits = 23 := by decide
theorem e64 : Ieee.double.binade = 4503599627370496 ∧ Ieee.double.infRung = 9218868437227405312 ∧ Ieee.double.signWeight = 9223372036854775808 ∧ Ieee.double.leastPlace = -1074 ∧ Ieee.double.fractionBits = 52 := by decide

theorem fit32 {v : Rat} (h1 : v ≤ p2 127) (h2 : -v ≤ p2 127) : Fit Ieee.single v := by
  obtain ⟨b1, b2, b3, b4, b5⟩ := e32
  have := rungV_form Ieee.single 253 8388608 (.inr (by omega)) (by omega)
  rw [b1, b4] at this
  have e : ((8388608 : Nat) : Rat) * p2 (-149 + ((253 : Nat) : Int)) = p2 127 := by
    rw [show (8388608 : Nat) = 2 ^ 23 from rfl, ← p2_nat, ← p2_add]
    rfl
  rw [e] at this
  exact ⟨253 * 8388608 + 8388608, by omega, by rw [this]; exact h1, by rw [this]; exact h2⟩
theorem fit64 {v : Rat} (h1 : v ≤ p2 1023) (h2 : -v ≤ p2 1023) : Fit Ieee.double v := by
  obtain ⟨b1, b2, b3, b4, b5⟩ := e64
  have := rungV_form Ieee.double 2045 4503599627370496 (.inr (by omega)) (by omega)
  rw [b1, b4] at this
  have e : ((4503599627370496 : Nat) : Rat) * p2 (-1074 + ((2045 : Nat) : Int)) = p2 1023 := by
    rw [show (4503599627370496 : Nat) = 2 ^ 52 from rfl, ← p2_nat, ← p2_add]
    rfl
  rw [e] at this
  exact ⟨2045 * 4503599627370496 + 4503599627370496, by omega, by rw [this]; exact h1, by rw [this]; exact h2⟩
theorem rep32_p2 (e : Int) (h1 : -149 ≤ e) (h2 : e ≤ 127) : Rep Ieee.single (p2 e) := by
  obtain ⟨b1, b2, b3, b4, b5⟩ := e32
  have h := rep_dyadic Ieee.single 1 e (by omega) (by omega)
  have e1 : ((1 : Nat) : Rat) * p2 e = p2 e := by simp
  rw [e1] at h
  have := p2_pos e
  exact h (fit32 (p2_mono h2) (by have := p2_pos 127; grind))
theorem rep64_p2 (e : Int) (h1 : -1074 ≤ e) (h2 : e ≤ 1023) : Rep Ieee.double (p2 e) := by
  obtain ⟨b1, b2, b3, b4, b5⟩ := e64
  have h := rep_dyadic Ieee.double 1 e (by omega) (by omega)
  have e1 : ((1 : Nat) : Rat) * p2 e = p2 e := by simp
  rw [e1] at h
  have := p2_pos e
  exact h (fit64 (p2_mono h2) (by have := p2_pos 1023; grind))
/-- What a float32 may be. -/
theorem rep32_le {v : Rat} (h : Rep Ieee.single v) : v ≤ p2 128 ∧ -v ≤ p2 128 := by
  obtain ⟨r, hr, hv⟩ := h
  obtain ⟨b1, b2, b3, b4, b5⟩ := e32
  have h1 := rungV_le Ieee.single (show r ≤ 254 * 8388608 + 8388608 by omega)
  have h2 := rungV_form Ieee.single 254 8388608 (.inr (by omega)) (by omega)
  rw [b1, b4] at h2
  rw [h2] at h1
  have e : ((8388608 : Nat) : Rat) * p2 (-149 + ((254 : Nat) : Int)) = p2 128 := by
    rw [show (8388608 : Nat) = 2 ^ 23 from rfl, ← p2_nat, ← p2_add]
    rfl
  rw [e] at h1
  have := rungV_nonneg Ieee.single r
  have := p2_pos 128
  rcases hv with rfl | rfl <;> grind

/-! ### Conversions -/
theorem number_notInf (f : Ieee.Format) (s : Bool) {r : Nat} (hr : r < f.infRung) : (f.read (f.word s r)).isInfinity = false := by
  have hi := f.infRung_lt
  obtain ⟨h1, _⟩ := word_parts f s (show r < f.signWeight by omega)
  obtain ⟨m, e, h3, _⟩ := read_fin f (f.word s r) (by rw [h1]; exact hr)
  rw [h3]; rfl
theorem is_conv {s d : FloatKind} (hne : s ≠ d) {x : Option Nat} {v : Rat} (hx : Is s x v) (hf : Fit d.format v) : ∃ w, Is d (ccv s d x) w ∧ Rnd d.format v w := by
  obtain ⟨a, g, m, i, rfl, hd, rfl⟩ := hx
  obtain ⟨r, h1, h2, h3⟩ := write_rnd d.format g m i hf
  have e : ccv s d (some a) = some (d.format.word g r) := by
    show floatToFloatBits s a d = _
    unfold floatToFloatBits
    rw [if_neg hne, hd]
    simp only
    have e1 : d.encode (.number g m i) = d.format.word g r := h2
    rw [e1]
    have e2 : (d.decode (d.format.word g r)).isInfinity = false := number_notInf d.format g h1
    rw [e2]
    rfl
  exact ⟨_, by rw [e]; exact Is.of_word g h1, h3⟩
theorem Is.fits {s d : FloatKind} {b : Nat} {v : Rat} (hx : Is s (some b) v) (hf : Fit d.format v) : Fits s d b := by
  intro _
  by_cases hne : s = d
  · subst hne; simp [floatToFloat_same]
  · obtain ⟨w, h, _⟩ := is_conv hne hx hf
    obtain ⟨r, _, _, _, h1, _⟩ := h
    exact Option.isSome_iff_exists.2 ⟨r, h1⟩
theorem rep_wide {v : Rat} (h : Rep Ieee.single v) : Rep Ieee.double v := by
  have hb := rep32_le h
  obtain ⟨r, hr, hv⟩ := h
  obtain ⟨b1, b2, b3, b4, b5⟩ := e32
  obtain ⟨c1, c2, c3, c4, c5⟩ := e64
  obtain ⟨j, kept, rfl, h1, h2⟩ := rung_split Ieee.single r
  rw [rungV_form Ieee.single j kept h1 (by omega), b4] at hv
  have hp := p2_mono (show (128 : Int) ≤ 1023 by decide)
  rcases hv with rfl | rfl
  · exact rep_dyadic Ieee.double kept _ (by omega) (by omega) (fit64 (by grind) (by grind))
  · exact (rep_dyadic Ieee.double kept _ (by omega) (by omega) (fit64 (by grind) (by grind))).neg
theorem is_widen {x : Option Nat} {v : Rat} (hx : Is .f32 x v) : Is .f64 (ccv .f32 .f64 x) v := by
  have h := rep_wide hx.rep
  obtain ⟨w, h1, h2⟩ := is_conv (d := .f64) (by decide) hx h.fit
  rw [← h2.of_rep h]
  exact h1

/-! ### Square roots -/
def croot : Option Nat → Option Nat
  | some x => FloatKind.f64.format.sqrt x
  | none => none
theorem rootFrom_spec (n : Nat) : ∀ (todo root : Nat), root * root ≤ n → n < (root + 2 ^ todo) * (root + 2 ^ todo) → Ieee.Datum.rootFrom n todo root * Ieee.Datum.rootFrom n todo root ≤ n ∧ n < (Ieee.Datum.rootFrom n todo root + 1) * (Ieee.Datum.rootFrom n todo root + 1)
  | 0, root, h1, h2 => by simpa [Ieee.Datum.rootFrom] using ⟨h1, h2⟩
  | todo + 1, root, h1, h2 => by
    unfold Ieee.Datum.rootFrom
    dsimp only
    rw [Nat.one_shiftLeft]
    have e : 2 ^ (todo + 1) = 2 ^ todo + 2 ^ todo := by rw [Nat.pow_succ]; omega
    split
    · rename_i h
      exact rootFrom_spec n todo _ h (by rw [Nat.add_assoc, ← e]; exact h2)
    · rename_i h
      exact rootFrom_spec n todo _ h1 (by omega)
/-- 'w' is the root of 'v', rounded. -/
structure Rt (f : Ieee.Format) (v w : Rat) : Prop where
  pos : 0 ≤ w
  rep : Rep f w
  up : ∀ c, Rep f c → 0 ≤ c → v ≤ c * c → w ≤ c
  dn : ∀ c, Rep f c → 0 ≤ c → c * c ≤ v → c ≤ w
theorem sq_le_iff {a b : Nat} : a * a ≤ b * b ↔ a ≤ b := by
  constructor
  · intro h; exact Nat.mul_self_le_mul_self_iff.1 h
  · intro h; exact Nat.mul_self_le_mul_self h
theorem is_root {x : Option Nat} {v : Rat} (hx : Is .f64 x v) (hv : 0 ≤ v) : ∃ w, Is .f64 (croot x) w ∧ Rt Ieee.double v w := by
  obtain ⟨a, s, m, i, rfl, hd, rfl⟩ := hx
  have hrep : Rep Ieee.double (sg s ((m : Rat) * p2 i)) := Is.rep ⟨a, s, m, i, rfl, hd, rfl⟩
  have hmp : 0 ≤ (m : Rat) * p2 i := Rat.mul_nonneg Rat.natCast_nonneg (Rat.le_of_lt (p2_pos _))
  have h1 : croot (some a) = Option.map FloatKind.f64.format.write ((FloatKind.f64.decode a).root (FloatKind.f64.format.fractionBits + 2)) := rfl
  rw [h1, hd]
  obtain ⟨c1, c2, c3, c4, c5⟩ := e64
  have hrung0 : rungV Ieee.double 0 = 0 := rungV_zero _
  simp only [Ieee.Datum.root]
  by_cases hm : m = 0
  · subst hm
    rw [if_pos rfl]
    have hz : sg s (((0 : Nat) : Rat) * p2 i) = 0 := by cases s <;> simp [sg]
    refine ⟨sg s (rungV Ieee.double 0), ?_, ?_⟩
    · have e : FloatKind.f64.format.nearest s 0 i = FloatKind.f64.format.word s 0 := by unfold Ieee.Format.nearest; rw [if_pos rfl]
      show Is .f64 (some (FloatKind.f64.format.nearest s 0 i)) _
      rw [e]
      exact Is.of_word s (by show 0 < Ieee.double.infRung; omega)
    · have e0 : sg s (rungV Ieee.double 0) = 0 := by rw [hrung0]; cases s <;> simp [sg]
      rw [hz, e0]
      refine ⟨Rat.le_refl, ⟨0, by omega, .inl hrung0.symm⟩, fun c _ h _ => h, fun c _ h h' => ?_⟩
      rcases Rat.le_iff_lt_or_eq.1 h with h2 | h2
      · have := Rat.mul_pos h2 h2
        grind
      · rw [← h2]; exact Rat.le_refl
  · have hs : s = false := by
      cases s
      · rfl
      · exfalso
        have h2 : 0 < (m : Rat) * p2 i := Rat.mul_pos (by have := cast_lt (Nat.pos_of_ne_zero hm); exact this) (p2_pos _)
        unfold sg at hv
        simp only [if_true] at hv
        grind
    subst hs
    rw [if_neg hm]
    simp only [Bool.false_eq_true, if_false]
    have hfb : FloatKind.f64.format.fractionBits = 52 := c5
    rw [hfb]
    generalize hmore0 : (2 * (52 + 2) - m.log2 : Nat) = more0
    obtain ⟨more, hmore⟩ : ∃ more, more = more0 + ((i - (more0 : Int)) % 2).toNat := ⟨_, rfl⟩
    rw [← hmore]
    have heven : (i - (more : Int)) % 2 = 0 := by omega
    obtain ⟨n, hn⟩ : ∃ n, n = m <<< more := ⟨_, rfl⟩
    rw [← hn]
    obtain ⟨q, hq⟩ : ∃ q, q = Ieee.Datum.rootFrom n (n.log2 / 2 + 1) 0 := ⟨_, rfl⟩
    rw [← hq]
    have hn' : n = m * 2 ^ more := by rw [hn, Nat.shiftLeft_eq]
    have hsp := rootFrom_spec n (n.log2 / 2 + 1) 0 (by omega) (by
      rw [Nat.zero_add, ← Nat.pow_add]
      calc n < 2 ^ (n.log2 + 1) := Nat.lt_log2_self
        _ ≤ _ := Nat.pow_le_pow_right (by omega) (by omega))
    rw [← hq] at hsp
    obtain ⟨place, hplace⟩ : ∃ place : Int, place = (i - (more : Int)) / 2 - 1 := ⟨_, rfl⟩
    rw [← hplace]
    have hi2 : i = place + place + 2 + more := by omega
    have hP := p2_pos place
    have hval : sg false ((m : Rat) * p2 i) = ((4 * n : Nat) : Rat) * (p2 place * p2 place) := by
      unfold sg
      simp only [Bool.false_eq_true, if_false]
      rw [hi2, p2_add, p2_add, p2_add, p2_nat, hn', Rat.natCast_mul, Rat.natCast_mul]
      have e : p2 2 = ((4 : Nat) : Rat) := by have := p2_nat 2; simpa using this
      rw [e]
      grind
    have hPP := Rat.mul_pos hP hP
    obtain ⟨D, hD⟩ : ∃ D, D = 2 * q + (q * q != n).toNat := ⟨_, rfl⟩
    rw [← hD]
    have hD1 : 2 * q ≤ D ∧ D < 2 * q + 2 := by rw [hD]; cases (q * q != n) <;> simp
    -- the numbers of the format, in units
    have hsq : ∀ K : Nat, (((2 * K : Nat) : Rat) * p2 place) * (((2 * K : Nat) : Rat) * p2 place) = ((4 * (K * K) : Nat) : Rat) * (p2 place * p2 place) := by
      intro K
      rw [Rat.natCast_mul, Rat.natCast_mul, Rat.natCast_mul]
      have e2 : ((2 : Nat) : Rat) = 2 := rfl
      have e4 : ((4 : Nat) : Rat) = 4 := rfl
      rw [e2, e4]
      grind
    have hU : ∀ K : Nat, ((4 * n : Nat) : Rat) * (p2 place * p2 place) ≤ ((4 * (K * K) : Nat) : Rat) * (p2 place * p2 place) → D ≤ 2 * K := by
      intro K hK
      have h2 : n ≤ K * K := by
        apply Nat.le_of_not_lt
        intro h
        have := mul_lt_r (cast_lt (show 4 * (K * K) < 4 * n by omega)) hPP
        grind
      have h3 : q ≤ K := sq_le_iff.1 (by omega)
      by_cases h4 : q * q = n
      · rw [hD, h4]; simp; omega
      · have h5 : q < K := by
          apply Nat.lt_of_le_of_ne h3
          intro h
          subst h
          omega
        omega
    have hL : ∀ K : Nat, ((4 * (K * K) : Nat) : Rat) * (p2 place * p2 place) ≤ ((4 * n : Nat) : Rat) * (p2 place * p2 place) → 2 * K ≤ D := by
      intro K hK
      have h2 : K * K ≤ n := by
        apply Nat.le_of_not_lt
        intro h
        have := mul_lt_r (cast_lt (show 4 * n < 4 * (K * K) by omega)) hPP
        grind
      have h3 : K < q + 1 := by
        apply Nat.lt_of_not_le
        intro h
        have := sq_le_iff.2 h
        omega
      omega
    have hbig : 2 ^ 53 ≤ 2 * q := by
      have h2 : 2 ^ m.log2 ≤ m := Nat.log2_self_le hm
      have h3 : 2 ^ 108 ≤ n := by
        rw [hn']
        calc 2 ^ 108 ≤ 2 ^ (m.log2 + more) := Nat.pow_le_pow_right (by omega) (by omega)
          _ = 2 ^ m.log2 * 2 ^ more := Nat.pow_add ..
          _ ≤ m * 2 ^ more := Nat.mul_le_mul_right _ h2
      have h4 : 2 ^ 54 < q + 1 := by
        apply Nat.lt_of_not_le
        intro h
        have h5 := sq_le_iff.2 h
        have h6 : (2 : Nat) ^ 54 * 2 ^ 54 = 2 ^ 108 := by decide
        omega
      omega
    have hsmall : ∀ R, rungV Ieee.double R < ((2 ^ (Ieee.double.fractionBits + 1) : Nat) : Rat) * p2 place → rungV Ieee.double R < ((2 * q : Nat) : Rat) * p2 place := by
      intro R h
      rw [c5] at h
      have := mul_le_r (cast_le hbig) (Rat.le_of_lt hP)
      grind
    have hA : ∀ R, sg false ((m : Rat) * p2 i) ≤ rungV Ieee.double R * rungV Ieee.double R → (D : Rat) * p2 place ≤ rungV Ieee.double R := by
      intro R hR
      rw [hval] at hR
      rcases rung_units Ieee.double R place with ⟨K, hK⟩ | hlt
      · rw [hK, hsq] at hR
        rw [hK]
        exact mul_le_r (cast_le (hU K hR)) (Rat.le_of_lt hP)
      · exfalso
        have h2 := hsmall R hlt
        have h3 := rungV_nonneg Ieee.double R
        have h4 : rungV Ieee.double R * rungV Ieee.double R < (((2 * q : Nat) : Rat) * p2 place) * (((2 * q : Nat) : Rat) * p2 place) := by
          have e1 := Rat.mul_le_mul_of_nonneg_left (Rat.le_of_lt h2) h3
          have e2 := mul_lt_r h2 (show 0 < ((2 * q : Nat) : Rat) * p2 place by grind)
          grind
        rw [hsq] at h4
        have := mul_le_r (cast_le (show 4 * (q * q) ≤ 4 * n by omega)) (Rat.le_of_lt hPP)
        grind
    have hB : ∀ R, rungV Ieee.double R * rungV Ieee.double R ≤ sg false ((m : Rat) * p2 i) → rungV Ieee.double R ≤ (D : Rat) * p2 place := by
      intro R hR
      rw [hval] at hR
      rcases rung_units Ieee.double R place with ⟨K, hK⟩ | hlt
      · rw [hK, hsq] at hR
        rw [hK]
        exact mul_le_r (cast_le (hL K hR)) (Rat.le_of_lt hP)
      · have h2 := hsmall R hlt
        have := mul_le_r (cast_le hD1.1) (Rat.le_of_lt hP)
        grind
    -- some number of the format is above the root
    have hfit : sg false ((m : Rat) * p2 i) ≤ rungV Ieee.double (2045 * 4503599627370496 + 4503599627370496) * rungV Ieee.double (2045 * 4503599627370496 + 4503599627370496) := by
      have e := rungV_form Ieee.double 2045 4503599627370496 (.inr (by omega)) (by omega)
      rw [c1, c4] at e
      have e' : ((4503599627370496 : Nat) : Rat) * p2 (-1074 + ((2045 : Nat) : Int)) = p2 1023 := by
        rw [show (4503599627370496 : Nat) = 2 ^ 52 from rfl, ← p2_nat, ← p2_add]
        rfl
      rw [e, e', ← p2_add]
      obtain ⟨r, hr, hv'⟩ := hrep
      have h2 := rungV_le Ieee.double (show r ≤ 2046 * 4503599627370496 + 4503599627370496 by omega)
      have h3 := rungV_form Ieee.double 2046 4503599627370496 (.inr (by omega)) (by omega)
      rw [c1, c4] at h3
      have e'' : ((4503599627370496 : Nat) : Rat) * p2 (-1074 + ((2046 : Nat) : Int)) = p2 1024 := by
        rw [show (4503599627370496 : Nat) = 2 ^ 52 from rfl, ← p2_nat, ← p2_add]
        rfl
      rw [h3, e''] at h2
      have h4 := p2_mono (show (1024 : Int) ≤ 1023 + 1023 by decide)
      have h5 := rungV_nonneg Ieee.double r
      rcases hv' with h | h
      · rw [h]; grind
      · rw [h]; have := p2_pos (1023 + 1023); grind
    obtain ⟨r, h2, h3, h4, h5⟩ := write_core Ieee.double false D place (fun R => sg false ((m : Rat) * p2 i) ≤ rungV Ieee.double R * rungV Ieee.double R) (fun R => rungV Ieee.double R * rungV Ieee.double R ≤ sg false ((m : Rat) * p2 i)) hA hB (R0 := 2045 * 4503599627370496 + 4503599627370496) (by omega) hfit
    refine ⟨sg false (rungV Ieee.double r), ?_, ?_⟩
    · show Is .f64 (some (Ieee.double.nearest false D place)) _
      rw [h3]
      exact Is.of_word (k := .f64) false h2
    · refine ⟨rungV_nonneg _ r, ⟨r, h2, .inl rfl⟩, ?_, ?_⟩
      · rintro c ⟨R, hR, hc⟩ hc0 hcv
        have hcR : c = rungV Ieee.double R := by
          rcases hc with h | h
          · exact h
          · have h6 := rungV_nonneg Ieee.double R
            have h7 := rungV_eq_zero (f := Ieee.double) (R := R) (by grind)
            subst h7
            grind
        subst hcR
        exact rungV_le _ (h4 R hcv)
      · rintro c ⟨R, hR, hc⟩ hc0 hcv
        have hcR : c = rungV Ieee.double R := by
          rcases hc with h | h
          · exact h
          · have h6 := rungV_nonneg Ieee.double R
            have h7 := rungV_eq_zero (f := Ieee.double) (R := R) (by grind)
            subst h7
            grind
        subst hcR
        exact rungV_le _ (h5 R hcv)
end Go.Proofs.Ytmikeegecifbfaa
