/- Contracts: what is lost in a film. What is finite: of a finite result, what stands behind it; bounds. Plain: no program is named here. Doubled films that are finite are no greater than a power of two. Plain: no program is named here. Contracts: the least and the greatest number of a curve. How much of a backing is seen: the greatest difference is finite. Plain: no program is named here. -/
import Derived.Test.YtfpjiclkhjdihaaCR
import Derived.Test.YtfpjiclkhjdihaaHlf
import Derived.Test.YtfpjiclkhjdihaaDM
import Derived.Test.YtfpjiclkhjdihaaCP
import Derived.Test.YtfpjiclkhjdihaaHeld
import Derived.Test.YtfpjiclkhjdihaaCA
namespace Go.Proofs.Ytfpjiclkhjdihaa
open Go.RowKit
set_option maxRecDepth 100000

def lostAt (r t : Option Nat) : Option Nat := if flt (fsub (fsub (canon .f32 1065353216) r) t) (canon .f32 0) then canon .f32 0 else fsub (fsub (canon .f32 1065353216) r) t
def lostRes (f : Nat → Nat) : (Nat → Option Nat) × Int := if filmOk f then (fun i => lostAt (canon .f32 (f i)) (canon .f32 (f (32 + i))), 0) else (fun _ => canon .f32 0, 1)

theorem one32 : Is .f32 (canon .f32 1065353216) 1 := ⟨1065353216, false, 8388608, -23, by decide, by decide, by decide +kernel⟩
theorem zero32 : Is .f32 (canon .f32 0) 0 := ⟨0, false, 0, -149, by decide, by decide, by decide +kernel⟩
theorem share_is {x : Option Nat} (h : share x = true) : ∃ v, Is .f32 x v ∧ 0 ≤ v ∧ v ≤ 1 := by
  obtain ⟨b, s, m, e, rfl, hd⟩ := share_number h
  have hI : Is .f32 (some b) (sg s ((m : Rat) * p2 e)) := ⟨b, s, m, e, rfl, hd, rfl⟩
  unfold share at h
  rw [fge_is hI zero32, fle_is hI one32] at h
  simp at h
  exact ⟨_, hI, h.1, h.2⟩
theorem nearest_le (f : Ieee.Format) (m : Nat) (p : Int) : ∃ r, r ≤ f.infRung ∧ ∀ s, f.nearest s m p = f.word s r := by
  unfold Ieee.Format.nearest
  by_cases hm : m = 0
  · exact ⟨0, Nat.zero_le _, fun s => by rw [if_pos hm]⟩
  · exact ⟨_, Nat.min_le_right .., fun s => by rw [if_neg hm]; cases s <;> rfl⟩
/-- A number that is not below 0, with the sign of such a number. -/
def Plus (x : Option Nat) : Prop := ∃ b m e, x = some b ∧ FloatKind.f32.decode b = .number false m e
theorem sub_eq {x y : Option Nat} {a b : Nat} {s t : Bool} {m n : Nat} {i j : Int} (hx : x = some a) (hy : y = some b) (ha : FloatKind.f32.decode a = .number s m i) (hb : FloatKind.f32.decode b = .number t n j) :
    fsub x y = some (Ieee.single.nearest (if Ieee.signed s m (i - min i j).toNat + Ieee.signed (!t) n (j - min i j).toNat = 0 then s && !t else decide (Ieee.signed s m (i - min i j).toNat + Ieee.signed (!t) n (j - min i j).toNat < 0)) (Ieee.signed s m (i - min i j).toNat + Ieee.signed (!t) n (j - min i j).toNat).natAbs (min i j)) := by
  subst hx; subst hy
  show Option.map FloatKind.f32.format.write ((FloatKind.f32.decode a).sum (FloatKind.f32.decode b).opposite) = _
  rw [ha, hb]
  rfl
theorem dec_sub (s t : Bool) (m n : Nat) (i j : Int) : ((Ieee.signed s m (i - min i j).toNat + Ieee.signed (!t) n (j - min i j).toNat : Int) : Rat) * p2 (min i j) = sg s ((m : Rat) * p2 i) - sg t ((n : Rat) * p2 j) := by
  rw [Rat.intCast_add, Rat.add_mul, signed_dq s m i _ (by omega), signed_dq (!t) n j _ (by omega), sg_not]
  grind
theorem one_less {x : Option Nat} (h : share x = true) : Plus (fsub (canon .f32 1065353216) x) ∧ ∃ v, Is .f32 (fsub (canon .f32 1065353216) x) v := by
  obtain ⟨b, s, m, e, rfl, hd⟩ := share_number h
  obtain ⟨v, hv, h0, h1⟩ := share_is h
  have hI : Is .f32 (some b) (sg s ((m : Rat) * p2 e)) := ⟨b, s, m, e, rfl, hd, rfl⟩
  have hvv := hv.uniq hI
  have d1 : FloatKind.f32.decode 1065353216 = .number false 8388608 (-23) := by decide
  have k1 : canon .f32 1065353216 = some 1065353216 := by decide
  have heq := sub_eq k1 rfl d1 hd
  have hv1 := dec_sub false s 8388608 m (-23) e
  generalize Ieee.signed false 8388608 (-23 - min (-23) e).toNat + Ieee.signed (!s) m (e - min (-23) e).toNat = T at *
  have e1 : sg false (((8388608 : Nat) : Rat) * p2 (-23)) = 1 := by decide +kernel
  rw [e1, ← hvv] at hv1
  have hT : 0 ≤ T := by
    apply Int.not_lt.1
    intro hlt
    have h2 : (T : Rat) < 0 := Rat.intCast_neg_iff.2 hlt
    have h3 := mul_lt_r h2 (p2_pos (min (-23) e))
    grind
  have hS : (if T = 0 then false && !s else decide (T < 0)) = false := by
    by_cases h2 : T = 0
    · rw [if_pos h2]; rfl
    · rw [if_neg h2]; simp; omega
  rw [hS] at heq
  have h127 : (1 : Rat) ≤ p2 127 := by decide +kernel
  obtain ⟨w, h2, h3⟩ := is_sub one32 hv (k := .f32) (fit32 (by grind) (by grind))
  refine ⟨?_, w, h2⟩
  obtain ⟨b', s', m', e', h4, h5, h6⟩ := h2
  have h4' : fsub (canon .f32 1065353216) (some b) = some b' := h4
  rw [heq] at h4'
  injection h4' with h4'
  refine ⟨b', m', e', h4, ?_⟩
  rw [h5]
  congr 1
  obtain ⟨r, hr, hn⟩ := nearest_le Ieee.single T.natAbs (min (-23) e)
  rw [hn false] at h4'
  have h7 : FloatKind.f32.decode b' = Ieee.single.read b' := rfl
  rw [← h4'] at h5
  have hw := (word_parts Ieee.single false (show r < Ieee.single.signWeight by have := Ieee.single.infRung_lt; omega))
  obtain ⟨h8, _⟩ := fin_read Ieee.single (by decide) h5
  obtain ⟨m2, e2, h9, _⟩ := read_fin Ieee.single (Ieee.single.word false r) h8
  rw [hw.2] at h9
  have h10 : Ieee.single.read (Ieee.single.word false r) = .number s' m' e' := h5
  rw [h9] at h10
  injection h10 with h11
  exact h11.symm
/-- What is left is above 0, or below, or the number 0 with the sign of such. -/
theorem left_zero {x y : Option Nat} {u : Rat} (hx : Plus x) (hu : Is .f32 x u) (hy : share y = true) : (∃ v, Is .f32 (fsub x y) v) ∧ (flt (fsub x y) (canon .f32 0) = false → fgt (fsub x y) (canon .f32 0) = false → fsub x y = canon .f32 0) := by
  obtain ⟨b, m, e, rfl, hd⟩ := hx
  obtain ⟨c, t, n, j, rfl, hd'⟩ := share_number hy
  obtain ⟨v, hv, h0, h1⟩ := share_is hy
  have hI : Is .f32 (some b) (sg false ((m : Rat) * p2 e)) := ⟨b, false, m, e, rfl, hd, rfl⟩
  have hJ : Is .f32 (some c) (sg t ((n : Rat) * p2 j)) := ⟨c, t, n, j, rfl, hd', rfl⟩
  have hvv := hv.uniq hJ
  have huu := hu.uniq hI
  have hle := rep32_le hu.rep
  have hu0 : 0 ≤ u := by
    rw [huu]
    exact Rat.mul_nonneg Rat.natCast_nonneg (Rat.le_of_lt (p2_pos _))
  have hf : Fit Ieee.single (u - v) := by
    obtain ⟨r, hr, hrep⟩ := hu.rep
    have h2 := rungV_nonneg Ieee.single r
    have hmax : ∃ R, R < Ieee.single.infRung ∧ u ≤ rungV Ieee.single R ∧ 1 ≤ rungV Ieee.single R := by
      refine ⟨max r 1065353216, by have : r < 2139095040 := hr; rw [e32.2.1]; omega, ?_, ?_⟩
      · have h3 := rungV_le Ieee.single (show r ≤ max r 1065353216 by omega)
        have hrep' : u = rungV Ieee.single r ∨ u = -rungV Ieee.single r := hrep
        grind
      · have h3 := rungV_le Ieee.single (show 1065353216 ≤ max r 1065353216 by omega)
        have h4 : rungV Ieee.single 1065353216 = 1 := by
          have := rungV_form Ieee.single 126 8388608 (.inr (by decide)) (by decide)
          have e1 : (126 * Ieee.single.binade + 8388608) = 1065353216 := by decide
          rw [e1, e32.2.2.2.1] at this
          rw [this]
          decide +kernel
        grind
    obtain ⟨R, hR, h5, h6⟩ := hmax
    exact ⟨R, hR, by grind, by grind⟩
  obtain ⟨z, h2, h3⟩ := is_sub hu hv (k := .f32) hf
  refine ⟨⟨z, h2⟩, fun hl hg => ?_⟩
  have h2' : Is .f32 (fsub (some b) (some c)) z := h2
  rw [flt_is h2' zero32] at hl
  rw [fgt_is h2' zero32] at hg
  have hz : z = 0 := by simp at hl hg; grind
  -- nothing but 0 is rounded to 0
  have heq := sub_eq rfl rfl hd hd'
  have hv1 := dec_sub false t m n e j
  rw [← huu, ← hvv] at hv1
  obtain ⟨_, h4, _, _, _⟩ := num32 hd
  have h5 := (num32 hd').2.1
  have hT : Ieee.signed false m (e - min e j).toNat + Ieee.signed (!t) n (j - min e j).toNat = 0 := by
    generalize Ieee.signed false m (e - min e j).toNat + Ieee.signed (!t) n (j - min e j).toNat = T at *
    apply Decidable.byContradiction
    intro hT
    have hp := p2_mono (show (-149 : Int) ≤ min e j by omega)
    have hr := rep32_p2 (-149) (by decide) (by decide)
    have hq := p2_pos (-149)
    rcases Int.lt_or_gt_of_ne hT with h6 | h6
    · have h7 : (T : Rat) ≤ -1 := by have := Rat.intCast_le_intCast.2 (show T ≤ -1 by omega); simpa using this
      have h8 := mul_le_r h7 (Rat.le_of_lt (p2_pos (min e j)))
      have h9 := h3.up (-(p2 (-149))) hr.neg (by grind)
      grind
    · have h7 : (1 : Rat) ≤ T := by have := Rat.intCast_le_intCast.2 (show 1 ≤ T by omega); simpa using this
      have h8 := mul_le_r h7 (Rat.le_of_lt (p2_pos (min e j)))
      have h9 := h3.dn (p2 (-149)) hr (by grind)
      grind
  rw [heq, if_pos hT, hT]
  unfold Ieee.Format.nearest
  rfl
theorem lost_same {r t : Option Nat} (hr : share r = true) (ht : share t = true) : lostAt r t = if fgt (fsub (fsub (canon .f32 1065353216) r) t) (canon .f32 0) then fsub (fsub (canon .f32 1065353216) r) t else canon .f32 0 := by
  obtain ⟨h1, u, hu⟩ := one_less hr
  obtain ⟨⟨v, hv⟩, h3⟩ := left_zero h1 hu ht
  unfold lostAt
  rw [flt_is hv zero32, fgt_is hv zero32] at *
  by_cases ha : v < 0
  · have hb : ¬ 0 < v := by grind
    simp [ha, hb]
  · by_cases hb : 0 < v
    · simp [ha, hb]
    · simp only [ha, hb, decide_false, Bool.false_eq_true, if_false]
      exact h3 (by simp [ha]) (by simp [hb])

end Go.Proofs.Ytfpjiclkhjdihaa

namespace Go.Proofs.Ytfpjiclkhjdihaa
open Go.RowKit
set_option maxRecDepth 100000

theorem fin_dec {b : Nat} : fin (some b) = true ↔ ∃ s m e, FloatKind.f32.decode b = .number s m e := by
  rw [fin_is]
  constructor
  · rintro ⟨v, b', s, m, e, h, hd, _⟩
    injection h with h
    subst h
    exact ⟨s, m, e, hd⟩
  · rintro ⟨s, m, e, hd⟩
    exact ⟨_, b, s, m, e, rfl, hd, rfl⟩
theorem inf_fin (s : Bool) : fin (some (FloatKind.f32.format.write (.infinity s))) = false := by cases s <;> decide
theorem none_fin : fin none = false := rfl
theorem fin_cop {x y : Option Nat} {op : Ieee.Datum → Ieee.Datum → Option Ieee.Datum} {z : Option Nat} (hz : ∀ a b, x = some a → y = some b → z = Option.map FloatKind.f32.format.write (op (FloatKind.f32.decode a) (FloatKind.f32.decode b)))
    (hn : x = none ∨ y = none → z = none) (h : fin z = true) : ∃ a b d, x = some a ∧ y = some b ∧ op (FloatKind.f32.decode a) (FloatKind.f32.decode b) = some d ∧ (∀ s, d ≠ .infinity s) := by
  cases x with
  | none => rw [hn (.inl rfl)] at h; cases h
  | some a =>
    cases y with
    | none => rw [hn (.inr rfl)] at h; cases h
    | some b =>
      rw [hz a b rfl rfl] at h
      cases ho : op (FloatKind.f32.decode a) (FloatKind.f32.decode b) with
      | none => rw [ho] at h; cases h
      | some d =>
        refine ⟨a, b, d, rfl, rfl, ho, fun s hs => ?_⟩
        rw [ho, hs] at h
        rw [show Option.map FloatKind.f32.format.write (some (Ieee.Datum.infinity s)) = some (FloatKind.f32.format.write (.infinity s)) from rfl, inf_fin] at h
        cases h
theorem fin_add {x y : Option Nat} (h : fin (fadd x y) = true) : fin x = true ∧ fin y = true := by
  obtain ⟨a, b, d, rfl, rfl, ho, hd⟩ := fin_cop (x := x) (y := y) (op := Ieee.Datum.sum) (fun a b hx hy => by subst hx; subst hy; rfl) (by rintro (rfl | rfl); exact rfl; cases x <;> rfl) h
  rw [fin_dec, fin_dec]
  generalize FloatKind.f32.decode a = A at ho ⊢
  generalize FloatKind.f32.decode b = B at ho ⊢
  cases A <;> cases B <;> simp only [Ieee.Datum.sum] at ho
  · exact ⟨⟨_, _, _, rfl⟩, _, _, _, rfl⟩
  all_goals first
    | (cases ho; exact absurd rfl (hd _))
    | (split at ho <;> cases ho; exact absurd rfl (hd _))
    | cases ho
theorem fin_mul {x y : Option Nat} (h : fin (fmul x y) = true) : fin x = true ∧ fin y = true := by
  obtain ⟨a, b, d, rfl, rfl, ho, hd⟩ := fin_cop (x := x) (y := y) (op := Ieee.Datum.product) (fun a b hx hy => by subst hx; subst hy; rfl) (by rintro (rfl | rfl); exact rfl; cases x <;> rfl) h
  rw [fin_dec, fin_dec]
  generalize FloatKind.f32.decode a = A at ho ⊢
  generalize FloatKind.f32.decode b = B at ho ⊢
  cases A <;> cases B <;> simp only [Ieee.Datum.product] at ho
  · exact ⟨⟨_, _, _, rfl⟩, _, _, _, rfl⟩
  all_goals first
    | (cases ho; exact absurd rfl (hd _))
    | (split at ho <;> cases ho; exact absurd rfl (hd _))
    | cases ho
/-- A finite quotient: what is divided is finite; what it is divided by is a number that is not 0, or an infinity. -/
theorem fin_div {x y : Option Nat} (h : fin (fdiv x y) = true) : fin x = true ∧ ∃ b, y = some b ∧ ((∃ v, Is .f32 y v ∧ v ≠ 0) ∨ ∃ s, FloatKind.f32.decode b = .infinity s) := by
  obtain ⟨a, b, d, rfl, rfl, ho, hd⟩ := fin_cop (x := x) (y := y) (op := Ieee.Datum.quotient (FloatKind.f32.format.fractionBits + 2)) (fun a b hx hy => by subst hx; subst hy; rfl) (by rintro (rfl | rfl); exact rfl; cases x <;> rfl) h
  rw [fin_dec]
  have hI : ∀ s m e, FloatKind.f32.decode b = .number s m e → Is .f32 (some b) (sg s ((m : Rat) * p2 e)) := fun s m e hd => ⟨b, s, m, e, rfl, hd, rfl⟩
  generalize FloatKind.f32.decode a = A at ho ⊢
  generalize hB : FloatKind.f32.decode b = B at ho hI ⊢
  cases A with
  | number s m i =>
    refine ⟨⟨_, _, _, rfl⟩, b, rfl, ?_⟩
    cases B with
    | number t n j =>
      simp only [Ieee.Datum.quotient] at ho
      by_cases hn : n = 0
      · rw [if_pos hn] at ho
        split at ho
        · cases ho
        · cases ho
          exact absurd rfl (hd _)
      · refine .inl ⟨_, hI t n j rfl, ?_⟩
        have h1 : (0 : Rat) < (n : Rat) := cast_lt (Nat.pos_of_ne_zero hn)
        have h2 := Rat.mul_pos h1 (p2_pos j)
        cases t <;> simp only [sg] <;> grind
    | infinity t => exact .inr ⟨t, hB⟩
    | nan t f => cases ho
  | infinity s =>
    cases B <;> simp only [Ieee.Datum.quotient] at ho <;> first | (cases ho; exact absurd rfl (hd _)) | cases ho
  | nan s f => cases B <;> cases ho
theorem rung32_top : rungV Ieee.single 2139095040 = p2 128 := by
  have h := rungV_form Ieee.single 254 8388608 (.inr (by decide)) (by decide)
  have e1 : 254 * Ieee.single.binade + 8388608 = 2139095040 := by decide
  rw [e1] at h
  rw [h]
  decide +kernel
theorem nearest_cases (s : Bool) (m : Nat) (p : Int) : (∃ r, r < Ieee.single.infRung ∧ Ieee.single.nearest s m p = Ieee.single.word s r ∧ (m : Rat) * p2 p < p2 128 ∧ ∀ R, rungV Ieee.single R ≤ (m : Rat) * p2 p → rungV Ieee.single R ≤ rungV Ieee.single r) ∨
    Ieee.single.nearest s m p = FloatKind.f32.format.write (.infinity s) := by
  have hI : Ieee.single.infRung = 2139095040 := by decide
  by_cases hm : m = 0
  · subst hm
    left
    have hz : ((0 : Nat) : Rat) * p2 p = 0 := by simp
    rw [hz]
    refine ⟨0, by omega, by unfold Ieee.Format.nearest; rw [if_pos rfl], p2_pos _, fun R h => ?_⟩
    rw [rungV_zero]
    exact h
  · obtain ⟨r, h1, h2, h3, _⟩ := nearest_spec Ieee.single s m p hm
    by_cases hr : r < Ieee.single.infRung
    · left
      refine ⟨r, hr, by rw [h1, Nat.min_eq_left (by omega)], ?_, fun R h => rungV_le _ (h3 R h)⟩
      apply Rat.not_le.1
      intro h4
      rw [← rung32_top] at h4
      have := h3 _ h4
      omega
    · right
      rw [h1, Nat.min_eq_right (by omega)]
      rfl
theorem mul_parts {x y : Option Nat} {u v : Rat} (hx : Is .f32 x u) (hy : Is .f32 y v) :
    ∃ (s : Bool) (m : Nat) (p : Int), u * v = sg s ((m : Rat) * p2 p) ∧ fmul x y = some (Ieee.single.nearest s m p) := by
  obtain ⟨a, s, m, i, rfl, hd, rfl⟩ := hx
  obtain ⟨b, t, n, j, rfl, hd', rfl⟩ := hy
  refine ⟨s ^^ t, m * n, i + j, ?_, ?_⟩
  · rw [← sg_mul, Rat.natCast_mul, p2_add]
    congr 1
    grind
  · show Option.map FloatKind.f32.format.write ((FloatKind.f32.decode a).product (FloatKind.f32.decode b)) = _
    rw [hd, hd']
    rfl
theorem mul_fin_lt {x y : Option Nat} {u v : Rat} (hx : Is .f32 x u) (hy : Is .f32 y v) (h : fin (fmul x y) = true) : u * v < p2 128 ∧ -(u * v) < p2 128 := by
  obtain ⟨s, m, p, h1, h2⟩ := mul_parts hx hy
  rcases nearest_cases s m p with ⟨r, hr, h3, h4, h5⟩ | h3
  · have h6 : (0 : Rat) ≤ (m : Rat) * p2 p := Rat.mul_nonneg Rat.natCast_nonneg (Rat.le_of_lt (p2_pos _))
    have h7 := p2_pos 128
    rw [h1]
    cases s <;> simp only [sg] <;> grind
  · rw [h2, h3, inf_fin] at h
    cases h
theorem sq_lo {x : Option Nat} {v : Rat} (hx : Is .f32 x v) (e : Int) (he : -149 ≤ e) (he2 : e ≤ 127) (hc : p2 e ≤ v * v) : fmul x x = some (FloatKind.f32.format.write (.infinity false)) ∨ ∃ w, Is .f32 (fmul x x) w ∧ p2 e ≤ w := by
  obtain ⟨b, t, n, j, rfl, hd, rfl⟩ := hx
  have h2 : fmul (some b) (some b) = some (Ieee.single.nearest false (n * n) (j + j)) := by
    show Option.map FloatKind.f32.format.write ((FloatKind.f32.decode b).product (FloatKind.f32.decode b)) = _
    rw [hd]
    show some (Ieee.single.nearest (t ^^ t) (n * n) (j + j)) = _
    rw [Bool.xor_self]
  have h1 : sg t ((n : Rat) * p2 j) * sg t ((n : Rat) * p2 j) = ((n * n : Nat) : Rat) * p2 (j + j) := by
    rw [Rat.natCast_mul, p2_add]
    cases t <;> simp only [sg] <;> grind
  rw [h1] at hc
  rcases nearest_cases false (n * n) (j + j) with ⟨r, hr, h3, h4, h5⟩ | h3
  · right
    rw [h2, h3]
    refine ⟨_, Is.of_word false hr, ?_⟩
    obtain ⟨R, hR, h6⟩ := rep32_p2 e he he2
    have h7 := rungV_nonneg Ieee.single R
    have h8 := p2_pos e
    rcases h6 with h6 | h6
    · rw [h6] at hc ⊢
      exact h5 R hc
    · grind
  · left
    rw [h2, h3]
/-- A finite number divided by an infinity. -/
theorem div_inf {x : Option Nat} {v : Rat} {b : Nat} {s : Bool} (hx : Is .f32 x v) (hb : FloatKind.f32.decode b = .infinity s) : Is .f32 (fdiv x (some b)) 0 := by
  obtain ⟨a, t, m, i, rfl, hd, rfl⟩ := hx
  have h2 : fdiv (some a) (some b) = some (Ieee.single.nearest (t ^^ s) 0 0) := by
    show Option.map FloatKind.f32.format.write ((FloatKind.f32.decode a).quotient (FloatKind.f32.format.fractionBits + 2) (FloatKind.f32.decode b)) = _
    rw [hd, hb]
    rfl
  rw [h2]
  cases (t ^^ s)
  · exact ⟨_, false, 0, -149, rfl, by decide, by simp [sg]⟩
  · exact ⟨_, true, 0, -149, rfl, by decide, by simp [sg]⟩
/-- A quotient as it is written: no less than half the exact one. -/
theorem div_parts {x y : Option Nat} {u v : Rat} (hx : Is .f32 x u) (hy : Is .f32 y v) (hv0 : v ≠ 0) :
    ∃ (s : Bool) (m : Nat) (p : Int), fdiv x y = some (Ieee.single.nearest s m p) ∧ (u / v ≤ 2 * ((m : Rat) * p2 p) ∧ -(u / v) ≤ 2 * ((m : Rat) * p2 p)) ∧ ∃ V, 0 ≤ V ∧ u / v = sg s V := by
  obtain ⟨a, s, m, i, rfl, hd, rfl⟩ := hx
  obtain ⟨b, t, n, j, rfl, hd', rfl⟩ := hy
  have h1 : fdiv (some a) (some b) = Option.map FloatKind.f32.format.write ((FloatKind.f32.decode a).quotient (FloatKind.f32.format.fractionBits + 2) (FloatKind.f32.decode b)) := rfl
  have hn : n ≠ 0 := by
    intro h
    subst h
    apply hv0
    cases t <;> simp [sg]
  rw [h1, hd, hd']
  simp only [Ieee.Datum.quotient, hn, if_false]
  obtain ⟨more, hmore⟩ : ∃ more, more = FloatKind.f32.format.fractionBits + 2 + n.log2 - m.log2 := ⟨_, rfl⟩
  rw [← hmore]
  generalize hq : (m <<< more) / n = q
  generalize ht : (m <<< more) % n = c
  have e0 : m * 2 ^ more = n * q + c := by rw [← hq, ← ht, ← Nat.shiftLeft_eq, Nat.div_add_mod]
  have hc : c < n := by rw [← ht]; exact Nat.mod_lt _ (Nat.pos_of_ne_zero hn)
  refine ⟨s ^^ t, 2 * q + (c != 0).toNat, i - j - (more : Int) - 1, rfl, ?_⟩
  have hbig : m ≠ 0 → 1 ≤ q := by
    intro hm
    have h2 : 2 ^ m.log2 ≤ m := Nat.log2_self_le hm
    have h3 : n < 2 ^ (n.log2 + 1) := Nat.lt_log2_self
    have h4 : 2 ^ (n.log2 + 1) ≤ m * 2 ^ more := by
      calc 2 ^ (n.log2 + 1) ≤ 2 ^ (m.log2 + more) := Nat.pow_le_pow_right (by omega) (by omega)
        _ = 2 ^ m.log2 * 2 ^ more := Nat.pow_add ..
        _ ≤ m * 2 ^ more := Nat.mul_le_mul_right _ h2
    apply Nat.pos_of_ne_zero
    intro h0
    subst h0
    omega
  have hle : m * 2 ^ more ≤ n * (2 * q) := by
    by_cases hm : m = 0
    · subst hm; simp
    · have := Nat.mul_le_mul_left n (hbig hm)
      rw [Nat.two_mul, Nat.mul_add]
      omega
  obtain ⟨place, hplace⟩ : ∃ place, place = i - j - (more : Int) - 1 := ⟨_, rfl⟩
  rw [← hplace]
  have hn0 : (0 : Rat) < (n : Rat) := by have := cast_lt (Nat.pos_of_ne_zero hn); exact this
  have hP := p2_pos place
  have hJ := p2_pos j
  obtain ⟨V, hV⟩ : ∃ V : Rat, V = ((m : Rat) * p2 i) / ((n : Rat) * p2 j) := ⟨_, rfl⟩
  have hnj := Rat.mul_pos hn0 hJ
  have e2 : V * ((n : Rat) * p2 j) = (m : Rat) * p2 i := by
    rw [hV, Rat.div_mul_cancel]
    grind
  have e1 : p2 i = p2 place * (2 * ((2 ^ more : Nat) : Rat)) * p2 j := by
    rw [← p2_nat, ← p2_one, ← p2_add, ← p2_add, ← p2_add]
    congr 1
    omega
  have e3 : ((m * 2 ^ more : Nat) : Rat) ≤ ((n * (2 * q) : Nat) : Rat) := cast_le hle
  rw [Rat.natCast_mul, Rat.natCast_mul, Rat.natCast_mul] at e3
  have e4 : ((2 : Nat) : Rat) = 2 := rfl
  rw [e4] at e3
  have hVle : V ≤ 4 * ((q : Rat) * p2 place) := by
    apply Rat.le_of_mul_le_mul_right (c := (n : Rat) * p2 j) _ hnj
    rw [e2, e1]
    have h5 := mul_le_r e3 (Rat.le_of_lt (Rat.mul_pos hP hJ))
    grind
  have hV0 : 0 ≤ V := by
    apply Rat.le_of_mul_le_mul_right (c := (n : Rat) * p2 j) _ hnj
    rw [e2]
    have := Rat.mul_nonneg (show (0 : Rat) ≤ (m : Rat) from Rat.natCast_nonneg) (Rat.le_of_lt (p2_pos i))
    grind
  have hM : (((2 * q : Nat)) : Rat) * p2 place ≤ ((2 * q + (c != 0).toNat : Nat) : Rat) * p2 place := mul_le_r (cast_le (by omega)) (Rat.le_of_lt hP)
  rw [Rat.natCast_mul, e4] at hM
  rw [← sg_div, ← hV]
  generalize ((2 * q + (c != 0).toNat : Nat) : Rat) = D at *
  refine ⟨?_, V, hV0, rfl⟩
  cases (s ^^ t) <;> simp only [sg] <;> grind
theorem div_lt {x y : Option Nat} {u v w : Rat} (hx : Is .f32 x u) (hy : Is .f32 y v) (hv0 : v ≠ 0) (hw : Is .f32 (fdiv x y) w) (e : Int) (he : -149 ≤ e) (he2 : e ≤ 127) (h1 : w < p2 e) (h2 : -w < p2 e) : u / v ≤ p2 (e + 1) ∧ -(u / v) ≤ p2 (e + 1) := by
  obtain ⟨s, m, p, h3, ⟨h4, h5⟩, _⟩ := div_parts hx hy hv0
  have hlt : (m : Rat) * p2 p < p2 e := by
    rcases nearest_cases s m p with ⟨r, hr, h6, h7, h8⟩ | h6
    · apply Rat.not_le.1
      intro h9
      obtain ⟨R, hR, h10⟩ := rep32_p2 e he he2
      have h11 := rungV_nonneg Ieee.single R
      have h12 := p2_pos e
      have h13 : p2 e = rungV Ieee.single R := by rcases h10 with h10 | h10 <;> grind
      have h14 := h8 R (by rw [← h13]; exact h9)
      rw [h3, h6] at hw
      have h15 := hw.uniq (Is.of_word (k := .f32) s hr)
      have h16 : FloatKind.f32.format = Ieee.single := rfl
      rw [h16] at h15
      rw [h13] at h1 h2
      cases s <;> simp only [sg] at h15 <;> grind
    · rw [h3, h6] at hw
      have := fin_is.2 ⟨_, hw⟩
      rw [inf_fin] at this
      cases this
  rw [p2_succ]
  constructor <;> grind
theorem quot_bound {n d q a B : Rat} (hq : q * d = n) (ha : 0 < a) (hd : d ≤ -a ∨ a ≤ d) (hn : n ≤ a * B) (hn' : -n ≤ a * B) : q ≤ B ∧ -q ≤ B := by
  constructor
  · apply Rat.not_lt.1
    intro h
    rcases hd with hd | hd
    · have h1 := mul_lt_r h ha
      by_cases h0 : 0 ≤ q
      · have h2 := Rat.mul_nonneg h0 (show 0 ≤ -a - d by grind)
        grind
      · have h2 := Rat.mul_nonneg (show 0 ≤ -q by grind) (show 0 ≤ -d by grind)
        have h3 : B < 0 := by grind
        have h4 := Rat.mul_pos (show 0 < -B by grind) ha
        grind
    · have h1 := mul_lt_r h ha
      by_cases h0 : 0 ≤ q
      · have h2 := Rat.mul_nonneg h0 (show 0 ≤ d - a by grind)
        grind
      · have h3 : B < 0 := by grind
        have h4 := Rat.mul_pos (show 0 < -B by grind) ha
        grind
  · apply Rat.not_lt.1
    intro h
    have h1 := mul_lt_r h ha
    rcases hd with hd | hd
    · by_cases h0 : 0 ≤ -q
      · have h2 := Rat.mul_nonneg h0 (show 0 ≤ -a - d by grind)
        grind
      · have h3 : B < 0 := by grind
        have h4 := Rat.mul_pos (show 0 < -B by grind) ha
        grind
    · by_cases h0 : 0 ≤ -q
      · have h2 := Rat.mul_nonneg h0 (show 0 ≤ d - a by grind)
        grind
      · have h3 : B < 0 := by grind
        have h4 := Rat.mul_pos (show 0 < -B by grind) ha
        grind
theorem add_parts {x y : Option Nat} {u v : Rat} (hx : Is .f32 x u) (hy : Is .f32 y v) :
    ∃ (s : Bool) (m : Nat) (p : Int), u + v = sg s ((m : Rat) * p2 p) ∧ fadd x y = some (Ieee.single.nearest s m p) := by
  obtain ⟨a, s, m, i, rfl, hd, rfl⟩ := hx
  obtain ⟨b, t, n, j, rfl, hd', rfl⟩ := hy
  have h1 : fadd (some a) (some b) = Option.map FloatKind.f32.format.write ((FloatKind.f32.decode a).sum (FloatKind.f32.decode b)) := rfl
  rw [h1, hd, hd']
  simp only [Ieee.Datum.sum]
  generalize hT : Ieee.signed s m (i - min i j).toNat + Ieee.signed t n (j - min i j).toNat = T
  have hv : (T : Rat) * p2 (min i j) = sg s ((m : Rat) * p2 i) + sg t ((n : Rat) * p2 j) := by
    rw [← hT, Rat.intCast_add, Rat.add_mul, signed_dq s m i _ (by omega), signed_dq t n j _ (by omega)]
  generalize hS : (if T = 0 then s && t else decide (T < 0)) = S
  refine ⟨S, T.natAbs, min i j, ?_, rfl⟩
  rw [← hv, ← hS]
  by_cases h0 : T = 0
  · subst h0
    unfold sg
    simp
  · rw [if_neg h0]
    by_cases h2 : T < 0
    · obtain ⟨q, hq⟩ : ∃ q : Nat, T = -(q : Int) := ⟨T.natAbs, by omega⟩
      subst hq
      unfold sg
      simp only [h2, decide_true, if_true, Int.natAbs_neg, Int.natAbs_natCast, Rat.intCast_neg, Rat.intCast_natCast]
      grind
    · obtain ⟨q, hq⟩ : ∃ q : Nat, T = (q : Int) := ⟨T.natAbs, by omega⟩
      subst hq
      unfold sg
      simp only [h2, decide_false, Bool.false_eq_true, if_false, Int.natAbs_natCast, Rat.intCast_natCast]
theorem plus_word {z : Option Nat} {m : Nat} {p : Int} {w : Rat} (hz : z = some (Ieee.single.nearest false m p)) (hw : Is .f32 z w) : 0 ≤ w := by
  subst hz
  rcases nearest_cases false m p with ⟨r, hr, h6, _⟩ | h6
  · rw [h6] at hw
    have h15 := hw.uniq (Is.of_word (k := .f32) false hr)
    rw [h15]
    exact rungV_nonneg _ _
  · rw [h6] at hw
    have := fin_is.2 ⟨_, hw⟩
    rw [inf_fin] at this
    cases this
theorem add_plus {x y : Option Nat} {u v w : Rat} (hx : Is .f32 x u) (hy : Is .f32 y v) (hw : Is .f32 (fadd x y) w) (h : 0 < u + v) : 0 ≤ w := by
  obtain ⟨s, m, p, h1, h2⟩ := add_parts hx hy
  have h6 : (0 : Rat) ≤ (m : Rat) * p2 p := Rat.mul_nonneg Rat.natCast_nonneg (Rat.le_of_lt (p2_pos _))
  cases s with
  | false => exact plus_word h2 hw
  | true => simp only [sg] at h1; grind
theorem mul_plus {x y : Option Nat} {u v w : Rat} (hx : Is .f32 x u) (hy : Is .f32 y v) (hw : Is .f32 (fmul x y) w) (h : 0 ≤ u * v) : 0 ≤ w := by
  by_cases h0 : u * v = 0
  · obtain ⟨w', h1, h2⟩ := is_mul hx hy (k := .f32) (fit32 (by have := p2_pos 127; grind) (by have := p2_pos 127; grind))
    rw [hw.uniq h1]
    exact h2.dn 0 zero32.rep h
  · obtain ⟨s, m, p, h1, h2⟩ := mul_parts hx hy
    have h6 : (0 : Rat) ≤ (m : Rat) * p2 p := Rat.mul_nonneg Rat.natCast_nonneg (Rat.le_of_lt (p2_pos _))
    cases s with
    | false => exact plus_word h2 hw
    | true => simp only [sg] at h1; grind
theorem div_plus {x y : Option Nat} {u v w : Rat} (hx : Is .f32 x u) (hy : Is .f32 y v) (hw : Is .f32 (fdiv x y) w) (h : 0 ≤ u) (hv : 0 < v) : 0 ≤ w := by
  have hv0 : v ≠ 0 := by grind
  have hq : u / v * v = u := Rat.div_mul_cancel hv0
  have h7 : 0 ≤ u / v := by
    apply Rat.not_lt.1
    intro h8
    have := Rat.mul_pos (show 0 < -(u / v) by grind) hv
    grind
  by_cases h0 : u / v = 0
  · obtain ⟨w', h1, h2⟩ := is_div hx hy hv0 (k := .f32) (fit32 (by have := p2_pos 127; grind) (by have := p2_pos 127; grind))
    rw [hw.uniq h1]
    exact h2.dn 0 zero32.rep h7
  · obtain ⟨s, m, p, h1, _, V, h2, h3⟩ := div_parts hx hy hv0
    cases s with
    | false => exact plus_word h1 hw
    | true => simp only [sg] at h3; grind
end Go.Proofs.Ytfpjiclkhjdihaa

namespace Go.Proofs.Ytfpjiclkhjdihaa
open Go.RowKit
set_option maxRecDepth 100000

theorem rep_min {v : Rat} (h : Rep Ieee.single v) (h0 : v ≠ 0) : p2 (-149) ≤ v ∨ v ≤ -p2 (-149) := by
  obtain ⟨r, hr, h⟩ := h
  have h1 : rungV Ieee.single 1 = p2 (-149) := by
    have h := rungV_form Ieee.single 0 1 (.inl rfl) (by decide)
    rw [show 0 * Ieee.single.binade + 1 = 1 by simp] at h
    rw [h]
    decide +kernel
  have h2 : r ≠ 0 := by
    intro h2
    subst h2
    rw [rungV_zero] at h
    grind
  have h3 := rungV_le Ieee.single (show 1 ≤ r by omega)
  rw [h1] at h3
  rcases h with h | h <;> grind
/-- A product is not much greater than it should be. -/
theorem mul_near2 {x y : Option Nat} {u v b : Rat} (hx : Is .f32 x u) (hy : Is .f32 y v) (h1 : u * v ≤ b) (h2 : -(u * v) ≤ b) (hb : b ≤ p2 127) : ∃ w, Is .f32 (fmul x y) w ∧ w ≤ 2 * b + p2 (-149) ∧ -w ≤ 2 * b + p2 (-149) := by
  obtain ⟨w, h3, h4⟩ := is_mul hx hy (fit32 (v := u * v) (by grind) (by grind))
  refine ⟨w, h3, ?_⟩
  have h4 : Rnd Ieee.single (u * v) w := h4
  have h5 := h4.near (fit32 (v := u * v) (by grind) (by grind)) h1 h2
  rw [show Ieee.single.leastPlace = -149 by decide, show -((Ieee.single.fractionBits : Nat) : Int) = -23 by decide] at h5
  have h6 : (0 : Rat) ≤ b := by grind
  have h7 : b * p2 (-23) ≤ b := by
    have h8 := Rat.mul_nonneg h6 (show (0 : Rat) ≤ 1 - p2 (-23) by decide +kernel)
    grind
  have h9 := h4.neg.near (fit32 (v := -(u * v)) (by grind) (by grind)) h2 (by grind)
  rw [show Ieee.single.leastPlace = -149 by decide, show -((Ieee.single.fractionBits : Nat) : Int) = -23 by decide] at h9
  constructor <;> grind
theorem dbl_quot {r t : Option Nat} {v nv qv : Rat} (hr : Is .f32 r v) (hnv : Is .f32 (fmul (fmul t t) r) nv) (hqv : Is .f32 (fdiv (fmul (fmul t t) r) (dblD r)) qv) (ht' : fin (fmul (fdiv (fmul t t) (dblD r)) (fdiv (fmul t t) (dblD r))) = true) : qv ≤ p2 99 ∧ -qv ≤ p2 99 := by
  have hp99 := p2_pos 99
  obtain ⟨_, b, hb, hcase⟩ := fin_div (fin_is.2 ⟨_, hqv⟩)
  have hn128 := rep32_le hnv.rep
  by_cases hv : p2 32 ≤ v * v
  · rcases sq_lo hr 32 (by decide) (by decide) hv with hi | ⟨w, hw, hw2⟩
    · have hd : dblD r = some 4286578688 := by unfold dblD; rw [hi]; decide
      rw [hd] at hqv
      have h0 := div_inf (b := 4286578688) (s := true) hnv (by decide)
      have := hqv.uniq h0
      grind
    · have h1 : (1 : Rat) ≤ p2 31 := by decide +kernel
      have h32 : p2 32 = 2 * p2 31 := p2_succ 31
      obtain ⟨dv, hdv, hR⟩ := is_sub one32 hw (k := .f32) (Fit.le hw.rep.fit (by grind) (by grind))
      have hdv' : Is .f32 (dblD r) dv := hdv
      have h2 : dv ≤ -p2 31 := hR.up _ (rep32_p2 31 (by decide) (by decide)).neg (by grind)
      have h0 : dv ≠ 0 := by grind
      have hq : nv / dv * dv = nv := Rat.div_mul_cancel h0
      have hpp : p2 31 * p2 97 = p2 128 := by rw [← p2_add]; rfl
      obtain ⟨h3, h4⟩ := quot_bound (B := p2 97) hq (p2_pos 31) (.inl h2) (by rw [hpp]; exact hn128.1) (by rw [hpp]; exact hn128.2)
      have h97 : p2 97 ≤ p2 127 := p2_mono (by decide)
      have h99 : p2 97 ≤ p2 99 := p2_mono (by decide)
      obtain ⟨w2, h5, h6⟩ := is_div hnv hdv' h0 (fit32 (v := nv / dv) (by grind) (by grind))
      have h7 := hqv.uniq h5
      have h8 := h6.up _ (rep32_p2 97 (by decide) (by decide)) h3
      have h9 := h6.dn _ (rep32_p2 97 (by decide) (by decide)).neg (by grind)
      grind
  · have hv1 : v * v < p2 32 := Rat.not_le.1 hv
    have hv0 : 0 ≤ v * v := by
      rcases Rat.le_total (a := 0) (b := v) with h | h
      · exact Rat.mul_nonneg h h
      · have := Rat.mul_nonneg (show 0 ≤ -v by grind) (show 0 ≤ -v by grind)
        grind
    have hv16 : v ≤ p2 16 ∧ -v ≤ p2 16 := by
      have h16 : p2 16 * p2 16 = p2 32 := by rw [← p2_add]; rfl
      have hp16 := p2_pos 16
      constructor
      · apply Rat.not_lt.1
        intro h
        have := Rat.mul_pos (show 0 < v - p2 16 by grind) (show 0 < v + p2 16 by grind)
        grind
      · apply Rat.not_lt.1
        intro h
        have := Rat.mul_pos (show 0 < -v - p2 16 by grind) (show 0 < -v + p2 16 by grind)
        grind
    have h127 : p2 32 ≤ p2 127 := p2_mono (by decide)
    have hp32 := p2_pos 32
    obtain ⟨w, hw, hwR⟩ := is_mul hr hr (k := .f32) (fit32 (v := v * v) (by grind) (by grind))
    have hw1 := hwR.up _ (rep32_p2 32 (by decide) (by decide)) (by grind)
    have hw0 := hwR.dn 0 (zero32.rep) hv0
    have h33 : p2 33 = 2 * p2 32 := p2_succ 32
    have h1p : (1 : Rat) ≤ p2 32 := by decide +kernel
    have h127' : p2 33 ≤ p2 127 := p2_mono (by decide)
    obtain ⟨dv, hdv, hR⟩ := is_sub one32 hw (k := .f32) (fit32 (v := 1 - w) (by grind) (by grind))
    have hdv' : Is .f32 (dblD r) dv := hdv
    have hd1 := hR.up _ (rep32_p2 33 (by decide) (by decide)) (by grind)
    have hd2 := hR.dn _ (rep32_p2 33 (by decide) (by decide)).neg (by grind)
    have h0 : dv ≠ 0 := by
      rcases hcase with ⟨v2, h2, h3⟩ | ⟨s, h2⟩
      · have := h2.uniq hdv'
        grind
      · obtain ⟨b', s', m', e', h4, h5, _⟩ := hdv'
        rw [hb] at h4
        injection h4 with h4
        subst h4
        rw [h2] at h5
        cases h5
    -- what is let through
    obtain ⟨hft, _⟩ := fin_mul ht'
    obtain ⟨hfu, _⟩ := fin_div hft
    obtain ⟨tv, htv⟩ := fin_is.1 hft
    obtain ⟨uv, huv⟩ := fin_is.1 hfu
    have ht2 := (mul_fin_lt htv htv ht').1
    have ht64 : tv < p2 64 ∧ -tv < p2 64 := by
      have h64 : p2 64 * p2 64 = p2 128 := by rw [← p2_add]; rfl
      have hp64 := p2_pos 64
      constructor
      · apply Rat.not_le.1
        intro h
        have := Rat.mul_nonneg (show 0 ≤ tv - p2 64 by grind) (show 0 ≤ tv + p2 64 by grind)
        grind
      · apply Rat.not_le.1
        intro h
        have := Rat.mul_nonneg (show 0 ≤ -tv - p2 64 by grind) (show 0 ≤ -tv + p2 64 by grind)
        grind
    obtain ⟨hl1, hl2⟩ := div_lt huv hdv' h0 htv 64 (by decide) (by decide) ht64.1 ht64.2
    have hq : uv / dv * dv = uv := Rat.div_mul_cancel h0
    generalize hQ : uv / dv = Q at hl1 hl2 hq
    -- the size of what is divided by
    obtain ⟨a, ha0, ha, hda⟩ : ∃ a : Rat, p2 (-149) ≤ a ∧ a ≤ p2 33 ∧ (dv = a ∨ dv = -a) := by
      rcases rep_min hdv'.rep h0 with h | h
      · exact ⟨dv, h, hd1, .inl rfl⟩
      · exact ⟨-dv, by grind, by grind, .inr (by grind)⟩
    have hap : 0 < a := by have := p2_pos (-149); grind
    have e65 : p2 65 * p2 16 = p2 81 := by rw [← p2_add]; rfl
    have hQv : Q * v ≤ p2 81 ∧ -(Q * v) ≤ p2 81 := by
      have h65 := p2_pos 65
      have h16 := p2_pos 16
      have a1 := Rat.mul_nonneg (show 0 ≤ p2 (64 + 1) - Q by grind) (show 0 ≤ p2 16 + v by grind)
      have a2 := Rat.mul_nonneg (show 0 ≤ p2 (64 + 1) + Q by grind) (show 0 ≤ p2 16 - v by grind)
      have a3 := Rat.mul_nonneg (show 0 ≤ p2 (64 + 1) - Q by grind) (show 0 ≤ p2 16 - v by grind)
      have a4 := Rat.mul_nonneg (show 0 ≤ p2 (64 + 1) + Q by grind) (show 0 ≤ p2 16 + v by grind)
      rw [show (64 : Int) + 1 = 65 by decide] at a1 a2 a3 a4
      constructor <;> grind
    have hb1 : uv * v ≤ p2 81 * a ∧ -(uv * v) ≤ p2 81 * a := by
      have b1 := Rat.mul_nonneg (show 0 ≤ p2 81 - Q * v by grind) (Rat.le_of_lt hap)
      have b2 := Rat.mul_nonneg (show 0 ≤ p2 81 + Q * v by grind) (Rat.le_of_lt hap)
      rw [← hq]
      rcases hda with h | h <;> subst h <;> constructor <;> grind
    have hb2 : p2 81 * a ≤ p2 127 := by
      have := Rat.mul_nonneg (Rat.le_of_lt (p2_pos 81)) (show 0 ≤ p2 33 - a by grind)
      have e1 : p2 81 * p2 33 = p2 114 := by rw [← p2_add]; rfl
      have := p2_mono (show (114 : Int) ≤ 127 by decide)
      grind
    obtain ⟨n2, hn2, hn3, hn4⟩ := mul_near2 huv hr hb1.1 hb1.2 hb2
    have hnn := hn2.uniq hnv
    subst hnn
    have e83 : p2 83 = 2 * (2 * p2 81) := by rw [← p2_succ, ← p2_succ]; rfl
    have hbig : 2 * (p2 81 * a) + p2 (-149) ≤ a * p2 83 := by
      have h1 : (1 : Rat) ≤ p2 81 := by decide +kernel
      have := Rat.mul_nonneg (show 0 ≤ p2 81 - 1 by grind) (Rat.le_of_lt hap)
      rw [e83]
      grind
    have hqq : n2 / dv * dv = n2 := Rat.div_mul_cancel h0
    obtain ⟨h3, h4⟩ := quot_bound (B := p2 83) hqq hap (by rcases hda with h | h <;> grind) (by grind) (by grind)
    have h97 : p2 83 ≤ p2 127 := p2_mono (by decide)
    have h99 : p2 83 ≤ p2 99 := p2_mono (by decide)
    obtain ⟨w2, h5, h6⟩ := is_div hnv hdv' h0 (fit32 (v := n2 / dv) (by grind) (by grind))
    have h7 := hqv.uniq h5
    have h8 := h6.up _ (rep32_p2 83 (by decide) (by decide)) h3
    have h9 := h6.dn _ (rep32_p2 83 (by decide) (by decide)).neg (by grind)
    grind
theorem dbl_bound {r t : Option Nat} {v : Rat} (e : Int) (he : 100 ≤ e) (he2 : e ≤ 120) (hr : Is .f32 r v) (h1 : v ≤ p2 e) (h2 : -v ≤ p2 e) (hr' : fin (dbl (r, t)).1 = true) (ht' : fin (fmul (dbl (r, t)).2 (dbl (r, t)).2) = true) :
    ∃ v', Is .f32 (dbl (r, t)).1 v' ∧ v' ≤ p2 (e + 1) ∧ -v' ≤ p2 (e + 1) := by
  simp only [dbl] at hr' ht' ⊢
  obtain ⟨_, hq⟩ := fin_add hr'
  obtain ⟨hn, _⟩ := fin_div hq
  obtain ⟨nv, hnv⟩ := fin_is.1 hn
  obtain ⟨qv, hqv⟩ := fin_is.1 hq
  obtain ⟨h3, h4⟩ := dbl_quot hr hnv hqv ht'
  have h5 := p2_mono (show (99 : Int) ≤ e by omega)
  have h6 := p2_succ e
  have h7 := p2_mono (show e + 1 ≤ 127 by omega)
  obtain ⟨w, h8, h9⟩ := is_add hr hqv (k := .f32) (fit32 (v := v + qv) (by grind) (by grind))
  exact ⟨w, h8, h9.up _ (rep32_p2 (e + 1) (by omega) (by omega)) (by grind), by have := h9.dn _ (rep32_p2 (e + 1) (by omega) (by omega)).neg (by grind); grind⟩
/-- Of a doubled film that is finite, with a finite square, every step was finite and small. -/
theorem dblN_fin (p : Option Nat × Option Nat) : ∀ n, fin (dblN p n).1 = true → fin (fmul (dblN p n).2 (dblN p n).2) = true → fin p.1 = true ∧ fin (fmul p.2 p.2) = true
  | 0, h1, h2 => ⟨h1, h2⟩
  | n + 1, h1, h2 => by
    have e : dblN p (n + 1) = dbl (dblN p n) := rfl
    rw [e] at h1 h2
    simp only [dbl] at h1 h2
    exact dblN_fin p n (fin_add h1).1 (fin_div (fin_mul h2).1).1
theorem dblN_bound (p : Option Nat × Option Nat) {v : Rat} (hv : Is .f32 p.1 v) (h1 : v ≤ p2 100) (h2 : -v ≤ p2 100) : ∀ n : Nat, n ≤ 10 → fin (dblN p n).1 = true → fin (fmul (dblN p n).2 (dblN p n).2) = true → ∃ v', Is .f32 (dblN p n).1 v' ∧ v' ≤ p2 (100 + n) ∧ -v' ≤ p2 (100 + n)
  | 0, _, _, _ => ⟨v, hv, h1, h2⟩
  | n + 1, hn, hr, ht => by
    have e : dblN p (n + 1) = dbl (dblN p n) := rfl
    rw [e] at hr ht ⊢
    have hr2 := hr
    have ht2 := ht
    simp only [dbl] at hr2 ht2
    obtain ⟨v', h3, h4, h5⟩ := dblN_bound p hv h1 h2 n (by omega) (fin_add hr2).1 (fin_div (fin_mul ht2).1).1
    have := dbl_bound (r := (dblN p n).1) (t := (dblN p n).2) (100 + n) (by omega) (by omega) h3 h4 h5 hr ht
    rw [show (100 + ((n + 1 : Nat) : Int)) = 100 + (n : Int) + 1 by omega]
    exact this
end Go.Proofs.Ytfpjiclkhjdihaa

namespace Go.Proofs.Ytfpjiclkhjdihaa
open Go.RowKit
set_option maxRecDepth 100000

/-- The first number that none is better than: its place among the first k, if one of them is a number. -/
def stepTo (lt : Option Nat → Option Nat → Bool) (c : Nat → Option Nat) (k : Nat) (o : Option Nat) : Option Nat :=
  if (c k).isSome then (match o with | none => some k | some b => if lt (c k) (c b) then some k else some b) else o
def bestTo (lt : Option Nat → Option Nat → Bool) (c : Nat → Option Nat) : Nat → Option Nat
  | 0 => none
  | k + 1 => stepTo lt c k (bestTo lt c k)
def endVal (c : Nat → Option Nat) : Option Nat → Option Nat
  | none => none
  | some b => c b
def endAt : Option Nat → Int
  | none => 0
  | some b => b
theorem best_nan {lt : Option Nat → Option Nat → Bool} {c : Nat → Option Nat} {k : Nat} (h : c k = none) : bestTo lt c (k + 1) = bestTo lt c k := by
  show stepTo lt c k _ = _
  simp [stepTo, h]
theorem best_first {lt : Option Nat → Option Nat → Bool} {c : Nat → Option Nat} {k x : Nat} (h : c k = some x) (hn : bestTo lt c k = none) : bestTo lt c (k + 1) = some k := by
  show stepTo lt c k _ = _
  simp [stepTo, h, hn]
theorem best_more {lt : Option Nat → Option Nat → Bool} {c : Nat → Option Nat} {k x b : Nat} (h : (c k) = some x) (hb : bestTo lt c k = some b) (hq : lt (c k) (c b) = true) : bestTo lt c (k + 1) = some k := by
  show stepTo lt c k _ = _
  unfold stepTo
  rw [hb]
  simp only [hq, if_true]
  rw [h]
  rfl
theorem best_less {lt : Option Nat → Option Nat → Bool} {c : Nat → Option Nat} {k x b : Nat} (h : (c k) = some x) (hb : bestTo lt c k = some b) (hq : lt (c k) (c b) = false) : bestTo lt c (k + 1) = some b := by
  show stepTo lt c k _ = _
  unfold stepTo
  rw [hb]
  simp only [hq]
  rw [h]
  rfl
/-- The best so far, as the loops keep it. -/
def IsBest (lt : Option Nat → Option Nat → Bool) (c : Nat → Option Nat) (k : Nat) (v : Value) : Prop :=
  (bestTo lt c k = none ∧ v = .int .i64 (-1)) ∨ ∃ b, b < k ∧ bestTo lt c k = some b ∧ v = .int .i64 b

theorem nan_any (w : World) : Calls Try.prog 91 #[] w fun e w' => e = .returned (.float .f64 9221120237041090561) ∧ Drawn w w' := by
  have h1 : ∀ (i : Int) (w : World), (callFunc 96 #[.int .u64 i]).run Try.prog w = .ok (.value (.float .f64 i.toNat)) w := fun i w => by kernel_rfl
  go_enter Try.func91, Try.ntmps91
  go_wp2
  go_ret
  exact ⟨rfl, 0, rfl⟩
theorem nan_short (w : World) : canon .f32 (cval .f64 .f32 9221120237041090561 w) = none := by
  rw [canon_cval (by decide) _ w (fun h => absurd h (by decide))]
  rw [show canon .f64 9221120237041090561 = none by decide]
  rfl
theorem first_any (F : Nat) (lt : Option Nat → Option Nat → Bool) (c : Nat → Nat) (w : World) (he : Enters Try.prog F)
    (hF : ∀ (x y : Nat) (w1 : World), Calls Try.prog F #[.float .f32 x, .float .f32 y] w1 (RetBq w1 (lt (canon .f32 x) (canon .f32 y)))) :
    Calls Try.prog 79 #[.agg (fA 16 c), .func (.func F) #[] #[]] w (RetFC w (endVal (fun i => canon .f32 (c i)) (bestTo lt (fun i => canon .f32 (c i)) 16)) (endAt (bestTo lt (fun i => canon .f32 (c i)) 16))) := by
  have HF := Lib.hid hF
  have he' := he
  unfold Enters at he'
  clear hF he
  go_enter Try.func79, Try.ntmps79
  have hix : ∀ (k : Nat) (w : World), k < 16 → (Instr.index 26 (.agg (fA 16 c)) (.int .i64 k)).run Try.prog w = .ok (.float .f32 (c k)) w := fun k w hk =>
    run_index_fA w 26 24 16 c k Try.underlying26 Try.underlying24 (by kernel_rfl) (by omega) (by omega)
  go_wp2_with (refine wpList_load_row rfl 26 _ rfl (w.heap.size) rfl 26 (fA 16 c) (0, 0) _ (Blk.new w _ _) Try.underlying26 rfl (by kernel_rfl) ?_)
  go_loopw [6, 7, 8, 10] (fun best _ _ i wr => ∃ (k : Nat), k ≤ 16 ∧ i = .int .i64 k ∧ Hid (IsBest lt (fun i => canon .f32 (c i)) k best) ∧ Below w.heap.size w wr ∧ Blk wr w.heap.size 26 (fA 16 c)) (fun _ _ _ i _ => 16 - (intOf i).toNat)
  case atStart => exact ⟨0, by omega, rfl, Lib.hid (.inl ⟨rfl, rfl⟩), (by repeat (first | assumption | exact Below.refl _ _ | refine bDrew ?_ _ | refine Below.alloc ?_ (by first | omega | (simp; done) | (simp; omega)) _ | refine Below.setCell ?_ (by first | omega | (simp; done) | (simp; omega)) _ | refine bRow ?_ (by first | omega | (simp; done) | (simp; omega)) _)), (by first | assumption | (repeat (first | assumption | (apply Blk.new_at; (focus (simp; done)); rfl) | apply Blk.alloc | apply Blk.drewN)))⟩
  case round =>
    obtain ⟨k, hk, rfl, Hm, hb, hC⟩ := hrel
    by_cases hlt : k < 16
    · have hx := hix k wr hlt
      clear hix
      cases hc : canon .f32 (c k) with
      | none =>
        have oa : FloatKind.f32.format.order (c k) (c k) = none := by rw [order_self, hc]; rfl
        have Hc := Lib.hid hc
        clear hc
        go_wp2
        go_roundw
        case rel => exact ⟨k + 1, by omega, by go_num, Lib.hid (by have h := Hm.out; unfold IsBest at h ⊢; rw [best_nan (c := fun i => canon .f32 (c i)) Hc.out]; rcases h with h | ⟨b, h1, h2⟩; exact .inl h; exact .inr ⟨b, by omega, h2⟩), hb, hC⟩
        case measure => simp [intOf]; omega
      | some x =>
        have oa : FloatKind.f32.format.order (c k) (c k) = some .eq := by rw [order_self, hc]; rfl
        have Hc := Lib.hid hc
        clear hc
        rcases Hm.out with ⟨hn, rfl⟩ | ⟨b, hbk, hn, rfl⟩
        · have Hn := Lib.hid hn
          clear hn Hm
          go_wp2
          go_roundw
          case rel => exact ⟨k + 1, by omega, by go_num, Lib.hid (.inr ⟨k, by omega, best_first (c := fun i => canon .f32 (c i)) Hc.out Hn.out, rfl⟩), hb, hC⟩
          case measure => simp [intOf]; omega
        · have Hn := Lib.hid hn
          clear hn Hm
          have cb := (hC.cell b).trans (get_fA_lt c (by omega))
          have hb0 : decide ((b : Int) < 0) = false := by simp
          go_wp2_with fail
          refine (HF.out _ _ _).mono ?_
          rintro e w1 ⟨rfl, n, rfl⟩
          clear cb hx
          cases hq : lt (canon .f32 (c k)) (canon .f32 (c b)) with
          | true =>
            have Hq := Lib.hid hq
            clear hq
            go_wp2
            go_roundw
            case rel => exact ⟨k + 1, by omega, by go_num, Lib.hid (.inr ⟨k, by omega, best_more (c := fun i => canon .f32 (c i)) Hc.out Hn.out Hq.out, rfl⟩), bDrew hb n, Blk.drewN hC n⟩
            case measure => simp [intOf]; omega
          | false =>
            have Hq := Lib.hid hq
            clear hq
            go_wp2
            go_roundw
            case rel => exact ⟨k + 1, by omega, by go_num, Lib.hid (.inr ⟨b, by omega, best_less (c := fun i => canon .f32 (c i)) Hc.out Hn.out Hq.out, rfl⟩), bDrew hb n, Blk.drewN hC n⟩
            case measure => simp [intOf]; omega
    · obtain rfl : k = 16 := by omega
      clear hix
      rcases Hm.out with ⟨hn, rfl⟩ | ⟨b, hbk, hn, rfl⟩
      · have Hn := Lib.hid hn
        clear hn Hm
        go_wp2_with fail
        refine (nan_any _).mono ?_
        rintro e w1 ⟨rfl, n, rfl⟩
        go_wp2
        go_ret2
        exact ⟨_, by rw [Hn.out]; rfl, by rw [Hn.out]; exact nan_short _, (by repeat (first | assumption | exact Below.refl _ _ | refine bDrew ?_ _ | refine Below.alloc ?_ (by first | omega | (simp; done) | (simp; omega)) _ | refine Below.setCell ?_ (by first | omega | (simp; done) | (simp; omega)) _ | refine bRow ?_ (by first | omega | (simp; done) | (simp; omega)) _))⟩
      · have Hn := Lib.hid hn
        clear hn Hm
        have cb := (hC.cell b).trans (get_fA_lt c (by omega))
        have hb0 : decide ((b : Int) < 0) = false := by simp
        go_wp2
        go_ret2
        exact ⟨_, by rw [Hn.out]; rfl, by rw [Hn.out]; rfl, hb⟩
theorem betterGreatestOf_any (x y : Nat) (w : World) : Calls Try.prog 80 #[.float .f32 x, .float .f32 y] w (RetBq w (fgt (canon .f32 x) (canon .f32 y))) := by
  go_enter Try.func80, Try.ntmps80
  go_wp2
  go_ret
  exact ⟨congrArg (fun x => Ending.returned (Value.bool x)) (o_gt _ _), 0, rfl⟩
theorem iGreatestOf_any (c : Nat → Nat) (w : World) : Calls Try.prog 44 #[.agg (fA 16 c)] w (RetFC w (endVal (fun i => canon .f32 (c i)) (bestTo fgt (fun i => canon .f32 (c i)) 16)) (endAt (bestTo fgt (fun i => canon .f32 (c i)) 16))) := by
  have hC : Blk (w.alloc (.cells (fA 16 c) 26)) w.heap.size 26 (fA 16 c) := Blk.new _ _ _
  have hb : Below w.heap.size w (w.alloc (.cells (fA 16 c) 26)) := (by repeat (first | assumption | exact Below.refl _ _ | refine bDrew ?_ _ | refine Below.alloc ?_ (by first | omega | (simp; done) | (simp; omega)) _ | refine Below.setCell ?_ (by first | omega | (simp; done) | (simp; omega)) _ | refine bRow ?_ (by first | omega | (simp; done) | (simp; omega)) _))
  go_enter Try.func44, Try.ntmps44
  go_wp2_with (refine wpList_load_row rfl 26 _ rfl _ rfl _ _ (0, 0) _ hC Try.underlying26 rfl (by kernel_rfl) ?_)
  refine (first_any 80 fgt c _ (fun _ _ => by kernel_rfl) betterGreatestOf_any).mono ?_
  rintro e w1 ⟨r, rfl, hr, hb1⟩
  have Hr := Lib.hid hr
  clear hr
  go_wp2
  go_ret2
  exact ⟨_, rfl, Hr.out, bCall hb hb1 hb.size⟩
set_option maxRecDepth 100000 in
set_option maxHeartbeats 800000 in
theorem l01End_greatest (c : Nat → Nat) (w : World) : Calls Try.prog 77 #[.agg (fA 16 c), .bool true] w (RetFC w (endVal (fun i => canon .f32 (c i)) (bestTo fgt (fun i => canon .f32 (c i)) 16)) (endAt (bestTo fgt (fun i => canon .f32 (c i)) 16))) := by
  go_enter Try.func77, Try.ntmps77
  go_wp2
  go_loopw [6, 7] (fun best i wr => ∃ (k : Nat), k ≤ 16 ∧ i = .int .i64 k ∧ Hid (IsBest fgt (fun i => canon .f32 (c i)) k best) ∧ Below w.heap.size w wr ∧ Blk wr w.heap.size 26 (fA 16 c)) (fun _ i _ => 16 - (intOf i).toNat)
  case atStart => exact ⟨0, by omega, rfl, Lib.hid (.inl ⟨rfl, rfl⟩), (by repeat (first | assumption | exact Below.refl _ _ | refine bDrew ?_ _ | refine Below.alloc ?_ (by first | omega | (simp; done) | (simp; omega)) _ | refine Below.setCell ?_ (by first | omega | (simp; done) | (simp; omega)) _ | refine bRow ?_ (by first | omega | (simp; done) | (simp; omega)) _)), (by first | assumption | (repeat (first | assumption | (apply Blk.new_at; (focus (simp; done)); rfl) | apply Blk.alloc | apply Blk.drewN)))⟩
  case round =>
    obtain ⟨k, hk, rfl, Hm, hb, hC⟩ := hrel
    by_cases hlt : k < 16
    · have c1 := (hC.cell k).trans (get_fA_lt c hlt)
      cases hc : canon .f32 (c k) with
      | none =>
        have oa : FloatKind.f32.format.order (c k) (c k) = none := by rw [order_self, hc]; rfl
        have Hc := Lib.hid hc
        clear hc
        go_wp2_with fail
        refine wp_region_hl (fun w' => ∃ n, w' = wr.drewN n) (fun _ _ _ => False) (by kernel_rfl) (by kernel_rfl) ⟨1, rfl⟩ ?_
        iterate 7 (refine hl_plain rfl (fun K hK w1 hw1 => ?_); obtain ⟨n, rfl⟩ := hw1; go_simp; refine ⟨⟨_, rfl⟩, hK _ ?_⟩; clear hK K)
        (refine hl_nil ?_; intro _ hw'; obtain ⟨nq, rfl⟩ := hw')
        go_wp2
        go_roundw
        case rel => exact ⟨k + 1, by omega, by go_num, Lib.hid (by have h := Hm.out; unfold IsBest at h ⊢; rw [best_nan (c := fun i => canon .f32 (c i)) Hc.out]; rcases h with h | ⟨b, h1, h2⟩; exact .inl h; exact .inr ⟨b, by omega, h2⟩), bDrew hb _, Blk.drewN hC _⟩
        case measure => simp [intOf]; omega
      | some x =>
        have oa : FloatKind.f32.format.order (c k) (c k) = some .eq := by rw [order_self, hc]; rfl
        have Hc := Lib.hid hc
        clear hc
        rcases Hm.out with ⟨hn, rfl⟩ | ⟨b, hbk, hn, rfl⟩
        · have Hn := Lib.hid hn
          clear hn Hm
          go_wp2_with fail
          refine wp_region_hl (fun w' => ∃ n, w' = wr.drewN n) (fun _ _ _ => False) (by kernel_rfl) (by kernel_rfl) ⟨1, rfl⟩ ?_
          iterate 7 (refine hl_plain rfl (fun K hK w1 hw1 => ?_); obtain ⟨n, rfl⟩ := hw1; go_simp; refine ⟨⟨_, rfl⟩, hK _ ?_⟩; clear hK K)
          (refine hl_nil ?_; intro _ hw'; obtain ⟨nq, rfl⟩ := hw')
          have c1 := ((Blk.drewN hC nq).cell k).trans (get_fA_lt c hlt)
          go_wp2_with fail
          refine wp_region_hl (fun w' => ∃ n, w' = wr.drewN n) (fun _ _ _ => False) (by kernel_rfl) (by kernel_rfl) ⟨nq + 1, by rw [← World.drewN_drewN]; rfl⟩ ?_
          iterate 3 (refine hl_plain rfl (fun K hK w1 hw1 => ?_); obtain ⟨n, rfl⟩ := hw1; go_simp; refine ⟨⟨_, rfl⟩, hK _ ?_⟩; clear hK K)
          iterate 10 (refine (hl_skipE (by kernel_rfl) (by go_simp; rfl) ?_))
          iterate 2 (refine hl_plain rfl (fun K hK w1 hw1 => ?_); obtain ⟨n, rfl⟩ := hw1; go_simp; refine ⟨⟨_, rfl⟩, hK _ ?_⟩; clear hK K)
          iterate 11 (refine (hl_skipE (by kernel_rfl) (by go_simp; rfl) ?_))
          iterate 1 (refine hl_plain rfl (fun K hK w1 hw1 => ?_); obtain ⟨n, rfl⟩ := hw1; go_simp; refine ⟨⟨_, rfl⟩, hK _ ?_⟩; clear hK K)
          (refine hl_nil ?_; intro _ hw'; obtain ⟨nq, rfl⟩ := hw')
          go_wp2
          go_roundw
          case rel => exact ⟨k + 1, by omega, by go_num, Lib.hid (.inr ⟨k, by omega, best_first (c := fun i => canon .f32 (c i)) Hc.out Hn.out, rfl⟩), bDrew hb _, Blk.drewN hC _⟩
          case measure => simp [intOf]; omega
        · have Hn := Lib.hid hn
          clear hn Hm
          have cb := (hC.cell b).trans (get_fA_lt c (by omega))
          have hb0 : decide ((b : Int) < 0) = false := by simp
          have hb16 : (b : Int) < 16 := by omega
          have eb : (FloatKind.f32.format.order (c k) (c b) == some .gt) = fgt (canon .f32 (c k)) (canon .f32 (c b)) := o_gt _ _
          have Eb := Lib.hid eb
          clear eb
          go_wp2_with fail
          refine wp_region_hl (fun w' => ∃ n, w' = wr.drewN n) (fun _ _ _ => False) (by kernel_rfl) (by kernel_rfl) ⟨1, rfl⟩ ?_
          iterate 7 (refine hl_plain rfl (fun K hK w1 hw1 => ?_); obtain ⟨n, rfl⟩ := hw1; go_simp; refine ⟨⟨_, rfl⟩, hK _ ?_⟩; clear hK K)
          (refine hl_nil ?_; intro _ hw'; obtain ⟨nq, rfl⟩ := hw')
          have c1 := ((Blk.drewN hC nq).cell k).trans (get_fA_lt c hlt)
          have cb := ((Blk.drewN hC nq).cell b).trans (get_fA_lt c (by omega))
          go_wp2_with fail
          refine wp_region_hl (fun w' => ∃ n, w' = wr.drewN n) (fun _ _ _ => False) (by kernel_rfl) (by kernel_rfl) ⟨nq + 1, by rw [← World.drewN_drewN]; rfl⟩ ?_
          iterate 3 (refine hl_plain rfl (fun K hK w1 hw1 => ?_); obtain ⟨n, rfl⟩ := hw1; go_simp; refine ⟨⟨_, rfl⟩, hK _ ?_⟩; clear hK K)
          iterate 9 (refine (hl_want (by kernel_rfl) (fun K hK w1 hw1 => ?_)); obtain ⟨n, rfl⟩ := hw1; go_simp; refine ⟨⟨_, rfl⟩, hK _ ?_⟩; clear hK K)
          rw [Eb.out]
          cases hq : fgt (canon .f32 (c k)) (canon .f32 (c b)) with
          | true =>
            have Hq := Lib.hid hq
            clear hq
            iterate 1 (refine (hl_want (by kernel_rfl) (fun K hK w1 hw1 => ?_)); obtain ⟨n, rfl⟩ := hw1; go_simp; refine ⟨⟨_, rfl⟩, hK _ ?_⟩; clear hK K)
            iterate 2 (refine hl_plain rfl (fun K hK w1 hw1 => ?_); obtain ⟨n, rfl⟩ := hw1; go_simp; refine ⟨⟨_, rfl⟩, hK _ ?_⟩; clear hK K)
            iterate 11 (refine (hl_skipE (by kernel_rfl) (by go_simp; rfl) ?_))
            iterate 1 (refine hl_plain rfl (fun K hK w1 hw1 => ?_); obtain ⟨n, rfl⟩ := hw1; go_simp; refine ⟨⟨_, rfl⟩, hK _ ?_⟩; clear hK K)
            (refine hl_nil ?_; intro _ hw'; obtain ⟨nq, rfl⟩ := hw')
            go_wp2
            go_roundw
            case rel => exact ⟨k + 1, by omega, by go_num, Lib.hid (.inr ⟨k, by omega, best_more (c := fun i => canon .f32 (c i)) Hc.out Hn.out Hq.out, rfl⟩), bDrew hb _, Blk.drewN hC _⟩
            case measure => simp [intOf]; omega
          | false =>
            have Hq := Lib.hid hq
            clear hq
            iterate 1 (refine (hl_want (by kernel_rfl) (fun K hK w1 hw1 => ?_)); obtain ⟨n, rfl⟩ := hw1; go_simp; refine ⟨⟨_, rfl⟩, hK _ ?_⟩; clear hK K)
            iterate 2 (refine hl_plain rfl (fun K hK w1 hw1 => ?_); obtain ⟨n, rfl⟩ := hw1; go_simp; refine ⟨⟨_, rfl⟩, hK _ ?_⟩; clear hK K)
            iterate 3 (refine (hl_want (by kernel_rfl) (fun K hK w1 hw1 => ?_)); obtain ⟨n, rfl⟩ := hw1; go_simp; refine ⟨⟨_, rfl⟩, hK _ ?_⟩; clear hK K)
            iterate 7 (refine (hl_skipE (by kernel_rfl) (by go_simp; rfl) ?_))
            iterate 1 (refine (hl_want (by kernel_rfl) (fun K hK w1 hw1 => ?_)); obtain ⟨n, rfl⟩ := hw1; go_simp; refine ⟨⟨_, rfl⟩, hK _ ?_⟩; clear hK K)
            iterate 1 (refine hl_plain rfl (fun K hK w1 hw1 => ?_); obtain ⟨n, rfl⟩ := hw1; go_simp; refine ⟨⟨_, rfl⟩, hK _ ?_⟩; clear hK K)
            (refine hl_nil ?_; intro _ hw'; obtain ⟨nq, rfl⟩ := hw')
            go_wp2
            go_roundw
            case rel => exact ⟨k + 1, by omega, by go_num, Lib.hid (.inr ⟨b, by omega, best_less (c := fun i => canon .f32 (c i)) Hc.out Hn.out Hq.out, rfl⟩), bDrew hb _, Blk.drewN hC _⟩
            case measure => simp [intOf]; omega
    · obtain rfl : k = 16 := by omega
      rcases Hm.out with ⟨hn, rfl⟩ | ⟨b, hbk, hn, rfl⟩
      · have Hn := Lib.hid hn
        clear hn Hm
        go_wp2_with fail
        refine (nan_any _).mono ?_
        rintro e w1 ⟨rfl, n, rfl⟩
        go_wp2
        go_ret2
        exact ⟨_, by rw [Hn.out]; rfl, by rw [Hn.out]; exact nan_short _, (by repeat (first | assumption | exact Below.refl _ _ | refine bDrew ?_ _ | refine Below.alloc ?_ (by first | omega | (simp; done) | (simp; omega)) _ | refine Below.setCell ?_ (by first | omega | (simp; done) | (simp; omega)) _ | refine bRow ?_ (by first | omega | (simp; done) | (simp; omega)) _))⟩
      · have Hn := Lib.hid hn
        clear hn Hm
        have cb := (hC.cell b).trans (get_fA_lt c (by omega))
        have hb0 : decide ((b : Int) < 0) = false := by simp
        go_wp2
        go_ret2
        exact ⟨_, by rw [Hn.out]; rfl, by rw [Hn.out]; rfl, hb⟩
set_option maxRecDepth 100000 in
set_option maxHeartbeats 800000 in
theorem l01End_least (c : Nat → Nat) (w : World) : Calls Try.prog 77 #[.agg (fA 16 c), .bool false] w (RetFC w (endVal (fun i => canon .f32 (c i)) (bestTo flt (fun i => canon .f32 (c i)) 16)) (endAt (bestTo flt (fun i => canon .f32 (c i)) 16))) := by
  go_enter Try.func77, Try.ntmps77
  go_wp2
  go_loopw [6, 7] (fun best i wr => ∃ (k : Nat), k ≤ 16 ∧ i = .int .i64 k ∧ Hid (IsBest flt (fun i => canon .f32 (c i)) k best) ∧ Below w.heap.size w wr ∧ Blk wr w.heap.size 26 (fA 16 c)) (fun _ i _ => 16 - (intOf i).toNat)
  case atStart => exact ⟨0, by omega, rfl, Lib.hid (.inl ⟨rfl, rfl⟩), (by repeat (first | assumption | exact Below.refl _ _ | refine bDrew ?_ _ | refine Below.alloc ?_ (by first | omega | (simp; done) | (simp; omega)) _ | refine Below.setCell ?_ (by first | omega | (simp; done) | (simp; omega)) _ | refine bRow ?_ (by first | omega | (simp; done) | (simp; omega)) _)), (by first | assumption | (repeat (first | assumption | (apply Blk.new_at; (focus (simp; done)); rfl) | apply Blk.alloc | apply Blk.drewN)))⟩
  case round =>
    obtain ⟨k, hk, rfl, Hm, hb, hC⟩ := hrel
    by_cases hlt : k < 16
    · have c1 := (hC.cell k).trans (get_fA_lt c hlt)
      cases hc : canon .f32 (c k) with
      | none =>
        have oa : FloatKind.f32.format.order (c k) (c k) = none := by rw [order_self, hc]; rfl
        have Hc := Lib.hid hc
        clear hc
        go_wp2_with fail
        refine wp_region_hl (fun w' => ∃ n, w' = wr.drewN n) (fun _ _ _ => False) (by kernel_rfl) (by kernel_rfl) ⟨1, rfl⟩ ?_
        iterate 7 (refine hl_plain rfl (fun K hK w1 hw1 => ?_); obtain ⟨n, rfl⟩ := hw1; go_simp; refine ⟨⟨_, rfl⟩, hK _ ?_⟩; clear hK K)
        (refine hl_nil ?_; intro _ hw'; obtain ⟨nq, rfl⟩ := hw')
        go_wp2
        go_roundw
        case rel => exact ⟨k + 1, by omega, by go_num, Lib.hid (by have h := Hm.out; unfold IsBest at h ⊢; rw [best_nan (c := fun i => canon .f32 (c i)) Hc.out]; rcases h with h | ⟨b, h1, h2⟩; exact .inl h; exact .inr ⟨b, by omega, h2⟩), bDrew hb _, Blk.drewN hC _⟩
        case measure => simp [intOf]; omega
      | some x =>
        have oa : FloatKind.f32.format.order (c k) (c k) = some .eq := by rw [order_self, hc]; rfl
        have Hc := Lib.hid hc
        clear hc
        rcases Hm.out with ⟨hn, rfl⟩ | ⟨b, hbk, hn, rfl⟩
        · have Hn := Lib.hid hn
          clear hn Hm
          go_wp2_with fail
          refine wp_region_hl (fun w' => ∃ n, w' = wr.drewN n) (fun _ _ _ => False) (by kernel_rfl) (by kernel_rfl) ⟨1, rfl⟩ ?_
          iterate 7 (refine hl_plain rfl (fun K hK w1 hw1 => ?_); obtain ⟨n, rfl⟩ := hw1; go_simp; refine ⟨⟨_, rfl⟩, hK _ ?_⟩; clear hK K)
          (refine hl_nil ?_; intro _ hw'; obtain ⟨nq, rfl⟩ := hw')
          have c1 := ((Blk.drewN hC nq).cell k).trans (get_fA_lt c hlt)
          go_wp2_with fail
          refine wp_region_hl (fun w' => ∃ n, w' = wr.drewN n) (fun _ _ _ => False) (by kernel_rfl) (by kernel_rfl) ⟨nq + 1, by rw [← World.drewN_drewN]; rfl⟩ ?_
          iterate 3 (refine hl_plain rfl (fun K hK w1 hw1 => ?_); obtain ⟨n, rfl⟩ := hw1; go_simp; refine ⟨⟨_, rfl⟩, hK _ ?_⟩; clear hK K)
          iterate 10 (refine (hl_skipE (by kernel_rfl) (by go_simp; rfl) ?_))
          iterate 2 (refine hl_plain rfl (fun K hK w1 hw1 => ?_); obtain ⟨n, rfl⟩ := hw1; go_simp; refine ⟨⟨_, rfl⟩, hK _ ?_⟩; clear hK K)
          iterate 11 (refine (hl_skipE (by kernel_rfl) (by go_simp; rfl) ?_))
          iterate 1 (refine hl_plain rfl (fun K hK w1 hw1 => ?_); obtain ⟨n, rfl⟩ := hw1; go_simp; refine ⟨⟨_, rfl⟩, hK _ ?_⟩; clear hK K)
          (refine hl_nil ?_; intro _ hw'; obtain ⟨nq, rfl⟩ := hw')
          go_wp2
          go_roundw
          case rel => exact ⟨k + 1, by omega, by go_num, Lib.hid (.inr ⟨k, by omega, best_first (c := fun i => canon .f32 (c i)) Hc.out Hn.out, rfl⟩), bDrew hb _, Blk.drewN hC _⟩
          case measure => simp [intOf]; omega
        · have Hn := Lib.hid hn
          clear hn Hm
          have cb := (hC.cell b).trans (get_fA_lt c (by omega))
          have hb0 : decide ((b : Int) < 0) = false := by simp
          have hb16 : (b : Int) < 16 := by omega
          have eb : (FloatKind.f32.format.order (c k) (c b) == some .lt) = flt (canon .f32 (c k)) (canon .f32 (c b)) := o_lt _ _
          have Eb := Lib.hid eb
          clear eb
          go_wp2_with fail
          refine wp_region_hl (fun w' => ∃ n, w' = wr.drewN n) (fun _ _ _ => False) (by kernel_rfl) (by kernel_rfl) ⟨1, rfl⟩ ?_
          iterate 7 (refine hl_plain rfl (fun K hK w1 hw1 => ?_); obtain ⟨n, rfl⟩ := hw1; go_simp; refine ⟨⟨_, rfl⟩, hK _ ?_⟩; clear hK K)
          (refine hl_nil ?_; intro _ hw'; obtain ⟨nq, rfl⟩ := hw')
          have c1 := ((Blk.drewN hC nq).cell k).trans (get_fA_lt c hlt)
          have cb := ((Blk.drewN hC nq).cell b).trans (get_fA_lt c (by omega))
          go_wp2_with fail
          refine wp_region_hl (fun w' => ∃ n, w' = wr.drewN n) (fun _ _ _ => False) (by kernel_rfl) (by kernel_rfl) ⟨nq + 1, by rw [← World.drewN_drewN]; rfl⟩ ?_
          iterate 3 (refine hl_plain rfl (fun K hK w1 hw1 => ?_); obtain ⟨n, rfl⟩ := hw1; go_simp; refine ⟨⟨_, rfl⟩, hK _ ?_⟩; clear hK K)
          iterate 2 (refine (hl_want (by kernel_rfl) (fun K hK w1 hw1 => ?_)); obtain ⟨n, rfl⟩ := hw1; go_simp; refine ⟨⟨_, rfl⟩, hK _ ?_⟩; clear hK K)
          iterate 7 (refine (hl_skipE (by kernel_rfl) (by go_simp; rfl) ?_))
          iterate 1 (refine (hl_want (by kernel_rfl) (fun K hK w1 hw1 => ?_)); obtain ⟨n, rfl⟩ := hw1; go_simp; refine ⟨⟨_, rfl⟩, hK _ ?_⟩; clear hK K)
          iterate 2 (refine hl_plain rfl (fun K hK w1 hw1 => ?_); obtain ⟨n, rfl⟩ := hw1; go_simp; refine ⟨⟨_, rfl⟩, hK _ ?_⟩; clear hK K)
          iterate 10 (refine (hl_want (by kernel_rfl) (fun K hK w1 hw1 => ?_)); obtain ⟨n, rfl⟩ := hw1; go_simp; refine ⟨⟨_, rfl⟩, hK _ ?_⟩; clear hK K)
          rw [Eb.out]
          cases hq : flt (canon .f32 (c k)) (canon .f32 (c b)) with
          | true =>
            have Hq := Lib.hid hq
            clear hq
            iterate 1 (refine (hl_want (by kernel_rfl) (fun K hK w1 hw1 => ?_)); obtain ⟨n, rfl⟩ := hw1; go_simp; refine ⟨⟨_, rfl⟩, hK _ ?_⟩; clear hK K)
            iterate 1 (refine hl_plain rfl (fun K hK w1 hw1 => ?_); obtain ⟨n, rfl⟩ := hw1; go_simp; refine ⟨⟨_, rfl⟩, hK _ ?_⟩; clear hK K)
            (refine hl_nil ?_; intro _ hw'; obtain ⟨nq, rfl⟩ := hw')
            go_wp2
            go_roundw
            case rel => exact ⟨k + 1, by omega, by go_num, Lib.hid (.inr ⟨k, by omega, best_more (c := fun i => canon .f32 (c i)) Hc.out Hn.out Hq.out, rfl⟩), bDrew hb _, Blk.drewN hC _⟩
            case measure => simp [intOf]; omega
          | false =>
            have Hq := Lib.hid hq
            clear hq
            iterate 1 (refine (hl_want (by kernel_rfl) (fun K hK w1 hw1 => ?_)); obtain ⟨n, rfl⟩ := hw1; go_simp; refine ⟨⟨_, rfl⟩, hK _ ?_⟩; clear hK K)
            iterate 1 (refine hl_plain rfl (fun K hK w1 hw1 => ?_); obtain ⟨n, rfl⟩ := hw1; go_simp; refine ⟨⟨_, rfl⟩, hK _ ?_⟩; clear hK K)
            (refine hl_nil ?_; intro _ hw'; obtain ⟨nq, rfl⟩ := hw')
            go_wp2
            go_roundw
            case rel => exact ⟨k + 1, by omega, by go_num, Lib.hid (.inr ⟨b, by omega, best_less (c := fun i => canon .f32 (c i)) Hc.out Hn.out Hq.out, rfl⟩), bDrew hb _, Blk.drewN hC _⟩
            case measure => simp [intOf]; omega
    · obtain rfl : k = 16 := by omega
      rcases Hm.out with ⟨hn, rfl⟩ | ⟨b, hbk, hn, rfl⟩
      · have Hn := Lib.hid hn
        clear hn Hm
        go_wp2_with fail
        refine (nan_any _).mono ?_
        rintro e w1 ⟨rfl, n, rfl⟩
        go_wp2
        go_ret2
        exact ⟨_, by rw [Hn.out]; rfl, by rw [Hn.out]; exact nan_short _, (by repeat (first | assumption | exact Below.refl _ _ | refine bDrew ?_ _ | refine Below.alloc ?_ (by first | omega | (simp; done) | (simp; omega)) _ | refine Below.setCell ?_ (by first | omega | (simp; done) | (simp; omega)) _ | refine bRow ?_ (by first | omega | (simp; done) | (simp; omega)) _))⟩
      · have Hn := Lib.hid hn
        clear hn Hm
        have cb := (hC.cell b).trans (get_fA_lt c (by omega))
        have hb0 : decide ((b : Int) < 0) = false := by simp
        go_wp2
        go_ret2
        exact ⟨_, by rw [Hn.out]; rfl, by rw [Hn.out]; rfl, hb⟩
end Go.Proofs.Ytfpjiclkhjdihaa

namespace Go.Proofs.Ytfpjiclkhjdihaa
open Go.RowKit
set_option maxRecDepth 100000

def fone : Option Nat := canon .f32 1065353216
def fzero : Option Nat := canon .f32 0
def conD (F : (Nat → Option Nat) × Int) (i : Nat) : Option Nat := fsub ((paintMade F fun _ => fone).1 i) ((paintMade F fun _ => fzero).1 i)
def conMade (F : (Nat → Option Nat) × Int) : Option Nat × Int :=
  if (paintMade F fun _ => fone).2 = 0 then if (paintMade F fun _ => fzero).2 = 0 then (endVal (conD F) (bestTo fgt (conD F) 16), 0) else (fzero, (paintMade F fun _ => fzero).2) else (fzero, (paintMade F fun _ => fone).2)

theorem some_cop {op : BinOp} {x y : Option Nat} (h : (cop op .f32 x y).isSome = true) : x.isSome = true ∧ y.isSome = true := by
  cases x with
  | none => cases h
  | some a =>
    cases y with
    | none => cases h
    | some b => exact ⟨rfl, rfl⟩
theorem fin_some {x : Option Nat} (h : fin x = true) : x.isSome = true := by
  cases x with
  | none => cases h
  | some a => rfl
theorem most_some {x : Option Nat} (h : (most x).isSome = true) : x.isSome = true := by
  cases x with
  | none => cases h
  | some a => rfl
theorem fin_times_zero {u : Option Nat} (h : (fmul u fzero).isSome = true) : fin u = true := by
  cases u with
  | none => cases h
  | some b =>
    rw [fin_dec]
    have e : fmul (some b) fzero = Option.map FloatKind.f32.format.write ((FloatKind.f32.decode b).product (FloatKind.f32.decode 0)) := rfl
    have d0 : FloatKind.f32.decode 0 = .number false 0 (-149) := by decide
    rw [e, d0] at h
    generalize FloatKind.f32.decode b = B at h ⊢
    cases B with
    | number s m i => exact ⟨_, _, _, rfl⟩
    | infinity s => cases h
    | nan s t => cases h
theorem con_elem {p : Option Nat × Option Nat} {v0 : Rat} (hv : Is .f32 p.1 v0) (h0 : 0 ≤ v0) (h1 : v0 ≤ 1) (hR : fin (dblN p 10).1 = true) (hg : gapOk (dblN p 10).1 fone = true)
    (hw : fin (upon (dblN p 10).1 (dblN p 10).2 fone (gapOf (dblN p 10).1 fone)) = true) (hb : fin (upon (dblN p 10).1 (dblN p 10).2 fzero (gapOf (dblN p 10).1 fzero)) = true) :
    fin (fsub (upon (dblN p 10).1 (dblN p 10).2 fone (gapOf (dblN p 10).1 fone)) (upon (dblN p 10).1 (dblN p 10).2 fzero (gapOf (dblN p 10).1 fzero))) = true := by
  have hu : fin (fmul (dblN p 10).2 (dblN p 10).2) = true := fin_times_zero (some_cop (some_cop (most_some (fin_some hb))).2).1
  have hle : (1 : Rat) ≤ p2 100 := by decide +kernel
  obtain ⟨v, hRv, hv1, hv2⟩ := dblN_bound p hv (by grind) (by grind) 10 (by decide) hR hu
  obtain ⟨uv, huv⟩ := fin_is.1 hu
  obtain ⟨tv, htv⟩ := fin_is.1 (fin_mul hu).1
  generalize (dblN p 10).1 = R at *
  generalize (dblN p 10).2 = T at *
  have h110 : p2 (100 + ((10 : Nat) : Int)) = p2 110 := rfl
  rw [h110] at hv1 hv2
  have h111 : p2 111 = 2 * p2 110 := p2_succ 110
  have h112 : p2 112 = 2 * p2 111 := p2_succ 111
  have h127 : p2 112 ≤ p2 126 := p2_mono (by decide)
  have h127' : p2 126 ≤ p2 127 := p2_mono (by decide)
  have hone : (1 : Rat) ≤ p2 110 := by decide +kernel
  have h127p := p2_pos 127
  -- black
  have huv0 : 0 ≤ uv := by
    refine mul_plus htv htv huv ?_
    rcases Rat.le_total (a := 0) (b := tv) with h | h
    · exact Rat.mul_nonneg h h
    · have := Rat.mul_nonneg (show 0 ≤ -tv by grind) (show 0 ≤ -tv by grind)
      grind
  have hn0 : Is .f32 (fmul (fmul T T) fzero) 0 := by
    obtain ⟨w, h2, h3⟩ := is_mul huv zero32 (k := .f32) (fit32 (by grind) (by grind))
    have := h3.of_rep (by rw [show uv * 0 = (0 : Rat) by grind]; exact zero32.rep)
    rw [show w = 0 by grind] at h2
    exact h2
  have hd0 : Is .f32 (gapOf R fzero) 1 := by
    obtain ⟨w, h2, h3⟩ := is_mul hRv zero32 (k := .f32) (fit32 (by grind) (by grind))
    have := h3.of_rep (by rw [show v * 0 = (0 : Rat) by grind]; exact zero32.rep)
    rw [show w = 0 by grind] at h2
    obtain ⟨w', h4, h5⟩ := is_sub one32 h2 (k := .f32) (fit32 (by grind) (by grind))
    have := h5.of_rep (by rw [show (1 : Rat) - 0 = 1 by grind]; exact one32.rep)
    rw [show w' = 1 by grind] at h4
    exact h4
  have hq0 : Is .f32 (fdiv (fmul (fmul T T) fzero) (gapOf R fzero)) 0 := by
    have e : (0 : Rat) / 1 = 0 := by grind
    obtain ⟨w, h2, h3⟩ := is_div hn0 hd0 (k := .f32) (by decide) (fit32 (by grind) (by grind))
    have := h3.of_rep (by rw [e]; exact zero32.rep)
    rw [show w = 0 by grind] at h2
    exact h2
  have hz0 : Is .f32 (fadd R (fdiv (fmul (fmul T T) fzero) (gapOf R fzero))) v := by
    obtain ⟨w, h2, h3⟩ := is_add hRv hq0 (k := .f32) (fit32 (by grind) (by grind))
    have := h3.of_rep (by rw [show v + 0 = v by grind]; exact hRv.rep)
    rw [show w = v by grind] at h2
    exact h2
  -- white
  have hm1 : Is .f32 (fmul R fone) v := by
    obtain ⟨w, h2, h3⟩ := is_mul hRv one32 (k := .f32) (fit32 (by grind) (by grind))
    have := h3.of_rep (by rw [show v * 1 = v by grind]; exact hRv.rep)
    rw [show w = v by grind] at h2
    exact h2
  obtain ⟨dv, hdv, hdR⟩ := is_sub one32 hm1 (k := .f32) (fit32 (by grind) (by grind))
  have hdv : Is .f32 (gapOf R fone) dv := hdv
  have hdp : 0 < dv := by
    have h2 : fgt (gapOf R fone) fzero = true := hg
    rw [show fgt (gapOf R fone) fzero = decide (0 < dv) from fgt_is hdv zero32] at h2
    simpa using h2
  have hv1' : v < 1 := by
    apply Rat.not_le.1
    intro h2
    have := hdR.up 0 zero32.rep (by grind)
    grind
  have hblack : upon R T fzero (gapOf R fzero) = fadd R (fdiv (fmul (fmul T T) fzero) (gapOf R fzero)) := by
    unfold upon most
    rw [show fgt (fadd R (fdiv (fmul (fmul T T) fzero) (gapOf R fzero))) (canon .f32 1065353216) = decide (1 < v) from fgt_is hz0 one32]
    rw [if_neg (by simp; grind)]
  rw [hblack]
  have hwhite : ∃ z, Is .f32 (upon R T fone (gapOf R fone)) z ∧ z ≤ 1 ∧ -p2 110 ≤ z := by
    unfold upon most at hw ⊢
    cases hc : fgt (fadd R (fdiv (fmul (fmul T T) fone) (gapOf R fone))) (canon .f32 1065353216) with
    | true => simp only [if_true]; exact ⟨1, one32, by grind, by grind⟩
    | false =>
      simp only [hc, Bool.false_eq_true, if_false] at hw ⊢
      obtain ⟨zv, hzv⟩ := fin_is.1 hw
      obtain ⟨qv, hqv⟩ := fin_is.1 (fin_add hw).2
      obtain ⟨nv, hnv⟩ := fin_is.1 (fin_div (fin_add hw).2).1
      have hnv0 : 0 ≤ nv := mul_plus huv one32 hnv (by grind)
      have hqv0 : 0 ≤ qv := div_plus hnv hdv hqv hnv0 hdp
      rw [show fgt (fadd R (fdiv (fmul (fmul T T) fone) (gapOf R fone))) (canon .f32 1065353216) = decide (1 < zv) from fgt_is hzv one32] at hc
      refine ⟨zv, hzv, by have := of_decide_eq_false hc; grind, ?_⟩
      by_cases hbig : v + qv ≤ p2 126
      · obtain ⟨w, h2, h3⟩ := is_add hRv hqv (k := .f32) (fit32 (by grind) (by grind))
        rw [hzv.uniq h2]
        exact h3.dn _ (rep32_p2 110 (by decide) (by decide)).neg (by grind)
      · have := add_plus hRv hqv hzv (by have := p2_pos 126; grind)
        grind
  obtain ⟨z, hz, hz1, hz2⟩ := hwhite
  obtain ⟨w, h2, _⟩ := is_sub hz hz0 (k := .f32) (fit32 (by grind) (by grind))
  exact fin_is.2 ⟨w, h2⟩
theorem best_is {lt : Option Nat → Option Nat → Bool} {c : Nat → Option Nat} : ∀ n, (∀ i, i < n + 1 → fin (c i) = true) → ∃ b, b < n + 1 ∧ bestTo lt c (n + 1) = some b
  | 0, h => ⟨0, by omega, by
      show stepTo lt c 0 none = some 0
      simp [stepTo, fin_some (h 0 (by omega))]⟩
  | n + 1, h => by
    obtain ⟨b, hb, he⟩ := best_is (lt := lt) n fun i hi => h i (by omega)
    have e : bestTo lt c (n + 1 + 1) = stepTo lt c (n + 1) (bestTo lt c (n + 1)) := rfl
    rw [e, he]
    simp only [stepTo, fin_some (h (n + 1) (by omega)), if_true]
    split
    · exact ⟨n + 1, by omega, rfl⟩
    · exact ⟨b, by omega, rfl⟩
theorem con_fin {a : Nat → Nat} (h1 : (paintMade (filmOfRes a) fun _ => fone).2 = 0) (h2 : (paintMade (filmOfRes a) fun _ => fzero).2 = 0) :
    fin (endVal (conD (filmOfRes a)) (bestTo fgt (conD (filmOfRes a)) 16)) = true := by
  have hall : ∀ i, i < 16 → fin (conD (filmOfRes a) i) = true := by
    by_cases hF : (filmOfRes a).2 = 0
    · unfold conD
      simp only [paintMade, hF, if_true] at h1 h2 ⊢
      unfold filmOfRes at hF
      by_cases hl : layerOk a = true
      · have e1 : filmOfRes a = filmMade (fun i => canon .f32 (a i)) := by unfold filmOfRes; rw [if_pos hl]
        rw [if_pos hl] at hF
        rw [e1] at h1 h2 ⊢
        unfold filmMade at hF
        by_cases hs : (allTo 16 fun i => !tooStrong (canon .f32 (a i)) (canon .f32 (a (16 + i))) (thinX (canon .f32 (a 32)))) = true
        · have e2 : filmMade (fun i => canon .f32 (a i)) = finFilmRes (filmAt fun i => canon .f32 (a i)) := by unfold filmMade; rw [if_pos hs]
          rw [if_pos hs] at hF
          rw [e2] at h1 h2 ⊢
          unfold finFilmRes at hF
          by_cases hf : finFilm (filmAt fun i => canon .f32 (a i)) = true
          · have e3 : finFilmRes (filmAt fun i => canon .f32 (a i)) = (filmAt fun i => canon .f32 (a i), 0) := by unfold finFilmRes; rw [if_pos hf]
            rw [e3] at h1 h2 ⊢
            dsimp only at h1 h2 ⊢
            unfold overRes at h1 h2 ⊢
            have hone : (allTo 16 fun _ => share fone) = true := allTo_true fun _ _ => by decide
            have hzero : (allTo 16 fun _ => share fzero) = true := allTo_true fun _ _ => by decide
            rw [if_pos hone] at h1 ⊢
            rw [if_pos hzero] at h2 ⊢
            by_cases hg : (allTo 16 fun i => gapOk (filmAt (fun i => canon .f32 (a i)) (16 + i)) fone) = true
            · by_cases hg2 : (allTo 16 fun i => gapOk (filmAt (fun i => canon .f32 (a i)) (16 + i)) fzero) = true
              · rw [if_pos hg] at h1 ⊢
                rw [if_pos hg2] at h2 ⊢
                unfold finRes at h1 h2 ⊢
                by_cases hw : (allTo 16 fun i => fin (overAt (filmAt fun i => canon .f32 (a i)) (fun _ => fone) i)) = true
                · by_cases hb : (allTo 16 fun i => fin (overAt (filmAt fun i => canon .f32 (a i)) (fun _ => fzero) i)) = true
                  · rw [if_pos hw, if_pos hb]
                    dsimp only
                    intro i hi
                    have w1 := allTo_get hw hi
                    have b1 := allTo_get hb hi
                    have g1 := allTo_get hg hi
                    have s1 := allTo_get hs hi
                    have f1 := allTo_get (Bool.and_eq_true _ _ ▸ (Bool.and_eq_true _ _ ▸ hf).1).1 hi
                    unfold overAt at w1 b1 ⊢
                    have r1 : filmAt (fun i => canon .f32 (a i)) i = (dblN (thin (canon .f32 (a i)) (canon .f32 (a (16 + i))) (thinX (canon .f32 (a 32)))) 10).1 := by simp only [filmAt, hi, if_true]
                    have r2 : filmAt (fun i => canon .f32 (a i)) (16 + i) = (dblN (thin (canon .f32 (a i)) (canon .f32 (a (16 + i))) (thinX (canon .f32 (a 32)))) 10).1 := by
                      simp only [filmAt, show ¬(16 + i < 16) by omega, show 16 + i < 32 by omega, if_true, if_false, show 16 + i - 16 = i by omega]
                    have r3 : filmAt (fun i => canon .f32 (a i)) (32 + i) = (dblN (thin (canon .f32 (a i)) (canon .f32 (a (16 + i))) (thinX (canon .f32 (a 32)))) 10).2 := by
                      simp only [filmAt, show ¬(32 + i < 16) by omega, show ¬(32 + i < 32) by omega, if_false, show 32 + i - 32 = i by omega, show 32 + i - 16 = 16 + i by omega]
                    rw [r1, r2, r3] at w1 b1 ⊢
                    rw [r2] at g1
                    rw [r1] at f1
                    have hu := fin_times_zero (some_cop (some_cop (most_some (fin_some b1))).2).1
                    have hp := (dblN_fin _ 10 f1 hu).1
                    obtain ⟨v0, hv0⟩ := fin_is.1 hp
                    -- the thin film
                    have hl3 : (allTo 16 (fun i => amount (canon .f32 (rowAt a 16 i)))) = true ∧ amount (canon .f32 (a 32)) = true := by
                      have := hl
                      unfold layerOk at this
                      rw [Bool.and_eq_true, Bool.and_eq_true] at this
                      exact ⟨this.1.2, this.2⟩
                    have am : ∀ x, amount x = true → ∀ v, Is .f32 x v → 0 ≤ v := by
                      intro x hx v hv
                      unfold amount at hx
                      rw [Bool.and_eq_true, fge_is hv zero32] at hx
                      simpa using hx.1
                    obtain ⟨hfs, hfx⟩ := fin_mul (x := canon .f32 (a (16 + i))) (y := thinX (canon .f32 (a 32))) hp
                    obtain ⟨sv, hsv⟩ := fin_is.1 hfs
                    obtain ⟨xv, hxv⟩ := fin_is.1 hfx
                    obtain ⟨tv, htv⟩ := fin_is.1 (fin_div hfx).1
                    have hs0 : 0 ≤ sv := am _ (allTo_get hl3.1 hi) _ hsv
                    have ht0 : 0 ≤ tv := am _ hl3.2 _ htv
                    have h1024 : Is .f32 (canon .f32 1149239296) 1024 := ⟨1149239296, false, 8388608, -13, by decide, by decide, by decide +kernel⟩
                    have hx0 : 0 ≤ xv := div_plus htv h1024 hxv ht0 (by decide)
                    have hv0p : 0 ≤ v0 := mul_plus hsv hxv hv0 (Rat.mul_nonneg hs0 hx0)
                    have hv1 : v0 ≤ 1 := by
                      have s2 : tooStrong (canon .f32 (a i)) (canon .f32 (a (16 + i))) (thinX (canon .f32 (a 32))) = false := by simpa using s1
                      unfold tooStrong strong at s2
                      rw [Bool.or_eq_false_iff] at s2
                      have s3 := s2.2
                      rw [show fgt (thinR (canon .f32 (a (16 + i))) (thinX (canon .f32 (a 32)))) (canon .f32 1065353216) = decide (1 < v0) from fgt_is hv0 one32] at s3
                      have := of_decide_eq_false s3
                      grind
                    exact con_elem hv0 hv0p hv1 f1 g1 w1 b1
                  · rw [if_neg hb] at h2; cases h2
                · rw [if_neg hw] at h1; cases h1
              · rw [if_neg hg2] at h2; cases h2
            · rw [if_neg hg] at h1; cases h1
          · rw [if_neg hf] at hF; cases hF
        · rw [if_neg hs] at hF; cases hF
      · rw [if_neg hl] at hF; cases hF
    · simp only [paintMade, hF, if_false] at h1
  obtain ⟨b, hb, he⟩ := best_is (lt := fgt) (c := conD (filmOfRes a)) 15 hall
  rw [he]
  exact hall b hb
end Go.Proofs.Ytfpjiclkhjdihaa
