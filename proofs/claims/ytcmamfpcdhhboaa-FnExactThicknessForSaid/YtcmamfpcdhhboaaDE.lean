/- Contracts: what is lost in a film. -/
import Derived.Test.YtcmamfpcdhhboaaCR
import Derived.Test.YtcmamfpcdhhboaaCG
import Derived.Test.YtcmamfpcdhhboaaCnv
namespace Go.Proofs.Ytcmamfpcdhhboaa
open Go.RowKit
set_option maxRecDepth 100000

def lostAt (r t : Option Nat) : Option Nat := if flt (fsub (fsub (canon .f32 1065353216) r) t) (canon .f32 0) then canon .f32 0 else fsub (fsub (canon .f32 1065353216) r) t
def lostRes (f : Nat → Nat) : (Nat → Option Nat) × Int := if filmOk f then (fun i => lostAt (canon .f32 (f i)) (canon .f32 (f (32 + i))), 0) else (fun _ => canon .f32 0, 1)

theorem one32 : Is .f32 (canon .f32 1065353216) 1 := ⟨1065353216, false, 8388608, -23, by decide, by decide, by decide +kernel⟩
theorem zero32 : Is .f32 (canon .f32 0) 0 := ⟨0, false, 0, -149, by decide, by decide, by decide +kernel⟩
theorem share_is {x : Option Nat} (h : share x = true) : ∃ v, Is .f32 x v ∧ 0 ≤ v ∧ v ≤ 1 := by
  obtain ⟨b, s, m, e, rfl, hd⟩ := share_number h
  have hI : Is .f32 (some b) (sg s ((m : Rat) * p2 e)) := ⟨b, s, m, e, rfl, hd, rfl⟩
  unfold share at h
  rw [fge_is hI zero32, fle_is hI one32] at h
  simp at h
  exact ⟨_, hI, h.1, h.2⟩
theorem nearest_le (f : Ieee.Format) (m : Nat) (p : Int) : ∃ r, r ≤ f.infRung ∧ ∀ s, f.nearest s m p = f.word s r := by
  unfold Ieee.Format.nearest
  by_cases hm : m = 0
  · exact ⟨0, Nat.zero_le _, fun s => by rw [if_pos hm]⟩
  · exact ⟨_, Nat.min_le_right .., fun s => by rw [if_neg hm]; cases s <;> rfl⟩
/-- A number that is not below 0, with the sign of such a number. -/
def Plus (x : Option Nat) : Prop := ∃ b m e, x = some b ∧ FloatKind.f32.decode b = .number false m e
theorem sub_eq {x y : Option Nat} {a b : Nat} {s t : Bool} {m n : Nat} {i j : Int} (hx : x = some a) (hy : y = some b) (ha : FloatKind.f32.decode a = .number s m i) (hb : FloatKind.f32.decode b = .number t n j) :
    fsub x y = some (Ieee.single.nearest (if Ieee.signed s m (i - min i j).toNat + Ieee.signed (!t) n (j - min i j).toNat = 0 then s && !t else decide (Ieee.signed s m (i - min i j).toNat + Ieee.signed (!t) n (j - min i j).toNat < 0)) (Ieee.signed s m (i - min i j).toNat + Ieee.signed (!t) n (j - min i j).toNat).natAbs (min i j)) := by
  subst hx; subst hy
  show Option.map FloatKind.f32.format.write ((FloatKind.f32.decode a).sum (FloatKind.f32.decode b).opposite) = _
  rw [ha, hb]
  rfl
theorem dec_sub (s t : Bool) (m n : Nat) (i j : Int) : ((Ieee.signed s m (i - min i j).toNat + Ieee.signed (!t) n (j - min i j).toNat : Int) : Rat) * p2 (min i j) = sg s ((m : Rat) * p2 i) - sg t ((n : Rat) * p2 j) := by
  rw [Rat.intCast_add, Rat.add_mul, signed_dq s m i _ (by omega), signed_dq (!t) n j _ (by omega), sg_not]
  grind
theorem one_less {x : Option Nat} (h : share x = true) : Plus (fsub (canon .f32 1065353216) x) ∧ ∃ v, Is .f32 (fsub (canon .f32 1065353216) x) v := by
  obtain ⟨b, s, m, e, rfl, hd⟩ := share_number h
  obtain ⟨v, hv, h0, h1⟩ := share_is h
  have hI : Is .f32 (some b) (sg s ((m : Rat) * p2 e)) := ⟨b, s, m, e, rfl, hd, rfl⟩
  have hvv := hv.uniq hI
  have d1 : FloatKind.f32.decode 1065353216 = .number false 8388608 (-23) := by decide
  have k1 : canon .f32 1065353216 = some 1065353216 := by decide
  have heq := sub_eq k1 rfl d1 hd
  have hv1 := dec_sub false s 8388608 m (-23) e
  generalize Ieee.signed false 8388608 (-23 - min (-23) e).toNat + Ieee.signed (!s) m (e - min (-23) e).toNat = T at *
  have e1 : sg false (((8388608 : Nat) : Rat) * p2 (-23)) = 1 := by decide +kernel
  rw [e1, ← hvv] at hv1
  have hT : 0 ≤ T := by
    apply Int.not_lt.1
    intro hlt
    have h2 : (T : Rat) < 0 := Rat.intCast_neg_iff.2 hlt
    have h3 := mul_lt_r h2 (p2_pos (min (-23) e))
    grind
  have hS : (if T = 0 then false && !s else decide (T < 0)) = false := by
    by_cases h2 : T = 0
    · rw [if_pos h2]; rfl
    · rw [if_neg h2]; simp; omega
  rw [hS] at heq
  have h127 : (1 : Rat) ≤ p2 127 := by decide +kernel
  obtain ⟨w, h2, h3⟩ := is_sub one32 hv (k := .f32) (fit32 (by grind) (by grind))
  refine ⟨?_, w, h2⟩
  obtain ⟨b', s', m', e', h4, h5, h6⟩ := h2
  have h4' : fsub (canon .f32 1065353216) (some b) = some b' := h4
  rw [heq] at h4'
  injection h4' with h4'
  refine ⟨b', m', e', h4, ?_⟩
  rw [h5]
  congr 1
  obtain ⟨r, hr, hn⟩ := nearest_le Ieee.single T.natAbs (min (-23) e)
  rw [hn false] at h4'
  have h7 : FloatKind.f32.decode b' = Ieee.single.read b' := rfl
  rw [← h4'] at h5
  have hw := (word_parts Ieee.single false (show r < Ieee.single.signWeight by have := Ieee.single.infRung_lt; omega))
  obtain ⟨h8, _⟩ := fin_read Ieee.single (by decide) h5
  obtain ⟨m2, e2, h9, _⟩ := read_fin Ieee.single (Ieee.single.word false r) h8
  rw [hw.2] at h9
  have h10 : Ieee.single.read (Ieee.single.word false r) = .number s' m' e' := h5
  rw [h9] at h10
  injection h10 with h11
  exact h11.symm
/-- What is left is above 0, or below, or the number 0 with the sign of such. -/
theorem left_zero {x y : Option Nat} {u : Rat} (hx : Plus x) (hu : Is .f32 x u) (hy : share y = true) : (∃ v, Is .f32 (fsub x y) v) ∧ (flt (fsub x y) (canon .f32 0) = false → fgt (fsub x y) (canon .f32 0) = false → fsub x y = canon .f32 0) := by
  obtain ⟨b, m, e, rfl, hd⟩ := hx
  obtain ⟨c, t, n, j, rfl, hd'⟩ := share_number hy
  obtain ⟨v, hv, h0, h1⟩ := share_is hy
  have hI : Is .f32 (some b) (sg false ((m : Rat) * p2 e)) := ⟨b, false, m, e, rfl, hd, rfl⟩
  have hJ : Is .f32 (some c) (sg t ((n : Rat) * p2 j)) := ⟨c, t, n, j, rfl, hd', rfl⟩
  have hvv := hv.uniq hJ
  have huu := hu.uniq hI
  have hle := rep32_le hu.rep
  have hu0 : 0 ≤ u := by
    rw [huu]
    exact Rat.mul_nonneg Rat.natCast_nonneg (Rat.le_of_lt (p2_pos _))
  have hf : Fit Ieee.single (u - v) := by
    obtain ⟨r, hr, hrep⟩ := hu.rep
    have h2 := rungV_nonneg Ieee.single r
    have hmax : ∃ R, R < Ieee.single.infRung ∧ u ≤ rungV Ieee.single R ∧ 1 ≤ rungV Ieee.single R := by
      refine ⟨max r 1065353216, by have : r < 2139095040 := hr; rw [e32.2.1]; omega, ?_, ?_⟩
      · have h3 := rungV_le Ieee.single (show r ≤ max r 1065353216 by omega)
        have hrep' : u = rungV Ieee.single r ∨ u = -rungV Ieee.single r := hrep
        grind
      · have h3 := rungV_le Ieee.single (show 1065353216 ≤ max r 1065353216 by omega)
        have h4 : rungV Ieee.single 1065353216 = 1 := by
          have := rungV_form Ieee.single 126 8388608 (.inr (by decide)) (by decide)
          have e1 : (126 * Ieee.single.binade + 8388608) = 1065353216 := by decide
          rw [e1, e32.2.2.2.1] at this
          rw [this]
          decide +kernel
        grind
    obtain ⟨R, hR, h5, h6⟩ := hmax
    exact ⟨R, hR, by grind, by grind⟩
  obtain ⟨z, h2, h3⟩ := is_sub hu hv (k := .f32) hf
  refine ⟨⟨z, h2⟩, fun hl hg => ?_⟩
  have h2' : Is .f32 (fsub (some b) (some c)) z := h2
  rw [flt_is h2' zero32] at hl
  rw [fgt_is h2' zero32] at hg
  have hz : z = 0 := by simp at hl hg; grind
  -- nothing but 0 is rounded to 0
  have heq := sub_eq rfl rfl hd hd'
  have hv1 := dec_sub false t m n e j
  rw [← huu, ← hvv] at hv1
  obtain ⟨_, h4, _, _, _⟩ := num32 hd
  have h5 := (num32 hd').2.1
  have hT : Ieee.signed false m (e - min e j).toNat + Ieee.signed (!t) n (j - min e j).toNat = 0 := by
    generalize Ieee.signed false m (e - min e j).toNat + Ieee.signed (!t) n (j - min e j).toNat = T at *
    apply Decidable.byContradiction
    intro hT
    have hp := p2_mono (show (-149 : Int) ≤ min e j by omega)
    have hr := rep32_p2 (-149) (by decide) (by decide)
    have hq := p2_pos (-149)
    rcases Int.lt_or_gt_of_ne hT with h6 | h6
    · have h7 : (T : Rat) ≤ -1 := by have := Rat.intCast_le_intCast.2 (show T ≤ -1 by omega); simpa using this
      have h8 := mul_le_r h7 (Rat.le_of_lt (p2_pos (min e j)))
      have h9 := h3.up (-(p2 (-149))) hr.neg (by grind)
      grind
    · have h7 : (1 : Rat) ≤ T := by have := Rat.intCast_le_intCast.2 (show 1 ≤ T by omega); simpa using this
      have h8 := mul_le_r h7 (Rat.le_of_lt (p2_pos (min e j)))
      have h9 := h3.dn (p2 (-149)) hr (by grind)
      grind
  rw [heq, if_pos hT, hT]
  unfold Ieee.Format.nearest
  rfl
theorem lost_same {r t : Option Nat} (hr : share r = true) (ht : share t = true) : lostAt r t = if fgt (fsub (fsub (canon .f32 1065353216) r) t) (canon .f32 0) then fsub (fsub (canon .f32 1065353216) r) t else canon .f32 0 := by
  obtain ⟨h1, u, hu⟩ := one_less hr
  obtain ⟨⟨v, hv⟩, h3⟩ := left_zero h1 hu ht
  unfold lostAt
  rw [flt_is hv zero32, fgt_is hv zero32] at *
  by_cases ha : v < 0
  · have hb : ¬ 0 < v := by grind
    simp [ha, hb]
  · by_cases hb : 0 < v
    · simp [ha, hb]
    · simp only [ha, hb, decide_false, Bool.false_eq_true, if_false]
      exact h3 (by simp [ha]) (by simp [hb])

end Go.Proofs.Ytcmamfpcdhhboaa
