/- Doubled films that are finite are no greater than a power of two. Plain: no program is named here. -/
import Derived.Test.YtcmamfpcdhhboaaInf
namespace Go.Proofs.Ytcmamfpcdhhboaa
open Go.RowKit
set_option maxRecDepth 100000

theorem rep_min {v : Rat} (h : Rep Ieee.single v) (h0 : v ≠ 0) : p2 (-149) ≤ v ∨ v ≤ -p2 (-149) := by
  obtain ⟨r, hr, h⟩ := h
  have h1 : rungV Ieee.single 1 = p2 (-149) := by
    have h := rungV_form Ieee.single 0 1 (.inl rfl) (by decide)
    rw [show 0 * Ieee.single.binade + 1 = 1 by simp] at h
    rw [h]
    decide +kernel
  have h2 : r ≠ 0 := by
    intro h2
    subst h2
    rw [rungV_zero] at h
    grind
  have h3 := rungV_le Ieee.single (show 1 ≤ r by omega)
  rw [h1] at h3
  rcases h with h | h <;> grind
/-- A product is not much greater than it should be. -/
theorem mul_near2 {x y : Option Nat} {u v b : Rat} (hx : Is .f32 x u) (hy : Is .f32 y v) (h1 : u * v ≤ b) (h2 : -(u * v) ≤ b) (hb : b ≤ p2 127) : ∃ w, Is .f32 (fmul x y) w ∧ w ≤ 2 * b + p2 (-149) ∧ -w ≤ 2 * b + p2 (-149) := by
  obtain ⟨w, h3, h4⟩ := is_mul hx hy (fit32 (v := u * v) (by grind) (by grind))
  refine ⟨w, h3, ?_⟩
  have h4 : Rnd Ieee.single (u * v) w := h4
  have h5 := h4.near (fit32 (v := u * v) (by grind) (by grind)) h1 h2
  rw [show Ieee.single.leastPlace = -149 by decide, show -((Ieee.single.fractionBits : Nat) : Int) = -23 by decide] at h5
  have h6 : (0 : Rat) ≤ b := by grind
  have h7 : b * p2 (-23) ≤ b := by
    have h8 := Rat.mul_nonneg h6 (show (0 : Rat) ≤ 1 - p2 (-23) by decide +kernel)
    grind
  have h9 := h4.neg.near (fit32 (v := -(u * v)) (by grind) (by grind)) h2 (by grind)
  rw [show Ieee.single.leastPlace = -149 by decide, show -((Ieee.single.fractionBits : Nat) : Int) = -23 by decide] at h9
  constructor <;> grind
theorem dbl_quot {r t : Option Nat} {v nv qv : Rat} (hr : Is .f32 r v) (hnv : Is .f32 (fmul (fmul t t) r) nv) (hqv : Is .f32 (fdiv (fmul (fmul t t) r) (dblD r)) qv) (ht' : fin (fmul (fdiv (fmul t t) (dblD r)) (fdiv (fmul t t) (dblD r))) = true) : qv ≤ p2 99 ∧ -qv ≤ p2 99 := by
  have hp99 := p2_pos 99
  obtain ⟨_, b, hb, hcase⟩ := fin_div (fin_is.2 ⟨_, hqv⟩)
  have hn128 := rep32_le hnv.rep
  by_cases hv : p2 32 ≤ v * v
  · rcases sq_lo hr 32 (by decide) (by decide) hv with hi | ⟨w, hw, hw2⟩
    · have hd : dblD r = some 4286578688 := by unfold dblD; rw [hi]; decide
      rw [hd] at hqv
      have h0 := div_inf (b := 4286578688) (s := true) hnv (by decide)
      have := hqv.uniq h0
      grind
    · have h1 : (1 : Rat) ≤ p2 31 := by decide +kernel
      have h32 : p2 32 = 2 * p2 31 := p2_succ 31
      obtain ⟨dv, hdv, hR⟩ := is_sub one32 hw (k := .f32) (Fit.le hw.rep.fit (by grind) (by grind))
      have hdv' : Is .f32 (dblD r) dv := hdv
      have h2 : dv ≤ -p2 31 := hR.up _ (rep32_p2 31 (by decide) (by decide)).neg (by grind)
      have h0 : dv ≠ 0 := by grind
      have hq : nv / dv * dv = nv := Rat.div_mul_cancel h0
      have hpp : p2 31 * p2 97 = p2 128 := by rw [← p2_add]; rfl
      obtain ⟨h3, h4⟩ := quot_bound (B := p2 97) hq (p2_pos 31) (.inl h2) (by rw [hpp]; exact hn128.1) (by rw [hpp]; exact hn128.2)
      have h97 : p2 97 ≤ p2 127 := p2_mono (by decide)
      have h99 : p2 97 ≤ p2 99 := p2_mono (by decide)
      obtain ⟨w2, h5, h6⟩ := is_div hnv hdv' h0 (fit32 (v := nv / dv) (by grind) (by grind))
      have h7 := hqv.uniq h5
      have h8 := h6.up _ (rep32_p2 97 (by decide) (by decide)) h3
      have h9 := h6.dn _ (rep32_p2 97 (by decide) (by decide)).neg (by grind)
      grind
  · have hv1 : v * v < p2 32 := Rat.not_le.1 hv
    have hv0 : 0 ≤ v * v := by
      rcases Rat.le_total (a := 0) (b := v) with h | h
      · exact Rat.mul_nonneg h h
      · have := Rat.mul_nonneg (show 0 ≤ -v by grind) (show 0 ≤ -v by grind)
        grind
    have hv16 : v ≤ p2 16 ∧ -v ≤ p2 16 := by
      have h16 : p2 16 * p2 16 = p2 32 := by rw [← p2_add]; rfl
      have hp16 := p2_pos 16
      constructor
      · apply Rat.not_lt.1
        intro h
        have := Rat.mul_pos (show 0 < v - p2 16 by grind) (show 0 < v + p2 16 by grind)
        grind
      · apply Rat.not_lt.1
        intro h
        have := Rat.mul_pos (show 0 < -v - p2 16 by grind) (show 0 < -v + p2 16 by grind)
        grind
    have h127 : p2 32 ≤ p2 127 := p2_mono (by decide)
    have hp32 := p2_pos 32
    obtain ⟨w, hw, hwR⟩ := is_mul hr hr (k := .f32) (fit32 (v := v * v) (by grind) (by grind))
    have hw1 := hwR.up _ (rep32_p2 32 (by decide) (by decide)) (by grind)
    have hw0 := hwR.dn 0 (zero32.rep) hv0
    have h33 : p2 33 = 2 * p2 32 := p2_succ 32
    have h1p : (1 : Rat) ≤ p2 32 := by decide +kernel
    have h127' : p2 33 ≤ p2 127 := p2_mono (by decide)
    obtain ⟨dv, hdv, hR⟩ := is_sub one32 hw (k := .f32) (fit32 (v := 1 - w) (by grind) (by grind))
    have hdv' : Is .f32 (dblD r) dv := hdv
    have hd1 := hR.up _ (rep32_p2 33 (by decide) (by decide)) (by grind)
    have hd2 := hR.dn _ (rep32_p2 33 (by decide) (by decide)).neg (by grind)
    have h0 : dv ≠ 0 := by
      rcases hcase with ⟨v2, h2, h3⟩ | ⟨s, h2⟩
      · have := h2.uniq hdv'
        grind
      · obtain ⟨b', s', m', e', h4, h5, _⟩ := hdv'
        rw [hb] at h4
        injection h4 with h4
        subst h4
        rw [h2] at h5
        cases h5
    -- what is let through
    obtain ⟨hft, _⟩ := fin_mul ht'
    obtain ⟨hfu, _⟩ := fin_div hft
    obtain ⟨tv, htv⟩ := fin_is.1 hft
    obtain ⟨uv, huv⟩ := fin_is.1 hfu
    have ht2 := (mul_fin_lt htv htv ht').1
    have ht64 : tv < p2 64 ∧ -tv < p2 64 := by
      have h64 : p2 64 * p2 64 = p2 128 := by rw [← p2_add]; rfl
      have hp64 := p2_pos 64
      constructor
      · apply Rat.not_le.1
        intro h
        have := Rat.mul_nonneg (show 0 ≤ tv - p2 64 by grind) (show 0 ≤ tv + p2 64 by grind)
        grind
      · apply Rat.not_le.1
        intro h
        have := Rat.mul_nonneg (show 0 ≤ -tv - p2 64 by grind) (show 0 ≤ -tv + p2 64 by grind)
        grind
    obtain ⟨hl1, hl2⟩ := div_lt huv hdv' h0 htv 64 (by decide) (by decide) ht64.1 ht64.2
    have hq : uv / dv * dv = uv := Rat.div_mul_cancel h0
    generalize hQ : uv / dv = Q at hl1 hl2 hq
    -- the size of what is divided by
    obtain ⟨a, ha0, ha, hda⟩ : ∃ a : Rat, p2 (-149) ≤ a ∧ a ≤ p2 33 ∧ (dv = a ∨ dv = -a) := by
      rcases rep_min hdv'.rep h0 with h | h
      · exact ⟨dv, h, hd1, .inl rfl⟩
      · exact ⟨-dv, by grind, by grind, .inr (by grind)⟩
    have hap : 0 < a := by have := p2_pos (-149); grind
    have e65 : p2 65 * p2 16 = p2 81 := by rw [← p2_add]; rfl
    have hQv : Q * v ≤ p2 81 ∧ -(Q * v) ≤ p2 81 := by
      have h65 := p2_pos 65
      have h16 := p2_pos 16
      have a1 := Rat.mul_nonneg (show 0 ≤ p2 (64 + 1) - Q by grind) (show 0 ≤ p2 16 + v by grind)
      have a2 := Rat.mul_nonneg (show 0 ≤ p2 (64 + 1) + Q by grind) (show 0 ≤ p2 16 - v by grind)
      have a3 := Rat.mul_nonneg (show 0 ≤ p2 (64 + 1) - Q by grind) (show 0 ≤ p2 16 - v by grind)
      have a4 := Rat.mul_nonneg (show 0 ≤ p2 (64 + 1) + Q by grind) (show 0 ≤ p2 16 + v by grind)
      rw [show (64 : Int) + 1 = 65 by decide] at a1 a2 a3 a4
      constructor <;> grind
    have hb1 : uv * v ≤ p2 81 * a ∧ -(uv * v) ≤ p2 81 * a := by
      have b1 := Rat.mul_nonneg (show 0 ≤ p2 81 - Q * v by grind) (Rat.le_of_lt hap)
      have b2 := Rat.mul_nonneg (show 0 ≤ p2 81 + Q * v by grind) (Rat.le_of_lt hap)
      rw [← hq]
      rcases hda with h | h <;> subst h <;> constructor <;> grind
    have hb2 : p2 81 * a ≤ p2 127 := by
      have := Rat.mul_nonneg (Rat.le_of_lt (p2_pos 81)) (show 0 ≤ p2 33 - a by grind)
      have e1 : p2 81 * p2 33 = p2 114 := by rw [← p2_add]; rfl
      have := p2_mono (show (114 : Int) ≤ 127 by decide)
      grind
    obtain ⟨n2, hn2, hn3, hn4⟩ := mul_near2 huv hr hb1.1 hb1.2 hb2
    have hnn := hn2.uniq hnv
    subst hnn
    have e83 : p2 83 = 2 * (2 * p2 81) := by rw [← p2_succ, ← p2_succ]; rfl
    have hbig : 2 * (p2 81 * a) + p2 (-149) ≤ a * p2 83 := by
      have h1 : (1 : Rat) ≤ p2 81 := by decide +kernel
      have := Rat.mul_nonneg (show 0 ≤ p2 81 - 1 by grind) (Rat.le_of_lt hap)
      rw [e83]
      grind
    have hqq : n2 / dv * dv = n2 := Rat.div_mul_cancel h0
    obtain ⟨h3, h4⟩ := quot_bound (B := p2 83) hqq hap (by rcases hda with h | h <;> grind) (by grind) (by grind)
    have h97 : p2 83 ≤ p2 127 := p2_mono (by decide)
    have h99 : p2 83 ≤ p2 99 := p2_mono (by decide)
    obtain ⟨w2, h5, h6⟩ := is_div hnv hdv' h0 (fit32 (v := n2 / dv) (by grind) (by grind))
    have h7 := hqv.uniq h5
    have h8 := h6.up _ (rep32_p2 83 (by decide) (by decide)) h3
    have h9 := h6.dn _ (rep32_p2 83 (by decide) (by decide)).neg (by grind)
    grind
theorem dbl_bound {r t : Option Nat} {v : Rat} (e : Int) (he : 100 ≤ e) (he2 : e ≤ 120) (hr : Is .f32 r v) (h1 : v ≤ p2 e) (h2 : -v ≤ p2 e) (hr' : fin (dbl (r, t)).1 = true) (ht' : fin (fmul (dbl (r, t)).2 (dbl (r, t)).2) = true) :
    ∃ v', Is .f32 (dbl (r, t)).1 v' ∧ v' ≤ p2 (e + 1) ∧ -v' ≤ p2 (e + 1) := by
  simp only [dbl] at hr' ht' ⊢
  obtain ⟨_, hq⟩ := fin_add hr'
  obtain ⟨hn, _⟩ := fin_div hq
  obtain ⟨nv, hnv⟩ := fin_is.1 hn
  obtain ⟨qv, hqv⟩ := fin_is.1 hq
  obtain ⟨h3, h4⟩ := dbl_quot hr hnv hqv ht'
  have h5 := p2_mono (show (99 : Int) ≤ e by omega)
  have h6 := p2_succ e
  have h7 := p2_mono (show e + 1 ≤ 127 by omega)
  obtain ⟨w, h8, h9⟩ := is_add hr hqv (k := .f32) (fit32 (v := v + qv) (by grind) (by grind))
  exact ⟨w, h8, h9.up _ (rep32_p2 (e + 1) (by omega) (by omega)) (by grind), by have := h9.dn _ (rep32_p2 (e + 1) (by omega) (by omega)).neg (by grind); grind⟩
/-- Of a doubled film that is finite, with a finite square, every step was finite and small. -/
theorem dblN_fin (p : Option Nat × Option Nat) : ∀ n, fin (dblN p n).1 = true → fin (fmul (dblN p n).2 (dblN p n).2) = true → fin p.1 = true ∧ fin (fmul p.2 p.2) = true
  | 0, h1, h2 => ⟨h1, h2⟩
  | n + 1, h1, h2 => by
    have e : dblN p (n + 1) = dbl (dblN p n) := rfl
    rw [e] at h1 h2
    simp only [dbl] at h1 h2
    exact dblN_fin p n (fin_add h1).1 (fin_div (fin_mul h2).1).1
theorem dblN_bound (p : Option Nat × Option Nat) {v : Rat} (hv : Is .f32 p.1 v) (h1 : v ≤ p2 100) (h2 : -v ≤ p2 100) : ∀ n : Nat, n ≤ 10 → fin (dblN p n).1 = true → fin (fmul (dblN p n).2 (dblN p n).2) = true → ∃ v', Is .f32 (dblN p n).1 v' ∧ v' ≤ p2 (100 + n) ∧ -v' ≤ p2 (100 + n)
  | 0, _, _, _ => ⟨v, hv, h1, h2⟩
  | n + 1, hn, hr, ht => by
    have e : dblN p (n + 1) = dbl (dblN p n) := rfl
    rw [e] at hr ht ⊢
    have hr2 := hr
    have ht2 := ht
    simp only [dbl] at hr2 ht2
    obtain ⟨v', h3, h4, h5⟩ := dblN_bound p hv h1 h2 n (by omega) (fin_add hr2).1 (fin_div (fin_mul ht2).1).1
    have := dbl_bound (r := (dblN p n).1) (t := (dblN p n).2) (100 + n) (by omega) (by omega) h3 h4 h5 hr ht
    rw [show (100 + ((n + 1 : Nat) : Int)) = 100 + (n : Int) + 1 by omega]
    exact this
end Go.Proofs.Ytcmamfpcdhhboaa
