/- What the law of films asks, for the films that it draws. No program is named here. -/
import Derived.Test.YtfpjiclkhjdihaaFmC
import Derived.Test.YtfpjiclkhjdihaaCR
import Derived.Test.YtfpjiclkhjdihaaFlG
namespace Go.Proofs.Ytfpjiclkhjdihaa
open Go.RowKit
set_option maxRecDepth 100000

/-- The same number, and a number. -/
def SameV (x y : Option Nat) : Prop := ∃ v, Is .f32 x v ∧ Is .f32 y v
theorem near_sameV {x y b : Option Nat} {w : Rat} (h : SameV x y) (hb : Is .f32 b w) (w0 : 0 ≤ w) : near x y b = true := by
  obtain ⟨v, h1, h2⟩ := h
  exact near_of h1 h2 hb (by grind) (by grind)
def fe4V : Rat := 13743895 * p2 (-37)
theorem fe4_is : Is .f32 (canon .f32 953267991) fe4V := ⟨_, false, 13743895, -37, rfl, by decide, by decide +kernel⟩
def fe3V : Rat := 8589935 * p2 (-33)
theorem fe3_is : Is .f32 (canon .f32 981668463) fe3V := ⟨_, false, 8589935, -33, rfl, by decide, by decide +kernel⟩
theorem fe4_pos : 0 ≤ fe4V := by decide +kernel
theorem fe3_near : 9 / 10000 ≤ fe3V := by decide +kernel
theorem i0 : Is .f32 (canon .f32 0) 0 := ⟨0, false, 0, -149, by decide, by decide, by decide +kernel⟩
section
variable {aw bw tw uw rw dw : Option Nat} {a b t u r d : Rat}
theorem mul_rep (hx : Is .f32 tw t) (hy : Is .f32 uw u) {v : Rat} (e : t * u = v) (hv : Rep Ieee.single v) : Is .f32 (fmul tw uw) v := by
  subst e
  obtain ⟨m, im, rm⟩ := is_mul hx hy hv.fit
  rw [rm.of_rep hv] at im
  exact im
theorem div_one {v : Rat} (hx : Is .f32 tw v) (hy : Is .f32 dw 1) : Is .f32 (fdiv tw dw) v := by
  have e : v / 1 = v := by rw [Rat.div_def]; grind
  obtain ⟨m, im, rm⟩ := is_div hx hy (by decide) (by rw [e]; exact hx.rep.fit)
  rw [e] at rm
  rw [rm.of_rep hx.rep] at im
  exact im
theorem add_rep (hx : Is .f32 tw t) (hy : Is .f32 uw u) {v : Rat} (e : t + u = v) (hv : Rep Ieee.single v) : Is .f32 (fadd tw uw) v := by
  subst e
  obtain ⟨m, im, rm⟩ := is_add hx hy hv.fit
  rw [rm.of_rep hv] at im
  exact im
theorem sub_rep (hx : Is .f32 tw t) (hy : Is .f32 uw u) {v : Rat} (e : t - u = v) (hv : Rep Ieee.single v) : Is .f32 (fsub tw uw) v := by
  subst e
  obtain ⟨m, im, rm⟩ := is_sub hx hy hv.fit
  rw [rm.of_rep hv] at im
  exact im
theorem most_one {v : Rat} (h : Is .f32 tw v) (v1 : v ≤ 1) : Is .f32 (most tw) v := by
  unfold most
  rw [fgt_is h i1]
  have : ¬ (1 < v) := by grind
  simp only [this, decide_false, Bool.false_eq_true, if_false]
  exact h
theorem gap_zero_l (h : Is .f32 rw r) : Is .f32 (gapOf (canon .f32 0) rw) 1 := sub_rep i1 (mul_rep i0 h (v := 0) (by grind) rep_zero) (by grind) rep_one
theorem gap_zero_r (h : Is .f32 bw b) : Is .f32 (gapOf bw (canon .f32 0)) 1 := sub_rep i1 (mul_rep h i0 (v := 0) (by grind) rep_zero) (by grind) rep_one
theorem upon_one (h : Is .f32 rw r) (r1 : r ≤ 1) (hd : Is .f32 dw 1) : Is .f32 (upon (canon .f32 0) (canon .f32 1065353216) rw dw) r :=
  most_one (add_rep i0 (div_one (mul_rep (mul_rep i1 i1 (v := 1) (by grind) rep_one) h (v := r) (by grind) h.rep) hd) (by grind) h.rep) r1
theorem upon_none (ha : Is .f32 aw a) (a1 : a ≤ 1) (ht : Is .f32 tw t) (t0 : 0 ≤ t) (t1 : t ≤ 1) (hd : Is .f32 dw 1) : Is .f32 (upon aw tw (canon .f32 0) dw) a := by
  obtain ⟨z0, z1⟩ := h_0
  have m0 := Rat.mul_nonneg t0 t0
  have m1 := Rat.mul_nonneg t0 (show 0 ≤ 1 - t by grind)
  obtain ⟨m, im, _⟩ := nh_mul 0 z0 z1 (by decide) (by decide) ht ht (by grind) (by grind)
  exact most_one (add_rep ha (div_one (mul_rep im i0 (v := 0) (by grind) rep_zero) hd) (by grind) ha.rep) a1
theorem through_one (h : Is .f32 tw t) (t1 : t ≤ 1) (hd : Is .f32 dw 1) : Is .f32 (most (fdiv (fmul (canon .f32 1065353216) tw) dw)) t ∧ Is .f32 (most (fdiv (fmul tw (canon .f32 1065353216)) dw)) t :=
  ⟨most_one (div_one (mul_rep i1 h (v := t) (by grind) h.rep) hd) t1, most_one (div_one (mul_rep h i1 (v := t) (by grind) h.rep) hd) t1⟩
end
theorem gapOk_one {b q : Option Nat} (h : Is .f32 (gapOf b q) 1) : gapOk b q = true := by
  unfold gapOk
  rw [fgt_is h i0]
  decide +kernel
theorem finFilm_of {p : Nat → Option Nat} (h : ∀ i, i < 48 → ∃ v, Is .f32 (p i) v) : finFilm p = true := by
  unfold finFilm
  simp only [Bool.and_eq_true]
  exact ⟨⟨allTo_true fun i hi => fin_is.2 (h i (by omega)), allTo_true fun i hi => fin_is.2 (h (16 + i) (by omega))⟩, allTo_true fun i hi => fin_is.2 (h (32 + i) (by omega))⟩
theorem finFilm_get {p : Nat → Option Nat} (h : finFilm p = true) : ∀ i, i < 48 → ∃ v, Is .f32 (p i) v := by
  unfold finFilm at h
  simp only [Bool.and_eq_true] at h
  intro i hi
  by_cases h1 : i < 16
  · exact fin_is.1 (allTo_get h.1.1 h1)
  · by_cases h2 : i < 32
    · have := fin_is.1 (allTo_get h.1.2 (show i - 16 < 16 by omega))
      rw [show 16 + (i - 16) = i by omega] at this
      exact this
    · have := fin_is.1 (allTo_get h.2 (show i - 32 < 16 by omega))
      rw [show 32 + (i - 32) = i by omega] at this
      exact this
theorem all48 {Q : Nat → Prop} (h : ∀ i, i < 16 → Q i ∧ Q (16 + i) ∧ Q (32 + i)) : ∀ i, i < 48 → Q i := by
  intro i hi
  by_cases h1 : i < 16
  · exact (h i h1).1
  · by_cases h2 : i < 32
    · have := (h (i - 16) (by omega)).2.1
      rw [show 16 + (i - 16) = i by omega] at this
      exact this
    · have := (h (i - 32) (by omega)).2.2
      rw [show 32 + (i - 32) = i by omega] at this
      exact this
/-! ### Sums -/
/-- A sum of films that is one. -/
structure Sum (p q : Nat → Option Nat) : Prop where
  gap : ∀ i, i < 16 → gapOk (p (16 + i)) (q i) = true
  fin : ∀ i, i < 48 → ∃ v, Is .f32 (addAt p q i) v
theorem sum_code {F G : Nat → Nat} (hF : filmOk F = true) (hG : filmOk G = true) : (addFilmsRes F G = (addAt (fun i => canon .f32 (F i)) fun i => canon .f32 (G i), 0) ∧ Sum (fun i => canon .f32 (F i)) fun i => canon .f32 (G i)) ∨ addFilmsRes F G = (fun _ => canon .f32 0, 4) := by
  unfold addFilmsRes
  rw [hF, hG]
  simp only [Bool.and_self, if_true]
  unfold addRes
  split
  · next hg =>
    unfold finFilmRes
    split
    · next hf => exact .inl ⟨rfl, fun i hi => allTo_get hg hi, finFilm_get hf⟩
    · exact .inr rfl
  · exact .inr rfl
theorem sum_made {F G : Nat → Nat} (hF : filmOk F = true) (hG : filmOk G = true) (h : Sum (fun i => canon .f32 (F i)) fun i => canon .f32 (G i)) : addFilmsRes F G = (addAt (fun i => canon .f32 (F i)) fun i => canon .f32 (G i), 0) := by
  unfold addFilmsRes
  rw [hF, hG]
  simp only [Bool.and_self, if_true]
  unfold addRes
  rw [if_pos (allTo_true h.gap)]
  unfold finFilmRes
  rw [if_pos (finFilm_of h.fin)]
section
variable {p q : Nat → Option Nat}
theorem empty_flm {e : Nat → Option Nat} (he : ∀ i, i < 48 → e i = emptyAt i) : Flm e := fun i hi => by
  rw [he i (by omega), he (16 + i) (by omega), he (32 + i) (by omega)]
  unfold emptyAt
  rw [if_pos (by omega), if_pos (by omega), if_neg (by omega)]
  exact ⟨0, 0, 1, i0, i0, i1, ⟨by decide, by decide, by decide, by decide, by decide, by decide, by decide +kernel, by decide +kernel, .inl (by decide +kernel), .inl (by decide +kernel)⟩⟩
theorem empty_words {e : Nat → Option Nat} (he : ∀ i, i < 48 → e i = emptyAt i) {i : Nat} (hi : i < 16) : e i = canon .f32 0 ∧ e (16 + i) = canon .f32 0 ∧ e (32 + i) = canon .f32 1065353216 := by
  refine ⟨?_, ?_, ?_⟩
  · rw [he i (by omega)]; unfold emptyAt; rw [if_pos (by omega)]
  · rw [he (16 + i) (by omega)]; unfold emptyAt; rw [if_pos (by omega)]
  · rw [he (32 + i) (by omega)]; unfold emptyAt; rw [if_neg (by omega)]
/-- The empty film above a film. -/
theorem empty_over {e : Nat → Option Nat} (he : ∀ i, i < 48 → e i = emptyAt i) (hp : Flm p) : Sum e p ∧ ∀ i, i < 48 → SameV (addAt e p i) (p i) := by
  have key : ∀ i, i < 48 → SameV (addAt e p i) (p i) := all48 fun i hi => by
    obtain ⟨R, B, T, iR, iB, iT, f⟩ := hp i hi
    obtain ⟨e1, e2, e3⟩ := empty_words he hi
    rw [add_at0 hi, add_at1 hi, add_at2 hi, e1, e2, e3]
    exact ⟨⟨R, upon_one iR f.r1 (gap_zero_l iR), iR⟩, ⟨B, upon_none iB f.b1 iT f.t0 f.t1 (gap_zero_l iR), iB⟩, ⟨T, (through_one iT f.t1 (gap_zero_l iR)).1, iT⟩⟩
  refine ⟨⟨fun i hi => ?_, fun i hi => ?_⟩, key⟩
  · obtain ⟨R, B, T, iR, _⟩ := hp i hi
    rw [(empty_words he hi).2.1]
    exact gapOk_one (gap_zero_l iR)
  · obtain ⟨v, h, _⟩ := key i hi
    exact ⟨v, h⟩
/-- A film above the empty film. -/
theorem over_empty {e : Nat → Option Nat} (he : ∀ i, i < 48 → e i = emptyAt i) (hp : Flm p) : Sum p e ∧ ∀ i, i < 48 → SameV (addAt p e i) (p i) := by
  have key : ∀ i, i < 48 → SameV (addAt p e i) (p i) := all48 fun i hi => by
    obtain ⟨R, B, T, iR, iB, iT, f⟩ := hp i hi
    obtain ⟨e1, e2, e3⟩ := empty_words he hi
    rw [add_at0 hi, add_at1 hi, add_at2 hi, e1, e2, e3]
    exact ⟨⟨R, upon_none iR f.r1 iT f.t0 f.t1 (gap_zero_r iB), iR⟩, ⟨B, upon_one iB f.b1 (gap_zero_r iB), iB⟩, ⟨T, (through_one iT f.t1 (gap_zero_r iB)).2, iT⟩⟩
  refine ⟨⟨fun i hi => ?_, fun i hi => ?_⟩, key⟩
  · obtain ⟨R, B, T, _, iB, _⟩ := hp i hi
    rw [(empty_words he hi).1]
    exact gapOk_one (gap_zero_r iB)
  · obtain ⟨v, h, _⟩ := key i hi
    exact ⟨v, h⟩
/-! ### Upside down -/
/-- Upside down. -/
def Trn (p u : Nat → Option Nat) : Prop := ∀ i, i < 16 → u i = p (16 + i) ∧ u (16 + i) = p i ∧ u (32 + i) = p (32 + i)
theorem Trn.flm {u : Nat → Option Nat} (h : Trn p u) (hp : Flm p) : Flm u := fun i hi => by
  obtain ⟨e1, e2, e3⟩ := h i hi
  rw [e1, e2, e3]
  obtain ⟨R, B, T, iR, iB, iT, f⟩ := hp i hi
  exact ⟨B, R, T, iB, iR, iT, ⟨f.b0, f.b1, f.r0, f.r1, f.t0, f.t1, f.bt, f.rt, f.bg, f.rg⟩⟩
theorem Trn.back {u v : Nat → Option Nat} (h : Trn p u) (k : Trn u v) : ∀ i, i < 48 → v i = p i := all48 fun i hi => by
  obtain ⟨e1, e2, e3⟩ := h i hi
  obtain ⟨g1, g2, g3⟩ := k i hi
  exact ⟨g1.trans e2, g2.trans e1, g3.trans e3⟩
theorem turn_made {F : Nat → Nat} (hF : filmOk F = true) : turnRes F = (fun i => canon .f32 (film3 (rowAt F 16) (rowAt F 0) (rowAt F 32) i), 0) := by
  unfold turnRes
  rw [if_pos hF]
theorem turn_trn {F U : Nat → Nat} (h : ∀ i, i < 48 → canon .f32 (U i) = canon .f32 (film3 (rowAt F 16) (rowAt F 0) (rowAt F 32) i)) : Trn (fun i => canon .f32 (F i)) fun i => canon .f32 (U i) := fun i hi => by
  dsimp only
  rw [h i (by omega), h (16 + i) (by omega), h (32 + i) (by omega)]
  unfold film3 rowAt
  rw [if_pos hi, if_neg (by omega), if_pos (by omega), if_neg (by omega), if_neg (by omega), show 16 + i - 16 = i by omega, show 32 + i - 32 = i by omega, Nat.zero_add]
  exact ⟨rfl, rfl, rfl⟩
/-- The gap between two films, where there is one. -/
theorem gap_least {b r : Option Nat} {B R T U : Rat} (ib : Is .f32 b B) (ir : Is .f32 r R) (b0 : 0 ≤ B) (r0 : 0 ≤ R) (r1 : R ≤ 1) (hb : B ≤ 63 / 64 ∨ B = 1 ∧ T = 0) (hr : R ≤ 63 / 64 ∨ R = 1 ∧ U = 0) (hg : gapOk b r = true) : 1 / 64 ≤ 1 - B * R := by
  rcases hb with hb | ⟨hb, _⟩
  · have := Rat.mul_nonneg b0 (show 0 ≤ 1 - R by grind)
    grind
  · subst hb
    rcases hr with hr | ⟨hr, _⟩
    · grind
    · subst hr
      have : Is .f32 (gapOf b r) 0 := sub_rep i1 (mul_rep ib ir (v := 1) (by decide +kernel) rep_one) (by decide +kernel) rep_zero
      unfold gapOk at hg
      rw [fgt_is this i0] at hg
      exact absurd hg (by decide +kernel)
theorem gapOk_of {b r : Option Nat} {B R : Rat} (ib : Is .f32 b B) (ir : Is .f32 r R) (b0 : 0 ≤ B) (b1 : B ≤ 1) (r0 : 0 ≤ R) (r1 : R ≤ 1) (h : 1 / 64 ≤ 1 - B * R) : gapOk b r = true := by
  obtain ⟨d, id, _, d4⟩ := gap_is ib ir b0 b1 r0 r1
  unfold gapOk
  rw [fgt_is id i0]
  simp
  grind
theorem caps_same {x y : Option Nat} {v w Q : Rat} (hx : Cap x v Q) (hy : Cap y w Q) : near x y (canon .f32 981668463) = true := by
  have h1 := hx.up
  have h2 := hy.up
  have h3 := hx.v1
  have h4 := hy.v1
  have e := fe3_near
  refine near_of hx.i hy.i fe3_is ?_ ?_
  · by_cases g : w < 1
    · have := hy.dn g
      grind
    · grind
  · by_cases g : v < 1
    · have := hx.dn g
      grind
    · grind
/-- What is needed of two numbers at one gap. -/
theorem le_gap {B R T : Rat} (f : Fw R B T) {b : Rat} (b1 : b ≤ 1) (d : 1 / 64 ≤ 1 - b * R) : T ≤ 17 / 16 * (1 - b * R) := by
  have := Rat.mul_nonneg f.r0 (show 0 ≤ 1 - b by grind)
  have := f.rt
  grind
theorem quot4 {P D t r : Rat} (t0 : 0 ≤ t) (t1 : t ≤ 1) (r1 : r ≤ 1) (d : 1 / 64 ≤ D) (ht : t ≤ 17 / 16 * D) (hP : P * D = t * t * r) : P ≤ 2 := by
  have h1 := Rat.mul_nonneg t0 (show 0 ≤ 1 - t by grind)
  have h2 := Rat.mul_nonneg (Rat.mul_nonneg t0 t0) (show 0 ≤ 1 - r by grind)
  exact quot_le hP (by grind) (by grind)
/-- The sum upside down. -/
theorem turned {u v : Nat → Option Nat} (hp : Flm p) (hq : Flm q) (hu : Trn p u) (hv : Trn q v) (hs : Sum p q) : Sum v u ∧ ∀ i, i < 16 → near (addAt v u i) (addAt p q (16 + i)) (canon .f32 981668463) = true ∧ near (addAt v u (32 + i)) (addAt p q (32 + i)) (canon .f32 981668463) = true := by
  have key : ∀ i, i < 16 → gapOk (v (16 + i)) (u i) = true ∧ ((∃ x, Is .f32 (addAt v u i) x) ∧ (∃ x, Is .f32 (addAt v u (16 + i)) x) ∧ ∃ x, Is .f32 (addAt v u (32 + i)) x) ∧ near (addAt v u i) (addAt p q (16 + i)) (canon .f32 981668463) = true ∧ near (addAt v u (32 + i)) (addAt p q (32 + i)) (canon .f32 981668463) = true := by
    intro i hi
    obtain ⟨a, b, t, ia, ib, it, f⟩ := hp i hi
    obtain ⟨r, s, w, ir, is, iw, g⟩ := hq i hi
    obtain ⟨u1, u2, u3⟩ := hu i hi
    obtain ⟨v1, v2, v3⟩ := hv i hi
    have D := gap_least ib ir f.b0 g.r0 g.r1 f.bg g.rg (hs.gap i hi)
    have D' : 1 / 64 ≤ 1 - r * b := by rw [Rat.mul_comm]; exact D
    have eD : 1 - r * b = 1 - b * r := by rw [Rat.mul_comm]
    obtain ⟨d, id, d3, d4⟩ := gap_is ib ir f.b0 f.b1 g.r0 g.r1
    obtain ⟨k, ik, k3, k4⟩ := gap_is ir ib g.r0 g.r1 f.b0 f.b1
    rw [eD] at k3 k4
    obtain ⟨P, hP⟩ := quot_mk (w * w * b) (show 1 - b * r ≠ 0 by grind)
    obtain ⟨T, hT⟩ := quot_mk (t * w) (show 1 - b * r ≠ 0 by grind)
    obtain ⟨R, hR⟩ := quot_mk (t * t * r) (show 1 - b * r ≠ 0 by grind)
    have tw := le_gap g f.b1 D
    have tt : t ≤ 17 / 16 * (1 - b * r) := by
      have := Rat.mul_nonneg f.b0 (show 0 ≤ 1 - r by have := g.r1; grind)
      have := f.bt
      grind
    have P4 := quot4 g.t0 g.t1 f.b1 D tw hP
    have R4 := quot4 f.t0 f.t1 g.r1 D tt hR
    have T4 : T ≤ 2 := by
      have := Rat.mul_nonneg f.t0 (show 0 ≤ 1 - w by have := g.t1; grind)
      exact quot_le hT (by grind) (by grind)
    rw [add_at0 hi, add_at1 hi, add_at2 hi, add_at1 hi, add_at2 hi, u1, u2, u3, v1, v2, v3]
    obtain ⟨x1, c1⟩ := r_cap is iw ib ik g.b0 g.b1 g.t0 g.t1 f.b0 f.b1 k3 k4 (by grind) hP (by grind)
    obtain ⟨x2, c2⟩ := r_cap is iw ib id g.b0 g.b1 g.t0 g.t1 f.b0 f.b1 d3 d4 (by grind) hP (by grind)
    obtain ⟨x3, c3⟩ := t_cap iw it ik g.t0 g.t1 f.t0 f.t1 k3 k4 (by grind) (by rw [hT]; grind) (by grind)
    obtain ⟨x4, c4⟩ := t_cap it iw id f.t0 f.t1 g.t0 g.t1 d3 d4 (by grind) hT (by grind)
    obtain ⟨x5, c5⟩ := r_cap ia it ir ik f.r0 f.r1 f.t0 f.t1 g.r0 g.r1 k3 k4 (by grind) hR (by grind)
    exact ⟨gapOk_of ir ib g.r0 g.r1 f.b0 f.b1 D', ⟨⟨x1, c1.i⟩, ⟨x5, c5.i⟩, ⟨x3, c3.i⟩⟩, caps_same c1 c2, caps_same c3 c4⟩
  exact ⟨⟨fun i hi => (key i hi).1, all48 fun i hi => (key i hi).2.1⟩, fun i hi => (key i hi).2.2⟩
/-! ### In two ways -/
theorem two_ways {h : Nat → Option Nat} (hp : Flm p) (hq : Flm q) (hh : Flm h) (hl : Low h) (s1 : Sum p q) (s4 : ∀ i, i < 16 → gapOk (p (16 + i)) (addAt q h i) = true) :
    ∀ i, i < 16 → near (addAt (addAt p q) h i) (addAt p (addAt q h) i) (canon .f32 1008981770) = true ∧ near (addAt (addAt p q) h (32 + i)) (addAt p (addAt q h) (32 + i)) (canon .f32 1008981770) = true := by
  intro i hi
  obtain ⟨a, b, t, ia, ib, it, f⟩ := hp i hi
  obtain ⟨r, s, u, ir, is, iu, g⟩ := hq i hi
  obtain ⟨x, y, z, ix, iy, iz, k⟩ := hh i hi
  obtain ⟨x', ix', xl⟩ := hl i hi
  obtain rfl := ix'.uniq ix
  have D := gap_least ib ir f.b0 g.r0 g.r1 f.bg g.rg (s1.gap i hi)
  have hgap := s4 i hi
  rw [add_at0 hi] at hgap
  rw [add_at0 (f := addAt p q) hi, add_at2 (f := addAt p q) hi, add_at0 (f := p) (g := addAt q h) hi, add_at2 (f := p) (g := addAt q h) hi, add_at0 (f := p) (g := q) hi, add_at1 (f := p) (g := q) hi, add_at2 (f := p) (g := q) hi, add_at0 (f := q) (g := h) hi, add_at2 (f := q) (g := h) hi]
  have w : Wds (p i) (p (16 + i)) (p (32 + i)) (q i) (q (16 + i)) (q (32 + i)) (h i) (h (32 + i)) a b t r s u x' z := ⟨ia, ib, it, ir, is, iu, ix, iz⟩
  by_cases t0 : t = 0
  · subst t0
    -- nothing goes through
    obtain ⟨d, id, d3, d4⟩ := gap_is ib ir f.b0 f.b1 g.r0 g.r1
    obtain ⟨P, hP⟩ := quot_mk (u * u * b) (show 1 - b * r ≠ 0 by grind)
    have P4 := quot4 g.t0 g.t1 f.b1 D (le_gap g f.b1 D) hP
    obtain ⟨pb, cB⟩ := r_cap is iu ib id g.b0 g.b1 g.t0 g.t1 f.b0 f.b1 d3 d4 (by grind) hP (by grind)
    have E : 29 / 1000 ≤ 1 - s * x' := by have := Rat.mul_nonneg k.r0 (show 0 ≤ 1 - s by have := g.b1; grind); grind
    obtain ⟨e, ie, e3, e4⟩ := gap_is is ix g.b0 g.b1 k.r0 k.r1
    obtain ⟨Q, hQ⟩ := quot_mk (u * u * x') (show 1 - s * x' ≠ 0 by grind)
    have uE : u ≤ 17 / 16 * (1 - s * x') := by
      have := Rat.mul_nonneg g.b0 (show 0 ≤ 1 - x' by grind)
      have := g.bt
      grind
    have Q4 := quot4 g.t0 g.t1 k.r1 (by grind) uE hQ
    obtain ⟨qr, cR⟩ := r_cap ir iu ix ie g.r0 g.r1 g.t0 g.t1 k.r0 k.r1 e3 e4 (by grind) hQ (by grind)
    obtain ⟨T, hT⟩ := quot_mk (u * z) (show 1 - s * x' ≠ 0 by grind)
    have T4 : T ≤ 2 := by
      have := Rat.mul_nonneg g.t0 (show 0 ≤ 1 - z by have := k.t1; grind)
      exact quot_le hT (by grind) (by grind)
    obtain ⟨qt, cT⟩ := t_cap iu iz ie g.t0 g.t1 k.t0 k.t1 e3 e4 (by grind) hT (by grind)
    have E2 : 29 / 1000 ≤ 1 - pb * x' := by have := Rat.mul_nonneg k.r0 (show 0 ≤ 1 - pb by have := cB.v1; grind); grind
    obtain ⟨c, ic, c3, c4⟩ := gap_is cB.i ix cB.v0 cB.v1 k.r0 k.r1
    obtain ⟨j, ij, j3, j4⟩ := gap_is ib cR.i f.b0 f.b1 cR.v0 cR.v1
    have j0 : j ≠ 0 := by
      unfold gapOk at hgap
      rw [fgt_is ij i0] at hgap
      intro hj
      subst hj
      exact absurd hgap (by decide +kernel)
    have pT := t_zero it iu id (by grind)
    have pR := r_zero ia it ir id f.r1 (by grind)
    have lT := t_zero pT iz ic (by grind)
    have lR := r_zero pR pT ix ic f.r1 (by grind)
    have rT := t_zero it cT.i ij j0
    have rR := r_zero ia it cR.i ij f.r1 j0
    have cV := centiV_near
    exact ⟨near_sameV ⟨a, lR, rR⟩ centi_is (by grind), near_sameV ⟨0, lT, rT⟩ centi_is (by grind)⟩
  · have hb : b ≤ 63 / 64 := by
      rcases f.bg with h | ⟨_, h⟩
      · exact h
      · exact absurd h t0
    have A : Asc b t r s u x' z := ⟨f.b0, hb, f.t0, f.t1, f.bt, g.r0, g.r1, g.b0, g.b1, g.t0, g.t1, g.rt, g.bt, k.r0, xl, k.t0, k.t1, k.rt⟩
    have := asc_near A f.r0 f.r1 w
    exact ⟨this.2, this.1⟩
end
theorem add_congr {f f' g g' : Nat → Option Nat} (hf : ∀ j, j < 48 → f j = f' j) (hg : ∀ j, j < 48 → g j = g' j) {i : Nat} (hi : i < 48) : addAt f g i = addAt f' g' i := by
  unfold addAt
  split
  · rw [hf i hi, hf (32 + i) (by omega), hf (16 + i) (by omega), hg i hi]
  · split
    · rw [hf i hi, hg i hi, hg (16 + i) (by omega), hg (i - 16) (by omega)]
    · rw [hf i hi, hg i hi, hf (i - 16) (by omega), hg (i - 32) (by omega)]
/-- The law's two ways. -/
theorem films_assoc {F G H P Q L R : Nat → Nat} (hF : Flm fun i => canon .f32 (F i)) (hG : Flm fun i => canon .f32 (G i)) (hH : Flm fun i => canon .f32 (H i)) (hl : Low fun i => canon .f32 (H i))
    (hP : ∀ i, i < 48 → canon .f32 (P i) = addAt (fun i => canon .f32 (F i)) (fun i => canon .f32 (G i)) i) (hQ : ∀ i, i < 48 → canon .f32 (Q i) = (addFilmsRes G H).1 i) (hq : (addFilmsRes G H).2 = 0)
    (s1 : Sum (fun i => canon .f32 (F i)) fun i => canon .f32 (G i)) (oP : filmOk P = true) (oQ : filmOk Q = true)
    (hL : ∀ i, i < 48 → canon .f32 (L i) = (addFilmsRes P H).1 i) (hR : ∀ i, i < 48 → canon .f32 (R i) = (addFilmsRes F Q).1 i) (h9 : (addFilmsRes P H).2 = 0) (h10 : (addFilmsRes F Q).2 = 0) :
    ∀ i, i < 16 → near (canon .f32 (L i)) (canon .f32 (R i)) (canon .f32 1008981770) = true ∧ near (canon .f32 (L (32 + i))) (canon .f32 (R (32 + i))) (canon .f32 1008981770) = true := by
  have hQ' : ∀ i, i < 48 → canon .f32 (Q i) = addAt (fun i => canon .f32 (G i)) (fun i => canon .f32 (H i)) i := by
    rcases sum_code (flm_ok hG) (flm_ok hH) with ⟨e, _⟩ | e
    · intro i hi; rw [hQ i hi, e]
    · rw [e] at hq; exact absurd hq (by decide)
  have hL' : ∀ i, i < 48 → canon .f32 (L i) = addAt (addAt (fun i => canon .f32 (F i)) fun i => canon .f32 (G i)) (fun i => canon .f32 (H i)) i := by
    rcases sum_code oP (flm_ok hH) with ⟨e, _⟩ | e
    · intro i hi; rw [hL i hi, e]; exact add_congr (f := fun i => canon .f32 (P i)) (g := fun i => canon .f32 (H i)) (g' := fun i => canon .f32 (H i)) hP (fun _ _ => rfl) hi
    · rw [e] at h9; exact absurd h9 (by decide)
  rcases sum_code (flm_ok hF) oQ with ⟨e, s4⟩ | e
  · have hR' : ∀ i, i < 48 → canon .f32 (R i) = addAt (fun i => canon .f32 (F i)) (addAt (fun i => canon .f32 (G i)) fun i => canon .f32 (H i)) i := fun i hi => by
      rw [hR i hi, e]; exact add_congr (f := fun i => canon .f32 (F i)) (f' := fun i => canon .f32 (F i)) (g := fun i => canon .f32 (Q i)) (fun _ _ => rfl) hQ' hi
    intro i hi
    rw [hL' i (by omega), hL' (32 + i) (by omega), hR' i (by omega), hR' (32 + i) (by omega)]
    exact two_ways hF hG hH hl s1 (fun i hi => by rw [← hQ' i (by omega)]; exact s4.gap i hi) i hi
  · rw [e] at h10; exact absurd h10 (by decide)
end Go.Proofs.Ytfpjiclkhjdihaa
