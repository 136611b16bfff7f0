/- The films that the laws draw: what their words say; sums with the empty film, upside down, in two ways. No program is named here. -/
import Derived.Test.YtfpjiclkhjdihaaFmB
import Derived.Test.YtfpjiclkhjdihaaDN
import Derived.Test.YtfpjiclkhjdihaaCR
import Derived.Test.YtfpjiclkhjdihaaDra
namespace Go.Proofs.Ytfpjiclkhjdihaa
open Go.RowKit
set_option maxRecDepth 100000

/-- The numbers of a film, one wavelength. -/
structure Fw (R B T : Rat) : Prop where
  r0 : 0 ≤ R
  r1 : R ≤ 1
  b0 : 0 ≤ B
  b1 : B ≤ 1
  t0 : 0 ≤ T
  t1 : T ≤ 1
  rt : R + T ≤ 1 + 51 / 100000
  bt : B + T ≤ 1 + 51 / 100000
  rg : R ≤ 63 / 64 ∨ R = 1 ∧ T = 0
  bg : B ≤ 63 / 64 ∨ B = 1 ∧ T = 0
def Flw (a b t : Option Nat) : Prop := ∃ R B T : Rat, Is .f32 a R ∧ Is .f32 b B ∧ Is .f32 t T ∧ Fw R B T
/-- The words of a film. -/
def Flm (p : Nat → Option Nat) : Prop := ∀ i, i < 16 → Flw (p i) (p (16 + i)) (p (32 + i))
/-- It does not reflect too much. -/
def Low (p : Nat → Option Nat) : Prop := ∀ i, i < 16 → ∃ R : Rat, Is .f32 (p i) R ∧ R ≤ 971 / 1000
theorem Flm.to {p q : Nat → Option Nat} (h : Flm p) (e : ∀ i, i < 48 → q i = p i) : Flm q := fun i hi => by
  rw [e i (by omega), e (16 + i) (by omega), e (32 + i) (by omega)]
  exact h i hi
theorem Low.to {p q : Nat → Option Nat} (h : Low p) (e : ∀ i, i < 48 → q i = p i) : Low q := fun i hi => by
  rw [e i (by omega)]
  exact h i hi
theorem flm_okP {p : Nat → Option Nat} (h : Flm p) : filmOkP p = true := by
  unfold filmOkP
  simp only [Bool.and_eq_true]
  refine ⟨⟨⟨⟨allTo_true fun i hi => ?_, allTo_true fun i hi => ?_⟩, allTo_true fun i hi => ?_⟩, allTo_true fun i hi => ?_⟩, allTo_true fun i hi => ?_⟩ <;> obtain ⟨R, B, T, iR, iB, iT, f⟩ := h i hi
  · exact shareV_is iR f.r0 f.r1
  · exact shareV_is iB f.b0 f.b1
  · exact shareV_is iT f.t0 f.t1
  · exact least_is iR iT (by have := f.r0; have := f.t0; grind) (by have := f.rt; grind)
  · exact least_is iB iT (by have := f.b0; have := f.t0; grind) (by have := f.bt; grind)
theorem flm_ok {f : Nat → Nat} (h : Flm fun i => canon .f32 (f i)) : filmOk f = true := by
  rw [filmOk_is, filmOkP_congr (p := fun i => canon .f32 (f i)) (fun _ _ => rfl)]
  exact flm_okP h
/-! ### The three kinds -/
theorem pw_is {v : Nat} (h : v < 65) : Is .f32 (canon .f32 (pw v)) ((v : Rat) * (1 / 64)) := by
  have e : p2 (-((6 : Nat) : Int)) = 1 / 64 := by decide +kernel
  have i64 : Is .f32 (canon .f32 1115684864) 64 := ⟨_, false, 8388608, -17, rfl, by decide, by decide +kernel⟩
  have := part_is (v : Int) (by omega) (by omega) 6 (by omega) i64 (by rw [e]; decide +kernel)
  rw [e, Rat.intCast_natCast] at this
  rw [pw_canon h, ← plain_word v h]
  exact this
theorem nat_le {v n : Nat} (h : v ≤ n) : (0 : Rat) ≤ (v : Rat) ∧ (v : Rat) ≤ (n : Rat) := ⟨Rat.natCast_nonneg, cast_le h⟩
/-- What is left of a number of sixty-fourths. -/
theorem left_is {v : Nat} (h : v < 65) : Is .f32 (fsub (canon .f32 1065353216) (canon .f32 (pw v))) (1 - (v : Rat) * (1 / 64)) := by
  have e : p2 (-((6 : Nat) : Int)) = 1 / 64 := by decide +kernel
  have r := rep_parts (64 - (v : Int)) (by omega) (by omega) 6 (by omega)
  have e2 : ((64 - (v : Int) : Int) : Rat) * (1 / 64) = 1 - (v : Rat) * (1 / 64) := by
    rw [Rat.intCast_sub, Rat.intCast_natCast]
    have : ((64 : Int) : Rat) = 64 := rfl
    grind
  rw [e, e2] at r
  obtain ⟨d, id, rd⟩ := is_sub i1 (pw_is h) r.fit
  rw [rd.of_rep r] at id
  exact id
theorem sixt_is {n : Nat} (h : n < 17) : Is .f32 (fdiv (fint n) (canon .f32 1098907648)) ((n : Rat) * (1 / 16)) := by
  have e : p2 (-((4 : Nat) : Int)) = 1 / 16 := by decide +kernel
  have i16 : Is .f32 (canon .f32 1098907648) 16 := ⟨_, false, 8388608, -19, rfl, by decide, by decide +kernel⟩
  have := part_is (n : Int) (by omega) (by omega) 4 (by omega) i16 (by rw [e]; decide +kernel)
  rw [e, Rat.intCast_natCast] at this
  exact this
/-- A part of what is left. -/
theorem mix_is {v n : Nat} (hv : v < 65) (hn : n < 17) : Is .f32 (fmul (fdiv (fint n) (canon .f32 1098907648)) (fsub (canon .f32 1065353216) (canon .f32 (pw v)))) ((n : Rat) * (1 / 16) * (1 - (v : Rat) * (1 / 64))) := by
  have e : p2 (-((10 : Nat) : Int)) = 1 / 1024 := by decide +kernel
  have hle : n * (64 - v) ≤ 16 * 64 := Nat.mul_le_mul (by omega) (by omega)
  have r := rep_parts ((n * (64 - v) : Nat) : Int) (by omega) (by omega) 10 (by omega)
  have e2 : (((n * (64 - v) : Nat) : Int) : Rat) * (1 / 1024) = (n : Rat) * (1 / 16) * (1 - (v : Rat) * (1 / 64)) := by
    rw [Rat.intCast_natCast, Rat.natCast_mul]
    have : ((64 - v : Nat) : Rat) = 64 - (v : Rat) := by
      have h2 : ((64 - v : Nat) : Rat) + (v : Rat) = 64 := by rw [← Rat.natCast_add, show 64 - v + v = 64 by omega]; rfl
      grind
    rw [this]
    grind
  rw [e, e2] at r
  obtain ⟨d, id, rd⟩ := is_mul (sixt_is hn) (left_is hv) r.fit
  rw [rd.of_rep r] at id
  exact id
theorem mix_grid {v n : Nat} (hv : v < 65) (hn : n < 17) : 0 ≤ (n : Rat) * (1 / 16) * (1 - (v : Rat) * (1 / 64)) ∧ (n : Rat) * (1 / 16) * (1 - (v : Rat) * (1 / 64)) + (v : Rat) * (1 / 64) ≤ 1 ∧
    ((n : Rat) * (1 / 16) * (1 - (v : Rat) * (1 / 64)) ≤ 63 / 64 ∨ (n : Rat) * (1 / 16) * (1 - (v : Rat) * (1 / 64)) = 1 ∧ (v : Rat) * (1 / 64) = 0) := by
  obtain ⟨v0, v1⟩ := nat_le (show v ≤ 64 by omega)
  obtain ⟨n0, n1⟩ := nat_le (show n ≤ 16 by omega)
  have e64 : ((64 : Nat) : Rat) = 64 := rfl
  have e16 : ((16 : Nat) : Rat) = 16 := rfl
  rw [e64] at v1
  rw [e16] at n1
  have h1 := Rat.mul_nonneg n0 (show 0 ≤ 1 - (v : Rat) * (1 / 64) by grind)
  have h2 := Rat.mul_nonneg (show 0 ≤ 1 - (n : Rat) * (1 / 16) by grind) (show 0 ≤ 1 - (v : Rat) * (1 / 64) by grind)
  refine ⟨by grind, by grind, ?_⟩
  by_cases hv0 : v = 0
  · subst hv0
    by_cases hn16 : n = 16
    · subst hn16
      exact .inr ⟨by decide +kernel, by decide +kernel⟩
    · left
      have := (nat_le (show n ≤ 15 by omega)).2
      have e15 : ((15 : Nat) : Rat) = 15 := rfl
      have e0 : ((0 : Nat) : Rat) = 0 := rfl
      rw [e15] at this
      rw [e0]
      grind
  · left
    have := cast_le (show 1 ≤ v by omega)
    have e1 : ((1 : Nat) : Rat) = 1 := rfl
    rw [e1] at this
    grind
theorem mixed_flw {v n m : Nat} (hv : v < 65) (hn : n < 17) (hm : m < 17) : Flw (fmul (fdiv (fint n) (canon .f32 1098907648)) (fsub (canon .f32 1065353216) (canon .f32 (pw v)))) (fmul (fdiv (fint m) (canon .f32 1098907648)) (fsub (canon .f32 1065353216) (canon .f32 (pw v)))) (canon .f32 (pw v)) := by
  obtain ⟨a0, a1, a2⟩ := mix_grid hv hn
  obtain ⟨c0, c1, c2⟩ := mix_grid hv hm
  obtain ⟨v0, v1⟩ := nat_le (show v ≤ 64 by omega)
  have e64 : ((64 : Nat) : Rat) = 64 := rfl
  rw [e64] at v1
  exact ⟨_, _, _, mix_is hv hn, mix_is hv hm, pw_is hv, ⟨a0, by grind, c0, by grind, by grind, by grind, by grind, by grind, a2, c2⟩⟩
theorem mirror_flw {v : Nat} (hv : v < 65) : Flw (canon .f32 (pw v)) (canon .f32 (pw v)) (fsub (canon .f32 1065353216) (canon .f32 (pw v))) := by
  obtain ⟨v0, v1⟩ := nat_le (show v ≤ 64 by omega)
  have e64 : ((64 : Nat) : Rat) = 64 := rfl
  rw [e64] at v1
  have g : (v : Rat) * (1 / 64) ≤ 63 / 64 ∨ (v : Rat) * (1 / 64) = 1 ∧ 1 - (v : Rat) * (1 / 64) = 0 := by
    by_cases h64 : v = 64
    · subst h64
      exact .inr ⟨by decide +kernel, by decide +kernel⟩
    · left
      have := (nat_le (show v ≤ 63 by omega)).2
      have e63 : ((63 : Nat) : Rat) = 63 := rfl
      rw [e63] at this
      grind
  exact ⟨_, _, _, pw_is hv, pw_is hv, left_is hv, ⟨by grind, by grind, by grind, by grind, by grind, by grind, by grind, by grind, g, g⟩⟩
theorem mirror_res {v : Nat} (hv : v < 65) : mirrorRes (canon .f32 (pw v)) = (fun i => if i < 32 then canon .f32 (pw v) else fsub (canon .f32 1065353216) (canon .f32 (pw v)), 0) := by
  obtain ⟨v0, v1⟩ := nat_le (show v ≤ 64 by omega)
  have e64 : ((64 : Nat) : Rat) = 64 := rfl
  rw [e64] at v1
  unfold mirrorRes
  rw [if_pos (shareV_is (pw_is hv) (by grind) (by grind))]
theorem mirror_flm {v : Nat} (hv : v < 65) {p : Nat → Option Nat} (h : ∀ i, i < 48 → p i = if i < 32 then canon .f32 (pw v) else fsub (canon .f32 1065353216) (canon .f32 (pw v))) : Flm p := fun i hi => by
  rw [h i (by omega), h (16 + i) (by omega), h (32 + i) (by omega), if_pos (by omega), if_pos (by omega), if_neg (by omega)]
  exact mirror_flw hv
theorem made_flm {p : Nat → Option Nat} {R T : Nat → Rat} (h : Made p R T (29 / 1000)) : Flm p ∧ Low p :=
  ⟨fun i hi => ⟨R i, R i, T i, (h.r i hi).1, (h.r i hi).2.1, (h.r i hi).2.2, ⟨(h.r0 i hi).1, by have := (h.r0 i hi).2; grind, (h.r0 i hi).1, by have := (h.r0 i hi).2; grind, (h.t0 i hi).1, (h.t0 i hi).2, h.sum i hi, h.sum i hi, .inl (by have := (h.r0 i hi).2; grind), .inl (by have := (h.r0 i hi).2; grind)⟩⟩,
    fun i hi => ⟨R i, (h.r i hi).1, by have := (h.r0 i hi).2; grind⟩⟩
theorem layer_flm {a : Nat → Option Nat} {K S : Nat → Rat} {n : Nat} (h : Lay a K S n) (hn : n < 33) : filmMade a = (filmAt a, 0) ∧ Flm (filmAt a) ∧ Low (filmAt a) := by
  obtain ⟨e, R, T, hm⟩ := film_made h (by omega)
  rw [if_pos (by omega)] at hm
  exact ⟨e, made_flm hm⟩
end Go.Proofs.Ytfpjiclkhjdihaa
