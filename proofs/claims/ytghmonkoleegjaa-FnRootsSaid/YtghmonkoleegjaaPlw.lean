/- What the law of roots asks of the powers that it draws. No program is named here. -/
import Derived.Test.YtghmonkoleegjaaPlv
namespace Go.Proofs.Ytghmonkoleegjaa
open Go.RowKit
set_option maxRecDepth 100000

theorem Lg.low {x : Option Nat} {v z g : Rat} {e : Int} (a : Lg x v e z g) (h1 : 1 / 16 ≤ v) (h2 : v ≤ 5) : -(45 / 10) ≤ (e : Rat) + g ∧ (e : Rat) + g ≤ 35 / 10 := by
  have hv := a.val
  have z1 := a.z1
  have z2 := a.z2
  have hg := a.log
  have g0 := a.g0
  have g1 := a.g1
  obtain ⟨q1, q2⟩ := lnV_range
  have hp := p2_pos e
  have e5 : p2 (-5) = 1 / 32 := by decide +kernel
  have e6 : p2 (-6) = 1 / 64 := by decide +kernel
  have e3 : p2 3 = 8 := by decide +kernel
  have n1 := Rat.mul_nonneg (Rat.le_of_lt hp) (show 0 ≤ z - 1 by grind)
  have n2 := Rat.mul_nonneg (Rat.le_of_lt hp) (show 0 ≤ 2 - z by grind)
  constructor
  · by_cases h : -4 ≤ e
    · have := Rat.intCast_le_intCast.2 h
      have e4 : ((-4 : Int) : Rat) = -4 := rfl
      grind
    · by_cases h5 : e = -5
      · subst h5
        rw [e5] at hv
        have := logA_lip (show (1 : Rat) ≤ 1 by grind) z1 (by grind)
        rw [logA_one] at this
        have e4 : ((-5 : Int) : Rat) = -5 := rfl
        rw [e4]
        have : 1 / 2 ≤ g := by
          apply Rat.le_of_mul_le_mul_right (c := lnV) _ (by grind)
          grind
        grind
      · exfalso
        have := p2_mono (show e ≤ -6 by omega)
        rw [e6] at this
        grind
  · have h : e ≤ 2 := by
      apply Int.not_lt.1
      intro hlt
      have := p2_mono (show 3 ≤ e by omega)
      rw [e3] at this
      grind
    have := Rat.intCast_le_intCast.2 h
    have e4 : ((2 : Int) : Rat) = 2 := rfl
    grind
theorem plus_one (m : Nat) (h : m < 64) : Is .f32 (fadd (bOf m) (canon .f32 1065353216)) (((m : Rat) + 17) * (1 / 16)) := by
  have hb := bOf_is m h
  have hr := rep_parts (17 + (m : Int)) (by omega) (by omega) 4 (by omega)
  rw [p4, Rat.intCast_add, Rat.intCast_natCast] at hr
  have e : ((17 : Int) : Rat) = 17 := rfl
  rw [e] at hr
  have e1 : ((m : Rat) + 1) * (1 / 16) + 1 = (17 + (m : Rat)) * (1 / 16) := by grind
  obtain ⟨w, iw, rw'⟩ := is_add hb i1 (by rw [e1]; exact hr.fit)
  rw [e1] at rw'
  rw [rw'.of_rep hr] at iw
  have e2 : ((m : Rat) + 17) = 17 + (m : Rat) := by grind
  rw [e2]
  exact iw
theorem times_xy (i j : Nat) (hi : i < 17) (hj : j < 17) : Is .f32 (fmul (xOf i) (xOf j)) ((i : Rat) * (1 / 8) * ((j : Rat) * (1 / 8))) := by
  have hx := xOf_is i hi
  have hy := xOf_is j hj
  have hij : i * j ≤ 16 * 16 := Nat.mul_le_mul (by omega) (by omega)
  have hr := rep_parts ((i * j : Nat) : Int) (by omega) (by omega) 6 (by omega)
  rw [p6, Rat.intCast_natCast, Rat.natCast_mul] at hr
  have e1 : (i : Rat) * (1 / 8) * ((j : Rat) * (1 / 8)) = (i : Rat) * (j : Rat) * (1 / 64) := by grind
  obtain ⟨w, iw, rw'⟩ := is_mul hx hy (by rw [e1]; exact hr.fit)
  rw [e1] at rw' ⊢
  rw [rw'.of_rep hr] at iw
  exact iw
def sqOk (m : Nat) : Bool := (powRes (bOf m) (canon .f32 1073741824)).2 == 0 && near (powRes (bOf m) (canon .f32 1073741824)).1 (fmul (bOf m) (bOf m)) (fmul (powRes (bOf m) (canon .f32 1073741824)).1 (canon .f32 925353388))
theorem sq1 : ∀ m, m < 16 → sqOk m = true := by decide +kernel
theorem sq2 : ∀ m, m < 16 → sqOk (m + 16) = true := by decide +kernel
theorem sq3 : ∀ m, m < 16 → sqOk (m + 32) = true := by decide +kernel
theorem sq4 : ∀ m, m < 16 → sqOk (m + 48) = true := by decide +kernel
theorem sq_ok (m : Nat) (h : m < 64) : sqOk m = true := by
  by_cases h1 : m < 16
  · exact sq1 m h1
  · by_cases h2 : m < 32
    · have := sq2 (m - 16) (by omega); rw [show m - 16 + 16 = m by omega] at this; exact this
    · by_cases h3 : m < 48
      · have := sq3 (m - 32) (by omega); rw [show m - 32 + 32 = m by omega] at this; exact this
      · have := sq4 (m - 48) (by omega); rw [show m - 48 + 48 = m by omega] at this; exact this
structure PowsOk (b x y p q w s n : Option Nat) : Prop where
  hp : powRes b x = (p, 0)
  hq : powRes p y = (q, 0)
  hw : powRes b (fmul x y) = (w, 0)
  hs : powRes b (canon .f32 1073741824) = (s, 0)
  hn : powRes (fadd b (canon .f32 1065353216)) x = (n, 0)
  ho : powRes b (canon .f32 0) = (canon .f32 1065353216, 0)
  same : feq p p = true
  xy : (fmul x y).isSome = true
  b1 : (fadd b (canon .f32 1065353216)).isSome = true
  near1 : near q w (fmul w (canon .f32 953267991)) = true
  near2 : near s (fmul b b) (fmul s (canon .f32 925353388)) = true
  more : fge n p = true
theorem pows_ok (m i j : Nat) (hm : m < 64) (hi : i < 17) (hj : j < 17) : ∃ p q w s n, PowsOk (bOf m) (xOf i) (xOf j) p q w s n := by
  have ib := bOf_is m hm
  have ix := xOf_is i hi
  have iy := xOf_is j hj
  have ixy := times_xy i j hi hj
  have ib1 := plus_one m hm
  have m0 : (0 : Rat) ≤ (m : Rat) := Rat.natCast_nonneg
  have m1 : (m : Rat) ≤ 63 := by have := cast_le (show m ≤ 63 by omega); simpa using this
  have i0 : (0 : Rat) ≤ (i : Rat) := Rat.natCast_nonneg
  have i16' : (i : Rat) ≤ 16 := by have := cast_le (show i ≤ 16 by omega); simpa using this
  have j0 : (0 : Rat) ≤ (j : Rat) := Rat.natCast_nonneg
  have j16 : (j : Rat) ≤ 16 := by have := cast_le (show j ≤ 16 by omega); simpa using this
  have iz : i = 0 ∨ 1 ≤ (i : Rat) := by
    rcases Nat.eq_zero_or_pos i with h | h
    · exact .inl h
    · right; have := cast_le (show 1 ≤ i by omega); simpa using this
  obtain ⟨B, hB⟩ : ∃ B, B = ((m : Rat) + 1) * (1 / 16) := ⟨_, rfl⟩
  obtain ⟨C, hC⟩ : ∃ C, C = ((m : Rat) + 17) * (1 / 16) := ⟨_, rfl⟩
  obtain ⟨X, hX⟩ : ∃ X, X = (i : Rat) * (1 / 8) := ⟨_, rfl⟩
  obtain ⟨Y, hY⟩ : ∃ Y, Y = (j : Rat) * (1 / 8) := ⟨_, rfl⟩
  rw [← hB] at ib
  rw [← hC] at ib1
  rw [← hX] at ix ixy
  rw [← hY] at iy ixy
  have X0 : 0 ≤ X := by grind
  have X2 : X ≤ 2 := by grind
  have Y0 : 0 ≤ Y := by grind
  have Y2 : Y ≤ 2 := by grind
  have XY0 := Rat.mul_nonneg X0 Y0
  have XY1 := Rat.mul_nonneg X0 (show 0 ≤ 2 - Y by grind)
  obtain ⟨e, z, g, lb⟩ := lg_of ib (by grind) (by grind)
  obtain ⟨e', z', g', lc⟩ := lg_of ib1 (by grind) (by grind)
  obtain ⟨l1, l2⟩ := lb.low (by grind) (by grind)
  obtain ⟨l3, l4⟩ := lc.low (by grind) (by grind)
  have hmore := log_more lb lc (by grind)
  obtain ⟨L, hL⟩ : ∃ L, L = (e : Rat) + g := ⟨_, rfl⟩
  -- p
  have x1 := Rat.mul_nonneg (show 0 ≤ L + 45 / 10 by grind) X0
  have x2 := Rat.mul_nonneg (show 0 ≤ 35 / 10 - L by grind) X0
  obtain ⟨p, R, t, K, f, hp, iR, hK, f0, f1, t1, t2, R1, R2, P0, P1, P2⟩ := pow_all lb ib ix X0 (by grind) (by rw [← hL]; grind) (by rw [← hL]; grind)
  obtain ⟨ep, zp, gp, lp⟩ := lg_of iR (by grind) (by grind)
  obtain ⟨k1, k2⟩ := log_back f0 f1 lp.val lp.z1 lp.z2 lp.log R1 R2
  rw [← hL] at t1 t2
  -- q and the whole
  obtain ⟨M, hM⟩ : ∃ M, M = (ep : Rat) + gp := ⟨_, rfl⟩
  rw [← hM] at k1 k2
  have y1 := Rat.mul_nonneg (show 0 ≤ M - (L * X - 51 / 10000000) by grind) Y0
  have y2 := Rat.mul_nonneg (show 0 ≤ L * X + 51 / 10000000 - M by grind) Y0
  have w1 := Rat.mul_nonneg (show 0 ≤ L + 45 / 10 by grind) XY0
  have w2 := Rat.mul_nonneg (show 0 ≤ 35 / 10 - L by grind) XY0
  have eLXY : L * (X * Y) = L * X * Y := by grind
  obtain ⟨q, w, Q, W, hq, hw, iQ, iW, W0, W1, W2, q1, q2⟩ := pow_nears (d := 11 / 1000000) lp lb iR ib iy ixy Y0 (by grind) XY0 (by grind) (by rw [← hM]; grind) (by rw [← hM]; grind) (by rw [← hL]; grind) (by rw [← hL]; grind) (by grind) (by grind) (by rw [← hM, ← hL]; grind) (by rw [← hM, ← hL]; grind)
  -- the next one
  have hn : ∃ n N, powRes (fadd (bOf m) (canon .f32 1065353216)) (xOf i) = (n, 0) ∧ Is .f32 n N ∧ R ≤ N := by
    rcases iz with h | h
    · subst h
      have eX : X = 0 := by rw [hX]; have : ((0 : Nat) : Rat) = 0 := rfl; rw [this]; grind
      rw [eX] at ix
      have h1 := pow_zero ib (by grind) (by grind) ix
      have h2 := pow_zero ib1 (by grind) (by grind) ix
      rw [hp] at h1
      injection h1 with h3 _
      rw [h3] at iR
      exact ⟨_, _, h2, iR, Rat.le_refl⟩
    · have z1' := Rat.mul_nonneg (show 0 ≤ 35 / 10 - ((e' : Rat) + g') by grind) X0
      obtain ⟨p', n, R', N, a1, a2, a3, a4, a5⟩ := two_pow lb lc ib ib1 ix (by grind) (by grind) (by rw [← hL]; grind) (by grind) hmore
      rw [hp] at a1
      injection a1 with a6 _
      rw [← a6] at a3
      have := iR.uniq a3
      exact ⟨n, N, a2, a4, by grind⟩
  obtain ⟨n, N, hn1, hn2, hn3⟩ := hn
  -- squares
  have hs := sq_ok m hm
  unfold sqOk at hs
  rw [Bool.and_eq_true] at hs
  have hs2 : powRes (bOf m) (canon .f32 1073741824) = ((powRes (bOf m) (canon .f32 1073741824)).1, 0) := Prod.ext rfl (by simpa using hs.1)
  -- zero
  have h0 := pow_zero ib (by grind) (by grind) zero32
  -- nearness
  obtain ⟨c1, c2⟩ := e4_near
  have p127 : (1048576 : Rat) ≤ p2 127 := by have := p2_mono (show (20 : Int) ≤ 127 by decide); have e : p2 20 = 1048576 := (by decide +kernel); grind
  have tiny : p2 (-149) ≤ 1 / 1000000000000000000 := by decide +kernel
  have u0 := Rat.mul_nonneg (Rat.le_of_lt W0) (show 0 ≤ e4V - 999999 / 10000000000 by grind)
  have u1 := Rat.mul_nonneg (Rat.le_of_lt W0) (show 0 ≤ 1000001 / 10000000000 - e4V by grind)
  obtain ⟨c, ic, rc⟩ := is_mul iW ie4 (fit_k 20 (B := 1048576) (by decide +kernel) (by decide) (by grind) (by grind))
  have rc1 := rc.rel (by grind) (by grind)
  refine ⟨p, q, w, _, n, ⟨hp, hq, hw, hs2, hn1, h0, by rw [feq_is iR iR]; simp, ixy.some, ib1.some, near_of iQ iW ic (by grind) (by grind), hs.2, by rw [fge_is hn2 iR]; simpa using hn3⟩⟩
end Go.Proofs.Ytghmonkoleegjaa
