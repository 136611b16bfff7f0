/- Films of layers: each doubling keeps what is reflected and what goes through between bounds. No program is named here. Films of layers: the bounds of ten doublings, in numbers (printed by mkFlB.py). No program is named here. Films of the layers that the laws draw: they are made, valid, and do not reflect all. No program is named here. Films over backings, and found again by two of them. No program is named here. -/
import Derived.Test.YtfpjiclkhjdihaaHlf
import Derived.Test.YtfpjiclkhjdihaaFnt
import Derived.Test.YtfpjiclkhjdihaaDM
import Derived.Test.YtfpjiclkhjdihaaDQ
namespace Go.Proofs.Ytfpjiclkhjdihaa
open Go.RowKit
set_option maxRecDepth 100000

theorem rep_zero : Rep Ieee.single 0 := ⟨0, by decide, .inl (rungV_zero _).symm⟩
theorem nonneg_of {v w : Rat} (hr : Rnd Ieee.single v w) (hv : 0 ≤ v) : 0 ≤ w := hr.dn 0 rep_zero hv
theorem rep_one : Rep Ieee.single 1 := by have := rep32_p2 0 (by decide) (by decide); rw [p2_zero] at this; exact this
theorem tiny32 : p2 (-149) ≤ 1 / 100000000000000000000 := by decide +kernel
theorem big32 : (1024 : Rat) ≤ p2 127 := by have := p2_mono (show (10 : Int) ≤ 127 by decide); have e := k_10.1; grind
theorem g2_nonneg : 0 ≤ p2 (-149) := Rat.le_of_lt (p2_pos _)
/-- What one doubling works out. -/
structure Step (r t r' t' : Rat) where
  rr : Rat
  d : Rat
  u : Rat
  ur : Rat
  q : Rat
  A : Rat
  Q : Rat
  hrr : Nh (r * r) rr 1 (1 / 33554432)
  hd : Nh (1 - rr) d 1 (1 / 33554432)
  hu : Nh (t * t) u 1 (1 / 33554432)
  hur : Rnd Ieee.single (u * r) ur
  hA : A * d = u
  hQ : Q * d = ur
  hq : Rnd Ieee.single Q q
  hr' : Nh (r + q) r' 2 (1 / 16777216)
  ht' : Rnd Ieee.single A t'
  rr0 : 0 ≤ rr
  u0 : 0 ≤ u
  ur0 : 0 ≤ ur
  urt : ur ≤ u
  d0 : 1 / 1000 ≤ d
  dD : d ≤ 1 - r * r + 1 / 16777216 ∧ 1 - r * r ≤ d + 1 / 16777216
  A0 : 0 ≤ A
  Q0 : 0 ≤ Q
  A1 : A ≤ 1
  Qh : Q ≤ 1 / 2
  q0 : 0 ≤ q
  t0' : 0 ≤ t'
  t1' : t' ≤ 1
  rr' : r ≤ r'
/-- What one doubling starts from. -/
structure From (r t c δ : Rat) : Prop where
  r0 : 0 ≤ r
  t0 : 0 ≤ t
  t1 : t ≤ 1
  c0 : 1 / 450 ≤ c
  rc : r ≤ 1 - c
  hδ : r + t ≤ 1 + δ
  δ0 : 0 ≤ δ
  dc : 10 * δ ≤ c
  d1 : δ ≤ 1 / 1000
  hs : r < 1 / 32 → r + t ≤ 1 + 1 / 8000
theorem dbl_is {rw tw : Option Nat} {r t c δ : Rat} (ir : Is .f32 rw r) (it : Is .f32 tw t) (h : From r t c δ) :
    ∃ r' t', Is .f32 (dbl (rw, tw)).1 r' ∧ Is .f32 (dbl (rw, tw)).2 t' ∧ Nonempty (Step r t r' t') := by
  obtain ⟨r0, t0, t1, c0, rc, hδ, δ0, dc, δ1, hs⟩ := h
  obtain ⟨z0, z1⟩ := h_0
  obtain ⟨k1, k1'⟩ := h_1
  have m0 := Rat.mul_nonneg r0 r0
  have m1 := Rat.mul_nonneg r0 (show 0 ≤ 1 - r by grind)
  have m2 := Rat.mul_nonneg t0 t0
  have m3 := Rat.mul_nonneg t0 (show 0 ≤ 1 - t by grind)
  have c1 : c ≤ 1 := by grind
  obtain ⟨rr, irr, hrr⟩ := nh_mul 0 z0 z1 (by decide) (by decide) ir ir (by grind) (by grind)
  have rr0 := nonneg_of hrr.rnd m0
  have rrt := hrr.top
  obtain ⟨d, id, hd⟩ := nh_sub 0 z0 z1 (by decide) (by decide) i1 irr (by grind) (by grind)
  obtain ⟨u, iu, hu⟩ := nh_mul 0 z0 z1 (by decide) (by decide) it it (by grind) (by grind)
  have u0 := nonneg_of hu.rnd m2
  have ut := hu.top
  have m4 := Rat.mul_nonneg u0 r0
  have m5 := Rat.mul_nonneg u0 (show 0 ≤ 1 - r by grind)
  obtain ⟨ur, iur, hur⟩ := is_mul iu ir (fit_k 0 z0 (by decide) (by grind) (by grind))
  have ur0 := nonneg_of hur m4
  have urt := hur.up u iu.rep (by grind)
  -- the denominator
  have h1 := hrr.hi
  have h2 := hrr.lo
  have h3 := hd.hi
  have h4 := hd.lo
  have g2 := tiny32
  have big := big32
  have hD : c ≤ 1 - r * r := by grind
  have d0 : 1 / 1000 ≤ d := by grind
  have dD : d ≤ 1 - r * r + 1 / 16777216 ∧ 1 - r * r ≤ d + 1 / 16777216 := by constructor <;> grind
  -- what goes through stays below 1
  have ud : u ≤ d := by
    by_cases ha : r < 1 / 6000
    · have g1 := hrr.rnd.rel m0 (by grind)
      have m6 := Rat.mul_nonneg (show 0 ≤ 1 / 6000 - r by grind) (show 0 ≤ 1 / 6000 + r by grind)
      have hd1 : d = 1 := hd.half.one hd.rnd (by grind) (by grind)
      rw [hd1]
      exact ut
    · have h5 := hu.hi
      -- t * t + r * r and a little is at most 1
      have key : ∀ e : Rat, 0 ≤ e → t ≤ 1 - r + e → e * e + 3 / 33554432 ≤ 2 * ((1 - r) * (r - e)) → u ≤ d := by
        intro e e0 ht he
        have m6 := Rat.mul_nonneg (show 0 ≤ 1 - r + e - t by grind) (show 0 ≤ 1 - r + e + t by grind)
        grind
      by_cases hb : r < 1 / 32
      · refine key (1 / 8000) (by grind) (by have := hs hb; grind) ?_
        have m6 := Rat.mul_nonneg (show 0 ≤ 1 / 32 - r by grind) (show 0 ≤ r - 1 / 6000 by grind)
        grind
      · refine key δ δ0 (by grind) ?_
        have m6 := Rat.mul_nonneg (show 0 ≤ 1 - r - 1 / 450 by grind) (show 0 ≤ r - δ - 1 / 34 by grind)
        have m7 := Rat.mul_nonneg δ0 (show 0 ≤ 1 / 1000 - δ by grind)
        grind
  obtain ⟨A, hA⟩ := quot_mk u (show d ≠ 0 by grind)
  obtain ⟨Q, hQ⟩ := quot_mk ur (show d ≠ 0 by grind)
  have A0 : 0 ≤ A := quot_ge hA (by grind) (by grind)
  have Q0 : 0 ≤ Q := quot_ge hQ (by grind) (by grind)
  have A1 : A ≤ 1 := quot_le hA (by grind) (by grind)
  -- Q is at most a half
  have hy : t ≤ 11 / 10 * (1 - r) := by grind
  have m6 := Rat.mul_nonneg t0 (show 0 ≤ 11 / 10 * (1 - r) - t by grind)
  have m7 := Rat.mul_nonneg (show 0 ≤ 11 / 10 * (1 - r) - t by grind) (show 0 ≤ 1 - r by grind)
  have g1 := hu.rnd.rel m2 (by grind)
  have g3 := hur.rel m4 (by grind)
  have y0 : 1 / 450 ≤ 1 - r := by grind
  have m8 := Rat.mul_nonneg (show 0 ≤ 1 - r by grind) (show 0 ≤ 1 - r by grind)
  have u2 : u ≤ 1211 / 1000 * ((1 - r) * (1 - r)) := by
    have m9 := Rat.mul_nonneg (show 0 ≤ 1 - r - 1 / 450 by grind) (show 0 ≤ 1 - r - 1 / 450 by grind)
    grind
  have d2 : 999 / 1000 * ((1 - r) * (1 + r)) ≤ d := by grind
  have Qh : Q ≤ 1 / 2 := by
    refine quot_le hQ (by grind) ?_
    have m9 := Rat.mul_nonneg r0 (show 0 ≤ 1211 / 1000 * ((1 - r) * (1 - r)) - u by grind)
    have ma := Rat.mul_nonneg (show 0 ≤ 1 - r by grind) (show 0 ≤ (r - 1 / 2) * (r - 1 / 2) by
      rcases Rat.le_total (a := r) (b := 1 / 2) with h | h
      · have := Rat.mul_nonneg (show 0 ≤ 1 / 2 - r by grind) (show 0 ≤ 1 / 2 - r by grind); grind
      · exact Rat.mul_nonneg (by grind) (by grind))
    have mb := Rat.mul_nonneg (show 0 ≤ 1 - r by grind) r0
    grind
  have eA : u / d = A := by rw [← hA, Rat.mul_div_cancel (by grind)]
  have eQ : ur / d = Q := by rw [← hQ, Rat.mul_div_cancel (by grind)]
  obtain ⟨t', it', ht'⟩ := is_div iu id (by grind) (by rw [eA]; exact fit_k 1 k1 (by decide) (by grind) (by grind))
  rw [eA] at ht'
  obtain ⟨q, iq, hq⟩ := is_div iur id (by grind) (by rw [eQ]; exact fit_k 1 k1 (by decide) (by grind) (by grind))
  rw [eQ] at hq
  have q0 := nonneg_of hq Q0
  have q2 := hq.up 1 rep_one (by grind)
  obtain ⟨r', ir', hr'⟩ := nh_add 1 k1 k1' (by decide) (by decide) ir iq (by grind) (by grind)
  exact ⟨r', t', ir', it', ⟨⟨rr, d, u, ur, q, A, Q, hrr, hd, hu, hur, hA, hQ, hq, hr', ht', rr0, u0, ur0, urt, d0, dD, A0, Q0, A1, Qh, q0, nonneg_of ht' A0, ht'.up 1 rep_one A1, hr'.rnd.dn r ir.rep (by grind)⟩⟩⟩
/-! Plain inequalities, each on its own. -/
theorem in_ur {u ur r T τ : Rat} (r0 : 0 ≤ r) (r1 : r ≤ 1) (τ0 : 0 ≤ τ) (g1 : u ≤ T + T * (1 / 8388608) + τ) (g3 : ur ≤ u * r + u * r * (1 / 8388608) + τ) : ur ≤ T * r + (T * r + u * r) * (1 / 8388608) + 2 * τ := by
  have b1 := Rat.mul_nonneg (show 0 ≤ T + T * (1 / 8388608) + τ - u by grind) r0
  have b2 := Rat.mul_nonneg τ0 (show 0 ≤ 1 - r by grind)
  grind
theorem in_S {S d u ur y r : Rat} (y0 : 1 / 450 ≤ y) (r0 : 0 ≤ r) (hSd : S * d = u + ur) (d0 : 0 < d) (d2 : 999 / 1000 * (y * (1 + r)) ≤ d) (u2 : u ≤ 1211 / 1000 * (y * y)) (hur : ur ≤ 1212 / 1000 * (y * y * r) + 1 / 1000000000000) : S ≤ 5 / 4 * y := by
  refine quot_le hSd d0 ?_
  have a1 := Rat.mul_nonneg (show 0 ≤ y by grind) (show 0 ≤ d - 999 / 1000 * (y * (1 + r)) by grind)
  have a2 := Rat.mul_nonneg (show 0 ≤ y - 1 / 450 by grind) (show 0 ≤ y - 1 / 450 by grind)
  have a3 := Rat.mul_nonneg (Rat.mul_nonneg (show 0 ≤ y by grind) (show 0 ≤ y by grind)) r0
  grind
theorem in_Q {Q d ur y r : Rat} (y0 : 1 / 450 ≤ y) (r0 : 0 ≤ r) (hQ : Q * d = ur) (d0 : 0 < d) (d3 : 1 / 1000 ≤ d) (d2 : 999 / 1000 * (y * (1 + r)) ≤ d) (hur : ur ≤ 1212 / 1000 * (y * y * r) + 1 / 1000000000000) : Q ≤ 5 / 4 * (y * r) + 1 / 1000000 := by
  refine quot_le hQ d0 ?_
  have yr := Rat.mul_nonneg (show 0 ≤ y by grind) r0
  have a1 := Rat.mul_nonneg yr (show 0 ≤ d - 999 / 1000 * (y * (1 + r)) by grind)
  have a2 := Rat.mul_nonneg (Rat.mul_nonneg (show 0 ≤ y by grind) yr) r0
  have a3 := Rat.mul_nonneg (Rat.mul_nonneg (show 0 ≤ y by grind) (show 0 ≤ y by grind)) r0
  grind
theorem in_T {T y δ ζ c r : Rat} (r0 : 0 ≤ r) (yc : c ≤ y) (ζ0 : 0 ≤ ζ) (hζ : δ * δ ≤ ζ * c) (hT : T ≤ y * y + 2 * δ * y + δ * δ) : T * (1 + r) ≤ y * (y * (1 + r)) + 2 * (δ * (y * (1 + r))) + ζ * (y * (1 + r)) := by
  have zy := Rat.mul_nonneg ζ0 (show 0 ≤ y - c by grind)
  have a3 := Rat.mul_nonneg (show 0 ≤ y * y + 2 * δ * y + δ * δ - T by grind) (show 0 ≤ 1 + r by grind)
  have a4 := Rat.mul_nonneg (show 0 ≤ ζ * y - δ * δ by grind) (show 0 ≤ 1 + r by grind)
  grind
theorem in_Tr {T y δ ζ c r : Rat} (y0 : 0 ≤ y) (r0 : 0 ≤ r) (r1 : r ≤ 1) (δ0 : 0 ≤ δ) (yc : c ≤ y) (ζ0 : 0 ≤ ζ) (hζ : δ * δ ≤ ζ * c) (hT : T ≤ y * y + 2 * δ * y + δ * δ) : T * r ≤ r * y * y + δ * (y * (1 + r)) + ζ / 2 * (y * (1 + r)) := by
  have zy := Rat.mul_nonneg ζ0 (show 0 ≤ y - c by grind)
  have a3 := Rat.mul_nonneg (show 0 ≤ y * y + 2 * δ * y + δ * δ - T by grind) r0
  have a4 := Rat.mul_nonneg (show 0 ≤ ζ * y - δ * δ by grind) r0
  have a5 := Rat.mul_nonneg (Rat.mul_nonneg δ0 y0) (show 0 ≤ 1 - r by grind)
  have a6 := Rat.mul_nonneg (Rat.mul_nonneg ζ0 y0) (show 0 ≤ 1 - r by grind)
  grind
theorem in_F1 {y r : Rat} (hr : r = 1 - y) (y0 : 0 ≤ y) (r0 : 0 ≤ r) : 484 / 100 * (y * (y * (1 + r))) + 4844 / 1000 * (y * y * r) + 5 / 2 * y + 1 / 2 * y ≤ 8 * (y * (1 + r)) := by
  have b := Rat.mul_nonneg (Rat.mul_nonneg y0 r0) (show 0 ≤ 1284 / 100 - 9684 / 1000 * y by grind)
  subst hr
  grind
theorem in_F2 {y r : Rat} (hr : r = 1 - y) (y0 : 1 / 450 ≤ y) (y1 : y ≤ 1) : 969 / 100 * (y * y * r) + 5 / 2 * (y * r) + 1 / 1000 ≤ 6 * (y * (1 + r)) := by
  have b := Rat.mul_nonneg (show 0 ≤ y by grind) (show 0 ≤ (y - 2 / 3) * (y - 2 / 3) by
    rcases Rat.le_total (a := y) (b := 2 / 3) with h | h
    · have := Rat.mul_nonneg (show 0 ≤ 2 / 3 - y by grind) (show 0 ≤ 2 / 3 - y by grind); grind
    · exact Rat.mul_nonneg (by grind) (by grind))
  have b2 := Rat.mul_nonneg (show 0 ≤ y by grind) (show 0 ≤ 1 - y by grind)
  subst hr
  grind
theorem in_lin1 {SP U UR S TP Ur yP δP ζP P y Y3 τ : Rat} (h1 : SP ≤ U + UR + S * (1 / 16777216)) (h2 : U + UR ≤ TP + (TP + Ur) * (1 / 8388608) + 4 * τ) (h3 : TP ≤ yP + 2 * δP + ζP) (h4 : TP ≤ 121 / 100 * yP) (h5 : Ur ≤ 1211 / 1000 * Y3) (h6 : 484 / 100 * yP + 4844 / 1000 * Y3 + 5 / 2 * y + 1 / 2 * y ≤ 8 * P) (h7 : S ≤ 5 / 4 * y) (h8 : 1 / 450 ≤ y) (h9 : τ ≤ 1 / 100000000000000000000) :
    SP ≤ yP + 2 * δP + ζP + 8 / 33554432 * P := by grind
theorem in_lin2 {QP UR Q Tr Ur yyr δP ζP P yr τ : Rat} (h1 : QP ≤ UR + Q * (1 / 16777216)) (h2 : UR ≤ Tr + (Tr + Ur) * (1 / 8388608) + 2 * τ) (h3 : Tr ≤ yyr + δP + ζP) (h4 : Tr ≤ 121 / 100 * yyr) (h5 : Ur ≤ 1211 / 1000 * yyr) (h6 : 969 / 100 * yyr + 5 / 2 * yr + 1 / 1000 ≤ 6 * P) (h7 : Q ≤ 5 / 4 * yr + 1 / 1000000) (h8 : 0 ≤ yyr) (h9 : τ ≤ 1 / 100000000000000000000) :
    QP ≤ yyr + δP + ζP + 6 / 33554432 * P := by grind
/-- What one doubling keeps: the general bound. -/
theorem step_gen {r t r' t' c δ : Rat} (s : Step r t r' t') (h : From r t c δ) (ζ w : Rat) (hζ : δ * δ ≤ ζ * c) (ζ0 : 0 ≤ ζ) (hw : w * (2 - c) ≤ c) (w0 : 0 ≤ w) :
    r' + t' ≤ 1 + 2 * δ + ζ + 14 / 33554432 ∧ r' ≤ 1 - w + δ + ζ / 2 + 10 / 33554432 := by
  obtain ⟨r0, t0, t1, c0, rc, hδ, δ0, dc, δ1, hs⟩ := h
  obtain ⟨rr, d, u, ur, q, A, Q, hrr, hd, hu, hur, hA, hQ, hq, hr', ht', rr0, u0, ur0, urt, d0, ⟨dD1, dD2⟩, A0, Q0, A1, Qh, q0, t0', t1', rr'⟩ := s
  have g2 := tiny32
  obtain ⟨k0, k0'⟩ := k_0
  have e1 := ht'.gap 0 (by decide) (by decide) (by rw [k0]; exact A1) (by rw [k0]; grind)
  have e2 := hq.gap 0 (by decide) (by decide) (by rw [k0]; grind) (by rw [k0]; grind)
  rw [k0'] at e1 e2
  have e3 := hr'.hi
  have m2 := Rat.mul_nonneg t0 t0
  have big := big32
  have g1 := (hu.rnd.rel m2 (by have := Rat.mul_nonneg t0 (show 0 ≤ 1 - t by grind); grind)).1
  have m4 := Rat.mul_nonneg u0 r0
  have g3 := (hur.rel m4 (by have := hu.top; have := Rat.mul_nonneg u0 (show 0 ≤ 1 - r by grind); grind)).1
  clear hrr hd hu hur hq hr' ht' hs rr0 ur0 k0 k0' big
  obtain ⟨y, hy⟩ : ∃ y, y = 1 - r := ⟨_, rfl⟩
  have hr : r = 1 - y := by grind
  have y0 : 1 / 450 ≤ y := by grind
  have yc : c ≤ y := by grind
  have y1 : y ≤ 1 := by grind
  have r1 : r ≤ 1 := by grind
  have ty : t ≤ y + δ := by grind
  have ty2 : t ≤ 11 / 10 * y := by grind
  have yy := Rat.mul_nonneg (show 0 ≤ y by grind) (show 0 ≤ y by grind)
  have hT : t * t ≤ y * y + 2 * δ * y + δ * δ := by
    have n3 := Rat.mul_nonneg (show 0 ≤ y + δ - t by grind) (show 0 ≤ y + δ + t by grind)
    clear hr hy
    grind
  have tt : t * t ≤ 121 / 100 * (y * y) := by
    have n1 := Rat.mul_nonneg (show 0 ≤ 11 / 10 * y - t by grind) (show 0 ≤ 11 / 10 * y + t by grind)
    clear hr hy
    grind
  have u2 : u ≤ 1211 / 1000 * (y * y) := by
    have n4 := Rat.mul_nonneg (show 0 ≤ y - 1 / 450 by grind) (show 0 ≤ y - 1 / 450 by grind)
    clear hr hy
    grind
  have hD : 1 - r * r = y * (1 + r) := by grind
  rw [hD] at dD1 dD2
  have pD : 0 < y * (1 + r) := Rat.mul_pos (by grind) (by grind)
  have d2 : 999 / 1000 * (y * (1 + r)) ≤ d := by
    have : y ≤ y * (1 + r) := by have := Rat.mul_nonneg (show 0 ≤ y by grind) r0; grind
    clear hr hy hD
    grind
  have ur2 : u * r ≤ 1211 / 1000 * (y * y * r) := by
    have := Rat.mul_nonneg (show 0 ≤ 1211 / 1000 * (y * y) - u by grind) r0
    clear hr hy hD
    grind
  have ur3 := in_ur r0 r1 g2_nonneg g1 g3
  have ur4 : ur ≤ 1212 / 1000 * (y * y * r) + 1 / 1000000000000 := by
    have := Rat.mul_nonneg yy r0
    clear hr hy hD
    grind
  obtain ⟨S, hS⟩ : ∃ S, S = A + Q := ⟨_, rfl⟩
  have hSd : S * d = u + ur := by rw [hS, Rat.add_mul, hA, hQ]
  have S0 : 0 ≤ S := by rw [hS]; grind
  have S1 := in_S y0 r0 hSd (by grind) d2 u2 ur4
  have Q1 := in_Q y0 r0 hQ (by grind) d0 d2 ur4
  have a2 : S * (y * (1 + r)) ≤ u + ur + S * (1 / 16777216) := by
    have a1 := Rat.mul_nonneg S0 (show 0 ≤ d + 1 / 16777216 - y * (1 + r) by grind)
    rw [← hSd]
    clear hr hy hD hS hSd hA hQ
    grind
  have a2' : Q * (y * (1 + r)) ≤ ur + Q * (1 / 16777216) := by
    have a1 := Rat.mul_nonneg Q0 (show 0 ≤ d + 1 / 16777216 - y * (1 + r) by grind)
    rw [← hQ]
    clear hr hy hD hS hSd hA hQ
    grind
  have T1 := in_T r0 yc ζ0 hζ hT
  have T2 := in_Tr (show 0 ≤ y by grind) r0 r1 δ0 yc ζ0 hζ hT
  have F1 := in_F1 hr (show 0 ≤ y by grind) r0
  have F2 := in_F2 hr y0 y1
  have T3 : t * t * (1 + r) ≤ 121 / 100 * (y * (y * (1 + r))) := by
    have := Rat.mul_nonneg (show 0 ≤ 121 / 100 * (y * y) - t * t by grind) (show 0 ≤ 1 + r by grind)
    clear hr hy hD
    grind
  have T4 : t * t * r ≤ 121 / 100 * (y * y * r) := by
    have := Rat.mul_nonneg (show 0 ≤ 121 / 100 * (y * y) - t * t by grind) r0
    clear hr hy hD
    grind
  have U1 : u + ur ≤ t * t * (1 + r) + (t * t * (1 + r) + u * r) * (1 / 8388608) + 4 * p2 (-149) := by
    have := g2_nonneg
    clear hr hy hD T1 T2 F1 F2 T3 T4 a2 a2' S1 Q1
    grind
  have L1 := in_lin1 a2 U1 T1 T3 ur2 F1 S1 y0 g2
  have L2 := in_lin2 (yyr := y * y * r) (δP := δ * (y * (1 + r))) (ζP := ζ / 2 * (y * (1 + r))) a2' ur3 (by have e : r * y * y = y * y * r := (by grind); rw [← e]; exact T2) T4 ur2 F2 Q1 (Rat.mul_nonneg yy r0) g2
  constructor
  · have hmain : S ≤ y + 2 * δ + ζ + 8 / 33554432 := by
      apply Rat.le_of_mul_le_mul_right (c := y * (1 + r)) _ pD
      clear hr hy hD
      grind
    grind
  · have hmain : Q * (1 + r) ≤ r * y + (δ + ζ / 2 + 6 / 33554432) * (1 + r) := by
      apply Rat.le_of_mul_le_mul_right (c := y) _ (by grind)
      clear hr hy hD
      grind
    have b1 : w * (1 + r) ≤ y := by
      have := Rat.mul_nonneg w0 (show 0 ≤ y - c by grind)
      have e : 1 + r = 2 - y := by grind
      rw [e]
      grind
    have hfin : r + Q ≤ 1 - w + δ + ζ / 2 + 6 / 33554432 := by
      apply Rat.le_of_mul_le_mul_right (c := 1 + r) _ (by grind)
      have e : r * (1 + r) + r * y = (1 + r) - y := by grind
      clear hr hy hD
      grind
    grind
theorem in_lin3 {SP U UR S TP σP ζP yP P r : Rat} (h1 : SP ≤ U + UR + S * (1 / 33554432 + 1 / 17179869184)) (h2 : U + UR ≤ TP + (1 + r) * (1 / 33554432) + 1 / 536870912) (h3 : TP ≤ yP + 2 * σP + ζP) (h4 : S ≤ 17 / 16) (h5 : r ≤ 1 / 32) (h6 : 31 / 32 ≤ P) :
    SP ≤ yP + 2 * σP + ζP + (5 / 2) / 33554432 * P := by grind
/-- What one doubling keeps where little is reflected. -/
theorem step_small {r t r' t' c δ σ : Rat} (s : Step r t r' t') (h : From r t c δ) (hr' : r' < 1 / 32) (hσ : r + t ≤ 1 + σ) (σ0 : 0 ≤ σ) (ζ : Rat) (hζ : σ * σ ≤ ζ * (31 / 32)) (ζ0 : 0 ≤ ζ) : r' + t' ≤ 1 + 2 * σ + ζ + 5 / 33554432 := by
  obtain ⟨r0, t0, t1, c0, rc, hδ, δ0, dc, δ1, hs⟩ := h
  obtain ⟨rr, d, u, ur, q, A, Q, hrr, hd, hu, hur, hA, hQ, hq, hrn, ht', rr0, u0, ur0, urt, d0, ⟨dD1, dD2⟩, A0, Q0, A1, Qh, q0, t0', t1', rr'⟩ := s
  have r1 : r < 1 / 32 := by grind
  have em9 : p2 (-9) = 1 / 512 ∧ p2 (-9 - 25) = 1 / 17179869184 := by decide +kernel
  have em5 : p2 (-5) = 1 / 32 ∧ p2 (-5 - 24) = 1 / 536870912 := by decide +kernel
  have em4 : p2 (-4) = 1 / 16 ∧ p2 (-4 - 24) = 1 / 268435456 := by decide +kernel
  have em3 : p2 (-3) = 1 / 8 ∧ p2 (-3 - 25) = 1 / 268435456 := by decide +kernel
  obtain ⟨k0, k0'⟩ := k_0
  have m0 := Rat.mul_nonneg r0 r0
  have m1 := Rat.mul_nonneg (show 0 ≤ 1 / 32 - r by grind) (show 0 ≤ 1 / 32 + r by grind)
  have m4 := Rat.mul_nonneg u0 r0
  have ut := hu.top
  have m5 := Rat.mul_nonneg (show 0 ≤ 1 - u by grind) r0
  have e0 := hrr.half.gap (-9) (by decide) (by rw [em9.1]; grind) (by rw [em9.1]; grind)
  have e4 := hur.gap (-5) (by decide) (by decide) (by rw [em5.1]; grind) (by rw [em5.1]; grind)
  rw [em9.2] at e0
  rw [em5.2] at e4
  have hdl := hd.lo
  have dlo : 998 / 1000 ≤ d := by grind
  have Q1 : Q ≤ 1 / 16 := quot_le hQ (by grind) (by grind)
  have e2 := hq.gap (-4) (by decide) (by decide) (by rw [em4.1]; exact Q1) (by rw [em4.1]; grind)
  rw [em4.2] at e2
  have e3 := hrn.half.gap (-3) (by decide) (by rw [em3.1]; grind) (by rw [em3.1]; grind)
  rw [em3.2] at e3
  have e1 := ht'.gap 0 (by decide) (by decide) (by rw [k0]; exact A1) (by rw [k0]; grind)
  rw [k0'] at e1
  have uhi := hu.hi
  clear hrr hd hu hur hq hrn ht' hs em9 em5 em4 em3 k0 k0'
  obtain ⟨y, hy⟩ : ∃ y, y = 1 - r := ⟨_, rfl⟩
  have y0 : 31 / 32 ≤ y := by grind
  have ty : t ≤ y + σ := by grind
  have hT : t * t ≤ y * y + 2 * σ * y + σ * σ := by
    have n3 := Rat.mul_nonneg (show 0 ≤ y + σ - t by grind) (show 0 ≤ y + σ + t by grind)
    clear hy
    grind
  obtain ⟨S, hS⟩ : ∃ S, S = A + Q := ⟨_, rfl⟩
  have hSd : S * d = u + ur := by rw [hS, Rat.add_mul, hA, hQ]
  have S0 : 0 ≤ S := by rw [hS]; grind
  have S1 : S ≤ 17 / 16 := by rw [hS]; grind
  have hD : 1 - r * r = y * (1 + r) := by grind
  have hDd : y * (1 + r) ≤ d + (1 / 33554432 + 1 / 17179869184) := by rw [← hD]; grind
  have P1 : 31 / 32 ≤ y * (1 + r) := by have := Rat.mul_nonneg (show 0 ≤ y by grind) r0; clear hy hD; grind
  have a2 : S * (y * (1 + r)) ≤ u + ur + S * (1 / 33554432 + 1 / 17179869184) := by
    have a1 := Rat.mul_nonneg S0 (show 0 ≤ d + (1 / 33554432 + 1 / 17179869184) - y * (1 + r) by grind)
    rw [← hSd]
    clear hy hD hS hSd hA hQ
    grind
  have T1 := in_T r0 y0 ζ0 hζ hT
  have U1 : u + ur ≤ t * t * (1 + r) + (1 + r) * (1 / 33554432) + 1 / 536870912 := by
    have b := Rat.mul_nonneg (show 0 ≤ t * t + 1 / 33554432 - u by grind) r0
    clear hy hD T1 a2
    grind
  have L1 := in_lin3 a2 U1 T1 S1 (by grind) P1
  have hmain : S ≤ y + 2 * σ + ζ + (5 / 2) / 33554432 := by
    apply Rat.le_of_mul_le_mul_right (c := y * (1 + r)) _ (by grind)
    clear hy hD
    grind
  grind
/-- A film on its way: how far what it reflects and lets through may exceed 1. -/
structure Way (p : Option Nat × Option Nat) (r t c δ σ : Rat) : Prop where
  ir : Is .f32 p.1 r
  it : Is .f32 p.2 t
  fr : From r t c δ
  sm : r < 1 / 32 → r + t ≤ 1 + σ
  σ0 : 0 ≤ σ
  σ1 : σ ≤ 1 / 8000
theorem way_step {p : Option Nat × Option Nat} {r t c δ σ : Rat} (h : Way p r t c δ σ) (ζ w ξ c' δ' σ' : Rat) (hζ : δ * δ ≤ ζ * c) (ζ0 : 0 ≤ ζ) (hw : w * (2 - c) ≤ c) (w0 : 0 ≤ w) (hξ : σ * σ ≤ ξ * (31 / 32)) (ξ0 : 0 ≤ ξ)
    (h1 : 2 * δ + ζ + 14 / 33554432 ≤ δ') (h2 : c' + δ + ζ / 2 + 10 / 33554432 ≤ w) (h3 : 2 * σ + ξ + 5 / 33554432 ≤ σ') (h4 : 1 / 450 ≤ c') (h5 : 10 * δ' ≤ c') (h6 : δ' ≤ 1 / 1000) (h7 : σ' ≤ 1 / 8000) : ∃ r' t', Way (dbl p) r' t' c' δ' σ' ∧ Nonempty (Step r t r' t') := by
  obtain ⟨ir, it, fr, sm, σ0, σ1⟩ := h
  obtain ⟨r', t', ir', it', ⟨s⟩⟩ := dbl_is (rw := p.1) (tw := p.2) ir it fr
  obtain ⟨g1, g2⟩ := step_gen s fr ζ w hζ ζ0 hw w0
  have hsm : r' < 1 / 32 → r' + t' ≤ 1 + σ' := by
    intro hr
    have := step_small s fr hr (sm (by have := s.rr'; grind)) σ0 ξ hξ ξ0
    grind
  have r0 := fr.r0
  have d0 := fr.δ0
  have rr := s.rr'
  exact ⟨r', t', ⟨ir', it', ⟨by grind, s.t0', s.t1', h4, by grind, by grind, by grind, h5, h6, fun hr => by have := hsm hr; grind⟩, hsm, by grind, h7⟩, ⟨s⟩⟩
/-- A film at the end of its way. -/
structure End (p : Option Nat × Option Nat) (R T c δ σ : Rat) : Prop where
  ir : Is .f32 p.1 R
  it : Is .f32 p.2 T
  r0 : 0 ≤ R
  rc : R ≤ 1 - c
  t0 : 0 ≤ T
  t1 : T ≤ 1
  sum : R + T ≤ 1 + δ
  sm : R < 1 / 32 → R + T ≤ 1 + σ
theorem way_end {p : Option Nat × Option Nat} {r t c δ σ : Rat} (h : Way p r t c δ σ) (ζ w ξ c' δ' σ' : Rat) (hζ : δ * δ ≤ ζ * c) (ζ0 : 0 ≤ ζ) (hw : w * (2 - c) ≤ c) (w0 : 0 ≤ w) (hξ : σ * σ ≤ ξ * (31 / 32)) (ξ0 : 0 ≤ ξ)
    (h1 : 2 * δ + ζ + 14 / 33554432 ≤ δ') (h2 : c' + δ + ζ / 2 + 10 / 33554432 ≤ w) (h3 : 2 * σ + ξ + 5 / 33554432 ≤ σ') : ∃ r' t', End (dbl p) r' t' c' δ' σ' ∧ Nonempty (Step r t r' t') := by
  obtain ⟨ir, it, fr, sm, σ0, σ1⟩ := h
  obtain ⟨r', t', ir', it', ⟨s⟩⟩ := dbl_is (rw := p.1) (tw := p.2) ir it fr
  obtain ⟨g1, g2⟩ := step_gen s fr ζ w hζ ζ0 hw w0
  have hsm : r' < 1 / 32 → r' + t' ≤ 1 + σ' := by
    intro hr
    have := step_small s fr hr (sm (by have := s.rr'; grind)) σ0 ξ hξ ξ0
    grind
  have r0 := fr.r0
  have rr := s.rr'
  exact ⟨r', t', ⟨ir', it', by grind, by grind, s.t0', s.t1', by grind, hsm⟩, ⟨s⟩⟩
end Go.Proofs.Ytfpjiclkhjdihaa

namespace Go.Proofs.Ytfpjiclkhjdihaa
open Go.RowKit
set_option maxRecDepth 100000

/-- Ten doublings of a layer that reflects a quarter at the most. -/
theorem way_thick {p : Option Nat × Option Nat} {r t : Rat} (h : Way p r t (3 / 4) (1 / 16777216) (1 / 16777216)) : ∃ R T, End (dblN p 10) R T (25873930717 / 10000000000000) (5019497547 / 10000000000000) (2134974179 / 10000000000000) ∧ r ≤ R := by
  obtain ⟨r1, t1, h1, ⟨s1⟩⟩ := way_step h (1 / 10000000000000) (3 / 5) (1 / 10000000000000) (149999910593 / 250000000000) (268221 / 500000000000) (2682211 / 10000000000000) (by decide +kernel) (by decide +kernel) (by decide +kernel) (by decide +kernel) (by decide +kernel) (by decide +kernel) (by decide +kernel) (by decide +kernel) (by decide +kernel) (by decide +kernel) (by decide +kernel) (by decide +kernel) (by decide +kernel)
  obtain ⟨r2, t2, h2, ⟨s2⟩⟩ := way_step h1 (1 / 2000000000000) (4285710636449 / 10000000000000) (1 / 10000000000000) (2142851145897 / 5000000000000) (14901171 / 10000000000000) (342727 / 500000000000) (by decide +kernel) (by decide +kernel) (by decide +kernel) (by decide +kernel) (by decide +kernel) (by decide +kernel) (by decide +kernel) (by decide +kernel) (by decide +kernel) (by decide +kernel) (by decide +kernel) (by decide +kernel) (by decide +kernel)
  obtain ⟨r3, t3, h3, ⟨s3⟩⟩ := way_step h2 (13 / 2500000000000) (545452602639 / 2000000000000) (1 / 2000000000000) (545449026353 / 2000000000000) (106171 / 31250000000) (7599601 / 5000000000000) (by decide +kernel) (by decide +kernel) (by decide +kernel) (by decide +kernel) (by decide +kernel) (by decide +kernel) (by decide +kernel) (by decide +kernel) (by decide +kernel) (by decide +kernel) (by decide +kernel) (by decide +kernel) (by decide +kernel)
  obtain ⟨r4, t4, h4, ⟨s4⟩⟩ := way_step h3 (53 / 1250000000000) (789464434761 / 5000000000000) (3 / 1250000000000) (1578891914357 / 10000000000000) (7212219 / 1000000000000) (6377709 / 2000000000000) (by decide +kernel) (by decide +kernel) (by decide +kernel) (by decide +kernel) (by decide +kernel) (by decide +kernel) (by decide +kernel) (by decide +kernel) (by decide +kernel) (by decide +kernel) (by decide +kernel) (by decide +kernel) (by decide +kernel)
  obtain ⟨r5, t5, h5, ⟨s5⟩⟩ := way_step h4 (659 / 2000000000000) (428555086647 / 5000000000000) (21 / 2000000000000) (107129383653 / 1250000000000) (148420001 / 10000000000000) (4079207 / 625000000000) (by decide +kernel) (by decide +kernel) (by decide +kernel) (by decide +kernel) (by decide +kernel) (by decide +kernel) (by decide +kernel) (by decide +kernel) (by decide +kernel) (by decide +kernel) (by decide +kernel) (by decide +kernel) (by decide +kernel)
  obtain ⟨r6, t6, h6, ⟨s6⟩⟩ := way_step h5 (3213 / 1250000000000) (55962795753 / 1250000000000) (11 / 250000000000) (223775476469 / 5000000000000) (18814877 / 625000000000) (132025181 / 10000000000000) (by decide +kernel) (by decide +kernel) (by decide +kernel) (by decide +kernel) (by decide +kernel) (by decide +kernel) (by decide +kernel) (by decide +kernel) (by decide +kernel) (by decide +kernel) (by decide +kernel) (by decide +kernel) (by decide +kernel)
  obtain ⟨r7, t7, h7, ⟨s7⟩⟩ := way_step h6 (202489 / 10000000000000) (228897644413 / 10000000000000) (9 / 50000000000) (28574190613 / 1250000000000) (606450879 / 10000000000000) (265542279 / 10000000000000) (by decide +kernel) (by decide +kernel) (by decide +kernel) (by decide +kernel) (by decide +kernel) (by decide +kernel) (by decide +kernel) (by decide +kernel) (by decide +kernel) (by decide +kernel) (by decide +kernel) (by decide +kernel) (by decide +kernel)
  obtain ⟨r8, t8, h8, ⟨s8⟩⟩ := way_step h7 (804447 / 5000000000000) (1445228019 / 125000000000) (7279 / 10000000000000) (115008005961 / 10000000000000) (609341489 / 5000000000000) (266290977 / 5000000000000) (by decide +kernel) (by decide +kernel) (by decide +kernel) (by decide +kernel) (by decide +kernel) (by decide +kernel) (by decide +kernel) (by decide +kernel) (by decide +kernel) (by decide +kernel) (by decide +kernel) (by decide +kernel) (by decide +kernel)
  obtain ⟨r9, t9, h9, ⟨s9⟩⟩ := way_step h8 (12913781 / 10000000000000) (7229573313 / 1250000000000) (183 / 62500000000) (56608466403 / 10000000000000) (2454452063 / 10000000000000) (213336661 / 2000000000000) (by decide +kernel) (by decide +kernel) (by decide +kernel) (by decide +kernel) (by decide +kernel) (by decide +kernel) (by decide +kernel) (by decide +kernel) (by decide +kernel) (by decide +kernel) (by decide +kernel) (by decide +kernel) (by decide +kernel)
  obtain ⟨r10, t10, h10, ⟨s10⟩⟩ := way_end h9 (21284219 / 2000000000000) (709614339 / 250000000000) (29363 / 2500000000000) (25873930717 / 10000000000000) (5019497547 / 10000000000000) (2134974179 / 10000000000000) (by decide +kernel) (by decide +kernel) (by decide +kernel) (by decide +kernel) (by decide +kernel) (by decide +kernel) (by decide +kernel) (by decide +kernel) (by decide +kernel)
  have q1 := s1.rr'
  have q2 := s2.rr'
  have q3 := s3.rr'
  have q4 := s4.rr'
  have q5 := s5.rr'
  have q6 := s6.rr'
  have q7 := s7.rr'
  have q8 := s8.rr'
  have q9 := s9.rr'
  have q10 := s10.rr'
  exact ⟨r10, t10, h10, by grind⟩
/-- Ten doublings of a layer that reflects a thirty-second at the most. -/
theorem way_thin {p : Option Nat × Option Nat} {r t : Rat} (h : Way p r t (31 / 32) (1 / 16777216) (1 / 16777216)) : ∃ R T, End (dblN p 10) R T (290469202353 / 10000000000000) (4892925439 / 10000000000000) (2134974179 / 10000000000000) ∧ r ≤ R := by
  obtain ⟨r1, t1, h1, ⟨s1⟩⟩ := way_step h (1 / 10000000000000) (9393939393939 / 10000000000000) (1 / 10000000000000) (9393935817659 / 10000000000000) (268221 / 500000000000) (2682211 / 10000000000000) (by decide +kernel) (by decide +kernel) (by decide +kernel) (by decide +kernel) (by decide +kernel) (by decide +kernel) (by decide +kernel) (by decide +kernel) (by decide +kernel) (by decide +kernel) (by decide +kernel) (by decide +kernel) (by decide +kernel)
  obtain ⟨r2, t2, h2, ⟨s2⟩⟩ := way_step h1 (1 / 2500000000000) (1107142062333 / 1250000000000) (1 / 10000000000000) (8857128154009 / 10000000000000) (1490117 / 1000000000000) (342727 / 500000000000) (by decide +kernel) (by decide +kernel) (by decide +kernel) (by decide +kernel) (by decide +kernel) (by decide +kernel) (by decide +kernel) (by decide +kernel) (by decide +kernel) (by decide +kernel) (by decide +kernel) (by decide +kernel) (by decide +kernel)
  obtain ⟨r3, t3, h3, ⟨s3⟩⟩ := way_step h2 (13 / 5000000000000) (19871735663 / 25000000000) (1 / 2000000000000) (993584547973 / 1250000000000) (8493673 / 2500000000000) (7599601 / 5000000000000) (by decide +kernel) (by decide +kernel) (by decide +kernel) (by decide +kernel) (by decide +kernel) (by decide +kernel) (by decide +kernel) (by decide +kernel) (by decide +kernel) (by decide +kernel) (by decide +kernel) (by decide +kernel) (by decide +kernel)
  obtain ⟨r4, t4, h4, ⟨s4⟩⟩ := way_step h3 (73 / 5000000000000) (6595687442239 / 10000000000000) (3 / 1250000000000) (6595650487241 / 10000000000000) (140863 / 19531250000) (6377709 / 2000000000000) (by decide +kernel) (by decide +kernel) (by decide +kernel) (by decide +kernel) (by decide +kernel) (by decide +kernel) (by decide +kernel) (by decide +kernel) (by decide +kernel) (by decide +kernel) (by decide +kernel) (by decide +kernel) (by decide +kernel)
  obtain ⟨r5, t5, h5, ⟨s5⟩⟩ := way_step h4 (789 / 10000000000000) (2460265035973 / 5000000000000) (21 / 2000000000000) (4920454969463 / 10000000000000) (148416827 / 10000000000000) (4079207 / 625000000000) (by decide +kernel) (by decide +kernel) (by decide +kernel) (by decide +kernel) (by decide +kernel) (by decide +kernel) (by decide +kernel) (by decide +kernel) (by decide +kernel) (by decide +kernel) (by decide +kernel) (by decide +kernel) (by decide +kernel)
  obtain ⟨r6, t6, h6, ⟨s6⟩⟩ := way_step h5 (4477 / 10000000000000) (3262999619351 / 10000000000000) (11 / 250000000000) (3262848220053 / 10000000000000) (301010457 / 10000000000000) (132025181 / 10000000000000) (by decide +kernel) (by decide +kernel) (by decide +kernel) (by decide +kernel) (by decide +kernel) (by decide +kernel) (by decide +kernel) (by decide +kernel) (by decide +kernel) (by decide +kernel) (by decide +kernel) (by decide +kernel) (by decide +kernel)
  obtain ⟨r7, t7, h7, ⟨s7⟩⟩ := way_step h6 (2777 / 1000000000000) (1949464438723 / 10000000000000) (9 / 50000000000) (487290108537 / 2500000000000) (60622101 / 1000000000000) (265542279 / 10000000000000) (by decide +kernel) (by decide +kernel) (by decide +kernel) (by decide +kernel) (by decide +kernel) (by decide +kernel) (by decide +kernel) (by decide +kernel) (by decide +kernel) (by decide +kernel) (by decide +kernel) (by decide +kernel) (by decide +kernel)
  obtain ⟨r8, t8, h8, ⟨s8⟩⟩ := way_step h7 (37709 / 2000000000000) (539908525317 / 5000000000000) (7279 / 10000000000000) (1079207755119 / 10000000000000) (1216802891 / 10000000000000) (266290977 / 5000000000000) (by decide +kernel) (by decide +kernel) (by decide +kernel) (by decide +kernel) (by decide +kernel) (by decide +kernel) (by decide +kernel) (by decide +kernel) (by decide +kernel) (by decide +kernel) (by decide +kernel) (by decide +kernel) (by decide +kernel)
  obtain ⟨r9, t9, h9, ⟨s9⟩⟩ := way_step h8 (1371941 / 10000000000000) (570381906397 / 10000000000000) (183 / 62500000000) (569161437303 / 10000000000000) (2439150049 / 10000000000000) (213336661 / 2000000000000) (by decide +kernel) (by decide +kernel) (by decide +kernel) (by decide +kernel) (by decide +kernel) (by decide +kernel) (by decide +kernel) (by decide +kernel) (by decide +kernel) (by decide +kernel) (by decide +kernel) (by decide +kernel) (by decide +kernel)
  obtain ⟨r10, t10, h10, ⟨s10⟩⟩ := way_end h9 (2090603 / 2000000000000) (146458279571 / 5000000000000) (29363 / 2500000000000) (290469202353 / 10000000000000) (4892925439 / 10000000000000) (2134974179 / 10000000000000) (by decide +kernel) (by decide +kernel) (by decide +kernel) (by decide +kernel) (by decide +kernel) (by decide +kernel) (by decide +kernel) (by decide +kernel) (by decide +kernel)
  have q1 := s1.rr'
  have q2 := s2.rr'
  have q3 := s3.rr'
  have q4 := s4.rr'
  have q5 := s5.rr'
  have q6 := s6.rr'
  have q7 := s7.rr'
  have q8 := s8.rr'
  have q9 := s9.rr'
  have q10 := s10.rr'
  exact ⟨r10, t10, h10, by grind⟩
/-- Ten doublings of a layer that reflects a sixteenth at the most. -/
theorem way_twice {p : Option Nat × Option Nat} {r t : Rat} (h : Way p r t (15 / 16) (1 / 16777216) (1 / 16777216)) : ∃ R T, End (dblN p 10) R T (141051589473 / 10000000000000) (490700311 / 1000000000000) (2134974179 / 10000000000000) ∧ r ≤ R := by
  obtain ⟨r1, t1, h1, ⟨s1⟩⟩ := way_step h (1 / 10000000000000) (2205882352941 / 2500000000000) (1 / 10000000000000) (2205881458871 / 2500000000000) (268221 / 500000000000) (2682211 / 10000000000000) (by decide +kernel) (by decide +kernel) (by decide +kernel) (by decide +kernel) (by decide +kernel) (by decide +kernel) (by decide +kernel) (by decide +kernel) (by decide +kernel) (by decide +kernel) (by decide +kernel) (by decide +kernel) (by decide +kernel)
  obtain ⟨r2, t2, h2, ⟨s2⟩⟩ := way_step h1 (1 / 2500000000000) (1578946223219 / 2000000000000) (1 / 10000000000000) (98684034643 / 125000000000) (1490117 / 1000000000000) (342727 / 500000000000) (by decide +kernel) (by decide +kernel) (by decide +kernel) (by decide +kernel) (by decide +kernel) (by decide +kernel) (by decide +kernel) (by decide +kernel) (by decide +kernel) (by decide +kernel) (by decide +kernel) (by decide +kernel) (by decide +kernel)
  obtain ⟨r3, t3, h3, ⟨s3⟩⟩ := way_step h2 (29 / 10000000000000) (6521719926259 / 10000000000000) (1 / 2000000000000) (3260851022421 / 5000000000000) (6794939 / 2000000000000) (7599601 / 5000000000000) (by decide +kernel) (by decide +kernel) (by decide +kernel) (by decide +kernel) (by decide +kernel) (by decide +kernel) (by decide +kernel) (by decide +kernel) (by decide +kernel) (by decide +kernel) (by decide +kernel) (by decide +kernel) (by decide +kernel)
  obtain ⟨r4, t4, h4, ⟨s4⟩⟩ := way_step h3 (177 / 10000000000000) (604833606081 / 1250000000000) (3 / 1250000000000) (37801811669 / 78125000000) (72121893 / 10000000000000) (6377709 / 2000000000000) (by decide +kernel) (by decide +kernel) (by decide +kernel) (by decide +kernel) (by decide +kernel) (by decide +kernel) (by decide +kernel) (by decide +kernel) (by decide +kernel) (by decide +kernel) (by decide +kernel) (by decide +kernel) (by decide +kernel)
  obtain ⟨r5, t5, h5, ⟨s5⟩⟩ := way_step h4 (269 / 2500000000000) (398927710521 / 1250000000000) (21 / 2000000000000) (779137349 / 2441406250) (37104297 / 2500000000000) (4079207 / 625000000000) (by decide +kernel) (by decide +kernel) (by decide +kernel) (by decide +kernel) (by decide +kernel) (by decide +kernel) (by decide +kernel) (by decide +kernel) (by decide +kernel) (by decide +kernel) (by decide +kernel) (by decide +kernel) (by decide +kernel)
  obtain ⟨r6, t6, h6, ⟨s6⟩⟩ := way_step h5 (6903 / 10000000000000) (94931655203 / 500000000000) (11 / 250000000000) (474620425797 / 2500000000000) (60202721 / 2000000000000) (132025181 / 10000000000000) (by decide +kernel) (by decide +kernel) (by decide +kernel) (by decide +kernel) (by decide +kernel) (by decide +kernel) (by decide +kernel) (by decide +kernel) (by decide +kernel) (by decide +kernel) (by decide +kernel) (by decide +kernel) (by decide +kernel)
  obtain ⟨r7, t7, h7, ⟨s7⟩⟩ := way_step h6 (2983 / 625000000000) (1048796941813 / 10000000000000) (9 / 50000000000) (1048492924111 / 10000000000000) (18945227 / 312500000000) (265542279 / 10000000000000) (by decide +kernel) (by decide +kernel) (by decide +kernel) (by decide +kernel) (by decide +kernel) (by decide +kernel) (by decide +kernel) (by decide +kernel) (by decide +kernel) (by decide +kernel) (by decide +kernel) (by decide +kernel) (by decide +kernel)
  obtain ⟨r8, t8, h8, ⟨s8⟩⟩ := way_step h7 (175269 / 5000000000000) (138312604891 / 2500000000000) (7279 / 10000000000000) (276320508399 / 5000000000000) (76063587 / 625000000000) (266290977 / 5000000000000) (by decide +kernel) (by decide +kernel) (by decide +kernel) (by decide +kernel) (by decide +kernel) (by decide +kernel) (by decide +kernel) (by decide +kernel) (by decide +kernel) (by decide +kernel) (by decide +kernel) (by decide +kernel) (by decide +kernel)
  obtain ⟨r9, t9, h9, ⟨s9⟩⟩ := way_step h8 (2680097 / 10000000000000) (8880399539 / 312500000000) (183 / 62500000000) (11318057903 / 400000000000) (2440887207 / 10000000000000) (213336661 / 2000000000000) (by decide +kernel) (by decide +kernel) (by decide +kernel) (by decide +kernel) (by decide +kernel) (by decide +kernel) (by decide +kernel) (by decide +kernel) (by decide +kernel) (by decide +kernel) (by decide +kernel) (by decide +kernel) (by decide +kernel)
  obtain ⟨r10, t10, h10, ⟨s10⟩⟩ := way_end h9 (2105637 / 1000000000000) (71752992549 / 5000000000000) (29363 / 2500000000000) (141051589473 / 10000000000000) (490700311 / 1000000000000) (2134974179 / 10000000000000) (by decide +kernel) (by decide +kernel) (by decide +kernel) (by decide +kernel) (by decide +kernel) (by decide +kernel) (by decide +kernel) (by decide +kernel) (by decide +kernel)
  have q1 := s1.rr'
  have q2 := s2.rr'
  have q3 := s3.rr'
  have q4 := s4.rr'
  have q5 := s5.rr'
  have q6 := s6.rr'
  have q7 := s7.rr'
  have q8 := s8.rr'
  have q9 := s9.rr'
  have q10 := s10.rr'
  exact ⟨r10, t10, h10, by grind⟩
end Go.Proofs.Ytfpjiclkhjdihaa

namespace Go.Proofs.Ytfpjiclkhjdihaa
open Go.RowKit
set_option maxRecDepth 100000

/-- A layer of eighths. -/
structure Lay (a : Nat → Option Nat) (K S : Nat → Rat) (n : Nat) : Prop where
  k : ∀ i, i < 16 → Is .f32 (a i) (K i) ∧ 0 ≤ K i ∧ K i ≤ 1
  s : ∀ i, i < 16 → Is .f32 (a (16 + i)) (S i) ∧ 0 ≤ S i ∧ S i ≤ 8
  x : Is .f32 (a 32) ((n : Rat) * (1 / 8))
theorem i1024 : Is .f32 (canon .f32 1149239296) 1024 := ⟨_, false, 8388608, -13, rfl, by decide, by decide +kernel⟩
theorem thinX_is {x : Option Nat} {n : Nat} (h : n ≤ 256) (hx : Is .f32 x ((n : Rat) * (1 / 8))) : Is .f32 (thinX x) ((n : Rat) * (1 / 8192)) := by
  have e13 : p2 (-((13 : Nat) : Int)) = 1 / 8192 := by decide +kernel
  have r := rep_parts (n : Int) (by omega) (by omega) 13 (by omega)
  rw [e13, Rat.intCast_natCast] at r
  have e : (n : Rat) * (1 / 8) / 1024 = (n : Rat) * (1 / 8192) := by grind
  obtain ⟨w, iw, rw'⟩ := is_div hx i1024 (by decide) (by rw [e]; exact r.fit)
  rw [e] at rw'
  rw [rw'.of_rep r] at iw
  exact iw
theorem rep_quarter : Rep Ieee.single (1 / 4) ∧ Rep Ieee.single (1 / 16) ∧ Rep Ieee.single (1 / 32) := by
  have e2 : p2 (-2) = 1 / 4 := by decide +kernel
  have e4 : p2 (-4) = 1 / 16 := by decide +kernel
  have e5 : p2 (-5) = 1 / 32 := by decide +kernel
  exact ⟨e2 ▸ rep32_p2 (-2) (by decide) (by decide), e4 ▸ rep32_p2 (-4) (by decide) (by decide), e5 ▸ rep32_p2 (-5) (by decide) (by decide)⟩
/-- The thin film that ten doublings begin with. -/
structure Thin (k s x : Option Nat) (K S X r t : Rat) : Prop where
  ir : Is .f32 (thin k s x).1 r
  it : Is .f32 (thin k s x).2 t
  r0 : 0 ≤ r
  rS : Rnd Ieee.single (S * X) r
  t0 : 0 ≤ t
  t1 : t ≤ 1
  hi : t ≤ 1 - K * X - r + 21 / 10 / 33554432
  lo : 1 - K * X - r ≤ t + 21 / 10 / 33554432
  up : r + t ≤ 1 + 2 / 33554432
  ok : tooStrong k s x = false
theorem thin_is {k s x : Option Nat} {K S X : Rat} (ik : Is .f32 k K) (is : Is .f32 s S) (ix : Is .f32 x X) (K0 : 0 ≤ K) (K1 : K ≤ 1) (S0 : 0 ≤ S) (S8 : S ≤ 8) (X0 : 0 ≤ X) (X1 : X ≤ 1 / 32) : ∃ r t, Thin k s x K S X r t := by
  have a1 := Rat.mul_nonneg K0 X0
  have a2 := Rat.mul_nonneg (show 0 ≤ 1 - K by grind) X0
  have a3 := Rat.mul_nonneg S0 X0
  have a4 := Rat.mul_nonneg (show 0 ≤ 8 - S by grind) X0
  obtain ⟨q4, q16, q32⟩ := rep_quarter
  obtain ⟨z0, z1⟩ := h_0
  have em5 : p2 (-5) = 1 / 32 ∧ p2 (-5 - 25) = 1 / 1073741824 := by decide +kernel
  obtain ⟨p, ip, hp⟩ := nh_mul (-5) em5.1 em5.2 (by decide) (by decide) ik ix (by grind) (by grind)
  have p0 := nonneg_of hp.rnd a1
  have p1 := hp.top
  obtain ⟨r, ir, hr⟩ := nh_mul 0 z0 z1 (by decide) (by decide) is ix (by grind) (by grind)
  have r0 := nonneg_of hr.rnd a3
  have r4 := hr.rnd.up _ q4 (by grind)
  obtain ⟨m, im, hm⟩ := nh_sub 0 z0 z1 (by decide) (by decide) i1 ip (by grind) (by grind)
  obtain ⟨t, it, ht⟩ := nh_sub 0 z0 z1 (by decide) (by decide) im ir (by have := hm.top; grind) (by have := hm.lo; grind)
  have b1 := hp.hi
  have b2 := hp.lo
  have b3 := hm.hi
  have b4 := hm.lo
  have b5 := ht.hi
  have b6 := ht.lo
  have b7 := ht.top
  have i0 : Is .f32 (canon .f32 0) 0 := ⟨0, false, 0, -149, by decide, by decide, by decide +kernel⟩
  refine ⟨r, t, ⟨ir, it, r0, hr.rnd, by grind, by grind, by grind, by grind, by grind, ?_⟩⟩
  unfold tooStrong strong
  have ir' : Is .f32 (thinR s x) r := ir
  have it' : Is .f32 (thinT k s x) t := it
  rw [flt_is it' i0, fgt_is ir' i1]
  simp
  grind
theorem thin_way {k s x : Option Nat} {K S X r t : Rat} (h : Thin k s x K S X r t) (c : Rat) (c0 : 1 / 450 ≤ c) (hc : r ≤ 1 - c) : Way (thin k s x) r t c (1 / 16777216) (1 / 16777216) := by
  have r0 := h.r0
  have up := h.up
  have up' : r + t ≤ 1 + 1 / 16777216 := by grind
  exact ⟨h.ir, h.it, ⟨r0, h.t0, h.t1, c0, hc, up', by grind, by grind, by grind, fun _ => by grind⟩, fun _ => up', by grind, by grind⟩
/-- A made film. -/
structure Made (f : Nat → Option Nat) (R T : Nat → Rat) (c : Rat) : Prop where
  r : ∀ i, i < 16 → Is .f32 (f i) (R i) ∧ Is .f32 (f (16 + i)) (R i) ∧ Is .f32 (f (32 + i)) (T i)
  r0 : ∀ i, i < 16 → 0 ≤ R i ∧ R i ≤ 1 - c
  t0 : ∀ i, i < 16 → 0 ≤ T i ∧ T i ≤ 1
  sum : ∀ i, i < 16 → R i + T i ≤ 1 + 51 / 100000
  small : ∀ i, i < 16 → R i < 1 / 32 → R i + T i ≤ 1 + 22 / 100000
  back : ∀ i, i < 16 → f (16 + i) = f i
  lt : ∀ i, i < 16 → ∀ b, f i = some b → b < 4294967296
theorem film_made {a : Nat → Option Nat} {K S : Nat → Rat} {n : Nat} (h : Lay a K S n) (hn : n ≤ 256) : filmMade a = (filmAt a, 0) ∧ ∃ R T, Made (filmAt a) R T (if n ≤ 32 then 29 / 1000 else 1 / 400) := by
  have ix := thinX_is hn h.x
  have n0 : (0 : Rat) ≤ (n : Rat) := Rat.natCast_nonneg
  have n1 : (n : Rat) ≤ 256 := by have := cast_le hn; simpa using this
  obtain ⟨q4, q16, q32⟩ := rep_quarter
  have key : ∀ i, ∃ R T, i < 16 → tooStrong (a i) (a (16 + i)) (thinX (a 32)) = false ∧ Is .f32 (dblN (thin (a i) (a (16 + i)) (thinX (a 32))) 10).1 R ∧ Is .f32 (dblN (thin (a i) (a (16 + i)) (thinX (a 32))) 10).2 T ∧ 0 ≤ R ∧ R ≤ 1 - (if n ≤ 32 then 29 / 1000 else 1 / 400) ∧ 0 ≤ T ∧ T ≤ 1 ∧ R + T ≤ 1 + 51 / 100000 ∧ (R < 1 / 32 → R + T ≤ 1 + 22 / 100000) := by
    intro i
    by_cases hi : i < 16
    · obtain ⟨ik, k0, k1⟩ := h.k i hi
      obtain ⟨is, s0, s8⟩ := h.s i hi
      obtain ⟨r, t, ht⟩ := thin_is ik is ix k0 k1 s0 s8 (by grind) (by grind)
      by_cases hn32 : n ≤ 32
      · have n2 : (n : Rat) ≤ 32 := by have := cast_le hn32; simpa using this
        have m := Rat.mul_nonneg (show 0 ≤ 8 - S i by grind) (show 0 ≤ (n : Rat) * (1 / 8192) by grind)
        have hr := ht.rS.up _ q32 (by grind)
        obtain ⟨R, T, e, _⟩ := way_thin (thin_way ht (31 / 32) (by grind) (by grind))
        refine ⟨R, T, fun _ => ⟨ht.ok, e.ir, e.it, e.r0, ?_, e.t0, e.t1, ?_, ?_⟩⟩
        · rw [if_pos hn32]; have := e.rc; grind
        · have := e.sum; grind
        · intro h; have := e.sm h; grind
      · have m := Rat.mul_nonneg (show 0 ≤ 8 - S i by grind) (show 0 ≤ (n : Rat) * (1 / 8192) by grind)
        have hr := ht.rS.up _ q4 (by grind)
        obtain ⟨R, T, e, _⟩ := way_thick (thin_way ht (3 / 4) (by grind) (by grind))
        refine ⟨R, T, fun _ => ⟨ht.ok, e.ir, e.it, e.r0, ?_, e.t0, e.t1, ?_, ?_⟩⟩
        · rw [if_neg hn32]; have := e.rc; grind
        · have := e.sum; grind
        · intro h; have := e.sm h; grind
    · exact ⟨0, 0, fun h => absurd h hi⟩
  have key2 : ∃ R T : Nat → Rat, ∀ i, i < 16 → tooStrong (a i) (a (16 + i)) (thinX (a 32)) = false ∧ Is .f32 (dblN (thin (a i) (a (16 + i)) (thinX (a 32))) 10).1 (R i) ∧ Is .f32 (dblN (thin (a i) (a (16 + i)) (thinX (a 32))) 10).2 (T i) ∧ 0 ≤ R i ∧ R i ≤ 1 - (if n ≤ 32 then 29 / 1000 else 1 / 400) ∧ 0 ≤ T i ∧ T i ≤ 1 ∧ R i + T i ≤ 1 + 51 / 100000 ∧ (R i < 1 / 32 → R i + T i ≤ 1 + 22 / 100000) :=
    ⟨fun i => (key i).choose, fun i => (key i).choose_spec.choose, fun i hi => (key i).choose_spec.choose_spec hi⟩
  obtain ⟨R, T, hRT⟩ := key2
  have f1 : ∀ i, i < 16 → Is .f32 (filmAt a i) (R i) := fun i hi => by unfold filmAt; rw [if_pos hi]; exact (hRT i hi).2.1
  have f2 : ∀ i, i < 16 → Is .f32 (filmAt a (16 + i)) (R i) := fun i hi => by
    unfold filmAt
    rw [if_neg (by omega), if_pos (by omega), show 16 + i - 16 = i by omega]
    exact (hRT i hi).2.1
  have f3 : ∀ i, i < 16 → Is .f32 (filmAt a (32 + i)) (T i) := fun i hi => by
    unfold filmAt
    rw [if_neg (by omega), if_neg (by omega), show 32 + i - 32 = i by omega, show 32 + i - 16 = 16 + i by omega]
    exact (hRT i hi).2.2.1
  constructor
  · unfold filmMade finFilmRes
    rw [if_pos (allTo_true fun i hi => by rw [(hRT i hi).1]; rfl), if_pos]
    unfold finFilm
    rw [Bool.and_eq_true, Bool.and_eq_true]
    exact ⟨⟨allTo_true fun i hi => fin_is.2 ⟨_, f1 i hi⟩, allTo_true fun i hi => fin_is.2 ⟨_, f2 i hi⟩⟩, allTo_true fun i hi => fin_is.2 ⟨_, f3 i hi⟩⟩
  · refine ⟨R, T, ⟨fun i hi => ⟨f1 i hi, f2 i hi, f3 i hi⟩, fun i hi => ?_, fun i hi => ?_, fun i hi => ?_, fun i hi => ?_, fun i hi => ?_, fun i hi b hb => ?_⟩⟩
    · obtain ⟨_, _, _, a, b, _⟩ := hRT i hi; exact ⟨a, b⟩
    · obtain ⟨_, _, _, _, _, a, b, _⟩ := hRT i hi; exact ⟨a, b⟩
    · exact (hRT i hi).2.2.2.2.2.2.2.1
    · exact (hRT i hi).2.2.2.2.2.2.2.2
    · unfold filmAt
      rw [if_neg (by omega), if_pos (by omega), if_pos hi, show 16 + i - 16 = i by omega]
    · unfold filmAt at hb
      rw [if_pos hi] at hb
      have : fadd (dblN (thin (a i) (a (16 + i)) (thinX (a 32))) 9).1 (fdiv (fmul (fmul (dblN (thin (a i) (a (16 + i)) (thinX (a 32))) 9).2 (dblN (thin (a i) (a (16 + i)) (thinX (a 32))) 9).2) (dblN (thin (a i) (a (16 + i)) (thinX (a 32))) 9).1) (dblD (dblN (thin (a i) (a (16 + i)) (thinX (a 32))) 9).1)) = some b := hb
      exact cop_lt this
def kV : Rat := 8396997 * p2 (-23)
theorem ik1 : Is .f32 (canon .f32 1065361605) kV := ⟨_, false, 8396997, -23, rfl, by decide, by decide +kernel⟩
theorem kV_near : 1001 / 1000 ≤ kV := by decide +kernel
theorem shareV_is {x : Option Nat} {v : Rat} (h : Is .f32 x v) (h0 : 0 ≤ v) (h1 : v ≤ 1) : share x = true := by
  have i0 : Is .f32 (canon .f32 0) 0 := ⟨0, false, 0, -149, by decide, by decide, by decide +kernel⟩
  unfold share
  rw [fge_is h i0, fle_is h i1]
  simp [h0, h1]
theorem least_is {x y : Option Nat} {u v : Rat} (hx : Is .f32 x u) (hy : Is .f32 y v) (h0 : 0 ≤ u + v) (h1 : u + v ≤ 1001 / 1000) : least x y = true := by
  have hk := kV_near
  obtain ⟨w, iw, rw'⟩ := is_add hx hy (ik1.rep.fit.le (by grind) (by grind))
  have := rw'.up _ ik1.rep (by grind)
  have iw' : Is .f32 (fadd x y) w := iw
  unfold least
  rw [fle_is iw' ik1]
  simp [this]
end Go.Proofs.Ytfpjiclkhjdihaa

namespace Go.Proofs.Ytfpjiclkhjdihaa
open Go.RowKit
set_option maxRecDepth 100000

/-- A film over a backing, one wavelength. -/
structure Ovr (rw tw qw : Option Nat) (R T b d o : Rat) : Prop where
  gap : gapOk rw qw = true
  id : Is .f32 (gapOf rw qw) d
  io : Is .f32 (upon rw tw qw (gapOf rw qw)) o
  o0 : R ≤ o
  o1 : o ≤ 1
  d0 : 0 < d
  d1 : d ≤ 1
  dD : d ≤ 1 - R * b + 1 / 16777216 ∧ 1 - R * b ≤ d + 1 / 16777216
  hi : (o - R) * d ≤ T * T * b + 8 / 33554432
  lo : o < 1 → T * T * b ≤ (o - R) * d + 8 / 33554432
theorem over_is {rw tw qw : Option Nat} {R T b : Rat} (iR : Is .f32 rw R) (iT : Is .f32 tw T) (ib : Is .f32 qw b) (R0 : 0 ≤ R) (Rc : R ≤ 1 - 1 / 400) (T0 : 0 ≤ T) (T1 : T ≤ 1) (sum : R + T ≤ 1 + 51 / 100000) (b0 : 0 ≤ b) (b1 : b ≤ 1) : ∃ d o, Ovr rw tw qw R T b d o := by
  obtain ⟨z0, z1⟩ := h_0
  obtain ⟨k1, k1'⟩ := h_1
  have i0 : Is .f32 (canon .f32 0) 0 := ⟨0, false, 0, -149, by decide, by decide, by decide +kernel⟩
  have m0 := Rat.mul_nonneg R0 b0
  have m1 := Rat.mul_nonneg R0 (show 0 ≤ 1 - b by grind)
  obtain ⟨p, ip, hp⟩ := nh_mul 0 z0 z1 (by decide) (by decide) iR ib (by grind) (by grind)
  have p0 := nonneg_of hp.rnd m0
  have pt := hp.top
  obtain ⟨d, id, hd⟩ := nh_sub 0 z0 z1 (by decide) (by decide) i1 ip (by grind) (by grind)
  have h1 := hp.hi
  have h2 := hp.lo
  have h3 := hd.hi
  have h4 := hd.lo
  have d1 := hd.top
  have d0 : 1 / 401 ≤ d := by grind
  have tt0 := Rat.mul_nonneg T0 T0
  have tt1 := Rat.mul_nonneg T0 (show 0 ≤ 1 - T by grind)
  obtain ⟨u, iu, hu⟩ := nh_mul 0 z0 z1 (by decide) (by decide) iT iT (by grind) (by grind)
  have u0 := nonneg_of hu.rnd tt0
  have ut := hu.top
  have ub0 := Rat.mul_nonneg u0 b0
  have ub1 := Rat.mul_nonneg u0 (show 0 ≤ 1 - b by grind)
  obtain ⟨m, im, hm⟩ := nh_mul 0 z0 z1 (by decide) (by decide) iu ib (by grind) (by grind)
  have mm0 := nonneg_of hm.rnd ub0
  have g1 := hu.hi
  have g2 := hu.lo
  have g3 := hm.hi
  have g4 := hm.lo
  have e1 := Rat.mul_nonneg (show 0 ≤ T * T + 1 / 33554432 - u by grind) b0
  have e2 := Rat.mul_nonneg (show 0 ≤ u + 1 / 33554432 - T * T by grind) b0
  have mh : m ≤ T * T * b + 2 / 33554432 ∧ T * T * b ≤ m + 2 / 33554432 := by constructor <;> grind
  obtain ⟨Q, hQ⟩ := quot_mk m (show d ≠ 0 by grind)
  have Q0 : 0 ≤ Q := quot_ge hQ (by grind) (by grind)
  -- Q is at most 3/2 of what is left
  have Q1 : Q ≤ 3 / 2 * (1 - R) := by
    refine quot_le hQ (by grind) ?_
    obtain ⟨y, hy⟩ : ∃ y, y = 1 - R := ⟨_, rfl⟩
    have y0 : 1 / 400 ≤ y := by grind
    have ty : T ≤ 1204 / 1000 * y := by grind
    have q1 := Rat.mul_nonneg (show 0 ≤ 1204 / 1000 * y - T by grind) (show 0 ≤ 1204 / 1000 * y + T by grind)
    have q2 := Rat.mul_nonneg (show 0 ≤ 1204 / 1000 * (1204 / 1000) * (y * y) - T * T by grind) b0
    have yy := Rat.mul_nonneg (show 0 ≤ y by grind) (show 0 ≤ y by grind)
    have q3 := Rat.mul_nonneg yy (show 0 ≤ 1 - b by grind)
    have q4 := Rat.mul_nonneg (show 0 ≤ y by grind) (show 0 ≤ d - (1 - 1 / 5000) * y by grind)
    have q5 := Rat.mul_nonneg (show 0 ≤ y - 1 / 400 by grind) (show 0 ≤ y - 1 / 400 by grind)
    rw [← hy]
    clear hy
    grind
  have Q2 : Q ≤ 2 := by grind
  have eQ : m / d = Q := by rw [← hQ, Rat.mul_div_cancel (by grind)]
  obtain ⟨q, iq, rq⟩ := is_div im id (by grind) (by rw [eQ]; exact fit_k 1 k1 (by decide) (by grind) (by grind))
  rw [eQ] at rq
  have q0 := nonneg_of rq Q0
  have e23 : p2 (1 - 24) = 1 / 8388608 := by decide +kernel
  have qg := rq.gap 1 (by decide) (by decide) (by rw [k1]; grind) (by rw [k1]; grind)
  rw [e23] at qg
  obtain ⟨s, is, hs⟩ := nh_add 1 k1 k1' (by decide) (by decide) iR iq (by grind) (by grind)
  have sR := hs.rnd.dn R iR.rep (by grind)
  have s1 := hs.hi
  have s2 := hs.lo
  have gp : gapOk rw qw = true := by
    unfold gapOk
    have id' : Is .f32 (gapOf rw qw) d := id
    rw [fgt_is id' i0]
    simp; grind
  -- what is left, times the gap
  have x1 := Rat.mul_nonneg (show 0 ≤ Q + 6 / 33554432 - (s - R) by grind) (show 0 ≤ d by grind)
  have x2 := Rat.mul_nonneg (show 0 ≤ (s - R) + 6 / 33554432 - Q by grind) (show 0 ≤ d by grind)
  have up1 : (s - R) * d ≤ T * T * b + 8 / 33554432 := by clear e1 e2 h1 h2 h3 h4; grind
  have lo1 : T * T * b ≤ (s - R) * d + 8 / 33554432 := by clear e1 e2 h1 h2 h3 h4; grind
  have is' : Is .f32 (fadd rw (fdiv (fmul (fmul tw tw) qw) (gapOf rw qw))) s := is
  by_cases hgt : 1 < s
  · refine ⟨d, 1, gp, id, ?_, by grind, by grind, by grind, d1, ⟨by grind, by grind⟩, ?_, fun h => absurd h (by grind)⟩
    · unfold upon most
      rw [fgt_is is' i1]
      simp only [hgt, decide_true, if_true]
      exact i1
    · have := Rat.mul_nonneg (show 0 ≤ s - 1 by grind) (show 0 ≤ d by grind)
      clear e1 e2 h1 h2 h3 h4 x1 x2
      grind
  · refine ⟨d, s, gp, id, ?_, sR, by grind, by grind, d1, ⟨by grind, by grind⟩, up1, fun _ => lo1⟩
    unfold upon most
    rw [fgt_is is' i1]
    simp only [hgt, decide_false, Bool.false_eq_true, if_false]
    exact is'
/-- Over black: the film alone. -/
theorem black_is {rw tw qw : Option Nat} {R T : Rat} (iR : Is .f32 rw R) (iT : Is .f32 tw T) (ib : Is .f32 qw 0) (R1 : R ≤ 1) (T0 : 0 ≤ T) (T1 : T ≤ 1) : gapOk rw qw = true ∧ Is .f32 (upon rw tw qw (gapOf rw qw)) R ∧ ∀ b, upon rw tw qw (gapOf rw qw) = some b → b < 4294967296 := by
  have i0 : Is .f32 (canon .f32 0) 0 := ⟨0, false, 0, -149, by decide, by decide, by decide +kernel⟩
  obtain ⟨z0, z1⟩ := h_0
  have m0 : R * 0 = 0 := by grind
  obtain ⟨p, ip, rp⟩ := is_mul iR ib (by rw [m0]; exact rep_zero.fit)
  rw [m0] at rp
  rw [rp.of_rep rep_zero] at ip
  have m1 : (1 : Rat) - 0 = 1 := by grind
  obtain ⟨d, id, rd⟩ := is_sub i1 ip (by rw [m1]; exact rep_one.fit)
  rw [m1] at rd
  rw [rd.of_rep rep_one] at id
  have tt1 := Rat.mul_nonneg T0 (show 0 ≤ 1 - T by grind)
  have tt0 := Rat.mul_nonneg T0 T0
  obtain ⟨u, iu, _⟩ := nh_mul 0 z0 z1 (by decide) (by decide) iT iT (by grind) (by grind)
  have m2 : u * 0 = 0 := by grind
  obtain ⟨m, im, rm⟩ := is_mul iu ib (by rw [m2]; exact rep_zero.fit)
  rw [m2] at rm
  rw [rm.of_rep rep_zero] at im
  have m3 : (0 : Rat) / 1 = 0 := by grind
  obtain ⟨q, iq, rq⟩ := is_div im id (by decide) (by rw [m3]; exact rep_zero.fit)
  rw [m3] at rq
  rw [rq.of_rep rep_zero] at iq
  have m4 : R + 0 = R := by grind
  obtain ⟨s, is, rs⟩ := is_add iR iq (by rw [m4]; exact iR.rep.fit)
  rw [m4] at rs
  rw [rs.of_rep iR.rep] at is
  have id' : Is .f32 (gapOf rw qw) 1 := id
  have is' : Is .f32 (fadd rw (fdiv (fmul (fmul tw tw) qw) (gapOf rw qw))) R := is
  constructor
  · unfold gapOk
    rw [fgt_is id' i0]
    decide +kernel
  · have e : upon rw tw qw (gapOf rw qw) = fadd rw (fdiv (fmul (fmul tw tw) qw) (gapOf rw qw)) := by
      unfold upon most
      rw [fgt_is is' i1]
      have : ¬ (1 < R) := by grind
      simp only [this, decide_false, Bool.false_eq_true, if_false]
    rw [e]
    exact ⟨is', fun b hb => cop_lt hb⟩
/-- The gap depends on the number alone. -/
theorem gap_same {rw kw qw : Option Nat} {R b d : Rat} (iR : Is .f32 rw R) (ik : Is .f32 kw R) (ib : Is .f32 qw b) (R0 : 0 ≤ R) (hr : ∀ x, rw = some x → x < 4294967296) (hk : ∀ x, kw = some x → x < 4294967296) (id : Is .f32 (gapOf rw qw) d) : Is .f32 (gapOf kw qw) d := by
  by_cases hz : R = 0
  · subst hz
    have key : ∀ w : Option Nat, Is .f32 w 0 → Is .f32 (gapOf w qw) 1 := by
      intro w iw
      have m0 : 0 * b = 0 := by grind
      obtain ⟨p, ip, rp⟩ := is_mul iw ib (by rw [m0]; exact rep_zero.fit)
      rw [m0] at rp
      rw [rp.of_rep rep_zero] at ip
      have m1 : (1 : Rat) - 0 = 1 := by grind
      obtain ⟨d, id, rd⟩ := is_sub i1 ip (by rw [m1]; exact rep_one.fit)
      rw [m1] at rd
      rw [rd.of_rep rep_one] at id
      exact id
    have := id.uniq (key rw iR)
    rw [this]
    exact key kw ik
  · obtain ⟨r, hr1, hr2⟩ := iR.rep
    have h0 := rungV_nonneg FloatKind.f32.format r
    have hR : R = rungV FloatKind.f32.format r := by rcases hr2 with h | h; exact h; grind
    rw [hR] at iR ik
    have r0 : 0 < r := by
      apply Nat.pos_of_ne_zero
      intro h
      subst h
      rw [rungV_zero] at hR
      exact hz hR
    have e1 := word_of_is iR hr r0
    have e2 := word_of_is ik hk r0
    rw [e2, ← e1]
    exact id
/-- What goes through is found again. -/
theorem two_near {rw tw qw : Option Nat} {R T b d o : Rat} (h : Ovr rw tw qw R T b d o) (ib : Is .f32 qw b) (R0 : 0 ≤ R) (T0 : 0 ≤ T) (sum : R + T ≤ 1 + 51 / 100000) (b0 : 1 / 4 ≤ b) (b1 : b ≤ 1) {kw ow : Option Nat} (ik : Is .f32 kw R) (ig : Is .f32 (gapOf kw qw) d) (ho : ow = upon rw tw qw (gapOf rw qw)) :
    ∃ t, Is .f32 (twoT kw ow qw) t ∧ t ≤ T + 7 / 1000 ∧ T ≤ t + 7 / 1000 := by
  subst ho
  obtain ⟨_, _, io, o0, o1, d0, d1, ⟨dD1, dD2⟩, hi, lo⟩ := h
  obtain ⟨z0, z1⟩ := h_0
  have i0 : Is .f32 (canon .f32 0) 0 := ⟨0, false, 0, -149, by decide, by decide, by decide +kernel⟩
  by_cases hgt : R < o
  · have e : twoT kw (upon rw tw qw (gapOf rw qw)) qw = froot (fdiv (fmul (fsub (upon rw tw qw (gapOf rw qw)) kw) (gapOf kw qw)) qw) := by
      unfold twoT
      rw [fgt_is io ik]
      simp only [hgt, decide_true, if_true]
      rfl
    rw [e]
    obtain ⟨e1, ie1, he1⟩ := nh_sub 0 z0 z1 (by decide) (by decide) io ik (by grind) (by grind)
    have e10 := nonneg_of he1.rnd (by grind)
    have e11 := he1.top
    have n0 := Rat.mul_nonneg e10 (show 0 ≤ d by grind)
    have n1 := Rat.mul_nonneg e10 (show 0 ≤ 1 - d by grind)
    obtain ⟨P, iP, hP⟩ := nh_mul 0 z0 z1 (by decide) (by decide) ie1 ig (by grind) (by grind)
    have P0 := nonneg_of hP.rnd n0
    have P1 := hP.top
    obtain ⟨V, hV⟩ := quot_mk P (show b ≠ 0 by grind)
    have V0 : 0 ≤ V := quot_ge hV (by grind) (by grind)
    have V4 : V ≤ 4 := quot_le hV (by grind) (by grind)
    have eV : P / b = V := by rw [← hV, Rat.mul_div_cancel (by grind)]
    obtain ⟨k2, k2'⟩ := k_2
    obtain ⟨v, iv, rv⟩ := is_div iP ib (by grind) (by rw [eV]; exact fit_k 2 k2 (by decide) (by grind) (by grind))
    rw [eV] at rv
    have v0 := nonneg_of rv V0
    have vg := rv.gap 2 (by decide) (by decide) (by rw [k2]; grind) (by rw [k2]; grind)
    rw [k2'] at vg
    obtain ⟨w, t, it, hw, rt, w0, _⟩ := froot_is iv v0 (by grind)
    have w3 : w ≤ 3 := hw.up _ (rep_nat 3 (by omega)) (by grind) (by grind)
    obtain ⟨k2a, k2b⟩ := k_2
    have tg := rt.gap 2 (by decide) (by decide) (by rw [k2]; grind) (by rw [k2]; grind)
    rw [k2'] at tg
    obtain ⟨rn1, rn2⟩ := root_near' hw v0 w0 w3
    -- P, times what
    have c1 := he1.hi
    have c2 := he1.lo
    have c3 := hP.hi
    have c4 := hP.lo
    have x1 := Rat.mul_nonneg (show 0 ≤ (o - R) + 1 / 33554432 - e1 by grind) (show 0 ≤ d by grind)
    have x2 := Rat.mul_nonneg (show 0 ≤ e1 + 1 / 33554432 - (o - R) by grind) (show 0 ≤ d by grind)
    have PU : P ≤ (o - R) * d + 2 / 33554432 := by clear dD1 dD2 hi lo; grind
    have PL : (o - R) * d ≤ P + 2 / 33554432 := by clear dD1 dD2 hi lo; grind
    have VU : V ≤ T * T + 40 / 33554432 := quot_le hV (by grind) (by have : P ≤ T * T * b + 10 / 33554432 := (by grind); grind)
    have TT0 := Rat.mul_nonneg T0 T0
    -- above
    have hup : w ≤ T + 2 / 1000 := by
      apply le_of_sq (by grind)
      have := Rat.mul_nonneg T0 (show (0 : Rat) ≤ 4 / 1000 by grind)
      grind
    have hlow : T ≤ w + 6 / 1000 := by
      by_cases ho1 : o < 1
      · have hlo := lo ho1
        have VL : T * T - 40 / 33554432 ≤ V := quot_ge hV (by grind) (by grind)
        apply le_of_sq (by grind)
        have := Rat.mul_nonneg w0 (show (0 : Rat) ≤ 12 / 1000 by grind)
        grind
      · have ho : o = 1 := by grind
        subst ho
        obtain ⟨y, hy⟩ : ∃ y, y = 1 - R := ⟨_, rfl⟩
        have y0 : 0 ≤ y := by grind
        rw [← hy] at PL
        -- the gap is at least y b
        have y1 := Rat.mul_nonneg R0 (show 0 ≤ 1 - b by grind)
        have dy : y * b ≤ d + 1 / 16777216 := by
          have := Rat.mul_nonneg y0 (show 0 ≤ 1 - b by grind)
          grind
        have y2 := Rat.mul_nonneg y0 (show 0 ≤ d + 1 / 16777216 - y * b by grind)
        have VL : y * y - 40 / 33554432 ≤ V := quot_ge hV (by grind) (by grind)
        have hyw : y ≤ w + 5 / 1000 := by
          apply le_of_sq (by grind)
          have := Rat.mul_nonneg w0 (show (0 : Rat) ≤ 10 / 1000 by grind)
          grind
        grind
    exact ⟨t, it, by grind, by grind⟩
  · have ho : o = R := by grind
    have e : twoT kw (upon rw tw qw (gapOf rw qw)) qw = canon .f32 0 := by
      unfold twoT
      rw [fgt_is io ik]
      simp only [hgt, decide_false, Bool.false_eq_true, if_false]
    rw [e]
    refine ⟨0, i0, by grind, ?_⟩
    by_cases ho1 : o < 1
    · have hlo := lo ho1
      rw [ho] at hlo
      have e0 : (R - R) * d = 0 := by grind
      rw [e0] at hlo
      have := Rat.mul_nonneg (Rat.mul_nonneg T0 T0) (show 0 ≤ b - 1 / 4 by grind)
      have : T ≤ 7 / 1000 := le_of_sq (by grind) (by grind)
      grind
    · grind
end Go.Proofs.Ytfpjiclkhjdihaa
