/- Contracts: bumps. What the law of hidden backings asks, for the layers that it draws. No program is named here. The values of drawn curves and layers: between 0 and 1; what is drawn is a layer of eighths. No program is named here. -/
import Derived.Test.YtfpjiclkhjdihaaCR
import Derived.Test.YtfpjiclkhjdihaaFlD
import Derived.Test.YtfpjiclkhjdihaaDV
import Derived.Test.YtfpjiclkhjdihaaDM
import Derived.Test.YtfpjiclkhjdihaaDra
namespace Go.Proofs.Ytfpjiclkhjdihaa
open Go.RowKit
set_option maxRecDepth 100000

def bumpX (p w : Option Nat) (i : Nat) : Option Nat := fdiv (fsub (fint i) p) w
def bumpZ (x : Option Nat) : Option Nat := fadd (canon .f32 1065353216) (fmul x x)
def bumpAt (p w : Option Nat) (i : Nat) : Option Nat := fdiv (canon .f32 1065353216) (fmul (bumpZ (bumpX p w i)) (bumpZ (bumpX p w i)))

theorem l01Bump_any (p q : Nat) (w : World) : Calls Try.prog 89 #[.float .f32 p, .float .f32 q] w (RetC 16 w fun i => bumpAt (canon .f32 p) (canon .f32 q) i) := by
  have hZ0 : Blk (w.alloc (.cells (fA 16 fun _ => 0) 26)) w.heap.size 26 (fA 16 fun _ => 0) := Blk.new _ _ _
  have hO0 : Blk ((w.alloc (.cells (fA 16 fun _ => 0) 26)).alloc (.cells (fA 16 fun _ => 0) 26)) (w.heap.size + 1) 26 (fA 16 fun _ => 0) := Blk.new_at _ _ (by simp) rfl
  go_enter Try.func89, Try.ntmps89
  go_wp2_with (first | (refine wpList_build_as rfl 26 _ rfl (fA 16 fun _ => 0) (by kernel_rfl) ?_) | (refine wpList_store_row rfl 26 _ _ rfl _ _ rfl rfl _ _ hO0 (by kernel_rfl) (by simp only [size_fA]) (all_fA _ _) ?_))
  go_loopw [6, 7, 8] (fun i _ _ wr => ∃ (k : Nat) (z cur : Nat → Nat), k ≤ 16 ∧ i = .int .i64 k ∧ Below w.heap.size w wr ∧ Blk wr w.heap.size 26 (fA 16 z) ∧ Blk wr (w.heap.size + 1) 26 (fA 16 cur) ∧ ∀ j, j < k → canon .f32 (cur j) = bumpAt (canon .f32 p) (canon .f32 q) j) (fun i _ _ _ => 16 - (intOf i).toNat)
  case atStart => exact ⟨0, fun _ => 0, fun _ => 0, by omega, rfl, bRow (Below.alloc (Below.alloc (Below.refl _ _) (Nat.le_refl _) _) (by simp) _) (by omega) _, (hZ0.alloc _).farRow (by omega), hO0.setRow, fun j h => absurd h (by omega)⟩
  case round =>
    clear hZ0 hO0
    obtain ⟨k, z, cur, hk, rfl, hb, hZ, hC, hc⟩ := hrel
    have Hc := Lib.hid hc
    clear hc
    by_cases hlt : k < 16
    · have c1 := (hC.cell k).trans (get_fA_lt cur hlt)
      have f1 := hC.frozen k
      go_wp2
      go_roundw
      case rel => exact ⟨k + 1, z, _, by omega, by go_num, (by repeat (first | assumption | exact Below.refl _ _ | refine bDrew ?_ _ | refine Below.alloc ?_ (by first | omega | (simp; done) | (simp; omega)) _ | refine Below.setCell ?_ (by first | omega | (simp; done) | (simp; omega)) _ | refine bRow ?_ (by first | omega | (simp; done) | (simp; omega)) _)), Blk.far (Blk.drewN hZ _) (by dsimp only; omega) _, Blk.setF (Blk.drewN hC _) k _, upd_to (Q := fun j v => canon .f32 v = bumpAt (canon .f32 p) (canon .f32 q) j) Hc.out (by simp only [c_div, c_mul, c_add, c_sub]; rfl)⟩
      case measure => simp [intOf]; omega
    · obtain rfl : k = 16 := by omega
      go_wp2_with (first | (refine wpList_load_row rfl 26 _ rfl _ rfl _ _ (0, 0) _ hC Try.underlying26 rfl (by kernel_rfl) ?_) | (refine wpList_store_row rfl 26 _ _ rfl _ _ rfl rfl _ _ hZ (by kernel_rfl) (by simp only [size_fA]) (all_fA _ _) ?_))
      exact bodyPost_ret (results_cell_row rfl _ _ w.heap.size _ _ _ _ rfl hZ.setRow Try.underlying26 rfl (by kernel_rfl)) rfl ⟨_, rfl, Hc.out, (by repeat (first | assumption | exact Below.refl _ _ | refine bDrew ?_ _ | refine Below.alloc ?_ (by first | omega | (simp; done) | (simp; omega)) _ | refine Below.setCell ?_ (by first | omega | (simp; done) | (simp; omega)) _ | refine bRow ?_ (by first | omega | (simp; done) | (simp; omega)) _))⟩
end Go.Proofs.Ytfpjiclkhjdihaa

namespace Go.Proofs.Ytfpjiclkhjdihaa
open Go.RowKit
set_option maxRecDepth 100000

theorem amount_is {x : Option Nat} {v : Rat} (h : Is .f32 x v) (h0 : 0 ≤ v) : amount x = true := by
  have i0 : Is .f32 (canon .f32 0) 0 := ⟨0, false, 0, -149, by decide, by decide, by decide +kernel⟩
  unfold amount
  rw [fge_is h i0, fin_is.2 ⟨v, h⟩]
  simpa using h0
theorem layer_ok {a : Nat → Nat} {K S : Nat → Rat} {n : Nat} (h : Lay (fun i => canon .f32 (a i)) K S n) : layerOk a = true := by
  unfold layerOk
  rw [Bool.and_eq_true, Bool.and_eq_true]
  refine ⟨⟨allTo_true fun i hi => ?_, allTo_true fun i hi => ?_⟩, amount_is h.x (Rat.mul_nonneg Rat.natCast_nonneg (by decide +kernel))⟩
  · have e : rowAt a 0 i = a i := by simp [rowAt]
    rw [e]
    exact amount_is (h.k i hi).1 (h.k i hi).2.1
  · exact amount_is (h.s i hi).1 (h.s i hi).2.1
theorem film_res {a : Nat → Nat} {K S : Nat → Rat} {n : Nat} (h : Lay (fun i => canon .f32 (a i)) K S n) (hn : n ≤ 256) : filmOfRes a = (filmAt fun i => canon .f32 (a i), 0) := by
  unfold filmOfRes
  rw [if_pos (layer_ok h)]
  exact (film_made h hn).1
theorem Made.le {f : Nat → Option Nat} {R T : Nat → Rat} {n : Nat} (h : Made f R T (if n ≤ 32 then 29 / 1000 else 1 / 400)) {i : Nat} (hi : i < 16) : R i ≤ 1 - 1 / 400 := by
  have := (h.r0 i hi).2
  split at this <;> grind
theorem made_ok {p : Nat → Option Nat} {R T : Nat → Rat} {c : Rat} (h : Made p R T c) (c0 : 0 ≤ c) : filmOkP p = true := by
  unfold filmOkP
  simp only [Bool.and_eq_true]
  refine ⟨⟨⟨⟨allTo_true fun i hi => ?_, allTo_true fun i hi => ?_⟩, allTo_true fun i hi => ?_⟩, allTo_true fun i hi => ?_⟩, allTo_true fun i hi => ?_⟩
  · exact shareV_is (h.r i hi).1 (h.r0 i hi).1 (by have := (h.r0 i hi).2; grind)
  · exact shareV_is (h.r i hi).2.1 (h.r0 i hi).1 (by have := (h.r0 i hi).2; grind)
  · exact shareV_is (h.r i hi).2.2 (h.t0 i hi).1 (h.t0 i hi).2
  · exact least_is (h.r i hi).1 (h.r i hi).2.2 (by have := (h.r0 i hi).1; have := (h.t0 i hi).1; grind) (by have := h.sum i hi; grind)
  · exact least_is (h.r i hi).2.1 (h.r i hi).2.2 (by have := (h.r0 i hi).1; have := (h.t0 i hi).1; grind) (by have := h.sum i hi; grind)
theorem film_ok {f : Nat → Nat} {p : Nat → Option Nat} {R T : Nat → Rat} {c : Rat} (hf : ∀ j, j < 48 → canon .f32 (f j) = p j) (h : Made p R T c) (c0 : 0 ≤ c) : filmOk f = true := by
  rw [filmOk_is, filmOkP_congr hf]
  exact made_ok h c0
/-- Over a backing. -/
theorem over_res {p q : Nat → Option Nat} {R T : Nat → Rat} {n : Nat} (h : Made p R T (if n ≤ 32 then 29 / 1000 else 1 / 400)) {b : Rat} (hq : ∀ i, i < 16 → Is .f32 (q i) b) (b0 : 0 ≤ b) (b1 : b ≤ 1) : overRes p q = (overAt p q, 0) ∧ ∀ i, i < 16 → ∃ d o, Ovr (p i) (p (32 + i)) (q i) (R i) (T i) b d o ∧ overAt p q i = upon (p i) (p (32 + i)) (q i) (gapOf (p i) (q i)) := by
  have key : ∀ i, i < 16 → ∃ d o, Ovr (p i) (p (32 + i)) (q i) (R i) (T i) b d o ∧ overAt p q i = upon (p i) (p (32 + i)) (q i) (gapOf (p i) (q i)) := by
    intro i hi
    obtain ⟨d, o, ho⟩ := over_is (h.r i hi).1 (h.r i hi).2.2 (hq i hi) (h.r0 i hi).1 (h.le hi) (h.t0 i hi).1 (h.t0 i hi).2 (h.sum i hi) b0 b1
    refine ⟨d, o, ho, ?_⟩
    unfold overAt
    rw [h.back i hi]
  refine ⟨?_, key⟩
  unfold overRes
  rw [if_pos (allTo_true fun i hi => shareV_is (hq i hi) b0 b1), if_pos (allTo_true fun i hi => by
    obtain ⟨d, o, ho, _⟩ := key i hi
    rw [h.back i hi]
    exact ho.gap)]
  unfold finRes
  rw [if_pos (allTo_true fun i hi => by
    obtain ⟨d, o, ho, he⟩ := key i hi
    rw [he]
    exact fin_is.2 ⟨o, ho.io⟩)]
theorem zero_is32 : Is .f32 fzero 0 := ⟨0, false, 0, -149, by decide, by decide, by decide +kernel⟩
theorem con_code {a : Nat → Option Nat} {K S : Nat → Rat} {n : Nat} (h : Lay a K S n) (hn : n ≤ 256) : (conMade (filmMade a)).2 = 0 := by
  obtain ⟨e, R, T, hm⟩ := film_made h hn
  have h1 := (over_res hm (q := fun _ => fone) (b := 1) (fun _ _ => i1) (by decide) (by decide)).1
  have h2 := (over_res hm (q := fun _ => fzero) (b := 0) (fun _ _ => zero_is32) (by decide) (by decide)).1
  unfold conMade paintMade
  rw [e]
  simp only [if_true, h1, h2]
theorem eighth_is (n : Nat) (h : n ≤ 256) : Is .f32 (eighth n) ((n : Rat) * (1 / 8)) := by
  have e3 : p2 (-((3 : Nat) : Int)) = 1 / 8 := by decide +kernel
  have := part_is (n : Int) (by omega) (by omega) 3 (by omega) i8 (by rw [e3]; grind)
  rw [e3, Rat.intCast_natCast] at this
  exact this
theorem lay_P {k s : Nat → Option Nat} {K S : Nat → Rat} (hk : ∀ i, i < 16 → Is .f32 (k i) (K i) ∧ 0 ≤ K i ∧ K i ≤ 1) (hs : ∀ i, i < 16 → Is .f32 (s i) (S i) ∧ 0 ≤ S i ∧ S i ≤ 8) (n : Nat) (h : n ≤ 256) : Lay (layP k s (eighth n)) K S n := by
  refine ⟨fun i hi => ?_, fun i hi => ?_, eighth_is n h⟩
  · unfold layP; rw [if_pos hi]; exact hk i hi
  · unfold layP; rw [if_neg (by omega), if_pos (by omega), show 16 + i - 16 = i by omega]; exact hs i hi
theorem from_cases {k s : Nat → Option Nat} {con : Option Nat} (hc : ∀ m, m ≤ 256 → (conAt k s m).2 = 0) : ∀ f n, n + f ≤ 257 → thickFrom k s con f n = (fzero, 6) ∨ ∃ m, n ≤ m ∧ m < n + f ∧ thickFrom k s con f n = (eighth m, 0) ∧ fle (conAt k s m).1 con = true ∧ ∀ j, n ≤ j → j < m → fle (conAt k s j).1 con = false
  | 0, _, _ => .inl rfl
  | f + 1, n, h => by
    have h0 := hc n (by omega)
    cases hl : fle (conAt k s n).1 con with
    | true => exact .inr ⟨n, Nat.le_refl _, by omega, from_hit h0 hl, hl, fun j h1 h2 => by omega⟩
    | false =>
      rw [from_next h0 hl]
      rcases from_cases hc f (n + 1) (by omega) with h1 | ⟨m, h1, h2, h3, h4, h5⟩
      · exact .inl h1
      · refine .inr ⟨m, by omega, by omega, h3, h4, fun j h6 h7 => ?_⟩
        by_cases hj : j = n
        · subst hj; exact hl
        · exact h5 j (by omega) h7
/-- The thickness that is found. -/
theorem thick_for {k s : Nat → Option Nat} {K S : Nat → Rat} (hk : ∀ i, i < 16 → Is .f32 (k i) (K i) ∧ 0 ≤ K i ∧ K i ≤ 1) (hs : ∀ i, i < 16 → Is .f32 (s i) (S i) ∧ 0 ≤ S i ∧ S i ≤ 8) {con : Option Nat} (hcon : share con = true) :
    thickForRes k s con = (fzero, 6) ∨ ∃ m, 1 ≤ m ∧ m ≤ 256 ∧ thickForRes k s con = (eighth m, 0) ∧ (conAt k s m).2 = 0 ∧ fle (conAt k s m).1 con = true ∧ (2 ≤ m → (conAt k s (m - 1)).2 = 0 ∧ fle (conAt k s (m - 1)).1 con = false) := by
  have hc : ∀ m, m ≤ 256 → (conAt k s m).2 = 0 := fun m hm => con_code (lay_P hk hs m hm) hm
  have e : thickForRes k s con = thickFrom k s con 256 1 := by
    unfold thickForRes
    rw [if_pos (by rw [Bool.and_eq_true]; exact ⟨allTo_true fun i hi => amount_is (hk i hi).1 (hk i hi).2.1, allTo_true fun i hi => amount_is (hs i hi).1 (hs i hi).2.1⟩), if_pos hcon]
  rw [e]
  rcases from_cases (con := con) hc 256 1 (by omega) with h | ⟨m, h1, h2, h3, h4, h5⟩
  · exact .inl h
  · exact .inr ⟨m, h1, by omega, h3, hc m (by omega), h4, fun h => ⟨hc _ (by omega), h5 _ (by omega) (by omega)⟩⟩
theorem eighth_less : ∀ m, m < 255 → fsub (eighth (m + 2)) (canon .f32 1040187392) = eighth (m + 1) := by decide +kernel
theorem eighth_more : ∀ m, m < 257 → fgt (eighth m) (canon .f32 1040187392) = decide (2 ≤ m) := by decide +kernel
theorem eighth_same : ∀ m, m < 257 → feq (eighth m) (eighth m) = true ∧ (eighth m).isSome = true := by decide +kernel
theorem bound_ok : ∀ m, m < 32 → share (fdiv (fint (1 + (m : Nat))) (canon .f32 1115684864)) = true ∧ (fdiv (fint (1 + (m : Nat))) (canon .f32 1115684864)).isSome = true := by decide +kernel
def centiV : Rat := 10737418 * p2 (-30)
theorem centi_is : Is .f32 (canon .f32 1008981770) centiV := ⟨_, false, 10737418, -30, rfl, by decide, by decide +kernel⟩
theorem centiV_near : 9999 / 1000000 ≤ centiV := by decide +kernel
/-- A film is found again. -/
theorem found_again {p z q : Nat → Option Nat} {R T : Nat → Rat} {n : Nat} (h : Made p R T (if n ≤ 32 then 29 / 1000 else 1 / 400)) (hz : ∀ i, i < 16 → Is .f32 (z i) 0) {b : Rat} (hq : ∀ i, i < 16 → Is .f32 (q i) b) (b0 : 1 / 4 ≤ b) (b1 : b ≤ 1) {i : Nat} (hi : i < 16) :
    near (twoAt (overAt p z) (overAt p q) q (32 + i)) (p (32 + i)) (canon .f32 1008981770) = true ∧ feq (overAt p z i) (p i) = true := by
  obtain ⟨_, hb⟩ := over_res h hq (by grind) b1
  obtain ⟨d, o, ho, he⟩ := hb i hi
  have R1 := h.le hi
  obtain ⟨g1, g2, g3⟩ := black_is (h.r i hi).1 (h.r i hi).2.2 (hz i hi) (by grind) (h.t0 i hi).1 (h.t0 i hi).2
  have ez : overAt p z i = upon (p i) (p (32 + i)) (z i) (gapOf (p i) (z i)) := by unfold overAt; rw [h.back i hi]
  have ig := gap_same (h.r i hi).1 g2 (hq i hi) (h.r0 i hi).1 (h.lt i hi) g3 ho.id
  obtain ⟨t, it, t1, t2⟩ := two_near ho (hq i hi) (h.r0 i hi).1 (h.t0 i hi).1 (h.sum i hi) b0 b1 g2 ig he
  have e2 : twoAt (overAt p z) (overAt p q) q (32 + i) = twoT (upon (p i) (p (32 + i)) (z i) (gapOf (p i) (z i))) (overAt p q i) (q i) := by
    unfold twoAt
    rw [if_neg (by omega), if_neg (by omega), show 32 + i - 32 = i by omega, ez]
  have hc := centiV_near
  constructor
  · rw [e2]
    exact near_of it (h.r i hi).2.2 centi_is (by grind) (by grind)
  · rw [ez, feq_is g2 (h.r i hi).1]
    simp
end Go.Proofs.Ytfpjiclkhjdihaa

namespace Go.Proofs.Ytfpjiclkhjdihaa
open Go.RowKit
set_option maxRecDepth 100000

/-- A number from 0 to 1. -/
def Unit1 (x : Option Nat) : Prop := ∃ v, Is .f32 x v ∧ 0 ≤ v ∧ v ≤ 1
theorem k_11 : p2 11 = 2048 ∧ p2 (11 - 24) = 1 / 8192 := by decide +kernel
theorem k_22 : p2 22 = 4194304 ∧ p2 (22 - 24) = 1 / 4 := by decide +kernel
theorem bump_unit {p q : Option Nat} {P Q : Rat} (ip : Is .f32 p P) (iq : Is .f32 q Q) (P0 : 0 ≤ P) (P1 : P ≤ 16) (Q0 : 1 / 2 ≤ Q) {i : Nat} (hi : i < 16) : Unit1 (bumpAt p q i) := by
  have I0 : (0 : Rat) ≤ (i : Rat) := Rat.natCast_nonneg
  have I1 : (i : Rat) ≤ 16 := by have := cast_le (show i ≤ 16 by omega); rw [show ((16 : Nat) : Rat) = 16 from rfl] at this; exact this
  have ii : Is .f32 (fint i) (i : Rat) := by have := fint_is (i : Int) (by omega) (by omega); rw [Rat.intCast_natCast] at this; exact this
  obtain ⟨e, ie, re⟩ := nr_sub 4 k_4.1 k_4.2 (by decide) (by decide) ii ip (by grind) (by grind)
  have e1 := re.top
  have e2 := re.bot
  have Qn : Q ≠ 0 := by grind
  have Qp : 0 < Q := by grind
  obtain ⟨t, ht⟩ := quot_mk e Qn
  have t1 : t ≤ 32 := quot_le ht Qp (by grind)
  have t2 : -32 ≤ t := quot_ge ht Qp (by grind)
  obtain ⟨x, ix, rx⟩ := nr_div 5 k_5.1 k_5.2 (by decide) (by decide) ie iq Qn ht t1 t2
  have x1 := rx.top
  have x2 := rx.bot
  have xx0 := sq_nonneg x
  have xx1 := sq_le x1 x2
  obtain ⟨s, is, rs⟩ := nr_mul 10 k_10.1 k_10.2 (by decide) (by decide) ix ix (by grind) (by grind)
  have s0 := nonneg_of rs.rnd xx0
  have s1 := rs.top
  obtain ⟨z, iz, rz⟩ := nr_add 11 k_11.1 k_11.2 (by decide) (by decide) i1 is (by grind) (by grind)
  have z0 : 1 ≤ z := rz.rnd.dn _ rep_one (by grind)
  have z1 := rz.top
  have zz0 : 1 ≤ z * z := by have := Rat.mul_nonneg (show 0 ≤ z - 1 by grind) (show 0 ≤ z + 1 by grind); grind
  have zz1 := sq_le z1 (show -2048 ≤ z by grind)
  obtain ⟨y, iy, ry⟩ := nr_mul 22 k_22.1 k_22.2 (by decide) (by decide) iz iz (by grind) (by grind)
  have y0 : 1 ≤ y := ry.rnd.dn _ rep_one zz0
  have yn : y ≠ 0 := by grind
  have yp : 0 < y := by grind
  obtain ⟨o, ho⟩ := quot_mk 1 yn
  have o1 : o ≤ 1 := quot_le ho yp (by grind)
  have o0 : 0 ≤ o := quot_ge ho yp (by grind)
  obtain ⟨v, iv, rv⟩ := nr_div 0 k_0.1 k_0.2 (by decide) (by decide) i1 iy yn ho o1 (by grind)
  exact ⟨v, iv, nonneg_of rv.rnd o0, rv.top⟩
/-- The place and the width that a drawn bump has. -/
theorem place_is (v : Nat) (h : v < 33) : ∃ P, Is .f32 (fdiv (fint v) (canon .f32 1073741824)) P ∧ 0 ≤ P ∧ P ≤ 16 := by
  have V0 : (0 : Rat) ≤ (v : Rat) := Rat.natCast_nonneg
  have V1 : (v : Rat) ≤ 32 := by have := cast_le (show v ≤ 32 by omega); rw [show ((32 : Nat) : Rat) = 32 from rfl] at this; exact this
  have ii : Is .f32 (fint v) (v : Rat) := by have := fint_is (v : Int) (by omega) (by omega); rw [Rat.intCast_natCast] at this; exact this
  have i2' : Is .f32 (canon .f32 1073741824) 2 := ⟨_, false, 8388608, -22, rfl, by decide, by decide +kernel⟩
  obtain ⟨q, iq, rq⟩ := nr_div (q := (v : Rat) / 2) 4 k_4.1 k_4.2 (by decide) (by decide) ii i2' (by decide) (by grind) (by grind) (by grind)
  exact ⟨q, iq, nonneg_of rq.rnd (by grind), rq.top⟩
theorem width_is (u : Nat) (h : u < 8) : ∃ Q, Is .f32 (fdiv (fint (1 + (u : Int))) (canon .f32 1073741824)) Q ∧ 1 / 2 ≤ Q := by
  have V0 : (0 : Rat) ≤ (u : Rat) := Rat.natCast_nonneg
  have V1 : (u : Rat) ≤ 8 := by have := cast_le (show u ≤ 8 by omega); rw [show ((8 : Nat) : Rat) = 8 from rfl] at this; exact this
  have ii : Is .f32 (fint (1 + (u : Int))) (1 + (u : Rat)) := by have := fint_is (1 + (u : Int)) (by omega) (by omega); rw [Rat.intCast_add, Rat.intCast_natCast] at this; exact this
  have i2' : Is .f32 (canon .f32 1073741824) 2 := ⟨_, false, 8388608, -22, rfl, by decide, by decide +kernel⟩
  have em1 : p2 (-1) = 1 / 2 := by decide +kernel
  have rh : Rep Ieee.single (1 / 2) := em1 ▸ rep32_p2 (-1) (by decide) (by decide)
  obtain ⟨q, iq, rq⟩ := nr_div (q := (1 + (u : Rat)) / 2) 4 k_4.1 k_4.2 (by decide) (by decide) ii i2' (by decide) (by grind) (by grind) (by grind)
  exact ⟨q, iq, rq.rnd.dn _ rh (by grind)⟩
theorem pw_unit {v : Nat} (h : v < 65) : Unit1 (canon .f32 (pw v)) := by
  have V0 : (0 : Rat) ≤ (v : Rat) := Rat.natCast_nonneg
  have V1 : (v : Rat) ≤ 64 := by have := cast_le (show v ≤ 64 by omega); rw [show ((64 : Nat) : Rat) = 64 from rfl] at this; exact this
  have ii : Is .f32 (fint v) (v : Rat) := by have := fint_is (v : Int) (by omega) (by omega); rw [Rat.intCast_natCast] at this; exact this
  have i2' : Is .f32 (canon .f32 1115684864) 64 := ⟨_, false, 8388608, -17, rfl, by decide, by decide +kernel⟩
  obtain ⟨q, iq, rq⟩ := nr_div (q := (v : Rat) / 64) 0 k_0.1 k_0.2 (by decide) (by decide) ii i2' (by decide) (by grind) (by grind) (by grind)
  rw [pw_canon h, ← plain_word v h]
  exact ⟨q, iq, nonneg_of rq.rnd (by grind), rq.top⟩
/-- A curve that is drawn, times a whole number from 1 to 8. -/
theorem scale_eight {x : Option Nat} (hx : Unit1 x) (u : Nat) (h : u < 8) : ∃ s, Is .f32 (fmul x (fint (1 + (u : Int)))) s ∧ 0 ≤ s ∧ s ≤ 8 := by
  obtain ⟨v, iv, v0, v1⟩ := hx
  have V0 : (0 : Rat) ≤ (u : Rat) := Rat.natCast_nonneg
  have V1 : (u : Rat) ≤ 7 := by have := cast_le (show u ≤ 7 by omega); rw [show ((7 : Nat) : Rat) = 7 from rfl] at this; exact this
  have ii : Is .f32 (fint (1 + (u : Int))) (1 + (u : Rat)) := by have := fint_is (1 + (u : Int)) (by omega) (by omega); rw [Rat.intCast_add, Rat.intCast_natCast] at this; exact this
  have p0 := Rat.mul_nonneg v0 (show 0 ≤ 1 + (u : Rat) by grind)
  have p1 := Rat.mul_nonneg (show 0 ≤ 1 - v by grind) (show 0 ≤ 1 + (u : Rat) by grind)
  obtain ⟨s, is, rs⟩ := nr_mul 3 k_3.1 k_3.2 (by decide) (by decide) iv ii (by grind) (by grind)
  exact ⟨s, is, nonneg_of rs.rnd p0, rs.top⟩
theorem lay_drawn {k s : Nat → Option Nat} {x : Option Nat} (hk : ∀ i, i < 16 → Unit1 (k i)) (hs : ∀ i, i < 16 → ∃ v, Is .f32 (s i) v ∧ 0 ≤ v ∧ v ≤ 8) {n : Nat} (hn : n < 33) (hx : x = eighth n) {a : Nat → Option Nat} (ha : ∀ i, i < 16 → a i = k i) (hb : ∀ i, i < 16 → a (16 + i) = s i) (hc : a 32 = x) : ∃ K S, Lay a K S n := by
  refine ⟨fun i => if h : i < 16 then (hk i h).choose else 0, fun i => if h : i < 16 then (hs i h).choose else 0, fun i hi => ?_, fun i hi => ?_, ?_⟩
  · rw [ha i hi, dif_pos hi]; exact (hk i hi).choose_spec
  · rw [hb i hi, dif_pos hi]; exact (hs i hi).choose_spec
  · rw [hc, hx]; exact eighth_is n (by omega)
end Go.Proofs.Ytfpjiclkhjdihaa
