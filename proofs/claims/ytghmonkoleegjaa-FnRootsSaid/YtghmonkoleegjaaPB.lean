/- Contracts: powers, the program. -/
import Derived.Test.YtghmonkoleegjaaPv
import Derived.Test.YtghmonkoleegjaaDC
namespace Go.Proofs.Ytghmonkoleegjaa
open Go.RowKit
set_option maxRecDepth 100000

theorem od_gt {x y : Nat} : (FloatKind.f64.format.order x y == some .gt) = dgt (canon .f64 x) (canon .f64 y) := by rw [order_canon]; rfl
theorem fge_flt {x : Option Nat} (h : fin x = true) : fge x (canon .f32 0) = !flt x (canon .f32 0) := by
  obtain ⟨v, hv⟩ := fin_is.1 h
  have hz32 : Is .f32 (canon .f32 0) 0 := ⟨0, false, 0, -149, by decide, by decide, by decide +kernel⟩
  rw [fge_is hv hz32, flt_is hv hz32, Bool.eq_iff_iff]
  simp
  grind
theorem two_half {M : Nat} (h : M < 4503599627370496) : dmul (some 4611686018427387904) (some (4602678819172646912 + M)) = some (4607182418800017408 + M) := by
  obtain ⟨c1, c2, c3, c4, c5⟩ := e64
  have h1 := two_is
  have h2 : Is .f64 (some (4602678819172646912 + M)) (rungV Ieee.double (4602678819172646912 + M)) := is_rung (k := .f64) (by rw [show FloatKind.f64.format = Ieee.double from rfl]; omega)
  have h3 := rungV_shift Ieee.double (4602678819172646912 + M) 1 (by omega)
  rw [c1, show 4602678819172646912 + M + 1 * 4503599627370496 = 4607182418800017408 + M by omega] at h3
  have e1 : p2 ((1 : Nat) : Int) = 2 := by decide +kernel
  rw [e1] at h3
  have i3 : Is .f64 (some (4607182418800017408 + M)) (rungV Ieee.double (4607182418800017408 + M)) := is_rung (k := .f64) (by rw [show FloatKind.f64.format = Ieee.double from rfl]; omega)
  have h4 : (2 : Rat) * rungV Ieee.double (4602678819172646912 + M) = rungV Ieee.double (4607182418800017408 + M) := by rw [h3]; grind
  obtain ⟨w, h5, h6⟩ := is_mul h1 h2 (by rw [h4]; exact i3.rep.fit)
  rw [h4] at h6
  rw [h6.of_rep i3.rep] at h5
  exact word_of_is h5 (fun b h => cop_lt h) (by omega)
theorem ok_bad {a x : Option Nat} (h : powOk a x = false) : powRes a x = (canon .f32 0, 2) := by unfold powRes; rw [h]; rfl
theorem ok_zero {a x : Option Nat} (h : powOk a x = true) (h0 : feq a (canon .f32 0) = true) : powRes a x = (canon .f32 0, 0) := by unfold powRes; rw [h, h0]; rfl
theorem ok_main {a x : Option Nat} (h : powOk a x = true) (h0 : feq a (canon .f32 0) = false) : powRes a x = powOf (powAt a x) := by unfold powRes; rw [h, h0]; rfl
theorem range_is {x : Option Nat} (h0 : fge x (canon .f32 0) = true) (h1 : fle x (canon .f32 1098907648) = true) : ∃ v, Is .f32 x v ∧ 0 ≤ v ∧ v ≤ 16 := by
  have i0 : Is .f32 (canon .f32 0) 0 := ⟨0, false, 0, -149, by decide, by decide, by decide +kernel⟩
  have i16 : Is .f32 (canon .f32 1098907648) 16 := ⟨1098907648, false, 8388608, -19, by decide, by decide, by decide +kernel⟩
  have hf : fin x = true := by
    cases x with
    | none => cases h0
    | some b =>
      cases hn : (FloatKind.f32.decode b).isNaN with
      | true =>
        have h2 : cord .f32 (some b) (canon .f32 0) = none := order_nan_left hn
        unfold fge at h0
        rw [h2] at h0
        cases h0
      | false =>
        rcases dec32 b hn with ⟨s, m, e, hd, hb⟩ | ⟨s, hd, hb⟩
        · exact decide_eq_true hb
        · exfalso
          have h2 : cord .f32 (some b) (canon .f32 0) = some (if s then .lt else .gt) := by show (FloatKind.f32.decode b).order _ = _; rw [hd]; rfl
          have h3 : cord .f32 (some b) (canon .f32 1098907648) = some (if s then .lt else .gt) := by show (FloatKind.f32.decode b).order _ = _; rw [hd]; rfl
          unfold fge at h0
          unfold fle at h1
          rw [h2] at h0
          rw [h3] at h1
          cases s
          · cases h1
          · cases h0
  obtain ⟨v, hv⟩ := fin_is.1 hf
  rw [fge_is hv i0] at h0
  rw [fle_is hv i16] at h1
  exact ⟨v, hv, of_decide_eq_true h0, of_decide_eq_true h1⟩
theorem is_word {k : FloatKind} {b : Nat} {v : Rat} (h : Is k (canon k b) v) : canon k b = some b := by
  cases hq : canon k b with
  | none => rw [hq] at h; obtain ⟨_, _, _, _, h, _⟩ := h; cases h
  | some y => obtain ⟨rfl, _⟩ := canon_eq_some hq; rfl
theorem Is.canon {k : FloatKind} {b : Nat} {v : Rat} (h : Is k (some b) v) : canon k b = some b := by
  obtain ⟨b', s, m, e, hb, hd, _⟩ := h
  cases hb
  exact canon_some (by rw [hd]; rfl)
theorem powOf_high {t : Option Nat} (h : dgt t (some 4638144666238189568) = true) : powOf t = (canon .f32 0, 2) := by unfold powOf; rw [h]; rfl
theorem powOf_low {t : Option Nat} (h : dgt t (some 4638144666238189568) = false) (h' : dlt t (some 13861516703092965376) = true) : powOf t = (canon .f32 0, 0) := by unfold powOf; rw [h, h']; rfl
theorem powOf_mid {t : Option Nat} (h : dgt t (some 4638144666238189568) = false) (h' : dlt t (some 13861516703092965376) = false) : powOf t = (powEnd t, 0) := by unfold powOf; rw [h, h']; rfl
theorem RetFC.of {w : World} {q p : Option Nat × Int} {e : Ending} {w' : World} (h : q = p) (hr : RetFC w p.1 p.2 e w') : RetFC w q.1 q.2 e w' := by subst h; exact hr
def RetD1 (w : World) (j : Nat) (V : Option Nat) (s m : Value) (wr : World) : Prop := ∃ ss n, s = .float .f64 ss ∧ m = .int .i64 (14 - (j : Int)) ∧ Hid (canon .f64 ss = V) ∧ wr = w.drewN n

set_option maxHeartbeats 4000000 in
/-- The main road. -/
theorem iPower_main (a x : Nat) (w : World) (hca : canon .f32 a = some a) (hok : powOk (canon .f32 a) (canon .f32 x) = true) (hz : feq (canon .f32 a) (canon .f32 0) = false) :
    Calls Try.prog 14 #[.float .f32 a, .float .f32 x] w (RetFC w (powOf (powAt (canon .f32 a) (canon .f32 x))).1 (powOf (powAt (canon .f32 a) (canon .f32 x))).2) := by
  obtain ⟨⟨hf, hp⟩, hx0, hx1⟩ : (fin (canon .f32 a) = true ∧ fge (canon .f32 a) (canon .f32 0) = true) ∧ fge (canon .f32 x) (canon .f32 0) = true ∧ fle (canon .f32 x) (canon .f32 1098907648) = true := by unfold powOk at hok; simpa [Bool.and_eq_true] using hok
  have hf' := hf
  have hz' := hz
  have hp' := hp
  rw [hca] at hf' hz' hp'
  obtain ⟨W, hw, hlo, hhi⟩ := pow_wide hf' hz' hp'
  have hcv := (cval_of (s := .f32) (d := .f64) (b := a) (r := W) hw).1
  have hcc := (cval_of (s := .f32) (d := .f64) (b := a) (r := W) hw).2
  have HT : Hid (powAt (canon .f32 a) (canon .f32 x) = powT (some (powMan W)) (powExp W) (canon .f32 x)) := Lib.hid (by unfold powAt wordOf; rw [hca, hw])
  have hlt0 : (FloatKind.f32.format.order a 0 == some .lt) = false := by
    rw [o_lt]
    have := fge_flt hf
    rw [hp] at this
    simpa using this.symm
  have hq0 : (FloatKind.f32.format.order a 0 == some .eq) = false := by rw [o_eq]; exact hz
  have hx0' : (FloatKind.f32.format.order x 0 == some .gt || FloatKind.f32.format.order x 0 == some .eq) = true := by rw [o_ge]; exact hx0
  have hx1' : (FloatKind.f32.format.order x 1098907648 == some .lt || FloatKind.f32.format.order x 1098907648 == some .eq) = true := by rw [o_le]; exact hx1
  have hM : W % 4503599627370496 < 4503599627370496 := Nat.mod_lt _ (by omega)
  obtain ⟨q1, q2⟩ := fval_of (op := .mul) (two_half hM)
  have HF := Lib.hid hf
  have HX := Lib.hid (And.intro hx0 hx1)
  have HE : Hid (powExp W = ((W / 4503599627370496 : Nat) : Int) - 1023) := Lib.hid rfl
  have HMan : Hid (powMan W = 4607182418800017408 + W % 4503599627370496) := Lib.hid rfl
  clear hw hok hz hf hp hx0 hx1 hf' hz' hp' hca hM
  go_enter Try.func14, Try.ntmps14
  go_wp2_with (refine wpList_buildSlice rfl _ _ _ rfl (.slice (some ⟨w.heap.size, 0, none⟩) 1 1) (w.alloc (.cells (fA 1 fun _ => a) 24)) (by kernel_rfl) ?_)
  refine (isFinite_any w.heap.size 1 24 (fun _ => a) _ (Blk.new w _ _) (by decide)).mono ?_
  rintro e w1 ⟨rfl, hb⟩
  have hB : Below w.heap.size w w1 := bCall (by repeat (first | assumption | exact Below.refl _ _ | refine bDrew ?_ _ | refine Below.alloc ?_ (by first | omega | (simp; done) | (simp; omega)) _ | refine Below.setCell ?_ (by first | omega | (simp; done) | (simp; omega)) _ | refine bRow ?_ (by first | omega | (simp; done) | (simp; omega)) _)) hb (by first | omega | (simp; done) | (simp; omega))
  have e1 : (allTo 1 fun _ => fin (canon .f32 a)) = true := by simp [allTo, HF.out]
  rw [e1]
  clear e1 hb HF
  go_wp2_with fail
  refine (Frexp_any W (by omega) (by omega) _).mono ?_
  rintro e w2 ⟨rfl, n2, rfl⟩
  have hE2 : W / 4503599627370496 < 2048 := by omega
  have hE1 : 800 < W / 4503599627370496 := by omega
  clear hcv hcc
  go_wp2_with fail
  have HZ : Hid (canon .f64 (4607182418800017408 + W % 4503599627370496) = some (powMan W)) := Lib.hid (by rw [HMan.out, canon_word (by omega)])
  have HO : Hid (canon .f64 4607182418800017408 = one64 ∧ canon .f64 4611686018427387904 = two64 ∧ canon .f64 4604418534313441775 = ln64 ∧ canon .f64 0 = some 0) := Lib.hid ⟨canon_word (by omega), canon_word (by omega), canon_word (by omega), canon_word (by omega)⟩
  generalize 4607182418800017408 + W % 4503599627370496 = Z at *
  generalize hu : fval .quo .f64 (fval .sub .f64 Z 4607182418800017408 (w1.drewN n2)) (fval .add .f64 Z 4607182418800017408 (w1.drewN (n2 + fcnt .sub .f64 Z 4607182418800017408))) (w1.drewN (n2 + fcnt .sub .f64 Z 4607182418800017408 + fcnt .add .f64 Z 4607182418800017408)) = u
  have HU : Hid (canon .f64 u = powU (some (powMan W))) := Lib.hid (by rw [← hu, d_div, d_sub, d_add, HZ.out, HO.out.1]; rfl)
  generalize n2 + fcnt .sub .f64 Z 4607182418800017408 + fcnt .add .f64 Z 4607182418800017408 + fcnt .quo .f64 (fval .sub .f64 Z 4607182418800017408 (w1.drewN n2)) (fval .add .f64 Z 4607182418800017408 (w1.drewN (n2 + fcnt .sub .f64 Z 4607182418800017408))) = n3
  clear hu q1 q2 hlt0 hq0 hx0' hx1' HZ HMan
  refine (wide_any _ _ _).mono ?_
  rintro e w2 ⟨v, rfl, hv, n4, rfl⟩
  have HV : Hid (canon .f64 v = dmul (powU (some (powMan W))) (powU (some (powMan W)))) := Lib.hid (by rw [hv, HU.out])
  clear hv
  go_wp2
  go_loopw [10, 12] (fun s m wr => ∃ j, j ≤ 15 ∧ RetD1 w1 j (powS (dmul (powU (some (powMan W))) (powU (some (powMan W)))) j) s m wr) (fun _ m _ => (intOf m + 1).toNat)
  case atStart => exact ⟨0, by omega, 0, _, rfl, rfl, HO.out.2.2.2, rfl⟩
  case round =>
    obtain ⟨j, hj, ss, n5, rfl, rfl, HS, rfl⟩ := hrel
    by_cases hlt : j < 15
    · go_wp2_with fail
      refine (wide_any _ _ _).mono ?_
      rintro e w3 ⟨r, rfl, hr, n6, rfl⟩
      have HR := Lib.hid hr
      clear hr
      go_wp2
      go_roundw
      case rel => exact ⟨j + 1, by omega, _, _, rfl, congrArg (Value.int .i64) (by omega), Lib.hid (by rw [d_add, d_div, HR.out, HV.out, HS.out, HO.out.1]; rfl), rfl⟩
      case measure => simp [intOf]; omega
    · obtain rfl : j = 15 := by omega
      go_wp2_with fail
      refine (wide_any _ _ _).mono ?_
      rintro e w3 ⟨r1, rfl, hr1, n6, rfl⟩
      have H1 := Lib.hid hr1
      clear hr1
      go_wp2_with fail
      refine (wide_any _ _ _).mono ?_
      rintro e w4 ⟨r2, rfl, hr2, n7, rfl⟩
      have H2 := Lib.hid hr2
      clear hr2
      go_wp2_with fail
      refine (wide_any _ _ _).mono ?_
      rintro e w5 ⟨t, rfl, ht, n8, rfl⟩
      have Ht : Hid (canon .f64 t = powT (some (powMan W)) (powExp W) (canon .f32 x)) := Lib.hid (by
        rw [ht, d_add, d_div, H2.out, H1.out, HO.out.2.1, HO.out.2.2.1, HU.out, HS.out, canon_cval (by decide) x _ (fits_wide x)]
        unfold powT powL
        rw [HE.out]
        congr 2
        unfold dint
        congr 2
        omega)
      clear ht
      obtain ⟨vx, ix, x0, x1⟩ := range_is HX.out.1 HX.out.2
      obtain ⟨im, m1, m2⟩ := man_is W
      obtain ⟨vt, it, t1, t2⟩ := powT_is im m1 m2 (e := powExp W) (by rw [HE.out]; omega) (by rw [HE.out]; omega) ix x0 x1
      rw [← Ht.out] at it
      have hct := is_word it
      have HR : Hid (powOf (powAt (canon .f32 a) (canon .f32 x)) = powOf (some t)) := Lib.hid (by rw [HT.out, ← Ht.out, hct])
      rw [hct] at it
      have hl1 : canon .f64 4638144666238189568 = some 4638144666238189568 := canon_word (by omega)
      have hl2 : canon .f64 13861516703092965376 = some 13861516703092965376 := by exact canon_some (by decide +kernel)
      clear HT Ht HX HU HV HS H1 H2 HE ix x0 x1 im m1 m2 hE1 hE2 hlo hhi
      cases g1 : (FloatKind.f64.format.order t 4638144666238189568 == some .gt) with
      | true =>
        have G1 : Hid (powOf (some t) = (canon .f32 0, 2)) := Lib.hid (powOf_high (by rw [← hct, ← hl1, ← od_gt]; exact g1))
        clear it hct hl1 hl2
        go_wp2
        go_ret2
        exact RetFC.of (HR.out.trans G1.out) ⟨_, rfl, rfl, (by repeat (first | assumption | exact Below.refl _ _ | refine bDrew ?_ _ | refine Below.alloc ?_ (by first | omega | (simp; done) | (simp; omega)) _ | refine Below.setCell ?_ (by first | omega | (simp; done) | (simp; omega)) _ | refine bRow ?_ (by first | omega | (simp; done) | (simp; omega)) _))⟩
      | false =>
        have g1' : dgt (some t) (some 4638144666238189568) = false := by rw [← hct, ← hl1, ← od_gt]; exact g1
        cases g2 : (FloatKind.f64.format.order t 13861516703092965376 == some .lt) with
        | true =>
          have G1 : Hid (powOf (some t) = (canon .f32 0, 0)) := Lib.hid (powOf_low g1' (by rw [← hct, ← hl2, ← od_lt]; exact g2))
          clear it hct hl1 hl2 g1'
          go_wp2
          go_ret2
          exact RetFC.of (HR.out.trans G1.out) ⟨_, rfl, rfl, (by repeat (first | assumption | exact Below.refl _ _ | refine bDrew ?_ _ | refine Below.alloc ?_ (by first | omega | (simp; done) | (simp; omega)) _ | refine Below.setCell ?_ (by first | omega | (simp; done) | (simp; omega)) _ | refine bRow ?_ (by first | omega | (simp; done) | (simp; omega)) _))⟩
        | false =>
          have g2' : dlt (some t) (some 13861516703092965376) = false := by rw [← hct, ← hl2, ← od_lt]; exact g2
          have G1 : Hid (powOf (some t) = (powEnd (some t), 0)) := Lib.hid (powOf_mid g1' g2')
          obtain ⟨K, kb, PW, hk, ik, hki, K1, K2, hP, P1, P2, hend⟩ := pow_end it t1 t2 g1' g2'
          have hnn : (FloatKind.f64.decode t).isNaN = false := (canon_eq_some hct).2
          have HK := Lib.hid hk
          have HKC := Lib.hid ik.canon
          have HP := Lib.hid hP
          have HEnd := Lib.hid hend
          have HCT := Lib.hid hct
          have hconv : ∀ w, (convert 39 3 (.float .f64 kb)).run Try.prog w = .ok (.int .i64 K) w := fun w => run_convert_float_int w _ _ _ _ _ _ (by kernel_rfl) Try.underlying3 hki
          clear it hct hl1 hl2 g1' g2' hk ik hki hP hend t1 t2
          go_wp2_with fail
          refine (Floor_any t hnn _).mono ?_
          rintro e w6 ⟨k, rfl, hk, n9, rfl⟩
          obtain rfl : k = kb := by have := HK.out; rw [hk] at this; injection this
          clear hk hnn
          go_wp2_with fail
          refine (wide_any _ _ _).mono ?_
          rintro e w7 ⟨y, rfl, hy, n10, rfl⟩
          have HY : Hid (canon .f64 y = powY (some t)) := Lib.hid (by
            rw [hy, d_sub, HO.out.2.2.1, HCT.out]
            unfold powY
            rw [HK.out, HKC.out])
          clear hy
          go_wp2
          go_loopw [16, 17] (fun s m wr => ∃ j, j ≤ 14 ∧ RetD1 w1 j (powP (powY (some t)) j) s m wr) (fun _ m _ => (intOf m + 1).toNat)
          case atStart => exact ⟨0, by omega, _, _, rfl, rfl, HO.out.1, rfl⟩
          case round =>
            obtain ⟨j, hj, ps, n11, rfl, rfl, HS, rfl⟩ := hrel
            by_cases hlt : j < 14
            · go_wp2_with fail
              refine (wide_any _ _ _).mono ?_
              rintro e w8 ⟨r, rfl, hr, n12, rfl⟩
              have HR := Lib.hid hr
              clear hr
              go_wp2
              go_roundw
              case rel => exact ⟨j + 1, by omega, _, _, rfl, congrArg (Value.int .i64) (by omega), Lib.hid (by rw [d_add, HR.out, d_div, HY.out, HS.out, HO.out.1]; rfl), rfl⟩
              case measure => simp [intOf]; omega
            · obtain rfl : j = 14 := by omega
              obtain ⟨hps, _⟩ := canon_eq_some (HS.out.trans HP.out)
              subst hps
              obtain ⟨hfit, hcu⟩ := up_fits P1 P2 K1 K2
              have HFit := Lib.hid (And.intro hfit hcu)
              clear hfit hcu
              go_wp2_with fail
              refine (Ldexp_any _ K (by omega) (by omega) (by omega) (by omega) _).mono ?_
              rintro e w8 ⟨rfl, n12, rfl⟩
              go_wp2
              go_ret2
              exact RetFC.of (HR.out.trans G1.out) ⟨_, rfl, by rw [canon_cval (by decide) _ _ HFit.out.1, HFit.out.2, HEnd.out], (by repeat (first | assumption | exact Below.refl _ _ | refine bDrew ?_ _ | refine Below.alloc ?_ (by first | omega | (simp; done) | (simp; omega)) _ | refine Below.setCell ?_ (by first | omega | (simp; done) | (simp; omega)) _ | refine bRow ?_ (by first | omega | (simp; done) | (simp; omega)) _))⟩
theorem ok_of {a x : Nat} (hf : fin (canon .f32 a) = true) (hn : (FloatKind.f32.format.order a 0 == some .lt) = false) (hx0 : (FloatKind.f32.format.order x 0 == some .gt || FloatKind.f32.format.order x 0 == some .eq) = true) (hx1 : (FloatKind.f32.format.order x 1098907648 == some .lt || FloatKind.f32.format.order x 1098907648 == some .eq) = true) : powOk (canon .f32 a) (canon .f32 x) = true := by
  rw [o_lt] at hn
  rw [o_ge] at hx0
  rw [o_le] at hx1
  unfold powOk
  rw [hf, fge_flt hf, hn, hx0, hx1]
  rfl
theorem iPower_inf (a x : Nat) (w : World) (hf : fin (canon .f32 a) = false) : Calls Try.prog 14 #[.float .f32 a, .float .f32 x] w (RetFC w (powRes (canon .f32 a) (canon .f32 x)).1 (powRes (canon .f32 a) (canon .f32 x)).2) := by
  have HM : Hid (powRes (canon .f32 a) (canon .f32 x) = (canon .f32 0, 2)) := Lib.hid (ok_bad (by unfold powOk; rw [hf]; rfl))
  have HF := Lib.hid hf
  clear hf
  go_enter Try.func14, Try.ntmps14
  go_wp2_with (refine wpList_buildSlice rfl _ _ _ rfl (.slice (some ⟨w.heap.size, 0, none⟩) 1 1) (w.alloc (.cells (fA 1 fun _ => a) 24)) (by kernel_rfl) ?_)
  refine (isFinite_any w.heap.size 1 24 (fun _ => a) _ (Blk.new w _ _) (by decide)).mono ?_
  rintro e w1 ⟨rfl, hb⟩
  have hB : Below w.heap.size w w1 := bCall (by repeat (first | assumption | exact Below.refl _ _ | refine bDrew ?_ _ | refine Below.alloc ?_ (by first | omega | (simp; done) | (simp; omega)) _ | refine Below.setCell ?_ (by first | omega | (simp; done) | (simp; omega)) _ | refine bRow ?_ (by first | omega | (simp; done) | (simp; omega)) _)) hb (by first | omega | (simp; done) | (simp; omega))
  have e1 : (allTo 1 fun _ => fin (canon .f32 a)) = false := by simp [allTo, HF.out]
  rw [e1]
  clear e1 hb HF
  go_wp2
  go_ret2
  exact RetFC.of HM.out ⟨_, rfl, rfl, (by repeat (first | assumption | exact Below.refl _ _ | refine bDrew ?_ _ | refine Below.alloc ?_ (by first | omega | (simp; done) | (simp; omega)) _ | refine Below.setCell ?_ (by first | omega | (simp; done) | (simp; omega)) _ | refine bRow ?_ (by first | omega | (simp; done) | (simp; omega)) _))⟩
theorem iPower_neg (a x : Nat) (w : World) (hf : fin (canon .f32 a) = true) (hn : (FloatKind.f32.format.order a 0 == some .lt) = true) : Calls Try.prog 14 #[.float .f32 a, .float .f32 x] w (RetFC w (powRes (canon .f32 a) (canon .f32 x)).1 (powRes (canon .f32 a) (canon .f32 x)).2) := by
  have HM : Hid (powRes (canon .f32 a) (canon .f32 x) = (canon .f32 0, 2)) := Lib.hid (ok_bad (by unfold powOk; rw [fge_flt hf, ← o_lt, hn]; simp))
  have HF := Lib.hid hf
  clear hf
  go_enter Try.func14, Try.ntmps14
  go_wp2_with (refine wpList_buildSlice rfl _ _ _ rfl (.slice (some ⟨w.heap.size, 0, none⟩) 1 1) (w.alloc (.cells (fA 1 fun _ => a) 24)) (by kernel_rfl) ?_)
  refine (isFinite_any w.heap.size 1 24 (fun _ => a) _ (Blk.new w _ _) (by decide)).mono ?_
  rintro e w1 ⟨rfl, hb⟩
  have hB : Below w.heap.size w w1 := bCall (by repeat (first | assumption | exact Below.refl _ _ | refine bDrew ?_ _ | refine Below.alloc ?_ (by first | omega | (simp; done) | (simp; omega)) _ | refine Below.setCell ?_ (by first | omega | (simp; done) | (simp; omega)) _ | refine bRow ?_ (by first | omega | (simp; done) | (simp; omega)) _)) hb (by first | omega | (simp; done) | (simp; omega))
  have e1 : (allTo 1 fun _ => fin (canon .f32 a)) = true := by simp [allTo, HF.out]
  rw [e1]
  clear e1 hb HF
  go_wp2
  go_ret2
  exact RetFC.of HM.out ⟨_, rfl, rfl, (by repeat (first | assumption | exact Below.refl _ _ | refine bDrew ?_ _ | refine Below.alloc ?_ (by first | omega | (simp; done) | (simp; omega)) _ | refine Below.setCell ?_ (by first | omega | (simp; done) | (simp; omega)) _ | refine bRow ?_ (by first | omega | (simp; done) | (simp; omega)) _))⟩
theorem iPower_far (a x : Nat) (w : World) (hf : fin (canon .f32 a) = true) (hn : (FloatKind.f32.format.order a 0 == some .lt) = false) (hx : ((FloatKind.f32.format.order x 0 == some .gt || FloatKind.f32.format.order x 0 == some .eq) = true ∧ (FloatKind.f32.format.order x 1098907648 == some .lt || FloatKind.f32.format.order x 1098907648 == some .eq) = false) ∨ (FloatKind.f32.format.order x 0 == some .gt || FloatKind.f32.format.order x 0 == some .eq) = false) :
    Calls Try.prog 14 #[.float .f32 a, .float .f32 x] w (RetFC w (powRes (canon .f32 a) (canon .f32 x)).1 (powRes (canon .f32 a) (canon .f32 x)).2) := by
  have HF := Lib.hid hf
  rcases hx with ⟨hx0, hx1⟩ | hx0
  · have HM : Hid (powRes (canon .f32 a) (canon .f32 x) = (canon .f32 0, 2)) := Lib.hid (ok_bad (by unfold powOk; rw [← o_le, hx1]; simp))
    clear hf
    go_enter Try.func14, Try.ntmps14
    go_wp2_with (refine wpList_buildSlice rfl _ _ _ rfl (.slice (some ⟨w.heap.size, 0, none⟩) 1 1) (w.alloc (.cells (fA 1 fun _ => a) 24)) (by kernel_rfl) ?_)
    refine (isFinite_any w.heap.size 1 24 (fun _ => a) _ (Blk.new w _ _) (by decide)).mono ?_
    rintro e w1 ⟨rfl, hb⟩
    have hB : Below w.heap.size w w1 := bCall (by repeat (first | assumption | exact Below.refl _ _ | refine bDrew ?_ _ | refine Below.alloc ?_ (by first | omega | (simp; done) | (simp; omega)) _ | refine Below.setCell ?_ (by first | omega | (simp; done) | (simp; omega)) _ | refine bRow ?_ (by first | omega | (simp; done) | (simp; omega)) _)) hb (by first | omega | (simp; done) | (simp; omega))
    have e1 : (allTo 1 fun _ => fin (canon .f32 a)) = true := by simp [allTo, HF.out]
    rw [e1]
    clear e1 hb HF
    go_wp2
    go_ret2
    exact RetFC.of HM.out ⟨_, rfl, rfl, (by repeat (first | assumption | exact Below.refl _ _ | refine bDrew ?_ _ | refine Below.alloc ?_ (by first | omega | (simp; done) | (simp; omega)) _ | refine Below.setCell ?_ (by first | omega | (simp; done) | (simp; omega)) _ | refine bRow ?_ (by first | omega | (simp; done) | (simp; omega)) _))⟩
  · have HM : Hid (powRes (canon .f32 a) (canon .f32 x) = (canon .f32 0, 2)) := Lib.hid (ok_bad (by rw [o_ge] at hx0; unfold powOk; rw [hx0]; simp))
    clear hf
    go_enter Try.func14, Try.ntmps14
    go_wp2_with (refine wpList_buildSlice rfl _ _ _ rfl (.slice (some ⟨w.heap.size, 0, none⟩) 1 1) (w.alloc (.cells (fA 1 fun _ => a) 24)) (by kernel_rfl) ?_)
    refine (isFinite_any w.heap.size 1 24 (fun _ => a) _ (Blk.new w _ _) (by decide)).mono ?_
    rintro e w1 ⟨rfl, hb⟩
    have hB : Below w.heap.size w w1 := bCall (by repeat (first | assumption | exact Below.refl _ _ | refine bDrew ?_ _ | refine Below.alloc ?_ (by first | omega | (simp; done) | (simp; omega)) _ | refine Below.setCell ?_ (by first | omega | (simp; done) | (simp; omega)) _ | refine bRow ?_ (by first | omega | (simp; done) | (simp; omega)) _)) hb (by first | omega | (simp; done) | (simp; omega))
    have e1 : (allTo 1 fun _ => fin (canon .f32 a)) = true := by simp [allTo, HF.out]
    rw [e1]
    clear e1 hb HF
    go_wp2
    go_ret2
    exact RetFC.of HM.out ⟨_, rfl, rfl, (by repeat (first | assumption | exact Below.refl _ _ | refine bDrew ?_ _ | refine Below.alloc ?_ (by first | omega | (simp; done) | (simp; omega)) _ | refine Below.setCell ?_ (by first | omega | (simp; done) | (simp; omega)) _ | refine bRow ?_ (by first | omega | (simp; done) | (simp; omega)) _))⟩
theorem iPower_zero (a x : Nat) (w : World) (hf : fin (canon .f32 a) = true) (hn : (FloatKind.f32.format.order a 0 == some .lt) = false) (hx0 : (FloatKind.f32.format.order x 0 == some .gt || FloatKind.f32.format.order x 0 == some .eq) = true) (hx1 : (FloatKind.f32.format.order x 1098907648 == some .lt || FloatKind.f32.format.order x 1098907648 == some .eq) = true) (hz : (FloatKind.f32.format.order a 0 == some .eq) = true) :
    Calls Try.prog 14 #[.float .f32 a, .float .f32 x] w (RetFC w (powRes (canon .f32 a) (canon .f32 x)).1 (powRes (canon .f32 a) (canon .f32 x)).2) := by
  have HM : Hid (powRes (canon .f32 a) (canon .f32 x) = (canon .f32 0, 0)) := Lib.hid (ok_zero (ok_of hf hn hx0 hx1) (by rw [← o_eq]; exact hz))
  have HF := Lib.hid hf
  clear hf
  go_enter Try.func14, Try.ntmps14
  go_wp2_with (refine wpList_buildSlice rfl _ _ _ rfl (.slice (some ⟨w.heap.size, 0, none⟩) 1 1) (w.alloc (.cells (fA 1 fun _ => a) 24)) (by kernel_rfl) ?_)
  refine (isFinite_any w.heap.size 1 24 (fun _ => a) _ (Blk.new w _ _) (by decide)).mono ?_
  rintro e w1 ⟨rfl, hb⟩
  have hB : Below w.heap.size w w1 := bCall (by repeat (first | assumption | exact Below.refl _ _ | refine bDrew ?_ _ | refine Below.alloc ?_ (by first | omega | (simp; done) | (simp; omega)) _ | refine Below.setCell ?_ (by first | omega | (simp; done) | (simp; omega)) _ | refine bRow ?_ (by first | omega | (simp; done) | (simp; omega)) _)) hb (by first | omega | (simp; done) | (simp; omega))
  have e1 : (allTo 1 fun _ => fin (canon .f32 a)) = true := by simp [allTo, HF.out]
  rw [e1]
  clear e1 hb HF
  go_wp2
  go_ret2
  exact RetFC.of HM.out ⟨_, rfl, rfl, (by repeat (first | assumption | exact Below.refl _ _ | refine bDrew ?_ _ | refine Below.alloc ?_ (by first | omega | (simp; done) | (simp; omega)) _ | refine Below.setCell ?_ (by first | omega | (simp; done) | (simp; omega)) _ | refine bRow ?_ (by first | omega | (simp; done) | (simp; omega)) _))⟩
theorem iPowerOf_any (a x : Nat) (w : World) : Calls Try.prog 14 #[.float .f32 a, .float .f32 x] w (RetFC w (powRes (canon .f32 a) (canon .f32 x)).1 (powRes (canon .f32 a) (canon .f32 x)).2) := by
  cases hf : fin (canon .f32 a) with
  | false => exact iPower_inf a x w hf
  | true =>
    cases hn : (FloatKind.f32.format.order a 0 == some .lt) with
    | true => exact iPower_neg a x w hf hn
    | false =>
      cases hx0 : (FloatKind.f32.format.order x 0 == some .gt || FloatKind.f32.format.order x 0 == some .eq) with
      | false => exact iPower_far a x w hf hn (.inr hx0)
      | true =>
        cases hx1 : (FloatKind.f32.format.order x 1098907648 == some .lt || FloatKind.f32.format.order x 1098907648 == some .eq) with
        | false => exact iPower_far a x w hf hn (.inl ⟨hx0, hx1⟩)
        | true =>
          cases hz : (FloatKind.f32.format.order a 0 == some .eq) with
          | true => exact iPower_zero a x w hf hn hx0 hx1 hz
          | false =>
            have hok : powOk (canon .f32 a) (canon .f32 x) = true := ok_of hf hn hx0 hx1
            have hz' : feq (canon .f32 a) (canon .f32 0) = false := by rw [← o_eq]; exact hz
            rw [ok_main hok hz']
            exact iPower_main a x w (fin_canon hf) hok hz'
end Go.Proofs.Ytghmonkoleegjaa
