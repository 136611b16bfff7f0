/- Contracts: powers, the reference. -/
import Derived.Test.YtghmonkoleegjaaPB
import Derived.Deep.Cut
namespace Go.Proofs.Ytghmonkoleegjaa
open Go.RowKit
set_option maxRecDepth 100000

/-- A number and the power of two that it was divided by. -/
def ScA (B : Nat) (z e : Value) : Prop := ∃ W k, z = .float .f64 W ∧ e = .int .i64 k ∧ Hid ((W : Int) + k * 4503599627370496 = B ∧ 0 ≤ k ∧ (k = 0 ∨ 4607182418800017408 ≤ W))
def ScB (B : Nat) (z e : Value) : Prop := ∃ W k, z = .float .f64 W ∧ e = .int .i64 k ∧ Hid ((W : Int) + k * 4503599627370496 = B ∧ k ≤ 1200 ∧ 874 * 4503599627370496 ≤ W ∧ W < 4611686018427387904)
theorem sc_end {B W : Nat} {k : Int} (h : (W : Int) + k * 4503599627370496 = B) (h1 : 4607182418800017408 ≤ W) (h2 : W < 4611686018427387904) : W = powMan B ∧ k = powExp B := by
  unfold powMan powExp
  omega
/-- The power of two that is still owed. -/
def ScK (S : Int) (pos : Bool) (k p : Value) : Prop := ∃ kb W, ∃ K : Int, k = .float .f64 kb ∧ p = .float .f64 W ∧ Hid (Is .f64 (some kb) (K : Rat) ∧ (W : Int) + K * 4503599627370496 = S ∧ (pos = false → K ≤ 0) ∧ -120 ≤ K ∧ K ≤ 120 ∧ 902 * 4503599627370496 ≤ W ∧ W ≤ 1147 * 4503599627370496)
theorem k_gt {kb : Nat} {K : Int} (h : Is .f64 (some kb) (K : Rat)) : (FloatKind.f64.format.order kb 0 == some .gt) = decide (0 < K) := by
  rw [od_gt, h.canon, canon_word (show 0 < 9218868437227405312 by omega)]
  unfold dgt
  rw [is_gt h zero_is64, Bool.eq_iff_iff, decide_eq_true_eq, decide_eq_true_eq]
  exact Rat.intCast_lt_intCast (a := 0)
theorem k_lt {kb : Nat} {K : Int} (h : Is .f64 (some kb) (K : Rat)) : (FloatKind.f64.format.order kb 0 == some .lt) = decide (K < 0) := by
  rw [od_lt, h.canon, canon_word (show 0 < 9218868437227405312 by omega)]
  unfold dlt
  rw [is_lt h zero_is64, Bool.eq_iff_iff, decide_eq_true_eq, decide_eq_true_eq]
  exact Rat.intCast_lt_intCast (b := 0)
theorem rep_int (K : Int) (h1 : -9007199254740992 ≤ K) (h2 : K ≤ 9007199254740992) : Rep Ieee.double (K : Rat) := (dint_is K h1 h2).rep
theorem k_dec {kb : Nat} {K : Int} (h : Is .f64 (some kb) (K : Rat)) (h1 : -1000 ≤ K) (h2 : K ≤ 1000) (w : World) : Is .f64 (some (fval .sub .f64 kb 4607182418800017408 w)) ((K - 1 : Int) : Rat) := by
  have e : (K : Rat) - 1 = ((K - 1 : Int) : Rat) := by rw [Rat.intCast_sub]; rfl
  have hr := rep_int (K - 1) (by omega) (by omega)
  obtain ⟨v, i, r⟩ := is_sub h one_is (by rw [e]; exact hr.fit)
  rw [e] at r
  rw [r.of_rep hr] at i
  have hc : canon .f64 (fval .sub .f64 kb 4607182418800017408 w) = dsub (some kb) one64 := by rw [d_sub, h.canon, canon_word (show 4607182418800017408 < 9218868437227405312 by omega)]; rfl
  have i' : Is .f64 (canon .f64 (fval .sub .f64 kb 4607182418800017408 w)) ((K - 1 : Int) : Rat) := by rw [hc]; exact i
  rw [is_word i'] at i'
  exact i'
theorem k_inc {kb : Nat} {K : Int} (h : Is .f64 (some kb) (K : Rat)) (h1 : -1000 ≤ K) (h2 : K ≤ 1000) (w : World) : Is .f64 (some (fval .add .f64 kb 4607182418800017408 w)) ((K + 1 : Int) : Rat) := by
  have e : (K : Rat) + 1 = ((K + 1 : Int) : Rat) := by rw [Rat.intCast_add]; rfl
  have hr := rep_int (K + 1) (by omega) (by omega)
  obtain ⟨v, i, r⟩ := is_add h one_is (by rw [e]; exact hr.fit)
  rw [e] at r
  rw [r.of_rep hr] at i
  have hc : canon .f64 (fval .add .f64 kb 4607182418800017408 w) = dadd (some kb) one64 := by rw [d_add, h.canon, canon_word (show 4607182418800017408 < 9218868437227405312 by omega)]; rfl
  have i' : Is .f64 (canon .f64 (fval .add .f64 kb 4607182418800017408 w)) ((K + 1 : Int) : Rat) := by rw [hc]; exact i
  rw [is_word i'] at i'
  exact i'

set_option maxHeartbeats 4000000 in
/-- The main road. -/
theorem sPower_main (a x : Nat) (w : World) (hca : canon .f32 a = some a) (hok : powOk (canon .f32 a) (canon .f32 x) = true) (hz : feq (canon .f32 a) (canon .f32 0) = false) :
    Calls Try.prog 41 #[.float .f32 a, .float .f32 x] w (RetFC w (powOf (powAt (canon .f32 a) (canon .f32 x))).1 (powOf (powAt (canon .f32 a) (canon .f32 x))).2) := by
  obtain ⟨⟨hf, hp⟩, hx0, hx1⟩ : (fin (canon .f32 a) = true ∧ fge (canon .f32 a) (canon .f32 0) = true) ∧ fge (canon .f32 x) (canon .f32 0) = true ∧ fle (canon .f32 x) (canon .f32 1098907648) = true := by unfold powOk at hok; simpa [Bool.and_eq_true] using hok
  have hf' := hf
  have hz' := hz
  have hp' := hp
  rw [hca] at hf' hz' hp'
  obtain ⟨B, hw, hlo, hhi⟩ := pow_wide hf' hz' hp'
  have hcv := (cval_of (s := .f32) (d := .f64) (b := a) (r := B) hw).1
  have hcc := (cval_of (s := .f32) (d := .f64) (b := a) (r := B) hw).2
  have HT : Hid (powAt (canon .f32 a) (canon .f32 x) = powT (some (powMan B)) (powExp B) (canon .f32 x)) := Lib.hid (by unfold powAt wordOf; rw [hca, hw])
  have hge : (FloatKind.f32.format.order a 0 == some .gt || FloatKind.f32.format.order a 0 == some .eq) = true := by rw [o_ge]; exact hp
  have hq0 : (FloatKind.f32.format.order a 0 == some .eq) = false := by rw [o_eq]; exact hz
  have hx0' : (FloatKind.f32.format.order x 0 == some .gt || FloatKind.f32.format.order x 0 == some .eq) = true := by rw [o_ge]; exact hx0
  have hx1' : (FloatKind.f32.format.order x 1098907648 == some .lt || FloatKind.f32.format.order x 1098907648 == some .eq) = true := by rw [o_le]; exact hx1
  have hgt : (FloatKind.f32.format.order a 0 == some .gt) = true := by have h := hge; rw [hq0, Bool.or_false] at h; exact h
  have HF := Lib.hid hf
  have HX := Lib.hid (And.intro hx0 hx1)
  have HB := Lib.hid (And.intro hlo hhi)
  have HO : Hid (canon .f64 4607182418800017408 = one64 ∧ canon .f64 4611686018427387904 = two64 ∧ canon .f64 4604418534313441775 = ln64 ∧ canon .f64 0 = some 0) := Lib.hid ⟨canon_word (by omega), canon_word (by omega), canon_word (by omega), canon_word (by omega)⟩
  clear hw hok hz hf hp hx0 hx1 hf' hz' hp' hca hlo hhi
  go_enter Try.func41, Try.ntmps41
  go_wp2_with fail
  refine (l01Finite_any _ _).mono ?_
  rintro e w1 ⟨rfl, n1, rfl⟩
  rw [HF.out]
  clear HF
  go_wp2
  clear hcv hcc hge hgt hq0 hx0' hx1'
  go_loopw [6, 7] (fun z e wr => ScA B z e ∧ ∃ n, wr = w.drewN n) (fun z _ _ => dnTo z)
  case atStart => exact ⟨⟨B, 0, rfl, rfl, Lib.hid ⟨by omega, by omega, .inl rfl⟩⟩, _, rfl⟩
  case round =>
    obtain ⟨⟨W0, k0, rfl, rfl, H0⟩, n0, rfl⟩ := hrel
    have hW0 : W0 < 9218868437227405312 := by have h := H0.out; have h2 := HB.out; omega
    have hk1 : 0 ≤ k0 := H0.out.2.1
    have hk2 : k0 ≤ 1200 := by have h := H0.out; have h2 := HB.out; omega
    cases h8 : decide (4611686018427387904 ≤ W0) with
    | true =>
      have h8' := of_decide_eq_true h8
      have hc : (FloatKind.f64.format.order W0 4611686018427387904 == some .gt || FloatKind.f64.format.order W0 4611686018427387904 == some .eq) = true := by rw [od_ge_w hW0 (by omega), h8]
      obtain ⟨W1, hW1⟩ : ∃ W1, W1 + 4503599627370496 = W0 := ⟨W0 - 4503599627370496, by omega⟩
      obtain ⟨qa, qac⟩ := fval_of (op := .quo) (halved (a := W0) (by omega) hW0)
      rw [show W0 - 4503599627370496 = W1 by omega] at qa
      have HN : Hid (ScA B (.float .f64 W1) (.int .i64 (k0 + 1)) ∧ dnTo (.float .f64 W1) < dnTo (.float .f64 W0)) := Lib.hid ⟨⟨_, k0 + 1, rfl, rfl, Lib.hid (by have h := H0.out; omega)⟩, by simp only [dnTo, fword]; omega⟩
      clear hW1 h8 h8' hW0 H0
      go_wp2
      go_roundw
      case rel => exact ⟨HN.out.1, _, rfl⟩
      case measure => exact HN.out.2
    | false =>
      have h8' := of_decide_eq_false h8
      have hc : (FloatKind.f64.format.order W0 4611686018427387904 == some .gt || FloatKind.f64.format.order W0 4611686018427387904 == some .eq) = false := by rw [od_ge_w hW0 (by omega), h8]
      have H8 : Hid ((W0 : Int) + k0 * 4503599627370496 = B ∧ k0 ≤ 1200 ∧ 874 * 4503599627370496 ≤ W0 ∧ W0 < 4611686018427387904) := Lib.hid (by have h := H0.out; have h2 := HB.out; omega)
      clear h8 h8' hW0 H0 hk1 hk2
      go_wp2
      clear hc
      go_loopw [6, 7] (fun z e wr => ScB B z e ∧ ∃ n, wr = w.drewN n) (fun z _ _ => upTo z)
      case atStart => exact ⟨⟨W0, k0, rfl, rfl, H8⟩, n0, rfl⟩
      case round =>
        obtain ⟨⟨W1, k1, rfl, rfl, H1⟩, n1, rfl⟩ := hrel
        have hW1 : W1 < 9218868437227405312 := by have h := H1.out; omega
        have hk1 : -1200 ≤ k1 := by have h := H1.out; have h2 := HB.out; omega
        have hk2 : k1 ≤ 1200 := H1.out.2.1
        cases h1 : decide (W1 < 4607182418800017408) with
        | true =>
          have h1' := of_decide_eq_true h1
          have hc : (FloatKind.f64.format.order W1 4607182418800017408 == some .lt) = true := by rw [od_lt_w hW1 (by omega), h1]
          obtain ⟨qa, qac⟩ := fval_of (op := .mul) (twice (a := W1) (by have h := H1.out; omega) (by omega))
          have HN : Hid (ScB B (.float .f64 (W1 + 4503599627370496)) (.int .i64 (k1 - 1)) ∧ upTo (.float .f64 (W1 + 4503599627370496)) < upTo (.float .f64 W1)) := Lib.hid ⟨⟨_, k1 - 1, rfl, rfl, Lib.hid (by have h := H1.out; omega)⟩, by simp only [upTo, fword]; omega⟩
          generalize W1 + 4503599627370496 = W2 at *
          clear h1 h1' hW1 H1
          go_wp2
          go_roundw
          case rel => exact ⟨HN.out.1, _, rfl⟩
          case measure => exact HN.out.2
        | false =>
          have h1' := of_decide_eq_false h1
          have hc : (FloatKind.f64.format.order W1 4607182418800017408 == some .lt) = false := by rw [od_lt_w hW1 (by omega), h1]
          have HE : Hid (W1 = powMan B ∧ k1 = powExp B ∧ canon .f64 W1 = some (powMan B)) := Lib.hid (by
            obtain ⟨e1, e2⟩ := sc_end H1.out.1 (by omega) H1.out.2.2.2
            exact ⟨e1, e2, by rw [canon_word hW1, e1]⟩)
          clear h1 h1' hW1 H1 H8
          go_wp2
          clear hc
          go_loopw [10, 11] (fun s m wr => ∃ j, j ≤ 15 ∧ RetD1 w j (powS (dmul (powU (some (powMan B))) (powU (some (powMan B)))) j) s m wr) (fun _ m _ => (intOf m + 1).toNat)
          case atStart => exact ⟨0, by omega, 0, _, rfl, rfl, HO.out.2.2.2, rfl⟩
          case round =>
            obtain ⟨j, hj, ss, n5, rfl, rfl, HS, rfl⟩ := hrel
            by_cases hlt : j < 15
            · go_wp2
              go_roundw
              case rel => exact ⟨j + 1, by omega, _, _, rfl, congrArg (Value.int .i64) (by omega), Lib.hid (by simp only [d_add, d_div, d_mul, d_sub, HS.out, HE.out.2.2, HO.out.1]; rfl), rfl⟩
              case measure => simp [intOf]; omega
            · obtain rfl : j = 15 := by omega
              go_upto_region 21 with (fail)
              go_simp
              go_cut [13] from 6 (fun x13 wc => ∃ t, x13 = .float .f64 t ∧ Hid (canon .f64 t = powT (some (powMan B)) (powExp B) (canon .f32 x)) ∧ ∃ n, wc = w.drewN n)
              case first =>
                go_wp2
                go_meet
                case rel =>
                  refine ⟨_, rfl, Lib.hid ?_, _, rfl⟩
                  simp only [d_add, d_div, d_mul, d_sub, HS.out, HE.out.2.2, HO.out.1, HO.out.2.1, HO.out.2.2.1, canon_cval (by decide) x _ (fits_wide x)]
                  unfold powT powL
                  rw [HE.out.2.1]
                  rfl
              case rest =>
              obtain ⟨t, rfl, Ht, nt, rfl⟩ := hcut
              obtain ⟨vx, ix, x0, x1⟩ := range_is HX.out.1 HX.out.2
              obtain ⟨im, m1, m2⟩ := man_is B
              have HEx : Hid (powExp B = ((B / 4503599627370496 : Nat) : Int) - 1023) := Lib.hid rfl
              obtain ⟨vt, it, t1, t2⟩ := powT_is im m1 m2 (e := powExp B) (by rw [HEx.out]; have := HB.out; omega) (by rw [HEx.out]; have := HB.out; omega) ix x0 x1
              rw [← Ht.out] at it
              have hct := is_word it
              have HR : Hid (powOf (powAt (canon .f32 a) (canon .f32 x)) = powOf (some t)) := Lib.hid (by rw [HT.out, ← Ht.out, hct])
              rw [hct] at it
              have hl1 : canon .f64 4638144666238189568 = some 4638144666238189568 := canon_word (by omega)
              have hl2 : canon .f64 13861516703092965376 = some 13861516703092965376 := by exact canon_some (by decide +kernel)
              clear HT Ht HX HS HE ix x0 x1 im m1 m2 HEx HB hk1 hk2
              cases g1 : (FloatKind.f64.format.order t 4638144666238189568 == some .gt) with
              | true =>
                have G1 : Hid (powOf (some t) = (canon .f32 0, 2)) := Lib.hid (powOf_high (by rw [← hct, ← hl1, ← od_gt]; exact g1))
                clear it hct hl1 hl2
                go_wp2
                go_ret2
                exact RetFC.of (HR.out.trans G1.out) ⟨_, rfl, rfl, bDrew (Below.refl _ _) _⟩
              | false =>
                have g1' : dgt (some t) (some 4638144666238189568) = false := by rw [← hct, ← hl1, ← od_gt]; exact g1
                cases g2 : (FloatKind.f64.format.order t 13861516703092965376 == some .lt) with
                | true =>
                  have G1 : Hid (powOf (some t) = (canon .f32 0, 0)) := Lib.hid (powOf_low g1' (by rw [← hct, ← hl2, ← od_lt]; exact g2))
                  clear it hct hl1 hl2 g1'
                  go_wp2
                  go_ret2
                  exact RetFC.of (HR.out.trans G1.out) ⟨_, rfl, rfl, bDrew (Below.refl _ _) _⟩
                | false =>
                  have g2' : dlt (some t) (some 13861516703092965376) = false := by rw [← hct, ← hl2, ← od_lt]; exact g2
                  have G1 : Hid (powOf (some t) = (powEnd (some t), 0)) := Lib.hid (powOf_mid g1' g2')
                  obtain ⟨K, kb, PW, hk, ik, hki, K1, K2, hP, P1, P2, hend⟩ := pow_end it t1 t2 g1' g2'
                  have hnn : (FloatKind.f64.decode t).isNaN = false := (canon_eq_some hct).2
                  have HK := Lib.hid hk
                  have HKI := Lib.hid ik
                  have HP := Lib.hid hP
                  have HEnd := Lib.hid hend
                  have HCT := Lib.hid hct
                  clear it hct hl1 hl2 g1' g2' hk ik hki hP hend t1 t2
                  go_wp2_with fail
                  refine (Floor_any t hnn _).mono ?_
                  rintro e w6 ⟨k, rfl, hk, n9, rfl⟩
                  obtain rfl : k = kb := by have := HK.out; rw [hk] at this; injection this
                  clear hk hnn g1 g2
                  go_wp2
                  go_loopw [16, 17] (fun s m wr => ∃ j, j ≤ 14 ∧ RetD1 w j (powP (powY (some t)) j) s m wr) (fun _ m _ => (intOf m + 1).toNat)
                  case atStart => exact ⟨0, by omega, _, _, rfl, rfl, HO.out.1, rfl⟩
                  case round =>
                    obtain ⟨j, hj, ps, n11, rfl, rfl, HS, rfl⟩ := hrel
                    have HY : Hid (∀ w w', canon .f64 (fval .mul .f64 (fval .sub .f64 t k w) 4604418534313441775 w') = powY (some t)) := Lib.hid (fun w w' => by
                      rw [d_mul, d_sub, HO.out.2.2.1, HCT.out]
                      unfold powY
                      rw [HK.out, HKI.out.canon])
                    by_cases hlt : j < 14
                    · go_wp2
                      go_roundw
                      case rel => exact ⟨j + 1, by omega, _, _, rfl, congrArg (Value.int .i64) (by omega), Lib.hid (by rw [d_add, d_mul, d_div, HY.out, HS.out, HO.out.1]; rfl), rfl⟩
                      case measure => simp [intOf]; omega
                    · obtain rfl : j = 14 := by omega
                      obtain ⟨hps, _⟩ := canon_eq_some (HS.out.trans HP.out)
                      subst hps
                      go_wp2
                      go_loopw [14, 16] (fun kv p wr => ScK ((ps : Int) + K * 4503599627370496) true kv p ∧ ∃ n, wr = w.drewN n) (fun _ p _ => upTo p)
                      case atStart => exact ⟨⟨_, _, K, rfl, rfl, Lib.hid ⟨HKI.out, rfl, (fun h => by cases h), K1, K2, by omega, by omega⟩⟩, _, rfl⟩
                      case round =>
                        obtain ⟨⟨k2, W2, J, rfl, rfl, H2⟩, n2, rfl⟩ := hrel
                        cases h1 : decide (0 < J) with
                        | true =>
                          have h1' := of_decide_eq_true h1
                          have hc : (FloatKind.f64.format.order k2 0 == some .gt) = true := by rw [k_gt H2.out.1, h1]
                          obtain ⟨qa, qac⟩ := fval_of (op := .mul) (twice (a := W2) (by have h := H2.out; omega) (by have h := H2.out; omega))
                          have HN : Hid (∀ w, ScK ((ps : Int) + K * 4503599627370496) true (.float .f64 (fval .sub .f64 k2 4607182418800017408 w)) (.float .f64 (W2 + 4503599627370496))) := Lib.hid fun w => ⟨_, _, J - 1, rfl, rfl, Lib.hid ⟨k_dec H2.out.1 (by have h := H2.out; omega) (by have h := H2.out; omega) w, by have h := H2.out; omega, (fun h => by cases h), by omega, by have h := H2.out; omega, by have h := H2.out; omega, by have h := H2.out; omega⟩⟩
                          have HM : Hid (upTo (.float .f64 (W2 + 4503599627370496)) < upTo (.float .f64 W2)) := Lib.hid (by have h := H2.out; simp only [upTo, fword]; omega)
                          generalize W2 + 4503599627370496 = W3 at *
                          clear h1 h1' H2
                          go_wp2
                          go_roundw
                          case rel => exact ⟨HN.out _, _, rfl⟩
                          case measure => exact HM.out
                        | false =>
                          have h1' := of_decide_eq_false h1
                          have hc : (FloatKind.f64.format.order k2 0 == some .gt) = false := by rw [k_gt H2.out.1, h1]
                          have H3 : Hid (ScK ((ps : Int) + K * 4503599627370496) false (.float .f64 k2) (.float .f64 W2)) := Lib.hid ⟨_, _, J, rfl, rfl, Lib.hid (by have h := H2.out; exact ⟨h.1, h.2.1, (fun _ => by omega), h.2.2.2⟩)⟩
                          clear h1 h1' H2
                          go_wp2
                          clear hc
                          go_loopw [14, 16] (fun kv p wr => ScK ((ps : Int) + K * 4503599627370496) false kv p ∧ ∃ n, wr = w.drewN n) (fun _ p _ => dnTo p)
                          case atStart => exact ⟨H3.out, _, rfl⟩
                          case round =>
                            obtain ⟨⟨k4, W4, J4, rfl, rfl, H4⟩, n4, rfl⟩ := hrel
                            cases h1 : decide (J4 < 0) with
                            | true =>
                              have h1' := of_decide_eq_true h1
                              have hc : (FloatKind.f64.format.order k4 0 == some .lt) = true := by rw [k_lt H4.out.1, h1]
                              obtain ⟨W5, hW5⟩ : ∃ W5, W5 + 4503599627370496 = W4 := ⟨W4 - 4503599627370496, by have h := H4.out; omega⟩
                              obtain ⟨qa, qac⟩ := fval_of (op := .quo) (halved (a := W4) (by have h := H4.out; omega) (by have h := H4.out; omega))
                              rw [show W4 - 4503599627370496 = W5 by omega] at qa
                              have HN : Hid (∀ w, ScK ((ps : Int) + K * 4503599627370496) false (.float .f64 (fval .add .f64 k4 4607182418800017408 w)) (.float .f64 W5)) := Lib.hid fun w => ⟨_, _, J4 + 1, rfl, rfl, Lib.hid ⟨k_inc H4.out.1 (by have h := H4.out; omega) (by have h := H4.out; omega) w, by have h := H4.out; omega, (fun _ => by omega), by have h := H4.out; omega, by have h := H4.out; omega, by have h := H4.out; omega, by have h := H4.out; omega⟩⟩
                              have HM : Hid (dnTo (.float .f64 W5) < dnTo (.float .f64 W4)) := Lib.hid (by simp only [dnTo, fword]; omega)
                              clear h1 h1' H4 hW5
                              go_wp2
                              go_roundw
                              case rel => exact ⟨HN.out _, _, rfl⟩
                              case measure => exact HM.out
                            | false =>
                              have h1' := of_decide_eq_false h1
                              have hc : (FloatKind.f64.format.order k4 0 == some .lt) = false := by rw [k_lt H4.out.1, h1]
                              have HW : Hid (W4 = upBy ps K) := Lib.hid (by have h := H4.out; have h2 := h.2.2.1 rfl; unfold upBy; omega)
                              obtain ⟨hfit, hcu⟩ := up_fits P1 P2 K1 K2
                              have HFit := Lib.hid (And.intro hfit hcu)
                              clear hfit hcu h1 h1' H4
                              go_wp2
                              go_ret2
                              exact RetFC.of (HR.out.trans G1.out) ⟨_, rfl, by rw [HW.out, canon_cval (by decide) _ _ HFit.out.1, HFit.out.2, HEnd.out], bDrew (Below.refl _ _) _⟩
theorem sPower_neg (a x : Nat) (w : World) (hge : (FloatKind.f32.format.order a 0 == some .gt || FloatKind.f32.format.order a 0 == some .eq) = false) : Calls Try.prog 41 #[.float .f32 a, .float .f32 x] w (RetFC w (powRes (canon .f32 a) (canon .f32 x)).1 (powRes (canon .f32 a) (canon .f32 x)).2) := by
  have HM : Hid (powRes (canon .f32 a) (canon .f32 x) = (canon .f32 0, 2)) := Lib.hid (ok_bad (by rw [o_ge] at hge; unfold powOk; rw [hge]; simp))
  go_enter Try.func41, Try.ntmps41
  go_wp2
  go_ret2
  exact RetFC.of HM.out ⟨_, rfl, rfl, Below.refl _ _⟩
theorem sPower_inf (a x : Nat) (w : World) (hge : (FloatKind.f32.format.order a 0 == some .gt || FloatKind.f32.format.order a 0 == some .eq) = true) (hf : fin (canon .f32 a) = false) : Calls Try.prog 41 #[.float .f32 a, .float .f32 x] w (RetFC w (powRes (canon .f32 a) (canon .f32 x)).1 (powRes (canon .f32 a) (canon .f32 x)).2) := by
  have HM : Hid (powRes (canon .f32 a) (canon .f32 x) = (canon .f32 0, 2)) := Lib.hid (ok_bad (by unfold powOk; rw [hf]; rfl))
  have HF := Lib.hid hf
  clear hf
  go_enter Try.func41, Try.ntmps41
  go_wp2_with fail
  refine (l01Finite_any _ _).mono ?_
  rintro e w1 ⟨rfl, n1, rfl⟩
  rw [HF.out]
  clear HF
  go_wp2
  go_ret2
  exact RetFC.of HM.out ⟨_, rfl, rfl, bDrew (Below.refl _ _) _⟩
theorem sPower_far (a x : Nat) (w : World) (hge : (FloatKind.f32.format.order a 0 == some .gt || FloatKind.f32.format.order a 0 == some .eq) = true) (hf : fin (canon .f32 a) = true) (hx : ((FloatKind.f32.format.order x 0 == some .gt || FloatKind.f32.format.order x 0 == some .eq) = true ∧ (FloatKind.f32.format.order x 1098907648 == some .lt || FloatKind.f32.format.order x 1098907648 == some .eq) = false) ∨ (FloatKind.f32.format.order x 0 == some .gt || FloatKind.f32.format.order x 0 == some .eq) = false) : Calls Try.prog 41 #[.float .f32 a, .float .f32 x] w (RetFC w (powRes (canon .f32 a) (canon .f32 x)).1 (powRes (canon .f32 a) (canon .f32 x)).2) := by
  have HF := Lib.hid hf
  clear hf
  rcases hx with ⟨hx0, hx1⟩ | hx0
  · have HM : Hid (powRes (canon .f32 a) (canon .f32 x) = (canon .f32 0, 2)) := Lib.hid (ok_bad (by rw [o_le] at hx1; unfold powOk; rw [hx1]; simp))
    go_enter Try.func41, Try.ntmps41
    go_wp2_with fail
    refine (l01Finite_any _ _).mono ?_
    rintro e w1 ⟨rfl, n1, rfl⟩
    rw [HF.out]
    clear HF
    go_wp2
    go_ret2
    exact RetFC.of HM.out ⟨_, rfl, rfl, bDrew (Below.refl _ _) _⟩
  · have HM : Hid (powRes (canon .f32 a) (canon .f32 x) = (canon .f32 0, 2)) := Lib.hid (ok_bad (by rw [o_ge] at hx0; unfold powOk; rw [hx0]; simp))
    go_enter Try.func41, Try.ntmps41
    go_wp2_with fail
    refine (l01Finite_any _ _).mono ?_
    rintro e w1 ⟨rfl, n1, rfl⟩
    rw [HF.out]
    clear HF
    go_wp2
    go_ret2
    exact RetFC.of HM.out ⟨_, rfl, rfl, bDrew (Below.refl _ _) _⟩
theorem sPower_zero (a x : Nat) (w : World) (hgt : (FloatKind.f32.format.order a 0 == some .gt) = false) (hz : (FloatKind.f32.format.order a 0 == some .eq) = true) (hf : fin (canon .f32 a) = true) (hx0 : (FloatKind.f32.format.order x 0 == some .gt || FloatKind.f32.format.order x 0 == some .eq) = true) (hx1 : (FloatKind.f32.format.order x 1098907648 == some .lt || FloatKind.f32.format.order x 1098907648 == some .eq) = true) : Calls Try.prog 41 #[.float .f32 a, .float .f32 x] w (RetFC w (powRes (canon .f32 a) (canon .f32 x)).1 (powRes (canon .f32 a) (canon .f32 x)).2) := by
  have HM : Hid (powRes (canon .f32 a) (canon .f32 x) = (canon .f32 0, 0)) := Lib.hid (ok_zero (by rw [o_ge] at hx0; rw [o_le] at hx1; unfold powOk; rw [hf, hx0, hx1, ← o_ge, hz]; simp) (by rw [← o_eq]; exact hz))
  have HF := Lib.hid hf
  clear hf
  go_enter Try.func41, Try.ntmps41
  go_wp2_with fail
  refine (l01Finite_any _ _).mono ?_
  rintro e w1 ⟨rfl, n1, rfl⟩
  rw [HF.out]
  clear HF
  go_wp2
  go_ret2
  exact RetFC.of HM.out ⟨_, rfl, rfl, bDrew (Below.refl _ _) _⟩
theorem l01Power_any (a x : Nat) (w : World) : Calls Try.prog 41 #[.float .f32 a, .float .f32 x] w (RetFC w (powRes (canon .f32 a) (canon .f32 x)).1 (powRes (canon .f32 a) (canon .f32 x)).2) := by
  cases hge : (FloatKind.f32.format.order a 0 == some .gt || FloatKind.f32.format.order a 0 == some .eq) with
  | false => exact sPower_neg a x w hge
  | true =>
    cases hf : fin (canon .f32 a) with
    | false => exact sPower_inf a x w hge hf
    | true =>
      cases hx0 : (FloatKind.f32.format.order x 0 == some .gt || FloatKind.f32.format.order x 0 == some .eq) with
      | false => exact sPower_far a x w hge hf (.inr hx0)
      | true =>
        cases hx1 : (FloatKind.f32.format.order x 1098907648 == some .lt || FloatKind.f32.format.order x 1098907648 == some .eq) with
        | false => exact sPower_far a x w hge hf (.inl ⟨hx0, hx1⟩)
        | true =>
          cases hz : (FloatKind.f32.format.order a 0 == some .eq) with
          | true =>
            have hgt : (FloatKind.f32.format.order a 0 == some .gt) = false := by rw [beq_iff_eq] at hz; rw [hz]; rfl
            exact sPower_zero a x w hgt hz hf hx0 hx1
          | false =>
            have hok : powOk (canon .f32 a) (canon .f32 x) = true := by
              rw [o_ge] at hx0 hge
              rw [o_le] at hx1
              unfold powOk
              rw [hf, hge, hx0, hx1]
              rfl
            have hz' : feq (canon .f32 a) (canon .f32 0) = false := by rw [← o_eq]; exact hz
            rw [ok_main hok hz']
            exact sPower_main a x w (fin_canon hf) hok hz'
theorem sPowerOf_any (a x : Nat) (w : World) : Calls Try.prog 13 #[.float .f32 a, .float .f32 x] w (RetFC w (powRes (canon .f32 a) (canon .f32 x)).1 (powRes (canon .f32 a) (canon .f32 x)).2) := by
  go_enter Try.func13, Try.ntmps13
  go_wp2_with fail
  refine (l01Power_any a x w).mono ?_
  rintro e w1 ⟨r, rfl, hr, hb⟩
  have HR := Lib.hid hr
  clear hr
  go_wp2
  go_ret2
  exact ⟨_, rfl, HR.out, hb⟩
end Go.Proofs.Ytghmonkoleegjaa
