/- Contracts: third roots with a code. -/
import Derived.Test.YtghmonkoleegjaaDB
namespace Go.Proofs.Ytghmonkoleegjaa
open Go.RowKit
set_option maxRecDepth 100000

def cubeRes (x : Option Nat) : Option Nat × Int := if fin x then (cbrt x, 0) else (canon .f32 0, 2)
theorem RetFC.as {w : World} {p : Option Nat} {c : Int} {q : Option Nat × Int} {e : Ending} {w' : World} (h : q = (p, c)) (hr : RetFC w p c e w') : RetFC w q.1 q.2 e w' := by subst h; exact hr
theorem neg_top {W : Nat} (h1 : 9223372036854775808 ≤ W) (h2 : W < 18446744073709551616) : Op.negFloat .f64 W = W % 9223372036854775808 := by
  have h := xor_top 63 W
  have h3 : (W ^^^ 2 ^ 63) / 2 ^ 63 = W / 2 ^ 63 ^^^ 1 := by
    have := @Nat.xor_div_two_pow W (2 ^ 63) 63
    rw [Nat.div_self (Nat.two_pow_pos _)] at this
    exact this
  have h4 : W / 2 ^ 63 = 1 := by
    have e : (2 : Nat) ^ 63 = 9223372036854775808 := rfl
    rw [e]; omega
  rw [h4] at h3
  have h5 := Nat.div_add_mod (W ^^^ 2 ^ 63) (2 ^ 63)
  rw [h3, h.1] at h5
  have e : (2 : Nat) ^ 63 = 9223372036854775808 := rfl
  show W ^^^ 2 ^ 63 = _
  rw [← h5, e]
  simp
theorem iCubeRoot_any (a : Nat) (w : World) : Calls Try.prog 18 #[.float .f32 a] w (RetFC w (cubeRes (canon .f32 a)).1 (cubeRes (canon .f32 a)).2) := by
  go_enter Try.func18, Try.ntmps18
  go_wp2_with (refine wpList_buildSlice rfl _ _ _ rfl (.slice (some ⟨w.heap.size, 0, none⟩) 1 1) (w.alloc (.cells (fA 1 fun _ => a) 24)) (by kernel_rfl) ?_)
  refine (isFinite_any w.heap.size 1 24 (fun _ => a) _ (Blk.new w _ _) (by decide)).mono ?_
  rintro e w1 ⟨rfl, hb⟩
  have hB : Below w.heap.size w w1 := bCall (by repeat (first | assumption | exact Below.refl _ _ | refine bDrew ?_ _ | refine Below.alloc ?_ (by first | omega | (simp; done) | (simp; omega)) _ | refine Below.setCell ?_ (by first | omega | (simp; done) | (simp; omega)) _ | refine bRow ?_ (by first | omega | (simp; done) | (simp; omega)) _)) hb (by first | omega | (simp; done) | (simp; omega))
  have e1 : (allTo 1 fun _ => fin (canon .f32 a)) = fin (canon .f32 a) := by simp [allTo]
  rw [e1]
  clear e1 hb
  cases hq : fin (canon .f32 a) with
  | false =>
    have Hm : Hid (cubeRes (canon .f32 a) = (canon .f32 0, 2)) := Lib.hid (by unfold cubeRes; rw [hq]; rfl)
    clear hq
    go_wp2
    go_ret2
    exact RetFC.as Hm.out ⟨_, rfl, rfl, hB⟩
  | true =>
    have Hm : Hid (cubeRes (canon .f32 a) = (cbrt (canon .f32 a), 0)) := Lib.hid (by unfold cubeRes; rw [hq]; rfl)
    have Hq := Lib.hid hq
    clear hq
    go_wp2_with fail
    refine (cubeRoot_any a w1 Hq.out).mono ?_
    rintro e w2 ⟨r, rfl, hr, n, rfl⟩
    have Hr := Lib.hid hr
    clear hr
    go_wp2
    go_ret2
    exact RetFC.as Hm.out ⟨_, rfl, Hr.out, (by repeat (first | assumption | exact Below.refl _ _ | refine bDrew ?_ _ | refine Below.alloc ?_ (by first | omega | (simp; done) | (simp; omega)) _ | refine Below.setCell ?_ (by first | omega | (simp; done) | (simp; omega)) _ | refine bRow ?_ (by first | omega | (simp; done) | (simp; omega)) _))⟩
theorem sCube_neg (a W B : Nat) (w : World) (hz : (FloatKind.f32.format.order a 0 == some .eq) = false) (hn : (FloatKind.f32.format.order a 0 == some .lt) = true) (hcv : ∀ w, cval .f32 .f64 a w = W) (hcc : ccnt .f32 .f64 a = 0) (hneg : Op.negFloat .f64 W = B)
    (HB : Hid (874 * 4503599627370496 ≤ B ∧ B < 1151 * 4503599627370496)) (Hc : Hid (cbrt (canon .f32 a) = cneg .f32 (cbrtSize B))) (Hf : Hid (fin (canon .f32 a) = true)) :
    Calls Try.prog 19 #[.float .f32 a] w (RetFC w (cbrt (canon .f32 a)) 0) := by
    go_enter Try.func19, Try.ntmps19
    go_wp2_with fail
    refine (l01Finite_any _ _).mono ?_
    rintro e w1 ⟨rfl, n, rfl⟩
    rw [Hf.out]
    go_wp2
    clear hcv hcc hneg
    go_loopw [4, 5] (fun b x wr => Down B b x ∧ ∃ n, wr = w.drewN n) (fun b _ _ => dnTo b)
    case atStart => exact ⟨⟨B, 0, _, rfl, rfl, Lib.hid ⟨by omega, by omega, .inl rfl⟩⟩, n, rfl⟩
    case round =>
      obtain ⟨⟨W0, k0, X0, rfl, rfl, H0⟩, n0, rfl⟩ := hrel
      have hW0 : W0 < 9218868437227405312 := by have h := H0.out; have h2 := HB.out; omega
      cases h8 : decide (4620693217682128896 ≤ W0) with
      | true =>
        have h8' := of_decide_eq_true h8
        have hc : (FloatKind.f64.format.order W0 4620693217682128896 == some .gt || FloatKind.f64.format.order W0 4620693217682128896 == some .eq) = true := by rw [od_ge_w hW0 (by omega), h8]
        obtain ⟨W1, hW1⟩ := sub_some (W := W0) (by omega)
        obtain ⟨qa, qac, qb, qbc⟩ := go_down (W := W0) (X := X0) hW1 h8' hW0 (by have h := H0.out; omega) (by have h := H0.out; have h2 := HB.out; omega)
        have HN : Hid (Down B (.float .f64 W1) (.float .f64 (X0 + 4503599627370496)) ∧ dnTo (.float .f64 W1) < dnTo (.float .f64 W0)) := Lib.hid ⟨⟨_, k0 + 1, _, rfl, rfl, Lib.hid (by have h := H0.out; have h2 := HB.out; omega)⟩, by simp only [dnTo, fword]; omega⟩
        clear hW1
        generalize X0 + 4503599627370496 = X1 at *
        clear h8 h8' hW0 H0
        go_wp2
        go_roundw
        case rel => exact ⟨HN.out.1, _, rfl⟩
        case measure => exact HN.out.2
      | false =>
        have h8' := of_decide_eq_false h8
        have hc : (FloatKind.f64.format.order W0 4620693217682128896 == some .gt || FloatKind.f64.format.order W0 4620693217682128896 == some .eq) = false := by rw [od_ge_w hW0 (by omega), h8]
        have H8 : Hid (W0 < 4620693217682128896) := Lib.hid (by omega)
        clear h8 h8' hW0
        go_wp2
        clear hc
        go_loopw [4, 5] (fun b x wr => Up W0 X0 b x ∧ ∃ n, wr = w.drewN n) (fun b _ _ => upTo b)
        case atStart => exact ⟨⟨W0, 0, X0, rfl, rfl, Lib.hid ⟨by omega, by omega, .inl rfl⟩⟩, n0, rfl⟩
        case round =>
          obtain ⟨⟨W1, k1, X1, rfl, rfl, H1⟩, n1, rfl⟩ := hrel
          have hW1 : W1 < 9218868437227405312 := by have h := H1.out; have h2 := H8.out; omega
          cases h1 : decide (W1 < 4607182418800017408) with
          | true =>
            have h1' := of_decide_eq_true h1
            have hc : (FloatKind.f64.format.order W1 4607182418800017408 == some .lt) = true := by rw [od_lt_w hW1 (by omega), h1]
            obtain ⟨qa, qac, qb, qbc⟩ := go_up (W := W1) (X := X1) (by have h := H1.out; have h2 := H0.out; have h3 := HB.out; omega) h1' (by have h := H1.out; have h2 := H0.out; have h3 := HB.out; omega) (by have h := H1.out; have h2 := H0.out; have h3 := HB.out; omega)
            have HN : Hid (Up W0 X0 (.float .f64 (W1 + 3 * 4503599627370496)) (.float .f64 (X1 - 4503599627370496)) ∧ upTo (.float .f64 (W1 + 3 * 4503599627370496)) < upTo (.float .f64 W1)) := Lib.hid ⟨⟨_, k1 + 1, _, rfl, rfl, Lib.hid (by have h := H1.out; have h2 := H0.out; have h3 := HB.out; omega)⟩, by simp only [upTo, fword]; omega⟩
            generalize W1 + 3 * 4503599627370496 = W2 at *
            generalize X1 - 4503599627370496 = X2 at *
            clear h1 h1' hW1 H1
            go_wp2
            go_roundw
            case rel => exact ⟨HN.out.1, _, rfl⟩
            case measure => exact HN.out.2
          | false =>
            have h1' := of_decide_eq_false h1
            have hc : (FloatKind.f64.format.order W1 4607182418800017408 == some .lt) = false := by rw [od_lt_w hW1 (by omega), h1]
            have HE : Hid (W1 = cbrtB B ∧ X1 = cbrtX B ∧ canon .f64 W1 = some W1 ∧ canon .f64 X1 = some X1) := Lib.hid (by
              have h := cbrt_end H0.out H1.out H8.out (by omega)
              exact ⟨h.1, h.2.1, canon_word hW1, canon_word (by rw [h.2.1]; have := HB.out; unfold cbrtX cbrtQ; omega)⟩)
            clear h1 h1' hW1 H1 H0 H8
            go_wp2
            clear hc
            go_loopw [6, 7, 8] (fun r i _ wr => ∃ (k rr : Nat), k ≤ 6 ∧ i = .int .i64 k ∧ r = .float .f64 rr ∧ Hid (canon .f64 rr = newtons (some W1) k) ∧ ∃ n, wr = w.drewN n) (fun _ i _ _ => 6 - (intOf i).toNat)
            case atStart => exact ⟨0, _, by omega, rfl, rfl, Lib.hid (canon_word (by omega)), n1, rfl⟩
            case round =>
              obtain ⟨k, rr, hk, rfl, rfl, HR, n2, rfl⟩ := hrel
              by_cases hlt : k < 6
              · go_wp2
                go_roundw
                case rel => exact ⟨k + 1, _, by omega, by go_num, rfl, Lib.hid (by simp only [d_sub, d_div, d_mul]; rw [HR.out, HE.out.2.2.1]; rfl), _, rfl⟩
                case measure => simp [intOf]; omega
              · obtain rfl : k = 6 := by omega
                go_wp2
                go_ret2
                exact ⟨_, rfl, by
                  have hr1 : ∀ w', canon .f64 (fval .mul .f64 rr X1 w') = dmul (newtons (some (cbrtB B)) 6) (some (cbrtX B)) := by
                    intro w'
                    rw [d_mul, HR.out, HE.out.2.2.2, HE.out.1, HE.out.2.1]
                  rw [canon_neg, canon_cval (by decide) _ _ (cbrt_fits HB.out.1 HB.out.2 (hr1 _)).1, hr1, Hc.out]
                  rfl, (by repeat (first | assumption | exact Below.refl _ _ | refine bDrew ?_ _ | refine Below.alloc ?_ (by first | omega | (simp; done) | (simp; omega)) _ | refine Below.setCell ?_ (by first | omega | (simp; done) | (simp; omega)) _ | refine bRow ?_ (by first | omega | (simp; done) | (simp; omega)) _))⟩
theorem sCube_pos (a B : Nat) (w : World) (hz : (FloatKind.f32.format.order a 0 == some .eq) = false) (hn : (FloatKind.f32.format.order a 0 == some .lt) = false) (hcv : ∀ w, cval .f32 .f64 a w = B) (hcc : ccnt .f32 .f64 a = 0)
    (HB : Hid (874 * 4503599627370496 ≤ B ∧ B < 1151 * 4503599627370496)) (Hc : Hid (cbrt (canon .f32 a) = cbrtSize B)) (Hf : Hid (fin (canon .f32 a) = true)) :
    Calls Try.prog 19 #[.float .f32 a] w (RetFC w (cbrt (canon .f32 a)) 0) := by
    go_enter Try.func19, Try.ntmps19
    go_wp2_with fail
    refine (l01Finite_any _ _).mono ?_
    rintro e w1 ⟨rfl, n, rfl⟩
    rw [Hf.out]
    go_wp2
    clear hcv hcc
    go_loopw [4, 5] (fun b x wr => Down B b x ∧ ∃ n, wr = w.drewN n) (fun b _ _ => dnTo b)
    case atStart => exact ⟨⟨B, 0, _, rfl, rfl, Lib.hid ⟨by omega, by omega, .inl rfl⟩⟩, n, rfl⟩
    case round =>
      obtain ⟨⟨W0, k0, X0, rfl, rfl, H0⟩, n0, rfl⟩ := hrel
      have hW0 : W0 < 9218868437227405312 := by have h := H0.out; have h2 := HB.out; omega
      cases h8 : decide (4620693217682128896 ≤ W0) with
      | true =>
        have h8' := of_decide_eq_true h8
        have hc : (FloatKind.f64.format.order W0 4620693217682128896 == some .gt || FloatKind.f64.format.order W0 4620693217682128896 == some .eq) = true := by rw [od_ge_w hW0 (by omega), h8]
        obtain ⟨W1, hW1⟩ := sub_some (W := W0) (by omega)
        obtain ⟨qa, qac, qb, qbc⟩ := go_down (W := W0) (X := X0) hW1 h8' hW0 (by have h := H0.out; omega) (by have h := H0.out; have h2 := HB.out; omega)
        have HN : Hid (Down B (.float .f64 W1) (.float .f64 (X0 + 4503599627370496)) ∧ dnTo (.float .f64 W1) < dnTo (.float .f64 W0)) := Lib.hid ⟨⟨_, k0 + 1, _, rfl, rfl, Lib.hid (by have h := H0.out; have h2 := HB.out; omega)⟩, by simp only [dnTo, fword]; omega⟩
        clear hW1
        generalize X0 + 4503599627370496 = X1 at *
        clear h8 h8' hW0 H0
        go_wp2
        go_roundw
        case rel => exact ⟨HN.out.1, _, rfl⟩
        case measure => exact HN.out.2
      | false =>
        have h8' := of_decide_eq_false h8
        have hc : (FloatKind.f64.format.order W0 4620693217682128896 == some .gt || FloatKind.f64.format.order W0 4620693217682128896 == some .eq) = false := by rw [od_ge_w hW0 (by omega), h8]
        have H8 : Hid (W0 < 4620693217682128896) := Lib.hid (by omega)
        clear h8 h8' hW0
        go_wp2
        clear hc
        go_loopw [4, 5] (fun b x wr => Up W0 X0 b x ∧ ∃ n, wr = w.drewN n) (fun b _ _ => upTo b)
        case atStart => exact ⟨⟨W0, 0, X0, rfl, rfl, Lib.hid ⟨by omega, by omega, .inl rfl⟩⟩, n0, rfl⟩
        case round =>
          obtain ⟨⟨W1, k1, X1, rfl, rfl, H1⟩, n1, rfl⟩ := hrel
          have hW1 : W1 < 9218868437227405312 := by have h := H1.out; have h2 := H8.out; omega
          cases h1 : decide (W1 < 4607182418800017408) with
          | true =>
            have h1' := of_decide_eq_true h1
            have hc : (FloatKind.f64.format.order W1 4607182418800017408 == some .lt) = true := by rw [od_lt_w hW1 (by omega), h1]
            obtain ⟨qa, qac, qb, qbc⟩ := go_up (W := W1) (X := X1) (by have h := H1.out; have h2 := H0.out; have h3 := HB.out; omega) h1' (by have h := H1.out; have h2 := H0.out; have h3 := HB.out; omega) (by have h := H1.out; have h2 := H0.out; have h3 := HB.out; omega)
            have HN : Hid (Up W0 X0 (.float .f64 (W1 + 3 * 4503599627370496)) (.float .f64 (X1 - 4503599627370496)) ∧ upTo (.float .f64 (W1 + 3 * 4503599627370496)) < upTo (.float .f64 W1)) := Lib.hid ⟨⟨_, k1 + 1, _, rfl, rfl, Lib.hid (by have h := H1.out; have h2 := H0.out; have h3 := HB.out; omega)⟩, by simp only [upTo, fword]; omega⟩
            generalize W1 + 3 * 4503599627370496 = W2 at *
            generalize X1 - 4503599627370496 = X2 at *
            clear h1 h1' hW1 H1
            go_wp2
            go_roundw
            case rel => exact ⟨HN.out.1, _, rfl⟩
            case measure => exact HN.out.2
          | false =>
            have h1' := of_decide_eq_false h1
            have hc : (FloatKind.f64.format.order W1 4607182418800017408 == some .lt) = false := by rw [od_lt_w hW1 (by omega), h1]
            have HE : Hid (W1 = cbrtB B ∧ X1 = cbrtX B ∧ canon .f64 W1 = some W1 ∧ canon .f64 X1 = some X1) := Lib.hid (by
              have h := cbrt_end H0.out H1.out H8.out (by omega)
              exact ⟨h.1, h.2.1, canon_word hW1, canon_word (by rw [h.2.1]; have := HB.out; unfold cbrtX cbrtQ; omega)⟩)
            clear h1 h1' hW1 H1 H0 H8
            go_wp2
            clear hc
            go_loopw [6, 7, 8] (fun r i _ wr => ∃ (k rr : Nat), k ≤ 6 ∧ i = .int .i64 k ∧ r = .float .f64 rr ∧ Hid (canon .f64 rr = newtons (some W1) k) ∧ ∃ n, wr = w.drewN n) (fun _ i _ _ => 6 - (intOf i).toNat)
            case atStart => exact ⟨0, _, by omega, rfl, rfl, Lib.hid (canon_word (by omega)), n1, rfl⟩
            case round =>
              obtain ⟨k, rr, hk, rfl, rfl, HR, n2, rfl⟩ := hrel
              by_cases hlt : k < 6
              · go_wp2
                go_roundw
                case rel => exact ⟨k + 1, _, by omega, by go_num, rfl, Lib.hid (by simp only [d_sub, d_div, d_mul]; rw [HR.out, HE.out.2.2.1]; rfl), _, rfl⟩
                case measure => simp [intOf]; omega
              · obtain rfl : k = 6 := by omega
                go_wp2
                go_ret2
                exact ⟨_, rfl, by
                  have hr1 : ∀ w', canon .f64 (fval .mul .f64 rr X1 w') = dmul (newtons (some (cbrtB B)) 6) (some (cbrtX B)) := by
                    intro w'
                    rw [d_mul, HR.out, HE.out.2.2.2, HE.out.1, HE.out.2.1]
                  rw [canon_cval (by decide) _ _ (cbrt_fits HB.out.1 HB.out.2 (hr1 _)).1, hr1, Hc.out]
                  rfl, (by repeat (first | assumption | exact Below.refl _ _ | refine bDrew ?_ _ | refine Below.alloc ?_ (by first | omega | (simp; done) | (simp; omega)) _ | refine Below.setCell ?_ (by first | omega | (simp; done) | (simp; omega)) _ | refine bRow ?_ (by first | omega | (simp; done) | (simp; omega)) _))⟩
theorem sCubeRoot_any (a : Nat) (w : World) : Calls Try.prog 19 #[.float .f32 a] w (RetFC w (cubeRes (canon .f32 a)).1 (cubeRes (canon .f32 a)).2) := by
  cases hf : fin (canon .f32 a) with
  | false =>
    have Hf := Lib.hid hf
    have Hm : Hid (cubeRes (canon .f32 a) = (canon .f32 0, 2)) := Lib.hid (by unfold cubeRes; rw [hf]; rfl)
    clear hf
    go_enter Try.func19, Try.ntmps19
    go_wp2_with fail
    refine (l01Finite_any _ _).mono ?_
    rintro e w1 ⟨rfl, n, rfl⟩
    rw [Hf.out]
    go_wp2
    go_ret2
    exact RetFC.as Hm.out ⟨_, rfl, rfl, (by repeat (first | assumption | exact Below.refl _ _ | refine bDrew ?_ _ | refine Below.alloc ?_ (by first | omega | (simp; done) | (simp; omega)) _ | refine Below.setCell ?_ (by first | omega | (simp; done) | (simp; omega)) _ | refine bRow ?_ (by first | omega | (simp; done) | (simp; omega)) _))⟩
  | true =>
    have Hm : cubeRes (canon .f32 a) = (cbrt (canon .f32 a), 0) := by unfold cubeRes; rw [hf]; rfl
    have hca := fin_canon hf
    cases hz : (FloatKind.f32.format.order a 0 == some .eq) with
    | true =>
      have Hz : Hid (cbrt (canon .f32 a) = canon .f32 0) := Lib.hid (by
        have h : feq (some a) (canon .f32 0) = true := by rw [← hca, ← o_eq]; exact hz
        rw [hca]
        unfold cbrt
        simp only [h, if_true])
      have Hf := Lib.hid hf
      have HM := Lib.hid Hm
      clear hf hca Hm
      go_enter Try.func19, Try.ntmps19
      go_wp2_with fail
      refine (l01Finite_any _ _).mono ?_
      rintro e w1 ⟨rfl, n, rfl⟩
      rw [Hf.out]
      go_wp2
      go_ret2
      exact RetFC.as HM.out ⟨_, rfl, Hz.out.symm, (by repeat (first | assumption | exact Below.refl _ _ | refine bDrew ?_ _ | refine Below.alloc ?_ (by first | omega | (simp; done) | (simp; omega)) _ | refine Below.setCell ?_ (by first | omega | (simp; done) | (simp; omega)) _ | refine bRow ?_ (by first | omega | (simp; done) | (simp; omega)) _))⟩
    | false =>
      have hz' : feq (some a) (canon .f32 0) = false := by rw [← hca, ← o_eq]; exact hz
      obtain ⟨W, hw, hlt, hs, hlo, hhi⟩ := wide_word (hca ▸ hf) hz'
      have hcv := cval_of (s := .f32) (d := .f64) (b := a) (r := W) hw
      have hB : wideAbs a = W % 9223372036854775808 := by unfold wideAbs; rw [hw]
      have hc : cbrt (canon .f32 a) = if (FloatKind.f32.format.order a 0 == some .lt) then cneg .f32 (cbrtSize (W % 9223372036854775808)) else cbrtSize (W % 9223372036854775808) := by
        rw [o_lt, hca]
        unfold cbrt
        rw [← hB]
        simp only [hz', Bool.false_eq_true, if_false]
      have hs' : (FloatKind.f32.format.order a 0 == some .lt) = decide (9223372036854775808 ≤ W) := by rw [o_lt, hca]; exact hs
      cases hn : (FloatKind.f32.format.order a 0 == some .lt) with
      | true =>
        rw [hn] at hc hs'
        have h1 := of_decide_eq_true hs'.symm
        exact (sCube_neg a W _ w hz hn hcv.1 hcv.2 (neg_top h1 hlt) (Lib.hid ⟨hlo, hhi⟩) (Lib.hid hc) (Lib.hid hf)).mono fun e w' h => RetFC.as Hm h
      | false =>
        rw [hn] at hc hs'
        have h1 := of_decide_eq_false hs'.symm
        have h2 : W % 9223372036854775808 = W := Nat.mod_eq_of_lt (by omega)
        rw [h2] at hc hlo hhi
        exact (sCube_pos a W w hz hn hcv.1 hcv.2 (Lib.hid ⟨hlo, hhi⟩) (Lib.hid hc) (Lib.hid hf)).mono fun e w' h => RetFC.as Hm h
end Go.Proofs.Ytghmonkoleegjaa
