/- Contracts: third roots, the walks. -/
import Derived.Test.YtmikeegecifbfaaDA
namespace Go.Proofs.Ytmikeegecifbfaa
open Go.RowKit
set_option maxRecDepth 100000

theorem fval_of {op : BinOp} {k : FloatKind} {x y r : Nat} (h : floatBits op k x y = some r) : (∀ w, fval op k x y w = r) ∧ fcnt op k x y = 0 := by
  unfold fval fcnt
  rw [h]
  exact ⟨fun _ => rfl, rfl⟩
theorem cval_of {s d : FloatKind} {b r : Nat} (h : floatToFloatBits s b d = some r) : (∀ w, cval s d b w = r) ∧ ccnt s d b = 0 := by
  unfold cval ccnt
  rw [h]
  exact ⟨fun _ => rfl, rfl⟩
theorem canon_word {W : Nat} (h : W < 9218868437227405312) : canon .f64 W = some W := by
  apply canon_some
  rw [nanW64]
  simp
  omega
theorem fin_canon {a : Nat} (h : fin (canon .f32 a) = true) : canon .f32 a = some a := by
  cases hc : canon .f32 a with
  | none => rw [hc] at h; cases h
  | some b => obtain ⟨rfl, _⟩ := canon_eq_some hc; rfl
theorem od_ge_w {a b : Nat} (ha : a < 9218868437227405312) (hb : b < 9218868437227405312) : (FloatKind.f64.format.order a b == some .gt || FloatKind.f64.format.order a b == some .eq) = decide (b ≤ a) := by
  rw [od_ge, canon_word ha, canon_word hb]
  exact (lt_words (by rw [e64.2.1]; exact ha) (by rw [e64.2.1]; exact hb)).2
theorem od_lt_w {a b : Nat} (ha : a < 9218868437227405312) (hb : b < 9218868437227405312) : (FloatKind.f64.format.order a b == some .lt) = decide (a < b) := by
  rw [od_lt, canon_word ha, canon_word hb]
  exact (lt_words (by rw [e64.2.1]; exact ha) (by rw [e64.2.1]; exact hb)).1
section
variable {P : Program} (w : World)
@[go_sem] theorem run_fneg (k : FloatKind) (b : Nat) : (Op.unary UnOp.neg (.float k b)).run P w = .ok (.float k (Op.negFloat k b)) w := rfl
end
def RetDq (w : World) (v : Option Nat) (e : Ending) (w' : World) : Prop := ∃ r, e = .returned (.float .f64 r) ∧ canon .f64 r = v ∧ Drawn w w'
def fword : Value → Nat
  | .float _ b => b
  | _ => 0
/-- How far a number is from the greatest one. -/
def dnTo (v : Value) : Nat := fword v
def upTo (v : Value) : Nat := 9218868437227405312 - fword v
/-- After some rounds that take 8 off. -/
def Down (B : Nat) (b x : Value) : Prop := ∃ W k X, b = .float .f64 W ∧ x = .float .f64 X ∧ Hid (W + 3 * k * 4503599627370496 = B ∧ X = 4607182418800017408 + k * 4503599627370496 ∧ (k = 0 ∨ 4607182418800017408 ≤ W))
/-- After some rounds that put 8 on. -/
def Up (B X0 : Nat) (b x : Value) : Prop := ∃ W k X, b = .float .f64 W ∧ x = .float .f64 X ∧ Hid (W = B + 3 * k * 4503599627370496 ∧ X + k * 4503599627370496 = X0 ∧ (k = 0 ∨ W < 4620693217682128896))
/-- One round of either loop, as facts for the walk. -/
structure Go8 (op1 op2 : BinOp) (W X W2 X2 : Nat) : Prop where
  a : ∀ w, fval op1 .f64 W 4620693217682128896 w = W2
  ac : fcnt op1 .f64 W 4620693217682128896 = 0
  b : ∀ w, fval op2 .f64 X 4611686018427387904 w = X2
  bc : fcnt op2 .f64 X 4611686018427387904 = 0
theorem go_down {W X V : Nat} (h0 : V + 13510798882111488 = W) (h1 : 4620693217682128896 ≤ W) (h2 : W < 9218868437227405312) (h3 : 4503599627370496 ≤ X) (h4 : X + 4503599627370496 < 9218868437227405312) : Go8 .quo .mul W X V (X + 4503599627370496) := by
  have h5 := scale_down (a := W) (by omega) h2
  have h6 : W - 3 * 4503599627370496 = V := by omega
  rw [h6] at h5
  obtain ⟨a, b⟩ := fval_of (op := .quo) h5
  obtain ⟨c, d⟩ := fval_of (op := .mul) (twice (a := X) h3 h4)
  exact ⟨a, b, c, d⟩
theorem sub_some {W : Nat} (h : 13510798882111488 ≤ W) : ∃ V, V + 13510798882111488 = W := ⟨W - 13510798882111488, by omega⟩
theorem go_up {W X : Nat} (h1 : 4503599627370496 ≤ W) (h2 : W < 4607182418800017408) (h3 : 2 * 4503599627370496 ≤ X) (h4 : X < 9218868437227405312) : Go8 .mul .quo W X (W + 3 * 4503599627370496) (X - 4503599627370496) := by
  obtain ⟨a, b⟩ := fval_of (op := .mul) (scale_up (a := W) h1 (by omega))
  obtain ⟨c, d⟩ := fval_of (op := .quo) (halved (a := X) h3 h4)
  exact ⟨a, b, c, d⟩
theorem cbrt_end {B W X k X0 W0 k0 : Nat} (h0 : W0 + 3 * k0 * 4503599627370496 = B ∧ X0 = 4607182418800017408 + k0 * 4503599627370496 ∧ (k0 = 0 ∨ 4607182418800017408 ≤ W0)) (h1 : W = W0 + 3 * k * 4503599627370496 ∧ X + k * 4503599627370496 = X0 ∧ (k = 0 ∨ W < 4620693217682128896))
    (h2 : W0 < 4620693217682128896) (h3 : 4607182418800017408 ≤ W) : W = cbrtB B ∧ X = cbrtX B ∧ W < 4620693217682128896 := by
  unfold cbrtB cbrtX cbrtQ
  omega
/-- The narrowed root is no number that does not fit. -/
theorem cbrt_fits {B r : Nat} (hlo : 874 * 4503599627370496 ≤ B) (hhi : B < 1151 * 4503599627370496) (hr : canon .f64 r = dmul (newtons (some (cbrtB B)) 6) (some (cbrtX B))) : Fits .f64 .f32 r ∧ canon .f64 r = some r := by
  obtain ⟨c1, c2, c3, c4, c5⟩ := e64
  have hb : 4607182418800017408 ≤ cbrtB B ∧ cbrtB B < 4620693217682128896 := by unfold cbrtB cbrtQ; omega
  have hx : cbrtX B ≤ 4607182418800017408 + 42 * 4503599627370496 := by unfold cbrtX cbrtQ; omega
  have i1 := is_rung (k := .f64) (r := cbrtB B) (by show _ < Ieee.double.infRung; omega)
  have v1 : 1 ≤ rungV Ieee.double (cbrtB B) := by rw [← val64.1]; exact rungV_le _ hb.1
  have v2 : rungV Ieee.double (cbrtB B) ≤ 8 := by rw [← val64.2.2]; exact rungV_le _ (by omega)
  obtain ⟨v, i2, h1, h2⟩ := newtons_is i1 v1 v2 6
  have i3 := is_rung (k := .f64) (r := cbrtX B) (by show _ < Ieee.double.infRung; omega)
  have hX0 := rungV_nonneg Ieee.double (cbrtX B)
  have hX1 := rungV_le Ieee.double hx
  have h42 := rungV_shift Ieee.double 4607182418800017408 42 (by omega)
  rw [c1, val64.1] at h42
  have e42 : p2 ((42 : Nat) : Int) = 4398046511104 := by decide +kernel
  rw [e42] at h42
  have hX2 : rungV Ieee.double (cbrtX B) ≤ 4398046511104 := by grind
  have hv : v * rungV Ieee.double (cbrtX B) ≤ 17592186044416 := by
    have := Rat.mul_nonneg (show 0 ≤ 4 - v by grind) hX0
    grind
  have hv0 : 0 ≤ v * rungV Ieee.double (cbrtX B) := Rat.mul_nonneg (by grind) hX0
  have e44 : p2 44 = 17592186044416 := by decide +kernel
  have hm44 := p2_mono (show (44 : Int) ≤ 1000 by decide)
  obtain ⟨u, i4, n4⟩ := is_mul i2 i3 (fit64k 44 (by decide) (by rw [e44]; exact hv) (by rw [e44]; have : 0 ≤ v * rungV FloatKind.f64.format (cbrtX B) := hv0; grind))
  have e100 : p2 100 = 1267650600228229401496703205376 := by decide +kernel
  have hu1 : u ≤ p2 100 := n4.up _ (rep64_p2 100 (by decide) (by decide)) (by rw [e100]; have : v * rungV FloatKind.f64.format (cbrtX B) ≤ 17592186044416 := hv; grind)
  have hu0 : 0 ≤ u := n4.dn _ ⟨0, by rw [show FloatKind.f64.format = Ieee.double from rfl]; omega, .inl (rungV_zero _).symm⟩ hv0
  have h127 := p2_mono (show (100 : Int) ≤ 127 by decide)
  have i5 : Is .f64 (canon .f64 r) u := by rw [hr]; exact i4
  have hc : canon .f64 r = some r := by
    cases hq : canon .f64 r with
    | none => rw [hq] at i5; obtain ⟨_, _, _, _, h, _⟩ := i5; cases h
    | some y => obtain ⟨rfl, _⟩ := canon_eq_some hq; rfl
  rw [hc] at i5
  exact ⟨i5.fits (fit32 (by grind) (by have := p2_pos 127; grind)), hc⟩

theorem fits_neg {s d : FloatKind} {b : Nat} (h : Fits s d b) : Fits s d (Op.negFloat s b) := by
  intro hn
  rw [decode_neg, opposite_isNaN] at hn
  have h1 := h hn
  by_cases hne : s = d
  · subst hne; simp [floatToFloat_same]
  · obtain ⟨r, hr⟩ := Option.isSome_iff_exists.1 h1
    have h2 := ccv_neg hne (b := b)
    have h3 : ccv s d (some b) = some r := hr
    rw [h3] at h2
    exact Option.isSome_iff_exists.2 ⟨_, h2⟩

theorem wide_any (x y : Nat) (w : World) : Calls Try.prog 75 #[.float .f64 x, .float .f64 y] w (RetDq w (dmul (canon .f64 x) (canon .f64 y))) := by
  go_enter Try.func75, Try.ntmps75
  go_wp2
  go_ret
  exact ⟨_, rfl, d_mul .., _, rfl⟩
theorem cubeRoot_any (a : Nat) (w : World) (hf : fin (canon .f32 a) = true) : Calls Try.prog 49 #[.float .f32 a] w (RetFq w (cbrt (canon .f32 a))) := by
  have hca := fin_canon hf
  rw [hca] at hf ⊢
  cases hz : (FloatKind.f32.format.order a 0 == some .eq) with
  | true =>
    have Hz : Hid (cbrt (some a) = canon .f32 0) := Lib.hid (by
      have h : feq (some a) (canon .f32 0) = true := by rw [← hca, ← o_eq]; exact hz
      unfold cbrt
      simp only [h, if_true])
    clear hf hca
    go_enter Try.func49, Try.ntmps49
    go_wp2
    go_ret
    exact ⟨_, rfl, Hz.out.symm, 0, rfl⟩
  | false =>
    have hz' : feq (some a) (canon .f32 0) = false := by rw [← hca, ← o_eq]; exact hz
    obtain ⟨W, hw, hlt, hs, hlo, hhi⟩ := wide_word hf hz'
    have hcv := (cval_of (s := .f32) (d := .f64) (b := a) (r := W) hw).1
    have hcc := (cval_of (s := .f32) (d := .f64) (b := a) (r := W) hw).2
    have hB : wideAbs a = W % 9223372036854775808 := by unfold wideAbs; rw [hw]
    have HB := Lib.hid (And.intro hlo hhi)
    have Hc : Hid (cbrt (some a) = if (FloatKind.f32.format.order a 0 == some .lt) then cneg .f32 (cbrtSize (W % 9223372036854775808)) else cbrtSize (W % 9223372036854775808)) := Lib.hid (by
      unfold cbrt
      rw [← hB, o_lt, hca]
      simp only [hz', Bool.false_eq_true, if_false])
    clear hw hlt hs hlo hhi hB hf hca hz'
    go_enter Try.func49, Try.ntmps49
    go_wp2_with fail
    refine (abs64_any _ _).mono ?_
    rintro e w1 ⟨rfl, n, rfl⟩
    clear hcv hcc
    generalize W % 9223372036854775808 = B at *
    go_wp2
    go_loopw [3, 4] (fun b x wr => Down B b x ∧ ∃ n, wr = w.drewN n) (fun b _ _ => dnTo b)
    case atStart => exact ⟨⟨B, 0, _, rfl, rfl, Lib.hid ⟨by omega, by omega, .inl rfl⟩⟩, n, rfl⟩
    case round =>
      obtain ⟨⟨W0, k0, X0, rfl, rfl, H0⟩, n0, rfl⟩ := hrel
      have hW0 : W0 < 9218868437227405312 := by have h := H0.out; have h2 := HB.out; omega
      cases h8 : decide (4620693217682128896 ≤ W0) with
      | true =>
        have h8' := of_decide_eq_true h8
        have hc : (FloatKind.f64.format.order W0 4620693217682128896 == some .gt || FloatKind.f64.format.order W0 4620693217682128896 == some .eq) = true := by rw [od_ge_w hW0 (by omega), h8]
        obtain ⟨W1, hW1⟩ := sub_some (W := W0) (by omega)
        obtain ⟨qa, qac, qb, qbc⟩ := go_down (W := W0) (X := X0) hW1 h8' hW0 (by have h := H0.out; omega) (by have h := H0.out; have h2 := HB.out; omega)
        have HN : Hid (Down B (.float .f64 W1) (.float .f64 (X0 + 4503599627370496)) ∧ dnTo (.float .f64 W1) < dnTo (.float .f64 W0)) := Lib.hid ⟨⟨_, k0 + 1, _, rfl, rfl, Lib.hid (by have h := H0.out; have h2 := HB.out; omega)⟩, by simp only [dnTo, fword]; omega⟩
        clear hW1
        generalize X0 + 4503599627370496 = X1 at *
        clear h8 h8' hW0 H0
        go_wp2
        go_roundw
        case rel => exact ⟨HN.out.1, _, rfl⟩
        case measure => exact HN.out.2
      | false =>
        have h8' := of_decide_eq_false h8
        have hc : (FloatKind.f64.format.order W0 4620693217682128896 == some .gt || FloatKind.f64.format.order W0 4620693217682128896 == some .eq) = false := by rw [od_ge_w hW0 (by omega), h8]
        have H8 : Hid (W0 < 4620693217682128896) := Lib.hid (by omega)
        clear h8 h8' hW0
        go_wp2
        clear hc
        go_loopw [3, 4] (fun b x wr => Up W0 X0 b x ∧ ∃ n, wr = w.drewN n) (fun b _ _ => upTo b)
        case atStart => exact ⟨⟨W0, 0, X0, rfl, rfl, Lib.hid ⟨by omega, by omega, .inl rfl⟩⟩, n0, rfl⟩
        case round =>
          obtain ⟨⟨W1, k1, X1, rfl, rfl, H1⟩, n1, rfl⟩ := hrel
          have hW1 : W1 < 9218868437227405312 := by have h := H1.out; have h2 := H8.out; omega
          cases h1 : decide (W1 < 4607182418800017408) with
          | true =>
            have h1' := of_decide_eq_true h1
            have hc : (FloatKind.f64.format.order W1 4607182418800017408 == some .lt) = true := by rw [od_lt_w hW1 (by omega), h1]
            obtain ⟨qa, qac, qb, qbc⟩ := go_up (W := W1) (X := X1) (by have h := H1.out; have h2 := H0.out; have h3 := HB.out; omega) h1' (by have h := H1.out; have h2 := H0.out; have h3 := HB.out; omega) (by have h := H1.out; have h2 := H0.out; have h3 := HB.out; omega)
            have HN : Hid (Up W0 X0 (.float .f64 (W1 + 3 * 4503599627370496)) (.float .f64 (X1 - 4503599627370496)) ∧ upTo (.float .f64 (W1 + 3 * 4503599627370496)) < upTo (.float .f64 W1)) := Lib.hid ⟨⟨_, k1 + 1, _, rfl, rfl, Lib.hid (by have h := H1.out; have h2 := H0.out; have h3 := HB.out; omega)⟩, by simp only [upTo, fword]; omega⟩
            generalize W1 + 3 * 4503599627370496 = W2 at *
            generalize X1 - 4503599627370496 = X2 at *
            clear h1 h1' hW1 H1
            go_wp2
            go_roundw
            case rel => exact ⟨HN.out.1, _, rfl⟩
            case measure => exact HN.out.2
          | false =>
            have h1' := of_decide_eq_false h1
            have hc : (FloatKind.f64.format.order W1 4607182418800017408 == some .lt) = false := by rw [od_lt_w hW1 (by omega), h1]
            have HE : Hid (W1 = cbrtB B ∧ X1 = cbrtX B ∧ canon .f64 W1 = some W1 ∧ canon .f64 X1 = some X1) := Lib.hid (by
              have h := cbrt_end H0.out H1.out H8.out (by omega)
              exact ⟨h.1, h.2.1, canon_word hW1, canon_word (by rw [h.2.1]; have := HB.out; unfold cbrtX cbrtQ; omega)⟩)
            clear h1 h1' hW1 H1 H0 H8
            go_wp2
            clear hc
            go_loopw [5, 23] (fun r i wr => ∃ (k rr : Nat), k ≤ 6 ∧ i = .int .i64 k ∧ r = .float .f64 rr ∧ Hid (canon .f64 rr = newtons (some W1) k) ∧ ∃ n, wr = w.drewN n) (fun _ i _ => 6 - (intOf i).toNat)
            case atStart => exact ⟨0, _, by omega, rfl, rfl, Lib.hid (canon_word (by omega)), n1, rfl⟩
            case round =>
              obtain ⟨k, rr, hk, rfl, rfl, HR, n2, rfl⟩ := hrel
              by_cases hlt : k < 6
              · go_wp2_with fail
                refine (wide_any _ _ _).mono ?_
                rintro e w1 ⟨r1, rfl, hr1, m1, rfl⟩
                have R1 := Lib.hid hr1
                clear hr1
                go_wp2_with fail
                refine (wide_any _ _ _).mono ?_
                rintro e w1 ⟨r2, rfl, hr2, m2, rfl⟩
                have R2 := Lib.hid hr2
                clear hr2
                go_wp2_with fail
                refine (wide_any _ _ _).mono ?_
                rintro e w1 ⟨r3, rfl, hr3, m3, rfl⟩
                have R3 := Lib.hid hr3
                clear hr3
                go_wp2_with fail
                refine (wide_any _ _ _).mono ?_
                rintro e w1 ⟨r4, rfl, hr4, m4, rfl⟩
                have R4 := Lib.hid hr4
                clear hr4
                go_wp2
                go_roundw
                case rel => exact ⟨k + 1, _, by omega, by go_num, rfl, Lib.hid (by rw [d_sub, d_div, d_sub, R2.out, R1.out, R4.out, R3.out, HR.out, HE.out.2.2.1]; rfl), _, rfl⟩
                case measure => simp [intOf]; omega
              · obtain rfl : k = 6 := by omega
                cases hn : (FloatKind.f32.format.order a 0 == some .lt) with
                | true =>
                  have HC : Hid (cbrt (some a) = cneg .f32 (cbrtSize B)) := Lib.hid (by rw [Hc.out, hn]; rfl)
                  clear Hc
                  go_wp2_with fail
                  refine (wide_any _ _ _).mono ?_
                  rintro e w1 ⟨r1, rfl, hr1, m1, rfl⟩
                  have R1 := Lib.hid hr1
                  clear hr1
                  go_wp2
                  go_ret
                  exact ⟨_, rfl, by
                    have hr1 := R1.out
                    rw [HR.out, HE.out.2.2.2, HE.out.1, HE.out.2.1] at hr1
                    obtain ⟨h1, h2⟩ := cbrt_fits HB.out.1 HB.out.2 hr1
                    have h3 : canon .f64 (Op.negFloat .f64 r1) = some (Op.negFloat .f64 r1) := by rw [canon_neg, h2]; rfl
                    rw [canon_cval (by decide) _ _ (fits_neg h1), h3, ccv_neg (by decide), HC.out]
                    unfold cbrtSize
                    rw [← hr1, h2], _, rfl⟩
                | false =>
                  have HC : Hid (cbrt (some a) = cbrtSize B) := Lib.hid (by rw [Hc.out, hn]; rfl)
                  clear Hc
                  go_wp2_with fail
                  refine (wide_any _ _ _).mono ?_
                  rintro e w1 ⟨r1, rfl, hr1, m1, rfl⟩
                  have R1 := Lib.hid hr1
                  clear hr1
                  go_wp2
                  go_ret
                  exact ⟨_, rfl, by
                    have hr1 := R1.out
                    rw [HR.out, HE.out.2.2.2, HE.out.1, HE.out.2.1] at hr1
                    obtain ⟨h1, h2⟩ := cbrt_fits HB.out.1 HB.out.2 hr1
                    rw [canon_cval (by decide) _ _ h1, HC.out]
                    unfold cbrtSize
                    rw [hr1], _, rfl⟩
end Go.Proofs.Ytmikeegecifbfaa
