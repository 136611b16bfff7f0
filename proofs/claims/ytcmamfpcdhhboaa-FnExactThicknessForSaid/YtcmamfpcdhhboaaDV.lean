/- Contracts: the thickness for a contrast, the second one. -/
import Derived.Test.YtcmamfpcdhhboaaDU
namespace Go.Proofs.Ytcmamfpcdhhboaa
open Go.RowKit
set_option maxRecDepth 100000

theorem layerOk_zero (k s : Nat → Nat) : layerOk (layer3 k s 0) = ((allTo 16 fun i => amount (canon .f32 (k i))) && (allTo 16 fun i => amount (canon .f32 (s i)))) := by
  unfold layerOk
  have e1 : (allTo 16 fun i => amount (canon .f32 (rowAt (layer3 k s 0) 0 i))) = allTo 16 fun i => amount (canon .f32 (k i)) := allTo_congr fun i hi => by
    unfold rowAt layer3
    rw [Nat.zero_add, if_pos hi]
  have e2 : (allTo 16 fun i => amount (canon .f32 (rowAt (layer3 k s 0) 16 i))) = allTo 16 fun i => amount (canon .f32 (s i)) := allTo_congr fun i hi => by
    unfold rowAt layer3
    rw [if_neg (by omega), if_pos (by omega), Nat.add_sub_cancel_left]
  have e3 : amount (canon .f32 (layer3 k s 0 32)) = true := by show amount (canon .f32 0) = true; decide
  rw [e1, e2, e3, Bool.and_true]
/-- A layer of a thickness, known up to a NaN: its contrast. -/
theorem con_of {k s a : Nat → Nat} {n : Nat} (hn : n < 257) (hk : (allTo 16 fun i => amount (canon .f32 (k i))) = true) (hs : (allTo 16 fun i => amount (canon .f32 (s i))) = true)
    (h : ∀ i, i < 33 → canon .f32 (a i) = layP (fun i => canon .f32 (k i)) (fun i => canon .f32 (s i)) (eighth n) i) : conMade (filmOfRes a) = conAt (fun i => canon .f32 (k i)) (fun i => canon .f32 (s i)) n := by
  have hl : layerOk a = true := by
    unfold layerOk
    have e1 : (allTo 16 fun i => amount (canon .f32 (rowAt a 0 i))) = true := by
      rw [← hk]
      exact allTo_congr fun i hi => by unfold rowAt; rw [Nat.zero_add, h i (by omega)]; unfold layP; rw [if_pos hi]
    have e2 : (allTo 16 fun i => amount (canon .f32 (rowAt a 16 i))) = true := by
      rw [← hs]
      exact allTo_congr fun i hi => by unfold rowAt; rw [h (16 + i) (by omega)]; unfold layP; rw [if_neg (by omega), if_pos (by omega), Nat.add_sub_cancel_left]
    have e3 : amount (canon .f32 (a 32)) = true := by rw [h 32 (by omega)]; exact eighth_amount n hn
    rw [e1, e2, e3]
    rfl
  have e : filmOfRes a = filmMade (fun i => canon .f32 (a i)) := by unfold filmOfRes; rw [if_pos hl]
  rw [e]
  exact conMade_congr h
set_option maxHeartbeats 800000 in
theorem iThicknessFor_any (k s : Nat → Nat) (c : Nat) (w : World) : Calls Try.prog 35 #[.agg (fA 16 k), .agg (fA 16 s), .float .f32 c] w (RetFC w (thickForRes (fun i => canon .f32 (k i)) (fun i => canon .f32 (s i)) (canon .f32 c)).1 (thickForRes (fun i => canon .f32 (k i)) (fun i => canon .f32 (s i)) (canon .f32 c)).2) := by
  have hK : Blk ((w.alloc (.cells (fA 16 k) 26)).alloc (.cells (fA 16 s) 26)) w.heap.size 26 (fA 16 k) := (Blk.new _ _ _).alloc _
  have hS : Blk ((w.alloc (.cells (fA 16 k) 26)).alloc (.cells (fA 16 s) 26)) (w.heap.size + 1) 26 (fA 16 s) := Blk.new_at _ _ (by simp) rfl
  have hb : Below w.heap.size w ((w.alloc (.cells (fA 16 k) 26)).alloc (.cells (fA 16 s) 26)) := (by repeat (first | assumption | exact Below.refl _ _ | refine bDrew ?_ _ | refine Below.alloc ?_ (by first | omega | (simp; done) | (simp; omega)) _ | refine Below.setCell ?_ (by first | omega | (simp; done) | (simp; omega)) _ | refine bRow ?_ (by first | omega | (simp; done) | (simp; omega)) _))
  go_enter Try.func35, Try.ntmps35
  go_wp2_with (first | (refine wpList_load_row rfl 26 _ rfl _ rfl _ _ (0, 0) _ hK Try.underlying26 rfl (by kernel_rfl) ?_) | (refine wpList_load_row rfl 26 _ rfl _ rfl _ _ (0, 0) _ hS Try.underlying26 rfl (by kernel_rfl) ?_))
  refine (iLayerOf_any k s 0 _).mono ?_
  rintro e w1 ⟨r, rfl, hr, hb1⟩
  have hb := bCall hb hb1 hb.size; clear hb1
  clear hK hS
  have hX : Blk (w1.alloc (.cells (fA 33 r) 47)) w1.heap.size 47 (fA 33 r) := Blk.new _ _ _
  have hg := hb.size
  have hb : Below w.heap.size w (w1.alloc (.cells (fA 33 r) 47)) := Below.alloc hb hb.size _
  cases h0 : ((allTo 16 fun i => amount (canon .f32 (k i))) && (allTo 16 fun i => amount (canon .f32 (s i)))) with
  | false =>
    have Hm : Hid (thickForRes (fun i => canon .f32 (k i)) (fun i => canon .f32 (s i)) (canon .f32 c) = (fzero, 1)) := Lib.hid (by unfold thickForRes; rw [h0]; rfl)
    have e2 : (layerRes k s 0).2 = 1 := by unfold layerRes; rw [layerOk_zero, h0]; rfl
    rw [e2]
    clear e2 h0 hr
    go_wp2_with (refine wpList_store_new rfl 47 _ _ rfl _ rfl rfl (by kernel_rfl) rfl (all_fA _ _) ?_)
    go_ret2
    rw [Hm.out]
    exact ⟨_, rfl, rfl, hb⟩
  | true =>
    have H0 := Lib.hid h0
    have e1 : layerRes k s 0 = (fun i => canon .f32 (layer3 k s 0 i), 0) := by unfold layerRes; rw [layerOk_zero, h0]; rfl
    rw [e1] at hr ⊢
    have Hr := Lib.hid hr
    clear e1 h0 hr
    go_wp2_with (refine wpList_store_new rfl 47 _ _ rfl _ rfl rfl (by kernel_rfl) rfl (all_fA _ _) ?_)
    refine (isShare_any _ _).mono ?_
    rintro e w2 ⟨rfl, nq, rfl⟩
    have hX := Blk.drewN hX nq
    have hb := bDrew hb nq
    cases hc : share (canon .f32 c) with
    | false =>
      have Hm : Hid (thickForRes (fun i => canon .f32 (k i)) (fun i => canon .f32 (s i)) (canon .f32 c) = (fzero, 2)) := Lib.hid (by unfold thickForRes; rw [H0.out, hc]; rfl)
      clear hc
      go_wp2
      go_ret2
      rw [Hm.out]
      exact ⟨_, rfl, rfl, hb⟩
    | true =>
      have Hm : Hid (thickForRes (fun i => canon .f32 (k i)) (fun i => canon .f32 (s i)) (canon .f32 c) = thickFrom (fun i => canon .f32 (k i)) (fun i => canon .f32 (s i)) (canon .f32 c) 256 1) := Lib.hid (by unfold thickForRes; rw [H0.out, hc]; rfl)
      clear hc
      have Hc : Hid (∀ i, i < 32 → canon .f32 (r i) = layP (fun i => canon .f32 (k i)) (fun i => canon .f32 (s i)) none i) := Lib.hid (fun i hi => by
        rw [Hr.out i (by omega)]
        unfold layer3 layP
        by_cases h1 : i < 16
        · simp only [h1, if_true]
        · simp only [h1, hi, if_true, if_false])
      go_wp2
      go_loopw [10, 11, 12, 40, 43, 47] (fun i _ _ _ _ _ wr => ∃ (f n : Nat) (cur : Nat → Nat), f + n = 257 ∧ i = .int .i64 n ∧ Below w.heap.size w wr ∧ Blk wr w1.heap.size 47 (fA 33 cur) ∧ Hid (∀ i, i < 32 → canon .f32 (cur i) = layP (fun i => canon .f32 (k i)) (fun i => canon .f32 (s i)) none i) ∧ Hid (thickForRes (fun i => canon .f32 (k i)) (fun i => canon .f32 (s i)) (canon .f32 c) = thickFrom (fun i => canon .f32 (k i)) (fun i => canon .f32 (s i)) (canon .f32 c) f n)) (fun i _ _ _ _ _ _ => 257 - (intOf i).toNat)
      case atStart => exact ⟨256, 1, r, by omega, rfl, hb, hX, Hc, Hm⟩
      case round =>
        clear hb hX Hm Hc
        obtain ⟨f, n, cur, hfn, rfl, hb, hX, Hc, Hm⟩ := hrel
        cases f with
        | zero =>
          obtain rfl : n = 257 := by omega
          go_wp2
          go_ret2
          rw [Hm.out]
          exact ⟨_, rfl, rfl, hb⟩
        | succ f =>
          have hlt : n ≤ 256 := by omega
          have c1 := (hX.cell 32).trans (get_fA_lt cur (by omega))
          have f1 := hX.frozen 32
          have hX2 := Blk.setF (Blk.drewN hX (fcnt .quo .f32 (floatOfInt .f32 n) 1090519040)) 32 (fval .quo .f32 (floatOfInt .f32 n) 1090519040 wr)
          go_wp2_with (refine wpList_load_row rfl 47 _ rfl _ rfl _ _ (0, 0) _ hX2 Try.underlying47 rfl (by kernel_rfl) ?_)
          refine (iContrastOf_any _ _).mono ?_
          obtain ⟨x, hx⟩ : ∃ x, x = fval .quo .f32 (floatOfInt .f32 n) 1090519040 wr := ⟨_, rfl⟩
          rw [← hx] at hX2
          rw [← hx]
          have HX : Hid (canon .f32 x = eighth n) := Lib.hid (by rw [hx, c_div]; rfl)
          clear hx
          have HC : Hid (conMade (filmOfRes (upd cur 32 x)) = conAt (fun i => canon .f32 (k i)) (fun i => canon .f32 (s i)) n) := Lib.hid (con_of (by omega) (Bool.and_eq_true _ _ ▸ H0.out).1 (Bool.and_eq_true _ _ ▸ H0.out).2 (fun i hi => by
            unfold upd
            by_cases h1 : i = 32
            · subst h1
              rw [if_pos rfl]
              exact HX.out
            · rw [if_neg h1, Hc.out i (by omega)]
              unfold layP
              by_cases h2 : i < 16
              · rw [if_pos h2, if_pos h2]
              · rw [if_neg h2, if_neg h2, if_pos (by omega), if_pos (by omega)]))
          have HN : Hid (∀ i, i < 32 → canon .f32 (upd cur 32 x i) = layP (fun i => canon .f32 (k i)) (fun i => canon .f32 (s i)) none i) := Lib.hid (fun i hi => by
            unfold upd
            rw [if_neg (by omega)]
            exact Hc.out i hi)
          have hbs : Below w.heap.size w ((wr.drewN (fcnt .quo .f32 (floatOfInt .f32 n) 1090519040)).setCell ⟨w1.heap.size, 32, none⟩ (.float .f32 x)) := (bDrew hb _).setCell (by dsimp only; omega) _
          rw [HC.out]
          rintro e w5 ⟨m, rfl, hr, hb1⟩
          have hX := hX2.below hb1 hX2.lt
          have hbw := bCall hbs hb1 hbs.size
          clear hb1 hbs hX2 hb HC
          generalize hcd : conAt (fun i => canon .f32 (k i)) (fun i => canon .f32 (s i)) n = C at *
          obtain ⟨v, cd⟩ := C
          dsimp only at hr ⊢
          have HR := Lib.hid hr
          clear hr c1 f1
          by_cases h3 : cd = 3
          · subst h3
            have Hq : Hid (thickForRes (fun i => canon .f32 (k i)) (fun i => canon .f32 (s i)) (canon .f32 c) = (fzero, 6)) := Lib.hid (Hm.out.trans (from_stop (by rw [hcd])))
            go_wp2
            go_ret2
            rw [Hq.out]
            exact ⟨_, rfl, rfl, hbw⟩
          · have e3 : (cd == 3) = false := by simp [h3]
            by_cases h0 : cd = 0
            · subst h0
              cases hf : fle v (canon .f32 c) with
              | true =>
                have hq : (FloatKind.f32.format.order m c == some .lt || FloatKind.f32.format.order m c == some .eq) = true := by rw [o_le, HR.out]; exact hf
                have Hq : Hid (thickForRes (fun i => canon .f32 (k i)) (fun i => canon .f32 (s i)) (canon .f32 c) = (eighth n, 0)) := Lib.hid (Hm.out.trans (from_hit (by rw [hcd]) (by rw [hcd]; exact hf)))
                have cx : w5.cell? ⟨w1.heap.size, 32, none⟩ = some (.float .f32 x) := (hX.cell 32).trans (get_fA_lt (upd cur 32 x) (by omega))
                clear hcd hf
                go_wp2
                go_ret2
                rw [Hq.out]
                exact ⟨_, rfl, HX.out, hbw⟩
              | false =>
                have hq : (FloatKind.f32.format.order m c == some .lt || FloatKind.f32.format.order m c == some .eq) = false := by rw [o_le, HR.out]; exact hf
                have Hq : Hid (thickForRes (fun i => canon .f32 (k i)) (fun i => canon .f32 (s i)) (canon .f32 c) = thickFrom (fun i => canon .f32 (k i)) (fun i => canon .f32 (s i)) (canon .f32 c) f (n + 1)) := Lib.hid (Hm.out.trans (from_next (by rw [hcd]) (by rw [hcd]; exact hf)))
                clear hcd hf
                go_wp2
                go_roundw
                case rel => exact ⟨f, n + 1, _, by omega, by go_num, hbw, hX, HN, Hq⟩
                case measure => simp [intOf]; omega
            · obtain ⟨h1, h2⟩ := ne_facts3 h0
              have Hq : Hid (thickForRes (fun i => canon .f32 (k i)) (fun i => canon .f32 (s i)) (canon .f32 c) = (fzero, cd)) := Lib.hid (by have h := Hm.out.trans (from_bad (by rw [hcd]; exact h3) (by rw [hcd]; exact h0)); rw [hcd] at h; exact h)
              clear hcd
              go_wp2
              go_ret2
              rw [Hq.out]
              exact ⟨_, rfl, rfl, hbw⟩
end Go.Proofs.Ytcmamfpcdhhboaa
