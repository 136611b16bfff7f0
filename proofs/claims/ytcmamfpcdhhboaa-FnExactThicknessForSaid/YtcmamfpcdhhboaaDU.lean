/- Contracts: the thickness for a contrast. -/
import Derived.Test.YtcmamfpcdhhboaaDT
import Derived.Test.YtcmamfpcdhhboaaCU
import Derived.Deep.Cut
namespace Go.Proofs.Ytcmamfpcdhhboaa
open Go.RowKit
set_option maxRecDepth 100000

def layP (K S : Nat → Option Nat) (x : Option Nat) : Nat → Option Nat := fun j => if j < 16 then K j else if j < 32 then S (j - 16) else x
def eighth (n : Nat) : Option Nat := fdiv (fint n) (canon .f32 1090519040)
def conAt (K S : Nat → Option Nat) (n : Nat) : Option Nat × Int := conMade (filmMade (layP K S (eighth n)))
def thickFrom (K S : Nat → Option Nat) (con : Option Nat) : Nat → Nat → Option Nat × Int
  | 0, _ => (fzero, 6)
  | f + 1, n => if (conAt K S n).2 = 3 then (fzero, 6) else if (conAt K S n).2 = 0 then if fle (conAt K S n).1 con then (eighth n, 0) else thickFrom K S con f (n + 1) else (fzero, (conAt K S n).2)
def thickForRes (K S : Nat → Option Nat) (con : Option Nat) : Option Nat × Int :=
  if (allTo 16 fun i => amount (K i)) && (allTo 16 fun i => amount (S i)) then if share con then thickFrom K S con 256 1 else (fzero, 2) else (fzero, 1)

theorem filmAt_congr {p q : Nat → Option Nat} (h : ∀ i, i < 33 → p i = q i) : ∀ i, i < 48 → filmAt p i = filmAt q i := by
  intro i hi
  unfold filmAt
  rw [h 32 (by omega)]
  by_cases h1 : i < 16
  · rw [if_pos h1, if_pos h1, h i (by omega), h (16 + i) (by omega)]
  · rw [if_neg h1, if_neg h1]
    by_cases h2 : i < 32
    · rw [if_pos h2, if_pos h2, h i (by omega), h (i - 16) (by omega)]
    · rw [if_neg h2, if_neg h2, h (i - 32) (by omega), h (i - 16) (by omega)]
theorem filmMade_congr {p q : Nat → Option Nat} (h : ∀ i, i < 33 → p i = q i) : (filmMade p).2 = (filmMade q).2 ∧ ∀ i, i < 48 → (filmMade p).1 i = (filmMade q).1 i := by
  unfold filmMade
  have e1 : (allTo 16 fun i => !tooStrong (p i) (p (16 + i)) (thinX (p 32))) = allTo 16 fun i => !tooStrong (q i) (q (16 + i)) (thinX (q 32)) := allTo_congr fun i hi => by rw [h i (by omega), h (16 + i) (by omega), h 32 (by omega)]
  rw [e1]
  have hf := filmAt_congr h
  have e2 : finFilm (filmAt p) = finFilm (filmAt q) := by
    unfold finFilm
    rw [allTo_congr (q := fun i => fin (filmAt q i)) fun i hi => by rw [hf i (by omega)], allTo_congr (p := fun i => fin (filmAt p (16 + i))) (q := fun i => fin (filmAt q (16 + i))) fun i hi => by rw [hf _ (by omega)],
      allTo_congr (p := fun i => fin (filmAt p (32 + i))) (q := fun i => fin (filmAt q (32 + i))) fun i hi => by rw [hf _ (by omega)]]
  by_cases hs : (allTo 16 fun i => !tooStrong (q i) (q (16 + i)) (thinX (q 32))) = true
  · rw [if_pos hs, if_pos hs]
    unfold finFilmRes
    rw [e2]
    by_cases hq : finFilm (filmAt q) = true
    · rw [if_pos hq, if_pos hq]
      exact ⟨rfl, hf⟩
    · rw [if_neg hq, if_neg hq]
      exact ⟨rfl, fun _ _ => rfl⟩
  · rw [if_neg hs, if_neg hs]
    exact ⟨rfl, fun _ _ => rfl⟩
theorem paintMade_congr {F G : (Nat → Option Nat) × Int} (x : Option Nat) (h2 : F.2 = G.2) (h1 : ∀ i, i < 48 → F.1 i = G.1 i) : (paintMade F fun _ => x).2 = (paintMade G fun _ => x).2 ∧ ∀ i, i < 16 → (paintMade F fun _ => x).1 i = (paintMade G fun _ => x).1 i := by
  unfold paintMade
  rw [h2]
  by_cases h0 : G.2 = 0
  · rw [if_pos h0, if_pos h0]
    unfold overRes
    have ha : (allTo 16 fun i => gapOk (F.1 (16 + i)) x) = allTo 16 fun i => gapOk (G.1 (16 + i)) x := allTo_congr fun i hi => by rw [h1 _ (by omega)]
    have ho : ∀ i, i < 16 → overAt F.1 (fun _ => x) i = overAt G.1 (fun _ => x) i := fun i hi => by unfold overAt; rw [h1 i (by omega), h1 (16 + i) (by omega), h1 (32 + i) (by omega)]
    have hf : (allTo 16 fun i => fin (overAt F.1 (fun _ => x) i)) = allTo 16 fun i => fin (overAt G.1 (fun _ => x) i) := allTo_congr fun i hi => by rw [ho i hi]
    rw [ha]
    by_cases s1 : (allTo 16 fun _ => share x) = true
    · rw [if_pos s1, if_pos s1]
      by_cases s2 : (allTo 16 fun i => gapOk (G.1 (16 + i)) x) = true
      · rw [if_pos s2, if_pos s2]
        unfold finRes
        rw [hf]
        by_cases s3 : (allTo 16 fun i => fin (overAt G.1 (fun _ => x) i)) = true
        · rw [if_pos s3, if_pos s3]
          exact ⟨rfl, ho⟩
        · rw [if_neg s3, if_neg s3]
          exact ⟨rfl, fun _ _ => rfl⟩
      · rw [if_neg s2, if_neg s2]
        exact ⟨rfl, fun _ _ => rfl⟩
    · rw [if_neg s1, if_neg s1]
      exact ⟨rfl, fun _ _ => rfl⟩
  · rw [if_neg h0, if_neg h0]
    exact ⟨rfl, fun _ _ => rfl⟩
theorem conMade_congr {p q : Nat → Option Nat} (h : ∀ i, i < 33 → p i = q i) : conMade (filmMade p) = conMade (filmMade q) := by
  obtain ⟨h1, h2⟩ := filmMade_congr h
  obtain ⟨a1, a2⟩ := paintMade_congr fone h1 h2
  obtain ⟨b1, b2⟩ := paintMade_congr fzero h1 h2
  have e : endVal (conD (filmMade p)) (bestTo fgt (conD (filmMade p)) 16) = endVal (conD (filmMade q)) (bestTo fgt (conD (filmMade q)) 16) := end_congr fun i hi => by unfold conD; rw [a2 i hi, b2 i hi]
  unfold conMade
  rw [a1, b1, e]
theorem eighth_amount : ∀ n, n < 257 → amount (eighth n) = true := by decide +kernel
theorem from_stop {K S : Nat → Option Nat} {con : Option Nat} {f n : Nat} (h : (conAt K S n).2 = 3) : thickFrom K S con (f + 1) n = (fzero, 6) := by
  show (if _ then _ else _) = _
  rw [if_pos h]
theorem from_bad {K S : Nat → Option Nat} {con : Option Nat} {f n : Nat} (h : ¬ (conAt K S n).2 = 3) (h0 : ¬ (conAt K S n).2 = 0) : thickFrom K S con (f + 1) n = (fzero, (conAt K S n).2) := by
  show (if _ then _ else _) = _
  rw [if_neg h, if_neg h0]
theorem from_hit {K S : Nat → Option Nat} {con : Option Nat} {f n : Nat} (h0 : (conAt K S n).2 = 0) (hc : fle (conAt K S n).1 con = true) : thickFrom K S con (f + 1) n = (eighth n, 0) := by
  show (if _ then _ else _) = _
  rw [if_neg (by rw [h0]; decide), if_pos h0, if_pos hc]
theorem from_next {K S : Nat → Option Nat} {con : Option Nat} {f n : Nat} (h0 : (conAt K S n).2 = 0) (hc : fle (conAt K S n).1 con = false) : thickFrom K S con (f + 1) n = thickFrom K S con f (n + 1) := by
  show (if _ then _ else _) = _
  rw [if_neg (by rw [h0]; decide), if_pos h0, if_neg (by rw [hc]; decide)]

set_option maxHeartbeats 400000 in
theorem sThicknessFor_any (k s : Nat → Nat) (c : Nat) (w : World) : Calls Try.prog 34 #[.agg (fA 16 k), .agg (fA 16 s), .float .f32 c] w (RetFC w (thickForRes (fun i => canon .f32 (k i)) (fun i => canon .f32 (s i)) (canon .f32 c)).1 (thickForRes (fun i => canon .f32 (k i)) (fun i => canon .f32 (s i)) (canon .f32 c)).2) := by
  have hK : Blk ((w.alloc (.cells (fA 16 k) 26)).alloc (.cells (fA 16 s) 26)) w.heap.size 26 (fA 16 k) := (Blk.new _ _ _).alloc _
  have hS : Blk ((w.alloc (.cells (fA 16 k) 26)).alloc (.cells (fA 16 s) 26)) (w.heap.size + 1) 26 (fA 16 s) := Blk.new_at _ _ (by simp) rfl
  have hb : Below w.heap.size w ((w.alloc (.cells (fA 16 k) 26)).alloc (.cells (fA 16 s) 26)) := (by repeat (first | assumption | exact Below.refl _ _ | refine bDrew ?_ _ | refine Below.alloc ?_ (by first | omega | (simp; done) | (simp; omega)) _ | refine Below.setCell ?_ (by first | omega | (simp; done) | (simp; omega)) _ | refine bRow ?_ (by first | omega | (simp; done) | (simp; omega)) _))
  go_enter Try.func34, Try.ntmps34
  go_wp2_with (refine wpList_load_row rfl 26 _ rfl _ rfl _ _ (0, 0) _ hK Try.underlying26 rfl (by kernel_rfl) ?_)
  refine (l02Amounts_any k _).mono ?_
  rintro e w1 ⟨rfl, hb1⟩
  have hK := hK.below hb1 hK.lt
  have hS := hS.below hb1 hS.lt
  have hb := bCall hb hb1 hb.size; clear hb1
  cases h0 : (allTo 16 fun i => amount (canon .f32 (k i))) with
  | false =>
    have Hm : Hid (thickForRes (fun i => canon .f32 (k i)) (fun i => canon .f32 (s i)) (canon .f32 c) = (fzero, 1)) := Lib.hid (by unfold thickForRes; rw [h0]; rfl)
    clear h0
    go_wp2
    go_ret2
    rw [Hm.out]
    exact ⟨_, rfl, rfl, hb⟩
  | true =>
    have H0 := Lib.hid h0
    clear h0
    go_wp2_with (refine wpList_load_partW rfl 26 _ rfl 0 16 hS rfl (by decide) Try.underlying26 rfl (by kernel_rfl) ?_)
    rw [rowAt_zero]
    refine (l02Amounts_any s w1).mono ?_
    rintro e w2 ⟨rfl, hb1⟩
    have hK := hK.below hb1 hK.lt
    have hS := hS.below hb1 hS.lt
    have hb := bCall hb hb1 hb.size; clear hb1
    cases h1 : (allTo 16 fun i => amount (canon .f32 (s i))) with
    | false =>
      have Hm : Hid (thickForRes (fun i => canon .f32 (k i)) (fun i => canon .f32 (s i)) (canon .f32 c) = (fzero, 1)) := Lib.hid (by unfold thickForRes; rw [h1, Bool.and_false]; rfl)
      clear h1
      go_wp2
      go_ret2
      rw [Hm.out]
      exact ⟨_, rfl, rfl, hb⟩
    | true =>
      have H1 := Lib.hid h1
      clear h1
      cases hc : share (canon .f32 c) with
      | false =>
        have Hm : Hid (thickForRes (fun i => canon .f32 (k i)) (fun i => canon .f32 (s i)) (canon .f32 c) = (fzero, 2)) := Lib.hid (by unfold thickForRes; rw [H0.out, H1.out, hc]; rfl)
        unfold share at hc
        rw [← o_ge, ← o_le] at hc
        cases hx : (FloatKind.f32.format.order c 0 == some .gt || FloatKind.f32.format.order c 0 == some .eq) with
        | false =>
          clear hc
          go_wp2
          go_ret2
          rw [Hm.out]
          exact ⟨_, rfl, rfl, hb⟩
        | true =>
          rw [hx, Bool.true_and] at hc
          go_wp2
          go_ret2
          rw [Hm.out]
          exact ⟨_, rfl, rfl, hb⟩
      | true =>
        have Hm : Hid (thickForRes (fun i => canon .f32 (k i)) (fun i => canon .f32 (s i)) (canon .f32 c) = thickFrom (fun i => canon .f32 (k i)) (fun i => canon .f32 (s i)) (canon .f32 c) 256 1) := Lib.hid (by unfold thickForRes; rw [H0.out, H1.out, hc]; rfl)
        unfold share at hc
        rw [← o_ge, ← o_le, Bool.and_eq_true] at hc
        obtain ⟨hx, hy⟩ := hc
        go_wp2
        clear hx hy
        go_loopw [8, 9, 10, 11] (fun i _ _ _ wr => ∃ (f n : Nat), f + n = 257 ∧ i = .int .i64 n ∧ Below w.heap.size w wr ∧ Blk wr w.heap.size 26 (fA 16 k) ∧ Blk wr (w.heap.size + 1) 26 (fA 16 s) ∧ Hid (thickForRes (fun i => canon .f32 (k i)) (fun i => canon .f32 (s i)) (canon .f32 c) = thickFrom (fun i => canon .f32 (k i)) (fun i => canon .f32 (s i)) (canon .f32 c) f n)) (fun i _ _ _ _ => 257 - (intOf i).toNat)
        case atStart => exact ⟨256, 1, by omega, rfl, hb, hK, hS, Hm⟩
        case round =>
          clear hb hK hS Hm
          obtain ⟨f, n, hfn, rfl, hb, hK, hS, Hm⟩ := hrel
          cases f with
          | zero =>
            obtain rfl : n = 257 := by omega
            go_wp2
            go_ret2
            rw [Hm.out]
            exact ⟨_, rfl, rfl, hb⟩
          | succ f =>
            have hlt : n ≤ 256 := by omega
            generalize hgk : w.heap.size = gk at hb hK hS ⊢
            go_wp2_with (first | (refine wpList_build_as rfl 47 _ rfl (fA 33 (layer3 k s (fval .quo .f32 (floatOfInt .f32 n) 1090519040 wr))) (by kernel_rfl) ?_) | (refine wpList_store_new rfl 47 _ _ rfl _ rfl rfl (by kernel_rfl) rfl (all_fA _ _) ?_) | (refine wpList_load_row rfl 26 _ rfl _ rfl _ _ (0, 0) _ hK Try.underlying26 rfl (by kernel_rfl) ?_) | (refine wpList_load_row rfl 26 _ rfl _ rfl _ _ (0, 0) _ hS Try.underlying26 rfl (by kernel_rfl) ?_))
            obtain ⟨x, hx⟩ : ∃ x, x = fval .quo .f32 (floatOfInt .f32 n) 1090519040 wr := ⟨_, rfl⟩
            obtain ⟨W, hW⟩ : ∃ W : World, W = (wr.drewN (fcnt .quo .f32 (floatOfInt .f32 n) 1090519040)).alloc (.cells (fA 33 (layer3 k s x)) 47) := ⟨_, rfl⟩
            have hX : Blk W wr.heap.size 47 (fA 33 (layer3 k s x)) := by subst hW; exact Blk.new _ _ _
            have hK : Blk W gk 26 (fA 16 k) := by subst hW; exact (Blk.drewN hK _).alloc _
            have hS : Blk W (gk + 1) 26 (fA 16 s) := by subst hW; exact (Blk.drewN hS _).alloc _
            have hb : Below gk w W := by subst hW; exact Below.alloc (bDrew hb _) (show gk ≤ wr.heap.size by have := hb.size; omega) _
            have HX : Hid (canon .f32 x = eighth n) := Lib.hid (by rw [hx, c_div]; rfl)
            rw [← hx, ← hW]
            clear hx hW
            have HC : Hid (conMade (filmMade fun i => canon .f32 (layer3 k s x i)) = conAt (fun i => canon .f32 (k i)) (fun i => canon .f32 (s i)) n) := Lib.hid (conMade_congr (fun i hi => by
              unfold layer3 layP
              by_cases h1 : i < 16
              · rw [if_pos h1, if_pos h1]
              · rw [if_neg h1, if_neg h1]
                by_cases h2 : i < 32
                · rw [if_pos h2, if_pos h2]
                · rw [if_neg h2, if_neg h2]; exact HX.out))
            refine (l02Contrast_any _ _ (layer3 k s x) W hX).mono ?_
            rw [HC.out]
            clear HC
            rintro e w5 ⟨m, rfl, hr, hb1⟩
            have hX := hX.below hb1 hX.lt
            have hK := hK.below hb1 hK.lt
            have hS := hS.below hb1 hS.lt
            have hb := bCall hb hb1 (by have := hb.size; rw [hgk] at this; exact this)
            clear hb1
            generalize hcd : conAt (fun i => canon .f32 (k i)) (fun i => canon .f32 (s i)) n = C at *
            obtain ⟨v, cd⟩ := C
            dsimp only at hr ⊢
            have HR := Lib.hid hr
            clear hr
            have hbw : Below w.heap.size w w5 := by rw [hgk]; exact hb
            by_cases h3 : cd = 3
            · subst h3
              have Hq : Hid (thickForRes (fun i => canon .f32 (k i)) (fun i => canon .f32 (s i)) (canon .f32 c) = (fzero, 6)) := Lib.hid (Hm.out.trans (from_stop (by rw [hcd])))
              go_wp2
              go_ret2
              rw [Hq.out]
              exact ⟨_, rfl, rfl, hbw⟩
            · have e3 : (cd == 3) = false := by simp [h3]
              by_cases h0 : cd = 0
              · subst h0
                cases hf : fle v (canon .f32 c) with
                | true =>
                  have hq : (FloatKind.f32.format.order m c == some .lt || FloatKind.f32.format.order m c == some .eq) = true := by rw [o_le, HR.out]; exact hf
                  have Hq : Hid (thickForRes (fun i => canon .f32 (k i)) (fun i => canon .f32 (s i)) (canon .f32 c) = (eighth n, 0)) := Lib.hid (Hm.out.trans (from_hit (by rw [hcd]) (by rw [hcd]; exact hf)))
                  have cx : w5.cell? ⟨wr.heap.size, 32, none⟩ = some (.float .f32 x) := (hX.cell 32).trans (get_fA_lt (layer3 k s x) (by omega))
                  clear hcd hf
                  go_wp2
                  go_ret2
                  rw [Hq.out]
                  exact ⟨_, rfl, HX.out, hbw⟩
                | false =>
                  have hq : (FloatKind.f32.format.order m c == some .lt || FloatKind.f32.format.order m c == some .eq) = false := by rw [o_le, HR.out]; exact hf
                  have Hq : Hid (thickForRes (fun i => canon .f32 (k i)) (fun i => canon .f32 (s i)) (canon .f32 c) = thickFrom (fun i => canon .f32 (k i)) (fun i => canon .f32 (s i)) (canon .f32 c) f (n + 1)) := Lib.hid (Hm.out.trans (from_next (by rw [hcd]) (by rw [hcd]; exact hf)))
                  clear hcd hf
                  subst hgk
                  go_wp2
                  go_roundw
                  case rel => exact ⟨f, n + 1, by omega, by go_num, hbw, hK, hS, Hq⟩
                  case measure => simp [intOf]; omega
              · obtain ⟨h1, h2⟩ := ne_facts3 h0
                have Hq : Hid (thickForRes (fun i => canon .f32 (k i)) (fun i => canon .f32 (s i)) (canon .f32 c) = (fzero, cd)) := Lib.hid (by have h := Hm.out.trans (from_bad (by rw [hcd]; exact h3) (by rw [hcd]; exact h0)); rw [hcd] at h; exact h)
                clear hcd
                go_wp2
                go_ret2
                rw [Hq.out]
                exact ⟨_, rfl, rfl, hbw⟩
end Go.Proofs.Ytcmamfpcdhhboaa
