/- Contracts: what is seen. -/
import Derived.Test.YtmikeegecifbfaaDI
import Derived.Test.YtmikeegecifbfaaDD
namespace Go.Proofs.Ytmikeegecifbfaa
open Go.RowKit
set_option maxRecDepth 100000

def dotOf (p q : Nat → Option Nat) : Option Nat := fsumTo (fun i => fmul (p i) (q i)) 16
theorem dot_congr {p q p' q' : Nat → Option Nat} (h1 : ∀ i, i < 16 → p i = p' i) (h2 : ∀ i, i < 16 → q i = q' i) : dotOf p q = dotOf p' q' := fsumTo_congr fun i hi => by rw [h1 i hi, h2 i hi]
def seenAt (l c : Nat → Option Nat) (k : Nat) : Option Nat := fdiv (dotOf (fun i => obsAt (k * 16 + i)) fun i => fmul (l i) (c i)) (dotOf (fun i => obsAt (16 + i)) l)
def seenRes (l c : Nat → Option Nat) : (Nat → Option Nat) × Int := if allTo 3 fun k => fin (seenAt l c k) then (seenAt l c, 0) else (fun _ => canon .f32 0, 4)
theorem allTo_iff {n : Nat} {p q : Nat → Option Nat} (h : ∀ i, i < n → p i = q i) : (allTo n fun i => fin (p i)) = allTo n fun i => fin (q i) := allTo_congr fun i hi => by rw [h i hi]

/-- The calls of one region: products of curves ('M'), sums of products. -/
def GV (M : FuncId) (f : FuncId) (args : Array Value) (u : Value) : Prop :=
  ∃ x y, args = #[.agg (fA 16 x), .agg (fA 16 y)] ∧ ((f = M ∧ ∃ r, u = .agg (fA 16 r) ∧ ∀ i, i < 16 → canon .f32 (r i) = fmul (canon .f32 (x i)) (canon .f32 (y i))) ∨ (f ≠ M ∧ ∃ r, u = .float .f32 r ∧ canon .f32 r = dotOf (fun i => canon .f32 (x i)) fun i => canon .f32 (y i)))
section
variable {M f : FuncId} {x y : Nat → Nat}
theorem GV.mk1 {r : Nat → Nat} (h : ∀ i, i < 16 → canon .f32 (r i) = fmul (canon .f32 (x i)) (canon .f32 (y i))) : GV M M #[.agg (fA 16 x), .agg (fA 16 y)] (.agg (fA 16 r)) := ⟨x, y, rfl, .inl ⟨rfl, r, rfl, h⟩⟩
theorem GV.mk2 {r : Nat} (hf : f ≠ M) (h : canon .f32 r = dotOf (fun i => canon .f32 (x i)) fun i => canon .f32 (y i)) : GV M f #[.agg (fA 16 x), .agg (fA 16 y)] (.float .f32 r) := ⟨x, y, rfl, .inr ⟨hf, r, rfl, h⟩⟩
theorem GV.inv1 {u : Value} (h : GV M M #[.agg (fA 16 x), .agg (fA 16 y)] u) : ∃ r, u = .agg (fA 16 r) ∧ Hid (∀ i, i < 16 → canon .f32 (r i) = fmul (canon .f32 (x i)) (canon .f32 (y i))) := by
  obtain ⟨x', y', ha, ⟨_, r, hu, hr⟩ | ⟨hf, _⟩⟩ := h
  · simp only [Array.mk.injEq, List.cons.injEq, Value.agg.injEq, and_true] at ha
    exact ⟨r, hu, Lib.hid fun i hi => by rw [hr i hi, fA_inj ha.1 hi, fA_inj ha.2 hi]⟩
  · exact absurd rfl hf
theorem GV.inv2 {u : Value} (hf : f ≠ M) (h : GV M f #[.agg (fA 16 x), .agg (fA 16 y)] u) : ∃ r, u = .float .f32 r ∧ Hid (canon .f32 r = dotOf (fun i => canon .f32 (x i)) fun i => canon .f32 (y i)) := by
  obtain ⟨x', y', ha, ⟨hf', _⟩ | ⟨_, r, hu, hr⟩⟩ := h
  · exact absurd hf' hf
  · simp only [Array.mk.injEq, List.cons.injEq, Value.agg.injEq, and_true] at ha
    exact ⟨r, hu, Lib.hid (hr.trans (dot_congr (fun i hi => by rw [fA_inj ha.1 hi]) fun i hi => by rw [fA_inj ha.2 hi]))⟩
end

set_option maxHeartbeats 4000000 in
theorem iSeenUnder_any (l c : Nat → Nat) (w : World) : Calls Try.prog 18 #[.agg (fA 16 l), .agg (fA 16 c)] w (RetCC 3 w (seenRes (fun i => canon .f32 (l i)) fun i => canon .f32 (c i)).1 (seenRes (fun i => canon .f32 (l i)) fun i => canon .f32 (c i)).2) := by
  have hL : Blk (((w.alloc (.cells (fA 16 l) 26)).alloc (.cells (fA 16 c) 26)).alloc (.cells (fA 3 fun _ => 0) 38)) w.heap.size 26 (fA 16 l) := ((Blk.new _ _ _).alloc _).alloc _
  have hC : Blk (((w.alloc (.cells (fA 16 l) 26)).alloc (.cells (fA 16 c) 26)).alloc (.cells (fA 3 fun _ => 0) 38)) (w.heap.size + 1) 26 (fA 16 c) := (Blk.new_at _ _ (by simp) rfl).alloc _
  have hZ : Blk (((w.alloc (.cells (fA 16 l) 26)).alloc (.cells (fA 16 c) 26)).alloc (.cells (fA 3 fun _ => 0) 38)) (w.heap.size + 1 + 1) 38 (fA 3 fun _ => 0) := Blk.new_at _ _ (by simp) rfl
  have hb : Below w.heap.size w (((w.alloc (.cells (fA 16 l) 26)).alloc (.cells (fA 16 c) 26)).alloc (.cells (fA 3 fun _ => 0) 38)) := (by repeat (first | assumption | exact Below.refl _ _ | refine bDrew ?_ _ | refine Below.alloc ?_ (by first | omega | (simp; done) | (simp; omega)) _ | refine Below.setCell ?_ (by first | omega | (simp; done) | (simp; omega)) _ | refine bRow ?_ (by first | omega | (simp; done) | (simp; omega)) _))
  have hsl : ∀ (g : Nat) (w : World), (Instr.sliceAt 38 (.pointer (some ⟨g, 0, none⟩)) none none none).run Try.prog w = .ok (.slice (some ⟨g, 0, none⟩) 3 3) w := fun _ _ => by kernel_rfl
  go_enter Try.func18, Try.ntmps18
  go_wp2_with (refine wpList_build_as rfl 38 _ rfl (fA 3 fun _ => 0) (by kernel_rfl) ?_)
  refine (iObservers_any _).mono ?_
  rintro e w1 ⟨o, rfl, ho, hb1⟩
  have hL := hL.below hb1 hL.lt
  have hC := hC.below hb1 hC.lt
  have hZ := hZ.below hb1 hZ.lt
  have hb := bCall hb hb1 hb.size; clear hb1
  have Ho := Lib.hid ho
  clear ho
  have hS0 : Blk ((w1.alloc (.cells (fA 3 fun _ => 0) 38)).alloc (.cells (fA 48 fun _ => 0) 55)) w1.heap.size 38 (fA 3 fun _ => 0) := (Blk.new _ _ _).alloc _
  have hE0 : Blk ((w1.alloc (.cells (fA 3 fun _ => 0) 38)).alloc (.cells (fA 48 fun _ => 0) 55)) (w1.heap.size + 1) 55 (fA 48 fun _ => 0) := Blk.new_at _ _ (by simp) rfl
  have hE1 : Blk (((w1.alloc (.cells (fA 3 fun _ => 0) 38)).alloc (.cells (fA 48 fun _ => 0) 55)).setRow w1.heap.size (fA 3 fun _ => 0)) (w1.heap.size + 1) 55 (fA 48 fun _ => 0) := hE0.farRow (by omega)
  have hE2 : Blk ((((w1.alloc (.cells (fA 3 fun _ => 0) 38)).alloc (.cells (fA 48 fun _ => 0) 55)).setRow w1.heap.size (fA 3 fun _ => 0)).setRow (w1.heap.size + 1) (fA 48 o)) (w1.heap.size + 1) 55 (fA 48 o) := hE1.setRow
  have hS2 : Blk ((((w1.alloc (.cells (fA 3 fun _ => 0) 38)).alloc (.cells (fA 48 fun _ => 0) 55)).setRow w1.heap.size (fA 3 fun _ => 0)).setRow (w1.heap.size + 1) (fA 48 o)) w1.heap.size 38 (fA 3 fun _ => 0) := hS0.setRow.farRow (by omega)
  have hL2 : Blk ((((w1.alloc (.cells (fA 3 fun _ => 0) 38)).alloc (.cells (fA 48 fun _ => 0) 55)).setRow w1.heap.size (fA 3 fun _ => 0)).setRow (w1.heap.size + 1) (fA 48 o)) w.heap.size 26 (fA 16 l) := (((hL.alloc _).alloc _).farRow (by have := hL.lt; omega)).farRow (by have := hL.lt; omega)
  have hC2 : Blk ((((w1.alloc (.cells (fA 3 fun _ => 0) 38)).alloc (.cells (fA 48 fun _ => 0) 55)).setRow w1.heap.size (fA 3 fun _ => 0)).setRow (w1.heap.size + 1) (fA 48 o)) (w.heap.size + 1) 26 (fA 16 c) := (((hC.alloc _).alloc _).farRow (by have := hC.lt; omega)).farRow (by have := hC.lt; omega)
  have hZ2 : Blk ((((w1.alloc (.cells (fA 3 fun _ => 0) 38)).alloc (.cells (fA 48 fun _ => 0) 55)).setRow w1.heap.size (fA 3 fun _ => 0)).setRow (w1.heap.size + 1) (fA 48 o)) (w.heap.size + 1 + 1) 38 (fA 3 fun _ => 0) := (((hZ.alloc _).alloc _).farRow (by have := hZ.lt; omega)).farRow (by have := hZ.lt; omega)
  have hb2 : Below w.heap.size w ((((w1.alloc (.cells (fA 3 fun _ => 0) 38)).alloc (.cells (fA 48 fun _ => 0) 55)).setRow w1.heap.size (fA 3 fun _ => 0)).setRow (w1.heap.size + 1) (fA 48 o)) := bRow (bRow (Below.alloc (Below.alloc hb hb.size _) (by have := hb.size; simp; omega) _) hb.size _) (by have := hb.size; omega) _
  have hg : w.heap.size + 1 + 1 < w1.heap.size := hZ.lt
  have hix : ∀ (k : Nat) (w : World), k < 3 → (Instr.index 55 (.agg (fA 48 o)) (.int .i64 k)).run Try.prog w = .ok (.agg (fA 16 (rowAt o (k * 16)))) w := by
    have i0 : ∀ w : World, (Instr.index 55 (.agg (fA 48 o)) (.int .i64 ((0 : Nat) : Int))).run Try.prog w = .ok (.agg (fA 16 (rowAt o (0 * 16)))) w := fun _ => by kernel_rfl
    have i1 : ∀ w : World, (Instr.index 55 (.agg (fA 48 o)) (.int .i64 ((1 : Nat) : Int))).run Try.prog w = .ok (.agg (fA 16 (rowAt o (1 * 16)))) w := fun _ => by kernel_rfl
    have i2 : ∀ w : World, (Instr.index 55 (.agg (fA 48 o)) (.int .i64 ((2 : Nat) : Int))).run Try.prog w = .ok (.agg (fA 16 (rowAt o (2 * 16)))) w := fun _ => by kernel_rfl
    intro k w hk
    have h3 : k = 0 ∨ k = 1 ∨ k = 2 := by omega
    rcases h3 with rfl | rfl | rfl
    · exact i0 w
    · exact i1 w
    · exact i2 w
  clear hL hC hZ hb
  go_wp2_with (first | (refine wpList_store_row rfl 38 _ _ rfl _ _ rfl rfl _ _ hS0 (by kernel_rfl) (by simp only [size_fA]) (all_fA _ _) ?_) | (refine wpList_store_row rfl 55 _ _ rfl _ _ rfl rfl _ _ hE1 (by kernel_rfl) (by simp only [size_fA]) (all_fA _ _) ?_) | (refine wpList_load_row rfl 55 _ rfl _ rfl _ _ (0, 0) _ hE2 Try.underlying55 rfl (by kernel_rfl) ?_))
  go_loopw [8, 9, 13] (fun _ _ i wr => ∃ (k : Nat) (cur : Nat → Nat), k ≤ 3 ∧ i = .int .i64 k ∧ Below w.heap.size w wr ∧ Blk wr w.heap.size 26 (fA 16 l) ∧ Blk wr (w.heap.size + 1) 26 (fA 16 c) ∧ Blk wr (w.heap.size + 1 + 1) 38 (fA 3 fun _ => 0) ∧ Blk wr (w1.heap.size + 1) 55 (fA 48 o) ∧ Blk wr w1.heap.size 38 (fA 3 cur) ∧ ∀ j, j < k → canon .f32 (cur j) = seenAt (fun i => canon .f32 (l i)) (fun i => canon .f32 (c i)) j) (fun _ _ i _ => 3 - (intOf i).toNat)
  case atStart => exact ⟨0, fun _ => 0, by omega, rfl, hb2, hL2, hC2, hZ2, hE2, hS2, fun j h => absurd h (by omega)⟩
  case round =>
    clear hS0 hE0 hE1 hE2 hS2 hL2 hC2 hZ2 hb2
    obtain ⟨k, cur, hk, rfl, hb, hL, hC, hZ, hE, hS, hc⟩ := hrel
    have Hc := Lib.hid hc
    clear hc
    by_cases hlt : k < 3
    · have hx := fun w => hix k w hlt
      clear hix hsl
      go_wp2_with (refine wpList_store_new rfl 26 _ _ rfl _ rfl rfl (by kernel_rfl) rfl (all_fA _ _) ?_)
      clear hx
      obtain ⟨W, hW⟩ : ∃ W : World, W = wr.alloc (.cells (fA 16 (rowAt o (k * 16))) 26) := ⟨_, rfl⟩
      have hO : Blk W wr.heap.size 26 (fA 16 (rowAt o (k * 16))) := by subst hW; exact Blk.new _ _ _
      have hL : Blk W w.heap.size 26 (fA 16 l) := by subst hW; exact hL.alloc _
      have hC : Blk W (w.heap.size + 1) 26 (fA 16 c) := by subst hW; exact hC.alloc _
      have hZ : Blk W (w.heap.size + 1 + 1) 38 (fA 3 fun _ => 0) := by subst hW; exact hZ.alloc _
      have hE : Blk W (w1.heap.size + 1) 55 (fA 48 o) := by subst hW; exact hE.alloc _
      have hS : Blk W w1.heap.size 38 (fA 3 cur) := by subst hW; exact hS.alloc _
      have hb : Below w.heap.size w W := by subst hW; exact Below.alloc hb hb.size _
      rw [← hW]
      clear hW
      (refine wp_region_lr_tail 12 (GV 47) (by kernel_rfl) (by kernel_rfl) ?_; simp only [List.take_succ_cons, List.take_zero, List.drop_succ_cons, List.drop_zero])
      (refine wpLR_plain rfl (fun K hK w1 hw1 => ?_); go_simp; refine ⟨R.refl _, hK _ _ ?_⟩; clear hK K)
      (refine wpLR_plain rfl (fun K hK w1 hw1 => lrUpon_load rfl _ rfl _ _ _ _ (Blk.below hO hw1 hO.lt) Try.underlying26 rfl (by kernel_rfl) (fun N => hK _ _ ?_)); clear hK K)
      (refine wpLR_plain rfl (fun K hK w1 hw1 => lrUpon_load rfl _ rfl _ _ _ _ (Blk.below hL hw1 hL.lt) Try.underlying26 rfl (by kernel_rfl) (fun N => hK _ _ ?_)); clear hK K)
      (refine wpLR_plain rfl (fun K hK w1 hw1 => lrUpon_load rfl _ rfl _ _ _ _ (Blk.below hC hw1 hC.lt) Try.underlying26 rfl (by kernel_rfl) (fun N => hK _ _ ?_)); clear hK K)
      (refine wpLR_plain rfl (fun K hK w1 hw1 => ?_); go_simp; refine ⟨R.refl _, (iMulCurves_any _ _ _).mono ?_, fun u hu => hK _ _ ?_⟩; (rintro e w' ⟨r, rfl, hr, hb⟩; exact ⟨_, rfl, GV.mk1 hr, hb⟩); clear hK K; obtain ⟨r1, rfl, H1⟩ := GV.inv1 hu; clear hu)
      (refine wpLR_plain rfl (fun K hK w1 hw1 => ?_); go_simp; refine ⟨R.refl _, (iDotOfCurves_any _ _ _).mono ?_, fun u hu => hK _ _ ?_⟩; (rintro e w' ⟨r, rfl, hr, hb⟩; exact ⟨_, rfl, GV.mk2 (by decide) hr, hb⟩); clear hK K; obtain ⟨r2, rfl, H2⟩ := GV.inv2 (by decide) hu; clear hu)
      (refine wpLR_plain rfl (fun K hK w1 hw1 => ?_); go_simp; refine ⟨R.refl _, hK _ _ ?_⟩; clear hK K)
      (refine wpLR_plain rfl (fun K hK w1 hw1 => lrUpon_part rfl (Blk.below hE hw1 hE.lt) (16) 16 rfl (by first | decide | omega) Try.underlying26 rfl (by kernel_rfl) (fun N => hK _ _ ?_)); clear hK K)
      (refine wpLR_plain rfl (fun K hK w1 hw1 => lrUpon_load rfl _ rfl _ _ _ _ (Blk.below hL hw1 hL.lt) Try.underlying26 rfl (by kernel_rfl) (fun N => hK _ _ ?_)); clear hK K)
      (refine wpLR_plain rfl (fun K hK w1 hw1 => ?_); go_simp; refine ⟨R.refl _, (iDotOfCurves_any _ _ _).mono ?_, fun u hu => hK _ _ ?_⟩; (rintro e w' ⟨r, rfl, hr, hb⟩; exact ⟨_, rfl, GV.mk2 (by decide) hr, hb⟩); clear hK K; obtain ⟨r3, rfl, H3⟩ := GV.inv2 (by decide) hu; clear hu)
      (refine wpLR_plain rfl (fun K hK w1 hw1 => ?_); go_simp; refine ⟨bDrew (R.refl _) _, hK _ _ ?_⟩; clear hK K)
      (refine wpLR_plain rfl (fun K hK w1 hw1 => ?_); go_simp; refine ⟨R.refl _, hK _ _ ?_⟩; clear hK K)
      refine wpLR_nil ?_
      intro W1 hW1 hS1
      clear hS1
      have hL := hL.below hW1 hL.lt
      have hC := hC.below hW1 hC.lt
      have hZ := hZ.below hW1 hZ.lt
      have hE := hE.below hW1 hE.lt
      have hS := hS.below hW1 hS.lt
      have hb := bCall hb hW1 hb.size
      have c2 := (hS.cell k).trans (get_fA_lt cur hlt)
      have f1 := hS.frozen k
      go_wp2
      go_roundw
      case rel =>
        refine ⟨k + 1, _, by omega, by go_num, hb.setCell (by dsimp only; omega) _, Blk.far hL (by dsimp only; omega) _, Blk.far hC (by dsimp only; omega) _, Blk.far hZ (by dsimp only; omega) _, Blk.far hE (by dsimp only; omega) _, Blk.setF hS k _, upd_to (Q := fun j v => canon .f32 v = seenAt (fun i => canon .f32 (l i)) (fun i => canon .f32 (c i)) j) Hc.out ?_⟩
        rw [c_div, H2.out, H3.out]
        unfold seenAt
        rw [dot_congr (p := fun i => canon .f32 (rowAt o (k * 16) i)) (p' := fun i => obsAt (k * 16 + i)) (q := fun i => canon .f32 (r1 i)) (q' := fun i => fmul (canon .f32 (l i)) (canon .f32 (c i))) (fun i hi => Ho.out _ (by omega)) H1.out,
          dot_congr (p := fun i => canon .f32 (rowAt o 16 i)) (p' := fun i => obsAt (16 + i)) (q := fun i => canon .f32 (l i)) (q' := fun i => canon .f32 (l i)) (fun i hi => Ho.out _ (by omega)) (fun _ _ => rfl)]
      case measure => simp [intOf]; omega
    · obtain rfl : k = 3 := by omega
      clear hix hL hC hE
      go_wp2_with fail
      refine (isFinite_any w1.heap.size 3 38 cur _ hS (by decide)).mono ?_
      rintro e w2 ⟨rfl, hb1⟩
      have hZ := hZ.below hb1 hZ.lt
      have hS := hS.below hb1 hS.lt
      have hb := bCall hb hb1 hb.size; clear hb1
      have e0 := allTo_iff Hc.out
      rw [e0]
      clear e0
      cases h0 : (allTo 3 fun j => fin (seenAt (fun i => canon .f32 (l i)) (fun i => canon .f32 (c i)) j)) with
      | false =>
        have Hm : Hid ((seenRes (fun i => canon .f32 (l i)) fun i => canon .f32 (c i)) = (fun _ => canon .f32 0, 4)) := Lib.hid (by simp only [seenRes, h0, Bool.false_eq_true, if_false])
        clear h0
        go_wp2_with (first | (refine wpList_build_as rfl 38 _ rfl (fA 3 fun _ => 0) (by kernel_rfl) ?_) | (refine wpList_store_row rfl 38 _ _ rfl _ _ rfl rfl _ _ hZ (by kernel_rfl) (by simp only [size_fA]) (all_fA _ _) ?_)); exact bodyPost_ret (results_cell_row2 rfl _ _ (w.heap.size + 1 + 1) _ _ _ _ rfl hZ.setRow Try.underlying38 rfl (by kernel_rfl)) rfl (RetCC.as Hm.out ⟨_, rfl, fun _ _ => rfl, (by repeat (first | assumption | exact Below.refl _ _ | refine bDrew ?_ _ | refine Below.alloc ?_ (by first | omega | (simp; done) | (simp; omega)) _ | refine Below.setCell ?_ (by first | omega | (simp; done) | (simp; omega)) _ | refine bRow ?_ (by first | omega | (simp; done) | (simp; omega)) _))⟩)
      | true =>
        have Hm : Hid ((seenRes (fun i => canon .f32 (l i)) fun i => canon .f32 (c i)) = (seenAt (fun i => canon .f32 (l i)) fun i => canon .f32 (c i), 0)) := Lib.hid (by simp only [seenRes, h0, if_true])
        clear h0
        go_wp2_with (first | (refine wpList_load_row rfl 38 _ rfl _ rfl _ _ (0, 0) _ hS Try.underlying38 rfl (by kernel_rfl) ?_) | (refine wpList_store_row rfl 38 _ _ rfl _ _ rfl rfl _ _ hZ (by kernel_rfl) (by simp only [size_fA]) (all_fA _ _) ?_))
        exact bodyPost_ret (results_cell_row2 rfl _ _ (w.heap.size + 1 + 1) _ _ _ _ rfl hZ.setRow Try.underlying38 rfl (by kernel_rfl)) rfl (RetCC.as Hm.out ⟨cur, rfl, Hc.out, (by repeat (first | assumption | exact Below.refl _ _ | refine bDrew ?_ _ | refine Below.alloc ?_ (by first | omega | (simp; done) | (simp; omega)) _ | refine Below.setCell ?_ (by first | omega | (simp; done) | (simp; omega)) _ | refine bRow ?_ (by first | omega | (simp; done) | (simp; omega)) _))⟩)
set_option maxHeartbeats 4000000 in
theorem l01Seen_any (l c : Nat → Nat) (w : World) : Calls Try.prog 48 #[.agg (fA 16 l), .agg (fA 16 c)] w (RetCC 3 w (seenRes (fun i => canon .f32 (l i)) fun i => canon .f32 (c i)).1 (seenRes (fun i => canon .f32 (l i)) fun i => canon .f32 (c i)).2) := by
  have hL : Blk (((w.alloc (.cells (fA 16 l) 26)).alloc (.cells (fA 16 c) 26)).alloc (.cells (fA 3 fun _ => 0) 38)) w.heap.size 26 (fA 16 l) := ((Blk.new _ _ _).alloc _).alloc _
  have hC : Blk (((w.alloc (.cells (fA 16 l) 26)).alloc (.cells (fA 16 c) 26)).alloc (.cells (fA 3 fun _ => 0) 38)) (w.heap.size + 1) 26 (fA 16 c) := (Blk.new_at _ _ (by simp) rfl).alloc _
  have hZ : Blk (((w.alloc (.cells (fA 16 l) 26)).alloc (.cells (fA 16 c) 26)).alloc (.cells (fA 3 fun _ => 0) 38)) (w.heap.size + 1 + 1) 38 (fA 3 fun _ => 0) := Blk.new_at _ _ (by simp) rfl
  have hb : Below w.heap.size w (((w.alloc (.cells (fA 16 l) 26)).alloc (.cells (fA 16 c) 26)).alloc (.cells (fA 3 fun _ => 0) 38)) := (by repeat (first | assumption | exact Below.refl _ _ | refine bDrew ?_ _ | refine Below.alloc ?_ (by first | omega | (simp; done) | (simp; omega)) _ | refine Below.setCell ?_ (by first | omega | (simp; done) | (simp; omega)) _ | refine bRow ?_ (by first | omega | (simp; done) | (simp; omega)) _))
  go_enter Try.func48, Try.ntmps48
  go_wp2_with fail
  refine (l01Observers_any _).mono ?_
  rintro e w1 ⟨o, rfl, ho, hb1⟩
  have hL := hL.below hb1 hL.lt
  have hC := hC.below hb1 hC.lt
  have hZ := hZ.below hb1 hZ.lt
  have hb := bCall hb hb1 hb.size; clear hb1
  have Ho := Lib.hid ho
  clear ho
  have hE : Blk (w1.alloc (.cells (fA 48 o) 55)) w1.heap.size 55 (fA 48 o) := Blk.new _ _ _
  have hL := hL.alloc (.cells (fA 48 o) 55)
  have hC := hC.alloc (.cells (fA 48 o) 55)
  have hg : w.heap.size + 1 + 1 < w1.heap.size := hZ.lt
  have hZ := hZ.alloc (.cells (fA 48 o) 55)
  have hb : Below w.heap.size w (w1.alloc (.cells (fA 48 o) 55)) := Below.alloc hb hb.size _
  go_wp2_with (first | (refine wpList_store_new rfl 55 _ _ rfl _ rfl rfl (by kernel_rfl) rfl (all_fA _ _) ?_) | (refine wpList_load_part rfl 26 _ rfl 16 16 hE rfl (by decide) Try.underlying26 rfl (by kernel_rfl) ?_) | (refine wpList_load_row rfl 26 _ rfl _ rfl _ _ (0, 0) _ hL Try.underlying26 rfl (by kernel_rfl) ?_))
  refine (l01Dot_any (rowAt o 16) l _).mono ?_
  rintro e w2 ⟨d, rfl, hd, hb1⟩
  have hL := hL.below hb1 hL.lt
  have hC := hC.below hb1 hC.lt
  have hZ := hZ.below hb1 hZ.lt
  have hE := hE.below hb1 hE.lt
  have hb := bCall hb hb1 hb.size; clear hb1
  have Hd := Lib.hid hd
  clear hd
  go_wp2_with (first | (refine wpList_load_row rfl 26 _ rfl _ rfl _ _ (0, 0) _ hL Try.underlying26 rfl (by kernel_rfl) ?_) | (refine wpList_load_row rfl 26 _ rfl _ rfl _ _ (0, 0) _ hC Try.underlying26 rfl (by kernel_rfl) ?_))
  refine (sMulCurves_any l c w2).mono ?_
  rintro e w3 ⟨r1, rfl, hr1, hb1⟩
  have hZ := hZ.below hb1 hZ.lt
  have hE := hE.below hb1 hE.lt
  have hb := bCall hb hb1 hb.size; clear hb1
  have H1 := Lib.hid hr1
  clear hr1 hL hC
  have hM : Blk ((w3.alloc (.cells (fA 16 r1) 26)).alloc (.cells (fA 3 fun _ => 0) 38)) w3.heap.size 26 (fA 16 r1) := (Blk.new _ _ _).alloc _
  have hS : Blk ((w3.alloc (.cells (fA 16 r1) 26)).alloc (.cells (fA 3 fun _ => 0) 38)) (w3.heap.size + 1) 38 (fA 3 fun _ => 0) := Blk.new_at _ _ (by simp) rfl
  have hg3 : w1.heap.size < w3.heap.size := hE.lt
  have hE := (hE.alloc (.cells (fA 16 r1) 26)).alloc (.cells (fA 3 fun _ => 0) 38)
  have hZ := (hZ.alloc (.cells (fA 16 r1) 26)).alloc (.cells (fA 3 fun _ => 0) 38)
  have hb : Below w.heap.size w ((w3.alloc (.cells (fA 16 r1) 26)).alloc (.cells (fA 3 fun _ => 0) 38)) := Below.alloc (Below.alloc hb hb.size _) (by have := hb.size; simp; omega) _
  go_wp2_with (first | (refine wpList_build_as rfl 38 _ rfl (fA 3 fun _ => 0) (by kernel_rfl) ?_) | (refine wpList_store_new rfl 26 _ _ rfl _ rfl rfl (by kernel_rfl) rfl (all_fA _ _) ?_) | (refine wpList_store_row rfl 38 _ _ rfl _ _ rfl rfl _ _ hS (by kernel_rfl) (by simp only [size_fA]) (all_fA _ _) ?_))
  go_loopw [10] (fun i wr => ∃ (k : Nat) (cur : Nat → Nat), k ≤ 3 ∧ i = .int .i64 k ∧ Below w.heap.size w wr ∧ Blk wr (w.heap.size + 1 + 1) 38 (fA 3 fun _ => 0) ∧ Blk wr w1.heap.size 55 (fA 48 o) ∧ Blk wr w3.heap.size 26 (fA 16 r1) ∧ Blk wr (w3.heap.size + 1) 38 (fA 3 cur) ∧ (∀ j, j < k → fin (seenAt (fun i => canon .f32 (l i)) (fun i => canon .f32 (c i)) j) = true) ∧ ∀ j, j < k → canon .f32 (cur j) = seenAt (fun i => canon .f32 (l i)) (fun i => canon .f32 (c i)) j) (fun i _ => 3 - (intOf i).toNat)
  case atStart => exact ⟨0, fun _ => 0, by omega, rfl, bRow hb (by omega) _, hZ.farRow (by omega), hE.farRow (by omega), hM.farRow (by omega), hS.setRow, fun j h => absurd h (by omega), fun j h => absurd h (by omega)⟩
  case round =>
    clear hM hS hE hZ hb
    obtain ⟨k, cur, hk, rfl, hb, hZ, hE, hM, hS, hf, hc⟩ := hrel
    have Hc := Lib.hid hc
    have Hf := Lib.hid hf
    clear hc hf
    by_cases hlt : k < 3
    · go_wp2_with fail
      (refine wp_region_lr_tail 9 (GV 1000000) (by kernel_rfl) (by kernel_rfl) ?_; simp only [List.take_succ_cons, List.take_zero, List.drop_succ_cons, List.drop_zero])
      (refine wpLR_plain rfl (fun K hK w1 hw1 => ?_); go_simp; refine ⟨R.refl _, hK _ _ ?_⟩; clear hK K)
      (refine wpLR_plain rfl (fun K hK w1 hw1 => ?_); go_simp; refine ⟨R.refl _, hK _ _ ?_⟩; clear hK K)
      (refine wpLR_plain rfl (fun K hK w1 hw1 => ?_); go_simp; refine ⟨R.refl _, hK _ _ ?_⟩; clear hK K)
      (refine wpLR_plain rfl (fun K hK w1 hw1 => lrUpon_part rfl (Blk.below hE hw1 hE.lt) (k * 16) 16 rfl (by first | decide | omega) Try.underlying26 rfl (by kernel_rfl) (fun N => hK _ _ ?_)); clear hK K)
      (refine wpLR_plain rfl (fun K hK w1 hw1 => lrUpon_load rfl _ rfl _ _ _ _ (Blk.below hM hw1 hM.lt) Try.underlying26 rfl (by kernel_rfl) (fun N => hK _ _ ?_)); clear hK K)
      (refine wpLR_plain rfl (fun K hK w1 hw1 => ?_); go_simp; refine ⟨R.refl _, (l01Dot_any _ _ _).mono ?_, fun u hu => hK _ _ ?_⟩; (rintro e w' ⟨r, rfl, hr, hb⟩; exact ⟨_, rfl, GV.mk2 (by decide) hr, hb⟩); clear hK K; obtain ⟨r2, rfl, H2⟩ := GV.inv2 (by decide) hu; clear hu)
      (refine wpLR_plain rfl (fun K hK w1 hw1 => ?_); go_simp; refine ⟨R.refl _, hK _ _ ?_⟩; clear hK K)
      (refine wpLR_plain rfl (fun K hK w1 hw1 => ?_); go_simp; refine ⟨bDrew (R.refl _) _, hK _ _ ?_⟩; clear hK K)
      (refine wpLR_plain rfl (fun K hK w1 hw1 => ?_); go_simp; refine ⟨R.refl _, hK _ _ ?_⟩; clear hK K)
      refine wpLR_nil ?_
      intro W1 hW1 hS1
      clear hS1
      have hZ := hZ.below hW1 hZ.lt
      have hE := hE.below hW1 hE.lt
      have hM := hM.below hW1 hM.lt
      have hS := hS.below hW1 hS.lt
      have hb := bCall hb hW1 hb.size
      have HS : Hid (∀ w', canon .f32 (fval .quo .f32 r2 d w') = seenAt (fun i => canon .f32 (l i)) (fun i => canon .f32 (c i)) k) := Lib.hid (by
        intro w'
        have hd : canon .f32 d = dotOf (fun i => canon .f32 (rowAt o 16 i)) fun i => canon .f32 (l i) := Hd.out
        rw [c_div, H2.out, hd]
        unfold seenAt
        rw [dot_congr (p := fun i => canon .f32 (rowAt o (k * 16) i)) (p' := fun i => obsAt (k * 16 + i)) (q := fun i => canon .f32 (r1 i)) (q' := fun i => fmul (canon .f32 (l i)) (canon .f32 (c i))) (fun i hi => Ho.out _ (by omega)) H1.out,
          dot_congr (p := fun i => canon .f32 (rowAt o 16 i)) (p' := fun i => obsAt (16 + i)) (q := fun i => canon .f32 (l i)) (q' := fun i => canon .f32 (l i)) (fun i hi => Ho.out _ (by omega)) (fun _ _ => rfl)])
      have c2 := (hS.cell k).trans (get_fA_lt cur hlt)
      have f1 := hS.frozen k
      clear H2
      go_wp2_with fail
      refine (l01Finite_any _ _).mono ?_
      rintro e w4 ⟨rfl, n, rfl⟩
      rw [HS.out]
      cases h0 : fin (seenAt (fun i => canon .f32 (l i)) (fun i => canon .f32 (c i)) k) with
      | false =>
        have Hm : Hid ((seenRes (fun i => canon .f32 (l i)) fun i => canon .f32 (c i)) = (fun _ => canon .f32 0, 4)) := Lib.hid (by
          have hq : (allTo 3 fun j => fin (seenAt (fun i => canon .f32 (l i)) (fun i => canon .f32 (c i)) j)) = false := allTo_false hlt h0
          simp only [seenRes, hq, Bool.false_eq_true, if_false])
        clear h0 c2 f1
        have hne : w.heap.size + 1 + 1 ≠ (⟨w3.heap.size + 1, k, none⟩ : Addr).block := by dsimp only; omega
        go_wp2_with (first | (refine wpList_build_as rfl 38 _ rfl (fA 3 fun _ => 0) (by kernel_rfl) ?_) | (refine wpList_store_row rfl 38 _ _ rfl _ _ rfl rfl _ _ (Blk.drewN (Blk.far hZ hne _) n) (by kernel_rfl) (by simp only [size_fA]) (all_fA _ _) ?_)); exact bodyPost_ret (results_cell_row2 rfl _ _ (w.heap.size + 1 + 1) _ _ _ _ rfl (Blk.drewN (Blk.far hZ hne _) n).setRow Try.underlying38 rfl (by kernel_rfl)) rfl (RetCC.as Hm.out ⟨_, rfl, fun _ _ => rfl, (by repeat (first | assumption | exact Below.refl _ _ | refine bDrew ?_ _ | refine Below.alloc ?_ (by first | omega | (simp; done) | (simp; omega)) _ | refine Below.setCell ?_ (by first | omega | (simp; done) | (simp; omega)) _ | refine bRow ?_ (by first | omega | (simp; done) | (simp; omega)) _))⟩)
      | true =>
        have Hq := Lib.hid h0
        clear h0
        go_wp2
        go_roundw
        case rel =>
          refine ⟨k + 1, _, by omega, by go_num, bDrew (hb.setCell (by dsimp only; omega) _) _, Blk.drewN (Blk.far hZ (by dsimp only; omega) _) _, Blk.drewN (Blk.far hE (by dsimp only; omega) _) _, Blk.drewN (Blk.far hM (by dsimp only; omega) _) _, Blk.drewN (Blk.setF hS k _) _, ?_, upd_to (Q := fun j v => canon .f32 v = seenAt (fun i => canon .f32 (l i)) (fun i => canon .f32 (c i)) j) Hc.out (HS.out _)⟩
          intro j hj
          by_cases e : j = k
          · subst e; exact Hq.out
          · exact Hf.out j (by omega)
        case measure => simp [intOf]; omega
    · obtain rfl : k = 3 := by omega
      have Hm : Hid ((seenRes (fun i => canon .f32 (l i)) fun i => canon .f32 (c i)) = (seenAt (fun i => canon .f32 (l i)) fun i => canon .f32 (c i), 0)) := Lib.hid (by
        have hq : (allTo 3 fun j => fin (seenAt (fun i => canon .f32 (l i)) (fun i => canon .f32 (c i)) j)) = true := allTo_true Hf.out
        simp only [seenRes, hq, if_true])
      clear hE hM
      go_wp2_with (first | (refine wpList_load_row rfl 38 _ rfl _ rfl _ _ (0, 0) _ hS Try.underlying38 rfl (by kernel_rfl) ?_) | (refine wpList_store_row rfl 38 _ _ rfl _ _ rfl rfl _ _ hZ (by kernel_rfl) (by simp only [size_fA]) (all_fA _ _) ?_))
      exact bodyPost_ret (results_cell_row2 rfl _ _ (w.heap.size + 1 + 1) _ _ _ _ rfl hZ.setRow Try.underlying38 rfl (by kernel_rfl)) rfl (RetCC.as Hm.out ⟨cur, rfl, Hc.out, (by repeat (first | assumption | exact Below.refl _ _ | refine bDrew ?_ _ | refine Below.alloc ?_ (by first | omega | (simp; done) | (simp; omega)) _ | refine Below.setCell ?_ (by first | omega | (simp; done) | (simp; omega)) _ | refine bRow ?_ (by first | omega | (simp; done) | (simp; omega)) _))⟩)
theorem sSeenUnder_any (l c : Nat → Nat) (w : World) : Calls Try.prog 19 #[.agg (fA 16 l), .agg (fA 16 c)] w (RetCC 3 w (seenRes (fun i => canon .f32 (l i)) fun i => canon .f32 (c i)).1 (seenRes (fun i => canon .f32 (l i)) fun i => canon .f32 (c i)).2) := by
  have hL : Blk (((w.alloc (.cells (fA 16 l) 26)).alloc (.cells (fA 16 c) 26)).alloc (.cells (fA 3 fun _ => 0) 38)) w.heap.size 26 (fA 16 l) := ((Blk.new _ _ _).alloc _).alloc _
  have hC : Blk (((w.alloc (.cells (fA 16 l) 26)).alloc (.cells (fA 16 c) 26)).alloc (.cells (fA 3 fun _ => 0) 38)) (w.heap.size + 1) 26 (fA 16 c) := (Blk.new_at _ _ (by simp) rfl).alloc _
  have hZ : Blk (((w.alloc (.cells (fA 16 l) 26)).alloc (.cells (fA 16 c) 26)).alloc (.cells (fA 3 fun _ => 0) 38)) (w.heap.size + 1 + 1) 38 (fA 3 fun _ => 0) := Blk.new_at _ _ (by simp) rfl
  have hb : Below w.heap.size w (((w.alloc (.cells (fA 16 l) 26)).alloc (.cells (fA 16 c) 26)).alloc (.cells (fA 3 fun _ => 0) 38)) := (by repeat (first | assumption | exact Below.refl _ _ | refine bDrew ?_ _ | refine Below.alloc ?_ (by first | omega | (simp; done) | (simp; omega)) _ | refine Below.setCell ?_ (by first | omega | (simp; done) | (simp; omega)) _ | refine bRow ?_ (by first | omega | (simp; done) | (simp; omega)) _))
  go_enter Try.func19, Try.ntmps19
  go_wp2_with (first | (refine wpList_load_row rfl 26 _ rfl _ rfl _ _ (0, 0) _ hL Try.underlying26 rfl (by kernel_rfl) ?_) | (refine wpList_load_row rfl 26 _ rfl _ rfl _ _ (0, 0) _ hC Try.underlying26 rfl (by kernel_rfl) ?_))
  refine (l01Seen_any l c _).mono ?_
  rintro e w4 ⟨q, rfl, hq, hb1⟩
  have hZ := hZ.below hb1 hZ.lt
  have hb := bCall hb hb1 hb.size
  have Hq := Lib.hid hq
  clear hq hb1 hL hC
  go_wp2_with (refine wpList_store_row rfl 38 _ _ rfl _ _ rfl rfl _ _ hZ (by kernel_rfl) (by simp only [size_fA]) (all_fA _ _) ?_)
  exact bodyPost_ret (results_cell_row2 rfl _ _ (w.heap.size + 1 + 1) _ _ _ _ rfl hZ.setRow Try.underlying38 rfl (by kernel_rfl)) rfl ⟨q, rfl, Hq.out, (by repeat (first | assumption | exact Below.refl _ _ | refine bDrew ?_ _ | refine Below.alloc ?_ (by first | omega | (simp; done) | (simp; omega)) _ | refine Below.setCell ?_ (by first | omega | (simp; done) | (simp; omega)) _ | refine bRow ?_ (by first | omega | (simp; done) | (simp; omega)) _))⟩
end Go.Proofs.Ytmikeegecifbfaa
