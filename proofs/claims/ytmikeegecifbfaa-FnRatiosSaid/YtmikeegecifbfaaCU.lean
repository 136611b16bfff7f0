/- Contracts: curves of ratios. -/
import Derived.Test.YtmikeegecifbfaaCT
namespace Go.Proofs.Ytmikeegecifbfaa
open Go.RowKit
set_option maxRecDepth 100000

theorem rowAt_zero (d : Nat → Nat) : rowAt d 0 = d := funext fun j => by simp [rowAt]

theorem iRatioCurve_any (c d : Nat → Nat) (w : World) : Calls Try.prog 9 #[.agg (fA 16 c), .agg (fA 16 d)] w (RetCC 16 w (ratioRes (fun i => canon .f32 (c i)) fun i => canon .f32 (d i)).1 (ratioRes (fun i => canon .f32 (c i)) fun i => canon .f32 (d i)).2) := by
  have hA : Blk (((w.alloc (.cells (fA 16 c) 26)).alloc (.cells (fA 16 d) 26)).alloc (.cells (fA 16 fun _ => 0) 26)) w.heap.size 26 (fA 16 c) := ((Blk.new _ _ _).alloc _).alloc _
  have hB : Blk (((w.alloc (.cells (fA 16 c) 26)).alloc (.cells (fA 16 d) 26)).alloc (.cells (fA 16 fun _ => 0) 26)) (w.heap.size + 1) 26 (fA 16 d) := (Blk.new_at _ _ (by simp) rfl).alloc _
  have hZ : Blk (((w.alloc (.cells (fA 16 c) 26)).alloc (.cells (fA 16 d) 26)).alloc (.cells (fA 16 fun _ => 0) 26)) (w.heap.size + 1 + 1) 26 (fA 16 fun _ => 0) := Blk.new_at _ _ (by simp) rfl
  have hb : Below w.heap.size w (((w.alloc (.cells (fA 16 c) 26)).alloc (.cells (fA 16 d) 26)).alloc (.cells (fA 16 fun _ => 0) 26)) := (by repeat (first | assumption | exact Below.refl _ _ | refine bDrew ?_ _ | refine Below.alloc ?_ (by first | omega | (simp; done) | (simp; omega)) _ | refine Below.setCell ?_ (by first | omega | (simp; done) | (simp; omega)) _ | refine bRow ?_ (by first | omega | (simp; done) | (simp; omega)) _))
  go_enter Try.func9, Try.ntmps9
  go_wp2_with (refine wpList_load_row rfl 26 _ rfl _ rfl _ _ (0, 0) _ hA Try.underlying26 rfl (by kernel_rfl) ?_)
  refine (all_any 35 amount c (((w.alloc (.cells (fA 16 c) 26)).alloc (.cells (fA 16 d) 26)).alloc (.cells (fA 16 fun _ => 0) 26)) (fun _ _ => by kernel_rfl) isAmount_any).mono ?_
  rintro e w1 ⟨rfl, hb1⟩
  have hA := hA.below hb1 hA.lt
  have hB := hB.below hb1 hB.lt
  have hZ := hZ.below hb1 hZ.lt
  have hb := bCall hb hb1 hb.size
  clear hb1
  cases h0 : (allTo 16 fun i => amount (canon .f32 (c i))) with
  | false =>
    have Hm : Hid ((ratioRes (fun i => canon .f32 (c i)) fun i => canon .f32 (d i)) = (fun _ => canon .f32 0, 2)) := Lib.hid (by unfold ratioRes; rw [h0]; rfl)
    clear h0
    go_wp2_with (first | (refine wpList_build_as rfl 26 _ rfl (fA 16 fun _ => 0) (by kernel_rfl) ?_) | (refine wpList_store_row rfl 26 _ _ rfl _ _ rfl rfl _ _ hZ (by kernel_rfl) (by simp only [size_fA]) (all_fA _ _) ?_))
    exact bodyPost_ret (results_cell_row2 rfl _ _ (w.heap.size + 1 + 1) _ _ _ _ rfl hZ.setRow Try.underlying26 rfl (by kernel_rfl)) rfl (RetCC.as Hm.out ⟨_, rfl, fun _ _ => rfl, (by repeat (first | assumption | exact Below.refl _ _ | refine bDrew ?_ _ | refine Below.alloc ?_ (by first | omega | (simp; done) | (simp; omega)) _ | refine Below.setCell ?_ (by first | omega | (simp; done) | (simp; omega)) _ | refine bRow ?_ (by first | omega | (simp; done) | (simp; omega)) _))⟩)
  | true =>
    have H0 := Lib.hid h0
    clear h0
    go_wp2_with (refine wpList_load_partW rfl 26 _ rfl 0 16 hB rfl (by decide) Try.underlying26 rfl (by kernel_rfl) ?_)
    rw [rowAt_zero]
    refine (all_any 35 amount d w1 (fun _ _ => by kernel_rfl) isAmount_any).mono ?_
    rintro e w2 ⟨rfl, hb1⟩
    have hA := hA.below hb1 hA.lt
    have hB := hB.below hb1 hB.lt
    have hZ := hZ.below hb1 hZ.lt
    have hb := bCall hb hb1 hb.size
    clear hb1
    cases h1 : (allTo 16 fun i => amount (canon .f32 (d i))) with
    | false =>
      have Hm : Hid ((ratioRes (fun i => canon .f32 (c i)) fun i => canon .f32 (d i)) = (fun _ => canon .f32 0, 2)) := Lib.hid (by unfold ratioRes; rw [h1, Bool.and_false]; rfl)
      clear h1
      go_wp2_with (first | (refine wpList_build_as rfl 26 _ rfl (fA 16 fun _ => 0) (by kernel_rfl) ?_) | (refine wpList_store_row rfl 26 _ _ rfl _ _ rfl rfl _ _ hZ (by kernel_rfl) (by simp only [size_fA]) (all_fA _ _) ?_))
      exact bodyPost_ret (results_cell_row2 rfl _ _ (w.heap.size + 1 + 1) _ _ _ _ rfl hZ.setRow Try.underlying26 rfl (by kernel_rfl)) rfl (RetCC.as Hm.out ⟨_, rfl, fun _ _ => rfl, (by repeat (first | assumption | exact Below.refl _ _ | refine bDrew ?_ _ | refine Below.alloc ?_ (by first | omega | (simp; done) | (simp; omega)) _ | refine Below.setCell ?_ (by first | omega | (simp; done) | (simp; omega)) _ | refine bRow ?_ (by first | omega | (simp; done) | (simp; omega)) _))⟩)
    | true =>
      have Hm : Hid ((ratioRes (fun i => canon .f32 (c i)) fun i => canon .f32 (d i)) = ((finRes fun i => ratioAt (canon .f32 (c i)) (canon .f32 (d i))).1, (finRes fun i => ratioAt (canon .f32 (c i)) (canon .f32 (d i))).2)) := Lib.hid (by have h0 := H0.out; unfold ratioRes; rw [h0, h1]; rfl)
      clear h1
      go_wp2_with (first | (refine wpList_load_row rfl 26 _ rfl _ rfl _ _ (0, 0) _ hA Try.underlying26 rfl (by kernel_rfl) ?_) | (refine wpList_load_row rfl 26 _ rfl _ rfl _ _ (0, 0) _ hB Try.underlying26 rfl (by kernel_rfl) ?_))
      refine (with_any 37 #[] ratioAt c d w2 (fun _ _ => by kernel_rfl) (fun x y w1 _ => (ratio_any x y w1).mono fun _ _ h => h.to)).mono ?_
      rintro e w3 ⟨r, rfl, hr, hb1⟩
      have hZ := hZ.below hb1 hZ.lt
      have hb := bCall hb hb1 hb.size
      have Hr := Lib.hid hr
      clear hr hb1
      go_wp2_with fail
      refine (finiteCurve_any r w3).mono ?_
      rintro e w4 ⟨q, rfl, hq, hb1⟩
      have hZ := hZ.below hb1 hZ.lt
      have hb := bCall hb hb1 hb.size
      have Hq := Lib.hid hq
      clear hq hb1
      go_wp2_with (refine wpList_store_row rfl 26 _ _ rfl _ _ rfl rfl _ _ hZ (by kernel_rfl) (by simp only [size_fA]) (all_fA _ _) ?_)
      exact bodyPost_ret (results_cell_row2 rfl _ _ (w.heap.size + 1 + 1) _ _ _ _ rfl hZ.setRow Try.underlying26 rfl (by kernel_rfl)) rfl (RetCC.as Hm.out (finRes_congr Hr.out ⟨q, rfl, Hq.out, (by repeat (first | assumption | exact Below.refl _ _ | refine bDrew ?_ _ | refine Below.alloc ?_ (by first | omega | (simp; done) | (simp; omega)) _ | refine Below.setCell ?_ (by first | omega | (simp; done) | (simp; omega)) _ | refine bRow ?_ (by first | omega | (simp; done) | (simp; omega)) _))⟩))
end Go.Proofs.Ytmikeegecifbfaa
