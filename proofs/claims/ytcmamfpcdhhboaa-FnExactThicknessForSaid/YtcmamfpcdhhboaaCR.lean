/- Contracts: turned films, layers out of curves, sums of products. -/
import Derived.Test.YtcmamfpcdhhboaaCQ
namespace Go.Proofs.Ytcmamfpcdhhboaa
open Go.RowKit
set_option maxRecDepth 100000

theorem RetCC.as {n : Nat} {w : World} {p : Nat → Option Nat} {c : Int} {q : (Nat → Option Nat) × Int} {e : Ending} {w' : World} (h : q = (p, c)) (hr : RetCC n w p c e w') : RetCC n w q.1 q.2 e w' := by subst h; exact hr

theorem iLayerOf_any (k s : Nat → Nat) (x : Nat) (w : World) : Calls Try.prog 72 #[.agg (fA 16 k), .agg (fA 16 s), .float .f32 x] w (RetCC 33 w (layerRes k s x).1 (layerRes k s x).2) := by
  have hK : Blk (((w.alloc (.cells (fA 16 k) 26)).alloc (.cells (fA 16 s) 26)).alloc (.cells (fA 33 fun _ => 0) 47)) w.heap.size 26 (fA 16 k) := ((Blk.new _ _ _).alloc _).alloc _
  have hS : Blk (((w.alloc (.cells (fA 16 k) 26)).alloc (.cells (fA 16 s) 26)).alloc (.cells (fA 33 fun _ => 0) 47)) (w.heap.size + 1) 26 (fA 16 s) := (Blk.new_at _ _ (by simp) rfl).alloc _
  have hZ0 : Blk ((((w.alloc (.cells (fA 16 k) 26)).alloc (.cells (fA 16 s) 26)).alloc (.cells (fA 33 fun _ => 0) 47)).alloc (.cells (fA 33 fun _ => 0) 47)) (w.heap.size + 1 + 1) 47 (fA 33 fun _ => 0) := (Blk.new_at _ _ (by simp) rfl).alloc _
  have hX0 : Blk ((((w.alloc (.cells (fA 16 k) 26)).alloc (.cells (fA 16 s) 26)).alloc (.cells (fA 33 fun _ => 0) 47)).alloc (.cells (fA 33 fun _ => 0) 47)) (w.heap.size + 1 + 1 + 1) 47 (fA 33 fun _ => 0) := Blk.new_at _ _ (by simp) rfl
  have hZ : Blk (((((w.alloc (.cells (fA 16 k) 26)).alloc (.cells (fA 16 s) 26)).alloc (.cells (fA 33 fun _ => 0) 47)).alloc (.cells (fA 33 fun _ => 0) 47)).setRow (w.heap.size + 1 + 1 + 1) (fA 33 (layer3 k s x))) (w.heap.size + 1 + 1) 47 (fA 33 fun _ => 0) := hZ0.farRow (by omega)
  have hX : Blk (((((w.alloc (.cells (fA 16 k) 26)).alloc (.cells (fA 16 s) 26)).alloc (.cells (fA 33 fun _ => 0) 47)).alloc (.cells (fA 33 fun _ => 0) 47)).setRow (w.heap.size + 1 + 1 + 1) (fA 33 (layer3 k s x))) (w.heap.size + 1 + 1 + 1) 47 (fA 33 (layer3 k s x)) := hX0.setRow
  have hb : Below w.heap.size w (((((w.alloc (.cells (fA 16 k) 26)).alloc (.cells (fA 16 s) 26)).alloc (.cells (fA 33 fun _ => 0) 47)).alloc (.cells (fA 33 fun _ => 0) 47)).setRow (w.heap.size + 1 + 1 + 1) (fA 33 (layer3 k s x))) := (by repeat (first | assumption | exact Below.refl _ _ | refine bDrew ?_ _ | refine Below.alloc ?_ (by first | omega | (simp; done) | (simp; omega)) _ | refine Below.setCell ?_ (by first | omega | (simp; done) | (simp; omega)) _ | refine bRow ?_ (by first | omega | (simp; done) | (simp; omega)) _))
  go_enter Try.func72, Try.ntmps72
  go_wp2_with (first | (refine wpList_load_row rfl 26 _ rfl _ rfl _ _ (0, 0) _ hK Try.underlying26 rfl (by kernel_rfl) ?_) | (refine wpList_load_row rfl 26 _ rfl _ rfl _ _ (0, 0) _ hS Try.underlying26 rfl (by kernel_rfl) ?_) | (refine wpList_build_as rfl 47 _ rfl (fA 33 (layer3 k s x)) (by kernel_rfl) ?_) | (refine wpList_store_row rfl 47 _ _ rfl _ _ rfl rfl _ _ hX0 (by kernel_rfl) (by simp only [size_fA]) (all_fA _ _) ?_) | (refine wpList_load_row rfl 47 _ rfl _ rfl _ _ (0, 0) _ hX Try.underlying47 rfl (by kernel_rfl) ?_))
  refine (iValidLayer_any (layer3 k s x) (((((w.alloc (.cells (fA 16 k) 26)).alloc (.cells (fA 16 s) 26)).alloc (.cells (fA 33 fun _ => 0) 47)).alloc (.cells (fA 33 fun _ => 0) 47)).setRow (w.heap.size + 1 + 1 + 1) (fA 33 (layer3 k s x)))).mono ?_
  rintro e w1 ⟨rfl, hb1⟩
  have hZ := hZ.below hb1 hZ.lt
  have hX := hX.below hb1 hX.lt
  have hb := bCall hb hb1 hb.size
  clear hb1 hK hS hZ0 hX0
  cases hs : layerOk (layer3 k s x) with
  | false =>
    have hm : layerRes k s x = (fun _ => canon .f32 0, 1) := by unfold layerRes; rw [hs]; rfl
    have Hm := Lib.hid hm
    clear hm hs
    go_wp2_with (first | (refine wpList_build_as rfl 47 _ rfl (fA 33 fun _ => 0) (by kernel_rfl) ?_) | (refine wpList_store_row rfl 47 _ _ rfl _ _ rfl rfl _ _ hZ (by kernel_rfl) (by simp only [size_fA]) (all_fA _ _) ?_))
    exact bodyPost_ret (results_cell_row2 rfl _ _ (w.heap.size + 1 + 1) _ _ _ _ rfl hZ.setRow Try.underlying47 rfl (by kernel_rfl)) rfl (RetCC.as Hm.out ⟨_, rfl, fun _ _ => rfl, (by repeat (first | assumption | exact Below.refl _ _ | refine bDrew ?_ _ | refine Below.alloc ?_ (by first | omega | (simp; done) | (simp; omega)) _ | refine Below.setCell ?_ (by first | omega | (simp; done) | (simp; omega)) _ | refine bRow ?_ (by first | omega | (simp; done) | (simp; omega)) _))⟩)
  | true =>
    have hm : layerRes k s x = (fun i => canon .f32 (layer3 k s x i), 0) := by unfold layerRes; rw [hs]; rfl
    have Hm := Lib.hid hm
    clear hm hs
    go_wp2_with (first | (refine wpList_load_row rfl 47 _ rfl _ rfl _ _ (0, 0) _ hX Try.underlying47 rfl (by kernel_rfl) ?_) | (refine wpList_store_row rfl 47 _ _ rfl _ _ rfl rfl _ _ hZ (by kernel_rfl) (by simp only [size_fA]) (all_fA _ _) ?_))
    exact bodyPost_ret (results_cell_row2 rfl _ _ (w.heap.size + 1 + 1) _ _ _ _ rfl hZ.setRow Try.underlying47 rfl (by kernel_rfl)) rfl (RetCC.as Hm.out ⟨_, rfl, fun _ _ => rfl, (by repeat (first | assumption | exact Below.refl _ _ | refine bDrew ?_ _ | refine Below.alloc ?_ (by first | omega | (simp; done) | (simp; omega)) _ | refine Below.setCell ?_ (by first | omega | (simp; done) | (simp; omega)) _ | refine bRow ?_ (by first | omega | (simp; done) | (simp; omega)) _))⟩)
end Go.Proofs.Ytcmamfpcdhhboaa
