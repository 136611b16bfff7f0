/- Contracts: turned films, layers out of curves, sums of products. -/
import Derived.Test.YtmgpfleoehldkaaCQ
namespace Go.Proofs.Ytmgpfleoehldkaa
open Go.RowKit

theorem RetCC.as {n : Nat} {w : World} {p : Nat → Option Nat} {c : Int} {q : (Nat → Option Nat) × Int} {e : Ending} {w' : World} (h : q = (p, c)) (hr : RetCC n w p c e w') : RetCC n w q.1 q.2 e w' := by subst h; exact hr

theorem sTurnFilm_any (f : Nat → Nat) (w : World) : Calls Try.prog 40 #[.agg (fA 48 f)] w (RetCC 48 w (turnRes f).1 (turnRes f).2) := by
  have hA : Blk ((w.alloc (.cells (fA 48 f) 31)).alloc (.cells (fA 48 fun _ => 0) 31)) w.heap.size 31 (fA 48 f) := (Blk.new _ _ _).alloc _
  have hZ : Blk ((w.alloc (.cells (fA 48 f) 31)).alloc (.cells (fA 48 fun _ => 0) 31)) (w.heap.size + 1) 31 (fA 48 fun _ => 0) := Blk.new_at _ _ (by simp) rfl
  have hb : Below w.heap.size w ((w.alloc (.cells (fA 48 f) 31)).alloc (.cells (fA 48 fun _ => 0) 31)) := (by repeat (first | assumption | exact Below.refl _ _ | refine bDrew ?_ _ | refine Below.alloc ?_ (by first | omega | (simp; done) | (simp; omega)) _ | refine Below.setCell ?_ (by first | omega | (simp; done) | (simp; omega)) _ | refine bRow ?_ (by first | omega | (simp; done) | (simp; omega)) _))
  go_enter Try.func40, Try.ntmps40
  go_wp2_with fail
  refine (l02Film_any _ _ f ((w.alloc (.cells (fA 48 f) 31)).alloc (.cells (fA 48 fun _ => 0) 31)) hA).mono ?_
  rintro e w1 ⟨rfl, hb1⟩
  have hA := hA.below hb1 hA.lt
  have hZ := hZ.below hb1 hZ.lt
  have hb := bCall hb hb1 hb.size
  clear hb1
  cases hs : filmOk f with
  | false =>
    have hm : turnRes f = (fun _ => canon .f32 0, 1) := by unfold turnRes; rw [hs]; rfl
    have Hm := Lib.hid hm
    clear hm hs
    go_wp2_with (first | (refine wpList_build_as rfl 31 _ rfl (fA 48 fun _ => 0) (by kernel_rfl) ?_) | (refine wpList_store_row rfl 31 _ _ rfl _ _ rfl rfl _ _ hZ (by kernel_rfl) (by simp only [size_fA]) (all_fA _ _) ?_))
    exact bodyPost_ret (results_cell_row2 rfl _ _ (w.heap.size + 1) _ _ _ _ rfl hZ.setRow Try.underlying31 rfl (by kernel_rfl)) rfl (RetCC.as Hm.out ⟨_, rfl, fun _ _ => rfl, (by repeat (first | assumption | exact Below.refl _ _ | refine bDrew ?_ _ | refine Below.alloc ?_ (by first | omega | (simp; done) | (simp; omega)) _ | refine Below.setCell ?_ (by first | omega | (simp; done) | (simp; omega)) _ | refine bRow ?_ (by first | omega | (simp; done) | (simp; omega)) _))⟩)
  | true =>
    have hm : turnRes f = (fun i => canon .f32 (film3 (rowAt f 16) (rowAt f 0) (rowAt f 32) i), 0) := by unfold turnRes; rw [hs]; rfl
    have Hm := Lib.hid hm
    clear hm hs
    go_wp2_with (first | (refine wpList_load_part rfl 25 _ rfl 16 16 hA rfl (by decide) Try.underlying25 rfl (by kernel_rfl) ?_) | (refine wpList_load_part rfl 25 _ rfl 0 16 hA rfl (by decide) Try.underlying25 rfl (by kernel_rfl) ?_) | (refine wpList_load_part rfl 25 _ rfl 32 16 hA rfl (by decide) Try.underlying25 rfl (by kernel_rfl) ?_) | (refine wpList_build_as rfl 31 _ rfl (fA 48 (film3 (rowAt f 16) (rowAt f 0) (rowAt f 32))) (by kernel_rfl) ?_) | (refine wpList_store_row rfl 31 _ _ rfl _ _ rfl rfl _ _ hZ (by kernel_rfl) (by simp only [size_fA]) (all_fA _ _) ?_))
    exact bodyPost_ret (results_cell_row2 rfl _ _ (w.heap.size + 1) _ _ _ _ rfl hZ.setRow Try.underlying31 rfl (by kernel_rfl)) rfl (RetCC.as Hm.out ⟨_, rfl, fun _ _ => rfl, (by repeat (first | assumption | exact Below.refl _ _ | refine bDrew ?_ _ | refine Below.alloc ?_ (by first | omega | (simp; done) | (simp; omega)) _ | refine Below.setCell ?_ (by first | omega | (simp; done) | (simp; omega)) _ | refine bRow ?_ (by first | omega | (simp; done) | (simp; omega)) _))⟩)
theorem iTurnFilm_any (f : Nat → Nat) (w : World) : Calls Try.prog 41 #[.agg (fA 48 f)] w (RetCC 48 w (turnRes f).1 (turnRes f).2) := by
  have hA : Blk ((w.alloc (.cells (fA 48 f) 31)).alloc (.cells (fA 48 fun _ => 0) 31)) w.heap.size 31 (fA 48 f) := (Blk.new _ _ _).alloc _
  have hZ : Blk ((w.alloc (.cells (fA 48 f) 31)).alloc (.cells (fA 48 fun _ => 0) 31)) (w.heap.size + 1) 31 (fA 48 fun _ => 0) := Blk.new_at _ _ (by simp) rfl
  have hb : Below w.heap.size w ((w.alloc (.cells (fA 48 f) 31)).alloc (.cells (fA 48 fun _ => 0) 31)) := (by repeat (first | assumption | exact Below.refl _ _ | refine bDrew ?_ _ | refine Below.alloc ?_ (by first | omega | (simp; done) | (simp; omega)) _ | refine Below.setCell ?_ (by first | omega | (simp; done) | (simp; omega)) _ | refine bRow ?_ (by first | omega | (simp; done) | (simp; omega)) _))
  go_enter Try.func41, Try.ntmps41
  go_wp2_with (refine wpList_load_row rfl 31 _ rfl _ rfl _ _ (0, 0) _ hA Try.underlying31 rfl (by kernel_rfl) ?_)
  refine (iValidFilm_any f ((w.alloc (.cells (fA 48 f) 31)).alloc (.cells (fA 48 fun _ => 0) 31))).mono ?_
  rintro e w1 ⟨rfl, hb1⟩
  have hA := hA.below hb1 hA.lt
  have hZ := hZ.below hb1 hZ.lt
  have hb := bCall hb hb1 hb.size
  clear hb1
  cases hs : filmOk f with
  | false =>
    have hm : turnRes f = (fun _ => canon .f32 0, 1) := by unfold turnRes; rw [hs]; rfl
    have Hm := Lib.hid hm
    clear hm hs
    go_wp2_with (first | (refine wpList_build_as rfl 31 _ rfl (fA 48 fun _ => 0) (by kernel_rfl) ?_) | (refine wpList_store_row rfl 31 _ _ rfl _ _ rfl rfl _ _ hZ (by kernel_rfl) (by simp only [size_fA]) (all_fA _ _) ?_))
    exact bodyPost_ret (results_cell_row2 rfl _ _ (w.heap.size + 1) _ _ _ _ rfl hZ.setRow Try.underlying31 rfl (by kernel_rfl)) rfl (RetCC.as Hm.out ⟨_, rfl, fun _ _ => rfl, (by repeat (first | assumption | exact Below.refl _ _ | refine bDrew ?_ _ | refine Below.alloc ?_ (by first | omega | (simp; done) | (simp; omega)) _ | refine Below.setCell ?_ (by first | omega | (simp; done) | (simp; omega)) _ | refine bRow ?_ (by first | omega | (simp; done) | (simp; omega)) _))⟩)
  | true =>
    have hm : turnRes f = (fun i => canon .f32 (film3 (rowAt f 16) (rowAt f 0) (rowAt f 32) i), 0) := by unfold turnRes; rw [hs]; rfl
    have Hm := Lib.hid hm
    clear hm hs
    go_wp2_with (first | (refine wpList_load_part rfl 25 _ rfl 16 16 hA rfl (by decide) Try.underlying25 rfl (by kernel_rfl) ?_) | (refine wpList_load_part rfl 25 _ rfl 0 16 hA rfl (by decide) Try.underlying25 rfl (by kernel_rfl) ?_) | (refine wpList_load_part rfl 25 _ rfl 32 16 hA rfl (by decide) Try.underlying25 rfl (by kernel_rfl) ?_) | (refine wpList_build_as rfl 31 _ rfl (fA 48 (film3 (rowAt f 16) (rowAt f 0) (rowAt f 32))) (by kernel_rfl) ?_) | (refine wpList_store_row rfl 31 _ _ rfl _ _ rfl rfl _ _ hZ (by kernel_rfl) (by simp only [size_fA]) (all_fA _ _) ?_))
    exact bodyPost_ret (results_cell_row2 rfl _ _ (w.heap.size + 1) _ _ _ _ rfl hZ.setRow Try.underlying31 rfl (by kernel_rfl)) rfl (RetCC.as Hm.out ⟨_, rfl, fun _ _ => rfl, (by repeat (first | assumption | exact Below.refl _ _ | refine bDrew ?_ _ | refine Below.alloc ?_ (by first | omega | (simp; done) | (simp; omega)) _ | refine Below.setCell ?_ (by first | omega | (simp; done) | (simp; omega)) _ | refine bRow ?_ (by first | omega | (simp; done) | (simp; omega)) _))⟩)
theorem sLayerOf_any (k s : Nat → Nat) (x : Nat) (w : World) : Calls Try.prog 42 #[.agg (fA 16 k), .agg (fA 16 s), .float .f32 x] w (RetCC 33 w (layerRes k s x).1 (layerRes k s x).2) := by
  have hK : Blk (((w.alloc (.cells (fA 16 k) 25)).alloc (.cells (fA 16 s) 25)).alloc (.cells (fA 33 fun _ => 0) 46)) w.heap.size 25 (fA 16 k) := ((Blk.new _ _ _).alloc _).alloc _
  have hS : Blk (((w.alloc (.cells (fA 16 k) 25)).alloc (.cells (fA 16 s) 25)).alloc (.cells (fA 33 fun _ => 0) 46)) (w.heap.size + 1) 25 (fA 16 s) := (Blk.new_at _ _ (by simp) rfl).alloc _
  have hZ0 : Blk ((((w.alloc (.cells (fA 16 k) 25)).alloc (.cells (fA 16 s) 25)).alloc (.cells (fA 33 fun _ => 0) 46)).alloc (.cells (fA 33 fun _ => 0) 46)) (w.heap.size + 1 + 1) 46 (fA 33 fun _ => 0) := (Blk.new_at _ _ (by simp) rfl).alloc _
  have hX0 : Blk ((((w.alloc (.cells (fA 16 k) 25)).alloc (.cells (fA 16 s) 25)).alloc (.cells (fA 33 fun _ => 0) 46)).alloc (.cells (fA 33 fun _ => 0) 46)) (w.heap.size + 1 + 1 + 1) 46 (fA 33 fun _ => 0) := Blk.new_at _ _ (by simp) rfl
  have hZ : Blk (((((w.alloc (.cells (fA 16 k) 25)).alloc (.cells (fA 16 s) 25)).alloc (.cells (fA 33 fun _ => 0) 46)).alloc (.cells (fA 33 fun _ => 0) 46)).setRow (w.heap.size + 1 + 1 + 1) (fA 33 (layer3 k s x))) (w.heap.size + 1 + 1) 46 (fA 33 fun _ => 0) := hZ0.farRow (by omega)
  have hX : Blk (((((w.alloc (.cells (fA 16 k) 25)).alloc (.cells (fA 16 s) 25)).alloc (.cells (fA 33 fun _ => 0) 46)).alloc (.cells (fA 33 fun _ => 0) 46)).setRow (w.heap.size + 1 + 1 + 1) (fA 33 (layer3 k s x))) (w.heap.size + 1 + 1 + 1) 46 (fA 33 (layer3 k s x)) := hX0.setRow
  have hb : Below w.heap.size w (((((w.alloc (.cells (fA 16 k) 25)).alloc (.cells (fA 16 s) 25)).alloc (.cells (fA 33 fun _ => 0) 46)).alloc (.cells (fA 33 fun _ => 0) 46)).setRow (w.heap.size + 1 + 1 + 1) (fA 33 (layer3 k s x))) := (by repeat (first | assumption | exact Below.refl _ _ | refine bDrew ?_ _ | refine Below.alloc ?_ (by first | omega | (simp; done) | (simp; omega)) _ | refine Below.setCell ?_ (by first | omega | (simp; done) | (simp; omega)) _ | refine bRow ?_ (by first | omega | (simp; done) | (simp; omega)) _))
  go_enter Try.func42, Try.ntmps42
  go_wp2_with (first | (refine wpList_load_row rfl 25 _ rfl _ rfl _ _ (0, 0) _ hK Try.underlying25 rfl (by kernel_rfl) ?_) | (refine wpList_load_row rfl 25 _ rfl _ rfl _ _ (0, 0) _ hS Try.underlying25 rfl (by kernel_rfl) ?_) | (refine wpList_build_as rfl 46 _ rfl (fA 33 (layer3 k s x)) (by kernel_rfl) ?_) | (refine wpList_store_row rfl 46 _ _ rfl _ _ rfl rfl _ _ hX0 (by kernel_rfl) (by simp only [size_fA]) (all_fA _ _) ?_))
  refine (l02Ok_any _ _ (layer3 k s x) (((((w.alloc (.cells (fA 16 k) 25)).alloc (.cells (fA 16 s) 25)).alloc (.cells (fA 33 fun _ => 0) 46)).alloc (.cells (fA 33 fun _ => 0) 46)).setRow (w.heap.size + 1 + 1 + 1) (fA 33 (layer3 k s x))) hX).mono ?_
  rintro e w1 ⟨rfl, hb1⟩
  have hZ := hZ.below hb1 hZ.lt
  have hX := hX.below hb1 hX.lt
  have hb := bCall hb hb1 hb.size
  clear hb1 hK hS hZ0 hX0
  cases hs : layerOk (layer3 k s x) with
  | false =>
    have hm : layerRes k s x = (fun _ => canon .f32 0, 1) := by unfold layerRes; rw [hs]; rfl
    have Hm := Lib.hid hm
    clear hm hs
    go_wp2_with (first | (refine wpList_build_as rfl 46 _ rfl (fA 33 fun _ => 0) (by kernel_rfl) ?_) | (refine wpList_store_row rfl 46 _ _ rfl _ _ rfl rfl _ _ hZ (by kernel_rfl) (by simp only [size_fA]) (all_fA _ _) ?_))
    exact bodyPost_ret (results_cell_row2 rfl _ _ (w.heap.size + 1 + 1) _ _ _ _ rfl hZ.setRow Try.underlying46 rfl (by kernel_rfl)) rfl (RetCC.as Hm.out ⟨_, rfl, fun _ _ => rfl, (by repeat (first | assumption | exact Below.refl _ _ | refine bDrew ?_ _ | refine Below.alloc ?_ (by first | omega | (simp; done) | (simp; omega)) _ | refine Below.setCell ?_ (by first | omega | (simp; done) | (simp; omega)) _ | refine bRow ?_ (by first | omega | (simp; done) | (simp; omega)) _))⟩)
  | true =>
    have hm : layerRes k s x = (fun i => canon .f32 (layer3 k s x i), 0) := by unfold layerRes; rw [hs]; rfl
    have Hm := Lib.hid hm
    clear hm hs
    go_wp2_with (first | (refine wpList_load_row rfl 46 _ rfl _ rfl _ _ (0, 0) _ hX Try.underlying46 rfl (by kernel_rfl) ?_) | (refine wpList_store_row rfl 46 _ _ rfl _ _ rfl rfl _ _ hZ (by kernel_rfl) (by simp only [size_fA]) (all_fA _ _) ?_))
    exact bodyPost_ret (results_cell_row2 rfl _ _ (w.heap.size + 1 + 1) _ _ _ _ rfl hZ.setRow Try.underlying46 rfl (by kernel_rfl)) rfl (RetCC.as Hm.out ⟨_, rfl, fun _ _ => rfl, (by repeat (first | assumption | exact Below.refl _ _ | refine bDrew ?_ _ | refine Below.alloc ?_ (by first | omega | (simp; done) | (simp; omega)) _ | refine Below.setCell ?_ (by first | omega | (simp; done) | (simp; omega)) _ | refine bRow ?_ (by first | omega | (simp; done) | (simp; omega)) _))⟩)
theorem iLayerOf_any (k s : Nat → Nat) (x : Nat) (w : World) : Calls Try.prog 43 #[.agg (fA 16 k), .agg (fA 16 s), .float .f32 x] w (RetCC 33 w (layerRes k s x).1 (layerRes k s x).2) := by
  have hK : Blk (((w.alloc (.cells (fA 16 k) 25)).alloc (.cells (fA 16 s) 25)).alloc (.cells (fA 33 fun _ => 0) 46)) w.heap.size 25 (fA 16 k) := ((Blk.new _ _ _).alloc _).alloc _
  have hS : Blk (((w.alloc (.cells (fA 16 k) 25)).alloc (.cells (fA 16 s) 25)).alloc (.cells (fA 33 fun _ => 0) 46)) (w.heap.size + 1) 25 (fA 16 s) := (Blk.new_at _ _ (by simp) rfl).alloc _
  have hZ0 : Blk ((((w.alloc (.cells (fA 16 k) 25)).alloc (.cells (fA 16 s) 25)).alloc (.cells (fA 33 fun _ => 0) 46)).alloc (.cells (fA 33 fun _ => 0) 46)) (w.heap.size + 1 + 1) 46 (fA 33 fun _ => 0) := (Blk.new_at _ _ (by simp) rfl).alloc _
  have hX0 : Blk ((((w.alloc (.cells (fA 16 k) 25)).alloc (.cells (fA 16 s) 25)).alloc (.cells (fA 33 fun _ => 0) 46)).alloc (.cells (fA 33 fun _ => 0) 46)) (w.heap.size + 1 + 1 + 1) 46 (fA 33 fun _ => 0) := Blk.new_at _ _ (by simp) rfl
  have hZ : Blk (((((w.alloc (.cells (fA 16 k) 25)).alloc (.cells (fA 16 s) 25)).alloc (.cells (fA 33 fun _ => 0) 46)).alloc (.cells (fA 33 fun _ => 0) 46)).setRow (w.heap.size + 1 + 1 + 1) (fA 33 (layer3 k s x))) (w.heap.size + 1 + 1) 46 (fA 33 fun _ => 0) := hZ0.farRow (by omega)
  have hX : Blk (((((w.alloc (.cells (fA 16 k) 25)).alloc (.cells (fA 16 s) 25)).alloc (.cells (fA 33 fun _ => 0) 46)).alloc (.cells (fA 33 fun _ => 0) 46)).setRow (w.heap.size + 1 + 1 + 1) (fA 33 (layer3 k s x))) (w.heap.size + 1 + 1 + 1) 46 (fA 33 (layer3 k s x)) := hX0.setRow
  have hb : Below w.heap.size w (((((w.alloc (.cells (fA 16 k) 25)).alloc (.cells (fA 16 s) 25)).alloc (.cells (fA 33 fun _ => 0) 46)).alloc (.cells (fA 33 fun _ => 0) 46)).setRow (w.heap.size + 1 + 1 + 1) (fA 33 (layer3 k s x))) := (by repeat (first | assumption | exact Below.refl _ _ | refine bDrew ?_ _ | refine Below.alloc ?_ (by first | omega | (simp; done) | (simp; omega)) _ | refine Below.setCell ?_ (by first | omega | (simp; done) | (simp; omega)) _ | refine bRow ?_ (by first | omega | (simp; done) | (simp; omega)) _))
  go_enter Try.func43, Try.ntmps43
  go_wp2_with (first | (refine wpList_load_row rfl 25 _ rfl _ rfl _ _ (0, 0) _ hK Try.underlying25 rfl (by kernel_rfl) ?_) | (refine wpList_load_row rfl 25 _ rfl _ rfl _ _ (0, 0) _ hS Try.underlying25 rfl (by kernel_rfl) ?_) | (refine wpList_build_as rfl 46 _ rfl (fA 33 (layer3 k s x)) (by kernel_rfl) ?_) | (refine wpList_store_row rfl 46 _ _ rfl _ _ rfl rfl _ _ hX0 (by kernel_rfl) (by simp only [size_fA]) (all_fA _ _) ?_) | (refine wpList_load_row rfl 46 _ rfl _ rfl _ _ (0, 0) _ hX Try.underlying46 rfl (by kernel_rfl) ?_))
  refine (iValidLayer_any (layer3 k s x) (((((w.alloc (.cells (fA 16 k) 25)).alloc (.cells (fA 16 s) 25)).alloc (.cells (fA 33 fun _ => 0) 46)).alloc (.cells (fA 33 fun _ => 0) 46)).setRow (w.heap.size + 1 + 1 + 1) (fA 33 (layer3 k s x)))).mono ?_
  rintro e w1 ⟨rfl, hb1⟩
  have hZ := hZ.below hb1 hZ.lt
  have hX := hX.below hb1 hX.lt
  have hb := bCall hb hb1 hb.size
  clear hb1 hK hS hZ0 hX0
  cases hs : layerOk (layer3 k s x) with
  | false =>
    have hm : layerRes k s x = (fun _ => canon .f32 0, 1) := by unfold layerRes; rw [hs]; rfl
    have Hm := Lib.hid hm
    clear hm hs
    go_wp2_with (first | (refine wpList_build_as rfl 46 _ rfl (fA 33 fun _ => 0) (by kernel_rfl) ?_) | (refine wpList_store_row rfl 46 _ _ rfl _ _ rfl rfl _ _ hZ (by kernel_rfl) (by simp only [size_fA]) (all_fA _ _) ?_))
    exact bodyPost_ret (results_cell_row2 rfl _ _ (w.heap.size + 1 + 1) _ _ _ _ rfl hZ.setRow Try.underlying46 rfl (by kernel_rfl)) rfl (RetCC.as Hm.out ⟨_, rfl, fun _ _ => rfl, (by repeat (first | assumption | exact Below.refl _ _ | refine bDrew ?_ _ | refine Below.alloc ?_ (by first | omega | (simp; done) | (simp; omega)) _ | refine Below.setCell ?_ (by first | omega | (simp; done) | (simp; omega)) _ | refine bRow ?_ (by first | omega | (simp; done) | (simp; omega)) _))⟩)
  | true =>
    have hm : layerRes k s x = (fun i => canon .f32 (layer3 k s x i), 0) := by unfold layerRes; rw [hs]; rfl
    have Hm := Lib.hid hm
    clear hm hs
    go_wp2_with (first | (refine wpList_load_row rfl 46 _ rfl _ rfl _ _ (0, 0) _ hX Try.underlying46 rfl (by kernel_rfl) ?_) | (refine wpList_store_row rfl 46 _ _ rfl _ _ rfl rfl _ _ hZ (by kernel_rfl) (by simp only [size_fA]) (all_fA _ _) ?_))
    exact bodyPost_ret (results_cell_row2 rfl _ _ (w.heap.size + 1 + 1) _ _ _ _ rfl hZ.setRow Try.underlying46 rfl (by kernel_rfl)) rfl (RetCC.as Hm.out ⟨_, rfl, fun _ _ => rfl, (by repeat (first | assumption | exact Below.refl _ _ | refine bDrew ?_ _ | refine Below.alloc ?_ (by first | omega | (simp; done) | (simp; omega)) _ | refine Below.setCell ?_ (by first | omega | (simp; done) | (simp; omega)) _ | refine bRow ?_ (by first | omega | (simp; done) | (simp; omega)) _))⟩)
theorem l01Dot_any (c d : Nat → Nat) (w : World) : Calls Try.prog 45 #[.agg (fA 16 c), .agg (fA 16 d)] w (RetF w (fsumTo (fun i => fmul (canon .f32 (c i)) (canon .f32 (d i))) 16)) := by
  have hC : Blk ((w.alloc (.cells (fA 16 c) 25)).alloc (.cells (fA 16 d) 25)) w.heap.size 25 (fA 16 c) := (Blk.new _ _ _).alloc _
  have hD : Blk ((w.alloc (.cells (fA 16 c) 25)).alloc (.cells (fA 16 d) 25)) (w.heap.size + 1) 25 (fA 16 d) := Blk.new_at _ _ (by simp) rfl
  have c0 := (hC.cell 0).trans (get_fA_lt c (by omega))
  have d0 := (hD.cell 0).trans (get_fA_lt d (by omega))
  have hb : Below w.heap.size w ((w.alloc (.cells (fA 16 c) 25)).alloc (.cells (fA 16 d) 25)) := (by repeat (first | assumption | exact Below.refl _ _ | refine bDrew ?_ _ | refine Below.alloc ?_ (by first | omega | (simp; done) | (simp; omega)) _ | refine Below.setCell ?_ (by first | omega | (simp; done) | (simp; omega)) _ | refine bRow ?_ (by first | omega | (simp; done) | (simp; omega)) _))
  go_enter Try.func45, Try.ntmps45
  go_wp2
  go_loopw [5, 6] (fun s i wr => ∃ (k r : Nat), 1 ≤ k ∧ k ≤ 16 ∧ i = .int .i64 k ∧ s = .float .f32 r ∧ canon .f32 r = fsumTo (fun i => fmul (canon .f32 (c i)) (canon .f32 (d i))) k ∧ Below w.heap.size w wr ∧ Blk wr w.heap.size 25 (fA 16 c) ∧ Blk wr (w.heap.size + 1) 25 (fA 16 d)) (fun _ i _ => 16 - (intOf i).toNat)
  case atStart => exact ⟨1, _, by omega, by omega, rfl, rfl, c_mul .., bDrew hb _, Blk.drewN hC _, Blk.drewN hD _⟩
  case round =>
    clear c0 d0 hC hD hb
    obtain ⟨k, r, h1, hk, rfl, rfl, hr, hb, hC, hD⟩ := hrel
    have Hr := Lib.hid hr
    clear hr
    by_cases hlt : k < 16
    · have c1 := (hC.cell k).trans (get_fA_lt c hlt)
      have c2 := (hD.cell k).trans (get_fA_lt d hlt)
      have Hk : Hid (k - 1 + 1 = k) := by unfold Hid; omega
      go_wp2_with fail
      refine wp_region_loose_lit (fun w' => ∃ n, w' = wr.drewN n) (fun _ _ _ => False) (by kernel_rfl) (by kernel_rfl) ⟨1, rfl⟩ ?_
      repeat (refine wpLoose_plain rfl (fun K hK w1 hw1 => ?_); obtain ⟨n, rfl⟩ := hw1; go_simp; refine ⟨⟨_, rfl⟩, hK _ ?_⟩; clear hK K)
      (refine wpLoose_nil ?_; intro _ hw'; obtain ⟨nq, rfl⟩ := hw')
      go_wp2
      go_roundw
      case rel =>
        refine ⟨k + 1, _, by omega, by omega, by go_num, rfl, ?_, (by repeat (first | assumption | exact Below.refl _ _ | refine bDrew ?_ _ | refine Below.alloc ?_ (by first | omega | (simp; done) | (simp; omega)) _ | refine Below.setCell ?_ (by first | omega | (simp; done) | (simp; omega)) _ | refine bRow ?_ (by first | omega | (simp; done) | (simp; omega)) _)), Blk.drewN hC _, Blk.drewN hD _⟩
        rw [c_add, c_mul, Hr.out]
        have := Hk.out
        generalize k - 1 = q at this
        subst this
        rfl
      case measure => simp [intOf]; omega
    · obtain rfl : k = 16 := by omega
      go_wp2
      go_ret
      exact ⟨_, rfl, Hr.out, hb⟩
theorem sDotOfCurves_any (c d : Nat → Nat) (w : World) : Calls Try.prog 15 #[.agg (fA 16 c), .agg (fA 16 d)] w (RetF w (fsumTo (fun i => fmul (canon .f32 (c i)) (canon .f32 (d i))) 16)) := by
  have hC : Blk ((w.alloc (.cells (fA 16 c) 25)).alloc (.cells (fA 16 d) 25)) w.heap.size 25 (fA 16 c) := (Blk.new _ _ _).alloc _
  have hD : Blk ((w.alloc (.cells (fA 16 c) 25)).alloc (.cells (fA 16 d) 25)) (w.heap.size + 1) 25 (fA 16 d) := Blk.new_at _ _ (by simp) rfl
  have hb : Below w.heap.size w ((w.alloc (.cells (fA 16 c) 25)).alloc (.cells (fA 16 d) 25)) := (by repeat (first | assumption | exact Below.refl _ _ | refine bDrew ?_ _ | refine Below.alloc ?_ (by first | omega | (simp; done) | (simp; omega)) _ | refine Below.setCell ?_ (by first | omega | (simp; done) | (simp; omega)) _ | refine bRow ?_ (by first | omega | (simp; done) | (simp; omega)) _))
  go_enter Try.func15, Try.ntmps15
  go_wp2_with (first | (refine wpList_load_row rfl 25 _ rfl _ rfl _ _ (0, 0) _ hC Try.underlying25 rfl (by kernel_rfl) ?_) | (refine wpList_load_row rfl 25 _ rfl _ rfl _ _ (0, 0) _ hD Try.underlying25 rfl (by kernel_rfl) ?_))
  refine (l01Dot_any c d _).mono ?_
  rintro e w1 ⟨r, rfl, hr, hb1⟩
  have Hr := Lib.hid hr
  clear hr
  go_wp2
  go_ret
  exact ⟨_, rfl, Hr.out, bCall hb hb1 hb.size⟩
theorem fsumTo_congr {p q : Nat → Option Nat} : ∀ {n : Nat}, (∀ i, i < n → p i = q i) → fsumTo p n = fsumTo q n
  | 0, _ => rfl
  | 1, h => h 0 (by omega)
  | n + 2, h => by
    show fadd (fsumTo p (n + 1)) (p (n + 1)) = fadd (fsumTo q (n + 1)) (q (n + 1))
    rw [fsumTo_congr (n := n + 1) fun i hi => h i (by omega), h (n + 1) (by omega)]
theorem iDotOfCurves_any (c d : Nat → Nat) (w : World) : Calls Try.prog 17 #[.agg (fA 16 c), .agg (fA 16 d)] w (RetF w (fsumTo (fun i => fmul (canon .f32 (c i)) (canon .f32 (d i))) 16)) := by
  have hC : Blk ((w.alloc (.cells (fA 16 c) 25)).alloc (.cells (fA 16 d) 25)) w.heap.size 25 (fA 16 c) := (Blk.new _ _ _).alloc _
  have hD : Blk ((w.alloc (.cells (fA 16 c) 25)).alloc (.cells (fA 16 d) 25)) (w.heap.size + 1) 25 (fA 16 d) := Blk.new_at _ _ (by simp) rfl
  have hb : Below w.heap.size w ((w.alloc (.cells (fA 16 c) 25)).alloc (.cells (fA 16 d) 25)) := (by repeat (first | assumption | exact Below.refl _ _ | refine bDrew ?_ _ | refine Below.alloc ?_ (by first | omega | (simp; done) | (simp; omega)) _ | refine Below.setCell ?_ (by first | omega | (simp; done) | (simp; omega)) _ | refine bRow ?_ (by first | omega | (simp; done) | (simp; omega)) _))
  go_enter Try.func17, Try.ntmps17
  go_wp2_with (first | (refine wpList_load_row rfl 25 _ rfl _ rfl _ _ (0, 0) _ hC Try.underlying25 rfl (by kernel_rfl) ?_) | (refine wpList_load_row rfl 25 _ rfl _ rfl _ _ (0, 0) _ hD Try.underlying25 rfl (by kernel_rfl) ?_))
  refine (iMulCurves_any c d _).mono ?_
  rintro e w1 ⟨r, rfl, hr, hb1⟩
  have hb := bCall hb hb1 hb.size
  have Hr := Lib.hid hr
  clear hr hb1
  go_wp2_with fail
  refine (iSumOfCurve_any r w1).mono ?_
  rintro e w2 ⟨q, rfl, hq, hb1⟩
  have Hq := Lib.hid hq
  clear hq
  go_wp2
  go_ret
  exact ⟨_, rfl, Hq.out.trans (fsumTo_congr Hr.out), bCall hb hb1 hb.size⟩
end Go.Proofs.Ytmgpfleoehldkaa
