/- Contracts: films and layers out of the laws' own types, and their comparison. -/
import Derived.Test.YtbdbeaebeedakaaDoorCA
import Derived.Test.YtbdbeaebeedakaaDoorSub
namespace Go.Proofs.YtbdbeaebeedakaaDoor
open Go.RowKit
set_option maxRecDepth 100000

theorem put3 (z a : Nat → Nat) : fA 48 (putAt (putAt (putAt z 0 16 (rowAt a 0)) 16 16 (rowAt a 16)) 32 16 (rowAt a 32)) = fA 48 a := by
  apply fA_congr
  intro i hi
  simp only [putAt, rowAt]
  split
  · congr 1; omega
  · split
    · congr 1; omega
    · split
      · congr 1; omega
      · omega

theorem put33 (z a : Nat → Nat) : fA 33 (upd (putAt (putAt z 0 16 (rowAt a 0)) 16 16 (rowAt a 16)) 32 (a 32)) = fA 33 a := by
  apply fA_congr
  intro i hi
  simp only [upd, putAt, rowAt]
  split
  · congr 1; omega
  · split
    · congr 1; omega
    · split
      · congr 1; omega
      · omega
theorem toLayer_any (a : Nat → Nat) (w : World) :
    Calls Tryd.prog 15 #[.agg (fA 33 a)] w fun e w' => e = .returned (.agg (fA 33 a)) ∧ Below w.heap.size w w' := by
  have hA : Blk (((w.alloc (.cells (fA 33 a) 31)).alloc (.cells (fA 33 fun _ => 0) 34)).alloc (.cells (fA 33 fun _ => 0) 34)) w.heap.size 31 (fA 33 a) := ((Blk.new _ _ _).alloc _).alloc _
  have hZ : Blk (((w.alloc (.cells (fA 33 a) 31)).alloc (.cells (fA 33 fun _ => 0) 34)).alloc (.cells (fA 33 fun _ => 0) 34)) (w.heap.size + 1) 34 (fA 33 fun _ => 0) := (Blk.new_at _ _ (by simp) rfl).alloc _
  have hX : Blk (((w.alloc (.cells (fA 33 a) 31)).alloc (.cells (fA 33 fun _ => 0) 34)).alloc (.cells (fA 33 fun _ => 0) 34)) (w.heap.size + 1 + 1) 34 (fA 33 fun _ => 0) := Blk.new_at _ _ (by simp) rfl
  have hb : Below w.heap.size w (((w.alloc (.cells (fA 33 a) 31)).alloc (.cells (fA 33 fun _ => 0) 34)).alloc (.cells (fA 33 fun _ => 0) 34)) := (by repeat (first | assumption | exact Below.refl _ _ | refine bDrew ?_ _ | refine Below.alloc ?_ (by first | omega | (simp; done) | (simp; omega)) _ | refine Below.setCell ?_ (by first | omega | (simp; done) | (simp; omega)) _ | refine bRow ?_ (by first | omega | (simp; done) | (simp; omega)) _))
  go_enter Tryd.func15, Tryd.ntmps15
  go_wp2_with (refine wpList_load_part rfl 25 _ rfl 0 16 hA rfl (by decide) Tryd.underlying25 rfl (by kernel_rfl) ?_)
  refine (toCurve_any (rowAt a 0) (((w.alloc (.cells (fA 33 a) 31)).alloc (.cells (fA 33 fun _ => 0) 34)).alloc (.cells (fA 33 fun _ => 0) 34))).mono ?_
  rintro e w1 ⟨rfl, hb1⟩
  have hA := hA.below hb1 hA.lt
  have hZ := hZ.below hb1 hZ.lt
  have hX := hX.below hb1 hX.lt
  have hb := bCall hb hb1 hb.size
  clear hb1
  have hA2 : Blk (w1.setRow (w.heap.size + 1 + 1) (fA 33 (putAt (fun _ => 0) 0 16 (rowAt a 0)))) w.heap.size 31 (fA 33 a) := hA.farRow (by omega)
  go_wp2_with (first | (refine wpList_store_part rfl 27 _ _ rfl 0 16 _ hX rfl rfl (by decide) (by kernel_rfl) ?_) | (refine wpList_load_part rfl 25 _ rfl 16 16 hA2 rfl (by decide) Tryd.underlying25 rfl (by kernel_rfl) ?_))
  obtain ⟨w2, hw⟩ : ∃ w2, w2 = w1.setRow (w.heap.size + 1 + 1) (fA 33 (putAt (fun _ => 0) 0 16 (rowAt a 0))) := ⟨_, rfl⟩
  have hA : Blk w2 w.heap.size 31 (fA 33 a) := by subst hw; exact hA.farRow (by omega)
  have hZ : Blk w2 (w.heap.size + 1) 34 (fA 33 fun _ => 0) := by subst hw; exact hZ.farRow (by omega)
  have hX : Blk w2 (w.heap.size + 1 + 1) 34 (fA 33 (putAt (fun _ => 0) 0 16 (rowAt a 0))) := by subst hw; exact hX.setRow
  have hb : Below w.heap.size w w2 := by subst hw; exact bRow hb (by omega) _
  rw [← hw]
  clear hw
  refine (toCurve_any (rowAt a 16) w2).mono ?_
  rintro e w3 ⟨rfl, hb1⟩
  have hA := hA.below hb1 hA.lt
  have hZ := hZ.below hb1 hZ.lt
  have hX := hX.below hb1 hX.lt
  have hb := bCall hb hb1 hb.size
  clear hb1
  have hA2 : Blk (w3.setRow (w.heap.size + 1 + 1) (fA 33 (putAt (putAt (fun _ => 0) 0 16 (rowAt a 0)) 16 16 (rowAt a 16)))) w.heap.size 31 (fA 33 a) := hA.farRow (by omega)
  have hX2 : Blk (w3.setRow (w.heap.size + 1 + 1) (fA 33 (putAt (putAt (fun _ => 0) 0 16 (rowAt a 0)) 16 16 (rowAt a 16)))) (w.heap.size + 1 + 1) 34 (fA 33 (putAt (putAt (fun _ => 0) 0 16 (rowAt a 0)) 16 16 (rowAt a 16))) := hX.setRow
  have hX3 := (hX2.setF 32 (a 32)).to (put33 _ _)
  have hZ3 := (Blk.farRow (cs' := fA 33 (putAt (putAt (fun _ => 0) 0 16 (rowAt a 0)) 16 16 (rowAt a 16))) hZ (show w.heap.size + 1 ≠ w.heap.size + 1 + 1 by omega)).far (p := ⟨w.heap.size + 1 + 1, 32, none⟩) (by dsimp only; omega) (.float .f32 (a 32))
  have hb := Below.setCell (p := ⟨w.heap.size + 1 + 1, 32, none⟩) (bRow hb (show w.heap.size ≤ w.heap.size + 1 + 1 by omega) (fA 33 (putAt (putAt (fun _ => 0) 0 16 (rowAt a 0)) 16 16 (rowAt a 16)))) (by simp; omega) (.float .f32 (a 32))
  have c1 := (hA2.cell 32).trans (get_fA_lt a (by omega))
  have c2 := (hX2.cell 32).trans (get_fA_lt _ (by omega))
  have f2 := hX2.frozen 32
  go_wp2_with (first | (refine wpList_store_part rfl 27 _ _ rfl 16 16 _ hX rfl rfl (by decide) (by kernel_rfl) ?_) | (refine wpList_load_row rfl 34 _ rfl _ rfl _ _ (0, 0) _ hX3 Tryd.underlying34 rfl (by kernel_rfl) ?_) | (refine wpList_store_row rfl 34 _ _ rfl _ _ rfl rfl _ _ hZ3 (by kernel_rfl) (by simp only [size_fA]) (all_fA _ _) ?_))
  exact bodyPost_ret (results_cell_row rfl _ _ (w.heap.size + 1) _ _ _ _ rfl hZ3.setRow Tryd.underlying34 rfl (by kernel_rfl)) rfl ⟨rfl, (by repeat (first | assumption | exact Below.refl _ _ | refine bDrew ?_ _ | refine Below.alloc ?_ (by first | omega | (simp; done) | (simp; omega)) _ | refine Below.setCell ?_ (by first | omega | (simp; done) | (simp; omega)) _ | refine bRow ?_ (by first | omega | (simp; done) | (simp; omega)) _))⟩
theorem eqLayer_any (a b : Nat → Nat) (h : ∀ i, i < 33 → canon .f32 (a i) = canon .f32 (b i)) (w : World) :
    Calls Tryd.prog 25 #[.agg (fA 33 a), .agg (fA 33 b)] w (RetB w true) := by
  have hA : Blk ((w.alloc (.cells (fA 33 a) 34)).alloc (.cells (fA 33 b) 34)) w.heap.size 34 (fA 33 a) := (Blk.new _ _ _).alloc _
  have hB : Blk ((w.alloc (.cells (fA 33 a) 34)).alloc (.cells (fA 33 b) 34)) (w.heap.size + 1) 34 (fA 33 b) := Blk.new_at _ _ (by simp) rfl
  have hb : Below w.heap.size w ((w.alloc (.cells (fA 33 a) 34)).alloc (.cells (fA 33 b) 34)) := (by repeat (first | assumption | exact Below.refl _ _ | refine bDrew ?_ _ | refine Below.alloc ?_ (by first | omega | (simp; done) | (simp; omega)) _ | refine Below.setCell ?_ (by first | omega | (simp; done) | (simp; omega)) _ | refine bRow ?_ (by first | omega | (simp; done) | (simp; omega)) _))
  have Hh := Lib.hid h
  clear h
  go_enter Tryd.func25, Tryd.ntmps25
  go_wp2_with (first | (refine wpList_load_part rfl 27 _ rfl 0 16 hA rfl (by decide) Tryd.underlying27 rfl (by kernel_rfl) ?_) | (refine wpList_load_part rfl 27 _ rfl 0 16 hB rfl (by decide) Tryd.underlying27 rfl (by kernel_rfl) ?_))
  refine (eqCurve_any (rowAt a 0) (rowAt b 0) (fun i hi => Hh.out _ (by omega)) ((w.alloc (.cells (fA 33 a) 34)).alloc (.cells (fA 33 b) 34))).mono ?_
  rintro e w1 ⟨rfl, hb1⟩
  have hA := hA.below hb1 hA.lt
  have hB := hB.below hb1 hB.lt
  have hb := bCall hb hb1 hb.size
  clear hb1
  go_wp2_with (first | (refine wpList_load_part rfl 27 _ rfl 16 16 hA rfl (by decide) Tryd.underlying27 rfl (by kernel_rfl) ?_) | (refine wpList_load_part rfl 27 _ rfl 16 16 hB rfl (by decide) Tryd.underlying27 rfl (by kernel_rfl) ?_))
  refine (eqCurve_any (rowAt a 16) (rowAt b 16) (fun i hi => Hh.out _ (by omega)) w1).mono ?_
  rintro e w2 ⟨rfl, hb1⟩
  have hA := hA.below hb1 hA.lt
  have hB := hB.below hb1 hB.lt
  have hb := bCall hb hb1 hb.size
  clear hb1
  have c1 := (hA.cell 32).trans (get_fA_lt a (by omega))
  have c2 := (hB.cell 32).trans (get_fA_lt b (by omega))
  go_wp2_with fail
  refine (sameFloat_any _ _ (by rw [canon_widen, canon_widen, Hh.out 32 (by omega)]) _).mono ?_
  rintro e w3 ⟨rfl, n3, rfl⟩
  go_wp2
  go_ret
  exact ⟨rfl, (by repeat (first | assumption | exact Below.refl _ _ | refine bDrew ?_ _ | refine Below.alloc ?_ (by first | omega | (simp; done) | (simp; omega)) _ | refine Below.setCell ?_ (by first | omega | (simp; done) | (simp; omega)) _ | refine bRow ?_ (by first | omega | (simp; done) | (simp; omega)) _))⟩
end Go.Proofs.YtbdbeaebeedakaaDoor
