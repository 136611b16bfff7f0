/- Contracts: valid films, one over the other. -/
import Derived.Test.YtfpjiclkhjdihaaDN
import Derived.Test.YtfpjiclkhjdihaaCR
namespace Go.Proofs.Ytfpjiclkhjdihaa
open Go.RowKit
set_option maxRecDepth 100000

theorem iAddFilms_any (f g : Nat → Nat) (w : World) : Calls Try.prog 7 #[.agg (fA 48 f), .agg (fA 48 g)] w (RetCC 48 w (addFilmsRes f g).1 (addFilmsRes f g).2) := by
  have hF : Blk (((w.alloc (.cells (fA 48 f) 28)).alloc (.cells (fA 48 g) 28)).alloc (.cells (fA 48 fun _ => 0) 28)) w.heap.size 28 (fA 48 f) := ((Blk.new _ _ _).alloc _).alloc _
  have hG : Blk (((w.alloc (.cells (fA 48 f) 28)).alloc (.cells (fA 48 g) 28)).alloc (.cells (fA 48 fun _ => 0) 28)) (w.heap.size + 1) 28 (fA 48 g) := (Blk.new_at _ _ (by simp) rfl).alloc _
  have hZ : Blk (((w.alloc (.cells (fA 48 f) 28)).alloc (.cells (fA 48 g) 28)).alloc (.cells (fA 48 fun _ => 0) 28)) (w.heap.size + 1 + 1) 28 (fA 48 fun _ => 0) := Blk.new_at _ _ (by simp) rfl
  have hb : Below w.heap.size w (((w.alloc (.cells (fA 48 f) 28)).alloc (.cells (fA 48 g) 28)).alloc (.cells (fA 48 fun _ => 0) 28)) := (by repeat (first | assumption | exact Below.refl _ _ | refine bDrew ?_ _ | refine Below.alloc ?_ (by first | omega | (simp; done) | (simp; omega)) _ | refine Below.setCell ?_ (by first | omega | (simp; done) | (simp; omega)) _ | refine bRow ?_ (by first | omega | (simp; done) | (simp; omega)) _))
  go_enter Try.func7, Try.ntmps7
  go_wp2_with (refine wpList_load_row rfl 28 _ rfl _ rfl _ _ (0, 0) _ hF Try.underlying28 rfl (by kernel_rfl) ?_)
  refine (iValidFilm_any f _).mono ?_
  rintro e w1 ⟨rfl, hb1⟩
  have hF := hF.below hb1 hF.lt
  have hG := hG.below hb1 hG.lt
  have hZ := hZ.below hb1 hZ.lt
  have hb := bCall hb hb1 hb.size; clear hb1
  cases h0 : filmOk f with
  | false =>
    have Hm : Hid (addFilmsRes f g = (fun _ => canon .f32 0, 1)) := Lib.hid (by simp only [addFilmsRes, h0, Bool.false_and, Bool.false_eq_true, if_false])
    clear h0
    go_wp2_with (first | (refine wpList_build_as rfl 28 _ rfl (fA 48 fun _ => 0) (by kernel_rfl) ?_) | (refine wpList_store_row rfl 28 _ _ rfl _ _ rfl rfl _ _ hZ (by kernel_rfl) (by simp only [size_fA]) (all_fA _ _) ?_)); exact bodyPost_ret (results_cell_row2 rfl _ _ (w.heap.size + 1 + 1) _ _ _ _ rfl hZ.setRow Try.underlying28 rfl (by kernel_rfl)) rfl (RetCC.as Hm.out ⟨_, rfl, fun _ _ => rfl, (by repeat (first | assumption | exact Below.refl _ _ | refine bDrew ?_ _ | refine Below.alloc ?_ (by first | omega | (simp; done) | (simp; omega)) _ | refine Below.setCell ?_ (by first | omega | (simp; done) | (simp; omega)) _ | refine bRow ?_ (by first | omega | (simp; done) | (simp; omega)) _))⟩)
  | true =>
    have H0 := Lib.hid h0
    clear h0
    go_wp2_with (refine wpList_load_partW rfl 28 _ rfl 0 48 hG rfl (by decide) Try.underlying28 rfl (by kernel_rfl) ?_)
    rw [rowAt_zero]
    refine (iValidFilm_any g _).mono ?_
    rintro e w2 ⟨rfl, hb1⟩
    have hF := hF.below hb1 hF.lt
    have hG := hG.below hb1 hG.lt
    have hZ := hZ.below hb1 hZ.lt
    have hb := bCall hb hb1 hb.size; clear hb1
    cases h1 : filmOk g with
    | false =>
      have Hm : Hid (addFilmsRes f g = (fun _ => canon .f32 0, 1)) := Lib.hid (by simp only [addFilmsRes, h1, Bool.and_false, Bool.false_eq_true, if_false])
      clear h1
      go_wp2_with (first | (refine wpList_build_as rfl 28 _ rfl (fA 48 fun _ => 0) (by kernel_rfl) ?_) | (refine wpList_store_row rfl 28 _ _ rfl _ _ rfl rfl _ _ hZ (by kernel_rfl) (by simp only [size_fA]) (all_fA _ _) ?_)); exact bodyPost_ret (results_cell_row2 rfl _ _ (w.heap.size + 1 + 1) _ _ _ _ rfl hZ.setRow Try.underlying28 rfl (by kernel_rfl)) rfl (RetCC.as Hm.out ⟨_, rfl, fun _ _ => rfl, (by repeat (first | assumption | exact Below.refl _ _ | refine bDrew ?_ _ | refine Below.alloc ?_ (by first | omega | (simp; done) | (simp; omega)) _ | refine Below.setCell ?_ (by first | omega | (simp; done) | (simp; omega)) _ | refine bRow ?_ (by first | omega | (simp; done) | (simp; omega)) _))⟩)
    | true =>
      have Hm : Hid (addFilmsRes f g = ((addRes (fun i => canon .f32 (f i)) fun i => canon .f32 (g i)).1, (addRes (fun i => canon .f32 (f i)) fun i => canon .f32 (g i)).2)) := Lib.hid (by simp only [addFilmsRes, H0.out, h1, Bool.and_self, if_true])
      clear h1
      go_wp2_with (first | (refine wpList_load_row rfl 28 _ rfl _ rfl _ _ (0, 0) _ hF Try.underlying28 rfl (by kernel_rfl) ?_) | (refine wpList_load_row rfl 28 _ rfl _ rfl _ _ (0, 0) _ hG Try.underlying28 rfl (by kernel_rfl) ?_))
      refine (add_any f g w2).mono ?_
      rintro e w4 ⟨s, rfl, hs, hb1⟩
      have hZ := hZ.below hb1 hZ.lt
      have hb := bCall hb hb1 hb.size
      have Hq := Lib.hid hs
      clear hs hb1
      go_wp2_with (refine wpList_store_row rfl 28 _ _ rfl _ _ rfl rfl _ _ hZ (by kernel_rfl) (by simp only [size_fA]) (all_fA _ _) ?_)
      exact bodyPost_ret (results_cell_row2 rfl _ _ (w.heap.size + 1 + 1) _ _ _ _ rfl hZ.setRow Try.underlying28 rfl (by kernel_rfl)) rfl (RetCC.as Hm.out ⟨s, rfl, Hq.out, (by repeat (first | assumption | exact Below.refl _ _ | refine bDrew ?_ _ | refine Below.alloc ?_ (by first | omega | (simp; done) | (simp; omega)) _ | refine Below.setCell ?_ (by first | omega | (simp; done) | (simp; omega)) _ | refine bRow ?_ (by first | omega | (simp; done) | (simp; omega)) _))⟩)
theorem sAddFilms_any (f g : Nat → Nat) (w : World) : Calls Try.prog 8 #[.agg (fA 48 f), .agg (fA 48 g)] w (RetCC 48 w (addFilmsRes f g).1 (addFilmsRes f g).2) := by
  have hF : Blk (((w.alloc (.cells (fA 48 f) 28)).alloc (.cells (fA 48 g) 28)).alloc (.cells (fA 48 fun _ => 0) 28)) w.heap.size 28 (fA 48 f) := ((Blk.new _ _ _).alloc _).alloc _
  have hG : Blk (((w.alloc (.cells (fA 48 f) 28)).alloc (.cells (fA 48 g) 28)).alloc (.cells (fA 48 fun _ => 0) 28)) (w.heap.size + 1) 28 (fA 48 g) := (Blk.new_at _ _ (by simp) rfl).alloc _
  have hZ : Blk (((w.alloc (.cells (fA 48 f) 28)).alloc (.cells (fA 48 g) 28)).alloc (.cells (fA 48 fun _ => 0) 28)) (w.heap.size + 1 + 1) 28 (fA 48 fun _ => 0) := Blk.new_at _ _ (by simp) rfl
  have hb : Below w.heap.size w (((w.alloc (.cells (fA 48 f) 28)).alloc (.cells (fA 48 g) 28)).alloc (.cells (fA 48 fun _ => 0) 28)) := (by repeat (first | assumption | exact Below.refl _ _ | refine bDrew ?_ _ | refine Below.alloc ?_ (by first | omega | (simp; done) | (simp; omega)) _ | refine Below.setCell ?_ (by first | omega | (simp; done) | (simp; omega)) _ | refine bRow ?_ (by first | omega | (simp; done) | (simp; omega)) _))
  go_enter Try.func8, Try.ntmps8
  go_wp2_with fail
  refine (l02Film_any _ _ f _ hF).mono ?_
  rintro e w1 ⟨rfl, hb1⟩
  have hF := hF.below hb1 hF.lt
  have hG := hG.below hb1 hG.lt
  have hZ := hZ.below hb1 hZ.lt
  have hb := bCall hb hb1 hb.size; clear hb1
  cases h0 : filmOk f with
  | false =>
    have Hm : Hid (addFilmsRes f g = (fun _ => canon .f32 0, 1)) := Lib.hid (by simp only [addFilmsRes, h0, Bool.false_and, Bool.false_eq_true, if_false])
    clear h0
    go_wp2_with (first | (refine wpList_build_as rfl 28 _ rfl (fA 48 fun _ => 0) (by kernel_rfl) ?_) | (refine wpList_store_row rfl 28 _ _ rfl _ _ rfl rfl _ _ hZ (by kernel_rfl) (by simp only [size_fA]) (all_fA _ _) ?_)); exact bodyPost_ret (results_cell_row2 rfl _ _ (w.heap.size + 1 + 1) _ _ _ _ rfl hZ.setRow Try.underlying28 rfl (by kernel_rfl)) rfl (RetCC.as Hm.out ⟨_, rfl, fun _ _ => rfl, (by repeat (first | assumption | exact Below.refl _ _ | refine bDrew ?_ _ | refine Below.alloc ?_ (by first | omega | (simp; done) | (simp; omega)) _ | refine Below.setCell ?_ (by first | omega | (simp; done) | (simp; omega)) _ | refine bRow ?_ (by first | omega | (simp; done) | (simp; omega)) _))⟩)
  | true =>
    have H0 := Lib.hid h0
    clear h0
    go_wp2_with fail
    refine (l02Film_any _ _ g _ hG).mono ?_
    rintro e w2 ⟨rfl, hb1⟩
    have hF := hF.below hb1 hF.lt
    have hG := hG.below hb1 hG.lt
    have hZ := hZ.below hb1 hZ.lt
    have hb := bCall hb hb1 hb.size; clear hb1
    cases h1 : filmOk g with
    | false =>
      have Hm : Hid (addFilmsRes f g = (fun _ => canon .f32 0, 1)) := Lib.hid (by simp only [addFilmsRes, h1, Bool.and_false, Bool.false_eq_true, if_false])
      clear h1
      go_wp2_with (first | (refine wpList_build_as rfl 28 _ rfl (fA 48 fun _ => 0) (by kernel_rfl) ?_) | (refine wpList_store_row rfl 28 _ _ rfl _ _ rfl rfl _ _ hZ (by kernel_rfl) (by simp only [size_fA]) (all_fA _ _) ?_)); exact bodyPost_ret (results_cell_row2 rfl _ _ (w.heap.size + 1 + 1) _ _ _ _ rfl hZ.setRow Try.underlying28 rfl (by kernel_rfl)) rfl (RetCC.as Hm.out ⟨_, rfl, fun _ _ => rfl, (by repeat (first | assumption | exact Below.refl _ _ | refine bDrew ?_ _ | refine Below.alloc ?_ (by first | omega | (simp; done) | (simp; omega)) _ | refine Below.setCell ?_ (by first | omega | (simp; done) | (simp; omega)) _ | refine bRow ?_ (by first | omega | (simp; done) | (simp; omega)) _))⟩)
    | true =>
      have Hm : Hid (addFilmsRes f g = ((addRes (fun i => canon .f32 (f i)) fun i => canon .f32 (g i)).1, (addRes (fun i => canon .f32 (f i)) fun i => canon .f32 (g i)).2)) := Lib.hid (by simp only [addFilmsRes, H0.out, h1, Bool.and_self, if_true])
      clear h1
      go_wp2_with fail
      refine (l02Add_any _ _ _ _ f g w2 hF hG).mono ?_
      rintro e w4 ⟨s, rfl, hs, hb1⟩
      have hZ := hZ.below hb1 hZ.lt
      have hb := bCall hb hb1 hb.size
      have Hq := Lib.hid hs
      clear hs hb1
      go_wp2_with (refine wpList_store_row rfl 28 _ _ rfl _ _ rfl rfl _ _ hZ (by kernel_rfl) (by simp only [size_fA]) (all_fA _ _) ?_)
      exact bodyPost_ret (results_cell_row2 rfl _ _ (w.heap.size + 1 + 1) _ _ _ _ rfl hZ.setRow Try.underlying28 rfl (by kernel_rfl)) rfl (RetCC.as Hm.out ⟨s, rfl, Hq.out, (by repeat (first | assumption | exact Below.refl _ _ | refine bDrew ?_ _ | refine Below.alloc ?_ (by first | omega | (simp; done) | (simp; omega)) _ | refine Below.setCell ?_ (by first | omega | (simp; done) | (simp; omega)) _ | refine bRow ?_ (by first | omega | (simp; done) | (simp; omega)) _))⟩)
end Go.Proofs.Ytfpjiclkhjdihaa
