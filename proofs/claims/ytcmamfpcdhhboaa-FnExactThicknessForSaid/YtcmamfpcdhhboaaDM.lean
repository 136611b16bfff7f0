/- Contracts: paint over a backing. -/
import Derived.Test.YtcmamfpcdhhboaaDL
namespace Go.Proofs.Ytcmamfpcdhhboaa
open Go.RowKit
set_option maxRecDepth 100000

def paintMade (F : (Nat → Option Nat) × Int) (q : Nat → Option Nat) : (Nat → Option Nat) × Int := if F.2 = 0 then overRes F.1 q else (fun _ => canon .f32 0, F.2)
theorem over_congr {w : World} {f f' q : Nat → Option Nat} {e : Ending} {w' : World} (h : ∀ i, i < 48 → f i = f' i) (hr : RetCC 16 w (overRes f q).1 (overRes f q).2 e w') : RetCC 16 w (overRes f' q).1 (overRes f' q).2 e w' := by
  have ha : (allTo 16 fun i => gapOk (f (16 + i)) (q i)) = allTo 16 fun i => gapOk (f' (16 + i)) (q i) := allTo_congr fun i hi => by rw [h _ (by omega)]
  unfold overRes at hr ⊢
  rw [ha] at hr
  split at hr
  · rename_i h1
    rw [if_pos h1]
    split at hr
    · rename_i h2
      rw [if_pos h2]
      exact finRes_congr (fun i hi => by unfold overAt; rw [h i (by omega), h (16 + i) (by omega), h (32 + i) (by omega)]) hr
    · rename_i h2
      rw [if_neg h2]
      exact hr
  · rename_i h1
    rw [if_neg h1]
    exact hr
theorem ne_facts {c : Int} (h : ¬ c = 0) : (c == 0) = false ∧ (c != 0) = true := by simp [h]

theorem iPaintOver_any (a q : Nat → Nat) (w : World) : Calls Try.prog 25 #[.agg (fA 33 a), .agg (fA 16 q)] w (RetCC 16 w (paintMade (filmOfRes a) fun i => canon .f32 (q i)).1 (paintMade (filmOfRes a) fun i => canon .f32 (q i)).2) := by
  have hA : Blk (((w.alloc (.cells (fA 33 a) 47)).alloc (.cells (fA 16 q) 26)).alloc (.cells (fA 16 fun _ => 0) 26)) w.heap.size 47 (fA 33 a) := ((Blk.new _ _ _).alloc _).alloc _
  have hQ : Blk (((w.alloc (.cells (fA 33 a) 47)).alloc (.cells (fA 16 q) 26)).alloc (.cells (fA 16 fun _ => 0) 26)) (w.heap.size + 1) 26 (fA 16 q) := (Blk.new_at _ _ (by simp) rfl).alloc _
  have hZ : Blk (((w.alloc (.cells (fA 33 a) 47)).alloc (.cells (fA 16 q) 26)).alloc (.cells (fA 16 fun _ => 0) 26)) (w.heap.size + 1 + 1) 26 (fA 16 fun _ => 0) := Blk.new_at _ _ (by simp) rfl
  have hb : Below w.heap.size w (((w.alloc (.cells (fA 33 a) 47)).alloc (.cells (fA 16 q) 26)).alloc (.cells (fA 16 fun _ => 0) 26)) := (by repeat (first | assumption | exact Below.refl _ _ | refine bDrew ?_ _ | refine Below.alloc ?_ (by first | omega | (simp; done) | (simp; omega)) _ | refine Below.setCell ?_ (by first | omega | (simp; done) | (simp; omega)) _ | refine bRow ?_ (by first | omega | (simp; done) | (simp; omega)) _))
  go_enter Try.func25, Try.ntmps25
  go_wp2_with (refine wpList_load_row rfl 47 _ rfl _ rfl _ _ (0, 0) _ hA Try.underlying47 rfl (by kernel_rfl) ?_)
  refine (iFilmOf_any a _).mono ?_
  generalize hF : filmOfRes a = F
  obtain ⟨p, cd⟩ := F
  have HF := Lib.hid hF
  clear hF
  rintro e w1 ⟨r, rfl, hr, hb1⟩
  have hQ := hQ.below hb1 hQ.lt
  have hZ := hZ.below hb1 hZ.lt
  have hb := bCall hb hb1 hb.size; clear hb1
  have Hr := Lib.hid hr
  clear hr hA
  have hR : Blk (w1.alloc (.cells (fA 48 r) 30)) w1.heap.size 30 (fA 48 r) := Blk.new _ _ _
  have hQ := hQ.alloc (.cells (fA 48 r) 30)
  have hg : w.heap.size + 1 + 1 < w1.heap.size := hZ.lt
  have hZ := hZ.alloc (.cells (fA 48 r) 30)
  have hb : Below w.heap.size w (w1.alloc (.cells (fA 48 r) 30)) := Below.alloc hb hb.size _
  dsimp only at *
  by_cases hc : cd = 0
  · subst hc
    have Hm : Hid ((paintMade (filmOfRes a) fun i => canon .f32 (q i)) = ((overRes p fun i => canon .f32 (q i)).1, (overRes p fun i => canon .f32 (q i)).2)) := Lib.hid (by rw [HF.out]; simp only [paintMade, if_true])
    go_wp2_with (first | (refine wpList_store_new rfl 30 _ _ rfl _ rfl rfl (by kernel_rfl) rfl (all_fA _ _) ?_) | (refine wpList_load_row rfl 30 _ rfl _ rfl _ _ (0, 0) _ hR Try.underlying30 rfl (by kernel_rfl) ?_) | (refine wpList_load_row rfl 26 _ rfl _ rfl _ _ (0, 0) _ hQ Try.underlying26 rfl (by kernel_rfl) ?_))
    refine (over_any r q _).mono ?_
    intro e w4 h4
    obtain ⟨s, rfl, hs, hb1⟩ := over_congr Hr.out h4
    clear h4
    have hZ := hZ.below hb1 hZ.lt
    have hb := bCall hb hb1 hb.size
    have Hq := Lib.hid hs
    clear hs hb1
    go_wp2_with (refine wpList_store_row rfl 26 _ _ rfl _ _ rfl rfl _ _ hZ (by kernel_rfl) (by simp only [size_fA]) (all_fA _ _) ?_)
    exact bodyPost_ret (results_cell_row2 rfl _ _ (w.heap.size + 1 + 1) _ _ _ _ rfl hZ.setRow Try.underlying26 rfl (by kernel_rfl)) rfl (RetCC.as Hm.out ⟨s, rfl, Hq.out, (by repeat (first | assumption | exact Below.refl _ _ | refine bDrew ?_ _ | refine Below.alloc ?_ (by first | omega | (simp; done) | (simp; omega)) _ | refine Below.setCell ?_ (by first | omega | (simp; done) | (simp; omega)) _ | refine bRow ?_ (by first | omega | (simp; done) | (simp; omega)) _))⟩)
  · obtain ⟨h1, h2⟩ := ne_facts hc
    have Hm : Hid ((paintMade (filmOfRes a) fun i => canon .f32 (q i)) = (fun _ => canon .f32 0, cd)) := Lib.hid (by rw [HF.out]; simp only [paintMade, hc, if_false])
    go_wp2_with (first | (refine wpList_store_new rfl 30 _ _ rfl _ rfl rfl (by kernel_rfl) rfl (all_fA _ _) ?_) | (refine wpList_build_as rfl 26 _ rfl (fA 16 fun _ => 0) (by kernel_rfl) ?_) | (refine wpList_store_row rfl 26 _ _ rfl _ _ rfl rfl _ _ hZ (by kernel_rfl) (by simp only [size_fA]) (all_fA _ _) ?_))
    exact bodyPost_ret (results_cell_row2 rfl _ _ (w.heap.size + 1 + 1) _ _ _ _ rfl hZ.setRow Try.underlying26 rfl (by kernel_rfl)) rfl (RetCC.as Hm.out ⟨_, rfl, fun _ _ => rfl, (by repeat (first | assumption | exact Below.refl _ _ | refine bDrew ?_ _ | refine Below.alloc ?_ (by first | omega | (simp; done) | (simp; omega)) _ | refine Below.setCell ?_ (by first | omega | (simp; done) | (simp; omega)) _ | refine bRow ?_ (by first | omega | (simp; done) | (simp; omega)) _))⟩)
theorem l02Paint_any (g : Nat) (T : TypeId) (a q : Nat → Nat) (w : World) (hA : Blk w g T (fA 33 a)) : Calls Try.prog 56 #[.pointer (some ⟨g, 0, none⟩), .agg (fA 16 q)] w (RetCC 16 w (paintMade (filmMade fun i => canon .f32 (a i)) fun i => canon .f32 (q i)).1 (paintMade (filmMade fun i => canon .f32 (a i)) fun i => canon .f32 (q i)).2) := by
  have hA := (hA.alloc (.cells (fA 16 q) 26)).alloc (.cells (fA 16 fun _ => 0) 26)
  have hQ : Blk ((w.alloc (.cells (fA 16 q) 26)).alloc (.cells (fA 16 fun _ => 0) 26)) w.heap.size 26 (fA 16 q) := (Blk.new _ _ _).alloc _
  have hZ : Blk ((w.alloc (.cells (fA 16 q) 26)).alloc (.cells (fA 16 fun _ => 0) 26)) (w.heap.size + 1) 26 (fA 16 fun _ => 0) := Blk.new_at _ _ (by simp) rfl
  have hb : Below w.heap.size w ((w.alloc (.cells (fA 16 q) 26)).alloc (.cells (fA 16 fun _ => 0) 26)) := (by repeat (first | assumption | exact Below.refl _ _ | refine bDrew ?_ _ | refine Below.alloc ?_ (by first | omega | (simp; done) | (simp; omega)) _ | refine Below.setCell ?_ (by first | omega | (simp; done) | (simp; omega)) _ | refine bRow ?_ (by first | omega | (simp; done) | (simp; omega)) _))
  go_enter Try.func56, Try.ntmps56
  go_wp2_with fail
  refine (l02FilmOf_any _ _ a _ hA).mono ?_
  generalize hF : (filmMade fun i => canon .f32 (a i)) = F
  obtain ⟨p, cd⟩ := F
  have HF := Lib.hid hF
  clear hF
  rintro e w1 ⟨r, rfl, hr, hb1⟩
  have hQ := hQ.below hb1 hQ.lt
  have hZ := hZ.below hb1 hZ.lt
  have hb := bCall hb hb1 hb.size; clear hb1
  have Hr := Lib.hid hr
  clear hr hA
  have hR : Blk (w1.alloc (.cells (fA 48 r) 30)) w1.heap.size 30 (fA 48 r) := Blk.new _ _ _
  have hQ := hQ.alloc (.cells (fA 48 r) 30)
  have hg : w.heap.size + 1 < w1.heap.size := hZ.lt
  have hZ := hZ.alloc (.cells (fA 48 r) 30)
  have hb : Below w.heap.size w (w1.alloc (.cells (fA 48 r) 30)) := Below.alloc hb hb.size _
  dsimp only at *
  by_cases hc : cd = 0
  · subst hc
    have Hm : Hid ((paintMade (filmMade fun i => canon .f32 (a i)) fun i => canon .f32 (q i)) = ((overRes p fun i => canon .f32 (q i)).1, (overRes p fun i => canon .f32 (q i)).2)) := Lib.hid (by rw [HF.out]; simp only [paintMade, if_true])
    go_wp2_with (first | (refine wpList_store_new rfl 30 _ _ rfl _ rfl rfl (by kernel_rfl) rfl (all_fA _ _) ?_) | (refine wpList_load_row rfl 30 _ rfl _ rfl _ _ (0, 0) _ hR Try.underlying30 rfl (by kernel_rfl) ?_) | (refine wpList_load_row rfl 26 _ rfl _ rfl _ _ (0, 0) _ hQ Try.underlying26 rfl (by kernel_rfl) ?_))
    refine (l02Over_any _ _ r q _ hR).mono ?_
    intro e w4 h4
    obtain ⟨s, rfl, hs, hb1⟩ := over_congr Hr.out h4
    clear h4
    have hZ := hZ.below hb1 hZ.lt
    have hb := bCall hb hb1 hb.size
    have Hq := Lib.hid hs
    clear hs hb1
    go_wp2_with (refine wpList_store_row rfl 26 _ _ rfl _ _ rfl rfl _ _ hZ (by kernel_rfl) (by simp only [size_fA]) (all_fA _ _) ?_)
    exact bodyPost_ret (results_cell_row2 rfl _ _ (w.heap.size + 1) _ _ _ _ rfl hZ.setRow Try.underlying26 rfl (by kernel_rfl)) rfl (RetCC.as Hm.out ⟨s, rfl, Hq.out, (by repeat (first | assumption | exact Below.refl _ _ | refine bDrew ?_ _ | refine Below.alloc ?_ (by first | omega | (simp; done) | (simp; omega)) _ | refine Below.setCell ?_ (by first | omega | (simp; done) | (simp; omega)) _ | refine bRow ?_ (by first | omega | (simp; done) | (simp; omega)) _))⟩)
  · obtain ⟨h1, h2⟩ := ne_facts hc
    have Hm : Hid ((paintMade (filmMade fun i => canon .f32 (a i)) fun i => canon .f32 (q i)) = (fun _ => canon .f32 0, cd)) := Lib.hid (by rw [HF.out]; simp only [paintMade, hc, if_false])
    go_wp2_with (first | (refine wpList_store_new rfl 30 _ _ rfl _ rfl rfl (by kernel_rfl) rfl (all_fA _ _) ?_) | (refine wpList_build_as rfl 26 _ rfl (fA 16 fun _ => 0) (by kernel_rfl) ?_) | (refine wpList_store_row rfl 26 _ _ rfl _ _ rfl rfl _ _ hZ (by kernel_rfl) (by simp only [size_fA]) (all_fA _ _) ?_))
    exact bodyPost_ret (results_cell_row2 rfl _ _ (w.heap.size + 1) _ _ _ _ rfl hZ.setRow Try.underlying26 rfl (by kernel_rfl)) rfl (RetCC.as Hm.out ⟨_, rfl, fun _ _ => rfl, (by repeat (first | assumption | exact Below.refl _ _ | refine bDrew ?_ _ | refine Below.alloc ?_ (by first | omega | (simp; done) | (simp; omega)) _ | refine Below.setCell ?_ (by first | omega | (simp; done) | (simp; omega)) _ | refine bRow ?_ (by first | omega | (simp; done) | (simp; omega)) _))⟩)
theorem sPaintOver_any (a q : Nat → Nat) (w : World) : Calls Try.prog 23 #[.agg (fA 33 a), .agg (fA 16 q)] w (RetCC 16 w (paintMade (filmOfRes a) fun i => canon .f32 (q i)).1 (paintMade (filmOfRes a) fun i => canon .f32 (q i)).2) := by
  have hA : Blk (((w.alloc (.cells (fA 33 a) 47)).alloc (.cells (fA 16 q) 26)).alloc (.cells (fA 16 fun _ => 0) 26)) w.heap.size 47 (fA 33 a) := ((Blk.new _ _ _).alloc _).alloc _
  have hQ : Blk (((w.alloc (.cells (fA 33 a) 47)).alloc (.cells (fA 16 q) 26)).alloc (.cells (fA 16 fun _ => 0) 26)) (w.heap.size + 1) 26 (fA 16 q) := (Blk.new_at _ _ (by simp) rfl).alloc _
  have hZ : Blk (((w.alloc (.cells (fA 33 a) 47)).alloc (.cells (fA 16 q) 26)).alloc (.cells (fA 16 fun _ => 0) 26)) (w.heap.size + 1 + 1) 26 (fA 16 fun _ => 0) := Blk.new_at _ _ (by simp) rfl
  have hb : Below w.heap.size w (((w.alloc (.cells (fA 33 a) 47)).alloc (.cells (fA 16 q) 26)).alloc (.cells (fA 16 fun _ => 0) 26)) := (by repeat (first | assumption | exact Below.refl _ _ | refine bDrew ?_ _ | refine Below.alloc ?_ (by first | omega | (simp; done) | (simp; omega)) _ | refine Below.setCell ?_ (by first | omega | (simp; done) | (simp; omega)) _ | refine bRow ?_ (by first | omega | (simp; done) | (simp; omega)) _))
  go_enter Try.func23, Try.ntmps23
  go_wp2_with fail
  refine (l02Ok_any _ _ a _ hA).mono ?_
  rintro e w1 ⟨rfl, hb1⟩
  have hA := hA.below hb1 hA.lt
  have hQ := hQ.below hb1 hQ.lt
  have hZ := hZ.below hb1 hZ.lt
  have hb := bCall hb hb1 hb.size; clear hb1
  cases hs : layerOk a with
  | false =>
    have Hm : Hid ((paintMade (filmOfRes a) fun i => canon .f32 (q i)) = (fun _ => canon .f32 0, 1)) := Lib.hid (by simp only [filmOfRes, hs, Bool.false_eq_true, if_false, paintMade]; rfl)
    clear hs
    go_wp2_with (first | (refine wpList_build_as rfl 26 _ rfl (fA 16 fun _ => 0) (by kernel_rfl) ?_) | (refine wpList_store_row rfl 26 _ _ rfl _ _ rfl rfl _ _ hZ (by kernel_rfl) (by simp only [size_fA]) (all_fA _ _) ?_)); exact bodyPost_ret (results_cell_row2 rfl _ _ (w.heap.size + 1 + 1) _ _ _ _ rfl hZ.setRow Try.underlying26 rfl (by kernel_rfl)) rfl (RetCC.as Hm.out ⟨_, rfl, fun _ _ => rfl, (by repeat (first | assumption | exact Below.refl _ _ | refine bDrew ?_ _ | refine Below.alloc ?_ (by first | omega | (simp; done) | (simp; omega)) _ | refine Below.setCell ?_ (by first | omega | (simp; done) | (simp; omega)) _ | refine bRow ?_ (by first | omega | (simp; done) | (simp; omega)) _))⟩)
  | true =>
    have Hm : Hid ((paintMade (filmOfRes a) fun i => canon .f32 (q i)) = ((paintMade (filmMade fun i => canon .f32 (a i)) fun i => canon .f32 (q i)).1, (paintMade (filmMade fun i => canon .f32 (a i)) fun i => canon .f32 (q i)).2)) := Lib.hid (by simp only [filmOfRes, hs, if_true])
    clear hs
    go_wp2_with (refine wpList_load_row rfl 26 _ rfl _ rfl _ _ (0, 0) _ hQ Try.underlying26 rfl (by kernel_rfl) ?_)
    refine (l02Paint_any _ _ a q w1 hA).mono ?_
    rintro e w4 ⟨s, rfl, hs, hb1⟩
    have hZ := hZ.below hb1 hZ.lt
    have hb := bCall hb hb1 hb.size
    have Hq := Lib.hid hs
    clear hs hb1
    go_wp2_with (refine wpList_store_row rfl 26 _ _ rfl _ _ rfl rfl _ _ hZ (by kernel_rfl) (by simp only [size_fA]) (all_fA _ _) ?_)
    exact bodyPost_ret (results_cell_row2 rfl _ _ (w.heap.size + 1 + 1) _ _ _ _ rfl hZ.setRow Try.underlying26 rfl (by kernel_rfl)) rfl (RetCC.as Hm.out ⟨s, rfl, Hq.out, (by repeat (first | assumption | exact Below.refl _ _ | refine bDrew ?_ _ | refine Below.alloc ?_ (by first | omega | (simp; done) | (simp; omega)) _ | refine Below.setCell ?_ (by first | omega | (simp; done) | (simp; omega)) _ | refine bRow ?_ (by first | omega | (simp; done) | (simp; omega)) _))⟩)
end Go.Proofs.Ytcmamfpcdhhboaa
