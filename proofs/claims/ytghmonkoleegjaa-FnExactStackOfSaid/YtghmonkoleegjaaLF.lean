/- Contracts: stacks of layers, the program. -/
import Derived.Test.YtghmonkoleegjaaLE
namespace Go.Proofs.Ytghmonkoleegjaa
open Go.RowKit
set_option maxRecDepth 100000

set_option maxHeartbeats 4000000 in
theorem iStackOf_any (g n : Nat) (T : TypeId) (F : Nat → Nat) (w : World) (hL : Blk w g T (fA (33 * n) F)) (hn : n ≤ 1048576) : Calls Try.prog 10 #[.slice (some ⟨g, 0, none⟩) n n] w (RetCC 48 w (stackRes F n).1 (stackRes F n).2) := by
  have hg := hL.lt
  have hZ : Blk (w.alloc (.cells (fA 48 fun _ => 0) 28)) w.heap.size 28 (fA 48 fun _ => 0) := Blk.new _ _ _
  have hb : Below w.heap.size w (w.alloc (.cells (fA 48 fun _ => 0) 28)) := (by repeat (first | assumption | exact Below.refl _ _ | refine bDrew ?_ _ | refine Below.alloc ?_ (by first | omega | (simp; done) | (simp; omega)) _ | refine Below.setCell ?_ (by first | omega | (simp; done) | (simp; omega)) _ | refine bRow ?_ (by first | omega | (simp; done) | (simp; omega)) _))
  have hL := hL.alloc (.cells (fA 48 fun _ => 0) 28)
  go_enter Try.func10, Try.ntmps10
  go_wp2_with fail
  refine (containsLayers_any g n T F _ hL hn).mono ?_
  rintro e w1 ⟨rfl, hb1⟩
  have hL := hL.below hb1 hL.lt
  have hZ := hZ.below hb1 hZ.lt
  have hb := bCall hb hb1 hb.size; clear hb1
  cases h0 : (allTo n fun k => layerOk (lay F k)) with
  | false =>
    have Hm : Hid (stackRes F n = (fun _ => canon .f32 0, 1)) := Lib.hid (by unfold stackRes; rw [h0]; rfl)
    clear h0
    go_wp2_with (first | (refine wpList_build_as rfl 28 _ rfl (fA 48 fun _ => 0) (by kernel_rfl) ?_) | (refine wpList_store_row rfl 28 _ _ rfl _ _ rfl rfl _ _ hZ (by kernel_rfl) (by simp only [size_fA]) (all_fA _ _) ?_)); exact bodyPost_ret (results_cell_row2 rfl _ _ (w.heap.size) _ _ _ _ rfl hZ.setRow Try.underlying28 rfl (by kernel_rfl)) rfl (RetCC.as Hm.out ⟨_, rfl, fun _ _ => rfl, (by repeat (first | assumption | exact Below.refl _ _ | refine bDrew ?_ _ | refine Below.alloc ?_ (by first | omega | (simp; done) | (simp; omega)) _ | refine Below.setCell ?_ (by first | omega | (simp; done) | (simp; omega)) _ | refine bRow ?_ (by first | omega | (simp; done) | (simp; omega)) _))⟩)
  | true =>
    have H0 := Lib.hid h0
    clear h0
    by_cases h12 : n ≤ 12
    · have Hm0 : Hid (stackRes F n = stackGo F n 0 emptyAt) := Lib.hid (by unfold stackRes; rw [if_pos H0.out, if_pos h12])
      go_wp2_with fail
      refine (iEmptyFilm_any _).mono ?_
      rintro e w2 ⟨r0, rfl, hr0, hb1⟩
      have hL := hL.below hb1 hL.lt
      have hZ := hZ.below hb1 hZ.lt
      have hb := bCall hb hb1 hb.size; clear hb1
      have hx2 := hZ.lt
      have hx3 := hL.lt
      have hL := hL.alloc (.cells (fA 48 r0) 28)
      have hZ := hZ.alloc (.cells (fA 48 r0) 28)
      have hO : Blk (w2.alloc (.cells (fA 48 r0) 28)) w2.heap.size 28 (fA 48 r0) := Blk.new _ _ _
      have hb : Below w.heap.size w (w2.alloc (.cells (fA 48 r0) 28)) := hb.alloc hb.size _
      have HR0 := Lib.hid hr0
      clear hr0
      go_wp2_with (refine wpList_store_new rfl 28 _ _ rfl _ rfl rfl (by kernel_rfl) rfl (all_fA _ _) ?_)
      go_loopw [6, 7, 8, 21] (fun _ _ _ i wr => ∃ (k : Nat) (cur : Nat → Nat) (A : Nat → Option Nat), k ≤ n ∧ i = .int .i64 k ∧ Below w.heap.size w wr ∧ Blk wr g T (fA (33 * n) F) ∧ Blk wr w.heap.size 28 (fA 48 fun _ => 0) ∧ Blk wr w2.heap.size 28 (fA 48 cur) ∧ Hid (∀ i, i < 48 → canon .f32 (cur i) = A i) ∧ Hid (stackRes F n = stackGo F (n - k) k A)) (fun _ _ _ i _ => n - (intOf i).toNat)
      case atStart => exact ⟨0, r0, emptyAt, by omega, rfl, hb, hL, hZ, hO, HR0, Hm0⟩
      case round =>
        clear hL hZ hO hb
        obtain ⟨k, cur, A, hk, rfl, hb, hL, hZ, hO, HA, HG⟩ := hrel
        by_cases hlt : k < n
        · have hX : Blk (wr.alloc (.cells (fA 33 (lay F k)) 56)) wr.heap.size 56 (fA 33 (lay F k)) := Blk.new _ _ _
          have hxr := hO.lt
          have hxs := hb.size
          go_wp2_with (first | (refine wpList_store_new rfl 56 _ _ rfl _ rfl rfl (by kernel_rfl) rfl (all_fA _ _) ?_) | (refine wpList_load_part rfl 56 _ rfl (k * 33) 33 hL rfl (by omega) Try.underlying56 rfl (by kernel_rfl) ?_) | (refine wpList_load_row rfl 56 _ rfl _ rfl _ _ (0, 0) _ hX Try.underlying56 rfl (by kernel_rfl) ?_))
          have hL := hL.alloc (.cells (fA 33 (lay F k)) 56)
          have hZ := hZ.alloc (.cells (fA 33 (lay F k)) 56)
          have hO := hO.alloc (.cells (fA 33 (lay F k)) 56)
          have hb : Below w.heap.size w (wr.alloc (.cells (fA 33 (lay F k)) 56)) := hb.alloc hb.size _
          clear hX
          refine (iFilmOf_any (lay F k) _).mono ?_
          rintro e w3 ⟨r1, rfl, hr1, hb1⟩
          have hL := hL.below hb1 hL.lt
          have hZ := hZ.below hb1 hZ.lt
          have hO := hO.below hb1 hO.lt
          have hb := bCall hb hb1 hb.size; clear hb1
          rw [filmOf_lay H0.out hlt] at hr1 ⊢
          have H1 := Lib.hid hr1
          clear hr1
          have hL := hL.alloc (.cells (fA 48 r1) 28)
          have hZ := hZ.alloc (.cells (fA 48 r1) 28)
          have hO := hO.alloc (.cells (fA 48 r1) 28)
          have hx4 := hO.lt
          have hx5 := hb.size
          have hQ : Blk (w3.alloc (.cells (fA 48 r1) 28)) w3.heap.size 28 (fA 48 r1) := Blk.new _ _ _
          have hb : Below w.heap.size w (w3.alloc (.cells (fA 48 r1) 28)) := hb.alloc hb.size _
          by_cases h1 : (layFilm F k).2 = 0
          · have HC1 := Lib.hid h1
            rw [h1]
            clear h1
            go_wp2_with (first | (refine wpList_store_new rfl 28 _ _ rfl _ rfl rfl (by kernel_rfl) rfl (all_fA _ _) ?_) | (refine wpList_load_row rfl 28 _ rfl _ rfl _ _ (0, 0) _ hO Try.underlying28 rfl (by kernel_rfl) ?_) | (refine wpList_load_row rfl 28 _ rfl _ rfl _ _ (0, 0) _ hQ Try.underlying28 rfl (by kernel_rfl) ?_))
            refine (add_any cur r1 _).mono ?_
            rintro e w4 ⟨r2, rfl, hr2, hb1⟩
            have hL := hL.below hb1 hL.lt
            have hZ := hZ.below hb1 hZ.lt
            have hO := hO.below hb1 hO.lt
            have hb := bCall hb hb1 hb.size
            obtain ⟨ec, ef⟩ := addRes_congr HA.out H1.out
            rw [ec]
            have H2 : Hid (∀ i, i < 48 → canon .f32 (r2 i) = (addRes A (layFilm F k).1).1 i) := Lib.hid fun i hi => (hr2 i hi).trans (ef i hi)
            clear ec ef hr2 hb1 hQ
            by_cases h2 : (addRes A (layFilm F k).1).2 = 0
            · have HG2 : Hid (stackRes F n = stackGo F (n - (k + 1)) (k + 1) (addRes A (layFilm F k).1).1) := Lib.hid (by
                have h := HG.out
                rw [show n - k = n - (k + 1) + 1 by omega, go_on HC1.out h2] at h
                exact h)
              rw [h2]
              clear h2
              go_wp2_with (first | (refine wpList_store_row rfl 28 _ _ rfl _ _ rfl rfl _ _ hO (by kernel_rfl) (by simp only [size_fA]) (all_fA _ _) ?_) | fail)
              go_roundw
              case rel => exact ⟨k + 1, r2, _, by omega, by go_num, bRow hb (by omega) _, hL.farRow (by omega), hZ.farRow (by omega), hO.setRow, H2, HG2⟩
              case measure => simp [intOf]; omega
            · have Hm : Hid (stackRes F n = (fun _ => canon .f32 0, (addRes A (layFilm F k).1).2)) := Lib.hid (by
                have h := HG.out
                rw [show n - k = n - (k + 1) + 1 by omega, go_stop HC1.out h2] at h
                exact h)
              have hZ2 : Blk (w4.setRow w2.heap.size (fA 48 r2)) w.heap.size 28 (fA 48 fun _ => 0) := hZ.farRow (by omega)
              have hb2 : Below w.heap.size w (w4.setRow w2.heap.size (fA 48 r2)) := bRow hb (by omega) _
              generalize (addRes A (layFilm F k).1).2 = c at *
              go_wp2_with (first | (refine wpList_build_as rfl 28 _ rfl (fA 48 fun _ => 0) (by kernel_rfl) ?_) | (refine wpList_store_row rfl 28 _ _ rfl _ _ rfl rfl _ _ hO (by kernel_rfl) (by simp only [size_fA]) (all_fA _ _) ?_) | (refine wpList_store_row rfl 28 _ _ rfl _ _ rfl rfl _ _ hZ2 (by kernel_rfl) (by simp only [size_fA]) (all_fA _ _) ?_))
              exact bodyPost_ret (results_cell_row2 rfl _ _ (w.heap.size) _ _ _ _ rfl hZ2.setRow Try.underlying28 rfl (by kernel_rfl)) rfl (RetCC.as Hm.out ⟨_, rfl, fun _ _ => rfl, (by repeat (first | assumption | exact Below.refl _ _ | refine bDrew ?_ _ | refine Below.alloc ?_ (by first | omega | (simp; done) | (simp; omega)) _ | refine Below.setCell ?_ (by first | omega | (simp; done) | (simp; omega)) _ | refine bRow ?_ (by first | omega | (simp; done) | (simp; omega)) _))⟩)
          · have Hm : Hid (stackRes F n = (fun _ => canon .f32 0, (layFilm F k).2)) := Lib.hid (by
              have h := HG.out
              obtain ⟨q, hq⟩ : ∃ q, n - k = q + 1 := ⟨n - k - 1, by omega⟩
              rw [h, hq, go_bad h1])
            generalize (layFilm F k).2 = c at *
            go_wp2_with (first | (refine wpList_store_new rfl 28 _ _ rfl _ rfl rfl (by kernel_rfl) rfl (all_fA _ _) ?_) | (refine wpList_build_as rfl 28 _ rfl (fA 48 fun _ => 0) (by kernel_rfl) ?_) | (refine wpList_store_row rfl 28 _ _ rfl _ _ rfl rfl _ _ hZ (by kernel_rfl) (by simp only [size_fA]) (all_fA _ _) ?_))
            exact bodyPost_ret (results_cell_row2 rfl _ _ (w.heap.size) _ _ _ _ rfl hZ.setRow Try.underlying28 rfl (by kernel_rfl)) rfl (RetCC.as Hm.out ⟨_, rfl, fun _ _ => rfl, (by repeat (first | assumption | exact Below.refl _ _ | refine bDrew ?_ _ | refine Below.alloc ?_ (by first | omega | (simp; done) | (simp; omega)) _ | refine Below.setCell ?_ (by first | omega | (simp; done) | (simp; omega)) _ | refine bRow ?_ (by first | omega | (simp; done) | (simp; omega)) _))⟩)
        · obtain rfl : k = n := by omega
          have Hm : Hid (stackRes F k = (A, 0)) := Lib.hid (by rw [HG.out, Nat.sub_self]; rfl)
          go_wp2_with (first | (refine wpList_load_row rfl 28 _ rfl _ rfl _ _ (0, 0) _ hO Try.underlying28 rfl (by kernel_rfl) ?_) | (refine wpList_store_row rfl 28 _ _ rfl _ _ rfl rfl _ _ hZ (by kernel_rfl) (by simp only [size_fA]) (all_fA _ _) ?_))
          exact bodyPost_ret (results_cell_row2 rfl _ _ (w.heap.size) _ _ _ _ rfl hZ.setRow Try.underlying28 rfl (by kernel_rfl)) rfl (RetCC.as Hm.out ⟨cur, rfl, HA.out, (by repeat (first | assumption | exact Below.refl _ _ | refine bDrew ?_ _ | refine Below.alloc ?_ (by first | omega | (simp; done) | (simp; omega)) _ | refine Below.setCell ?_ (by first | omega | (simp; done) | (simp; omega)) _ | refine bRow ?_ (by first | omega | (simp; done) | (simp; omega)) _))⟩)
    · have Hm : Hid (stackRes F n = (fun _ => canon .f32 0, 3)) := Lib.hid (by unfold stackRes; rw [if_pos H0.out, if_neg h12])
      go_wp2_with (first | (refine wpList_build_as rfl 28 _ rfl (fA 48 fun _ => 0) (by kernel_rfl) ?_) | (refine wpList_store_row rfl 28 _ _ rfl _ _ rfl rfl _ _ hZ (by kernel_rfl) (by simp only [size_fA]) (all_fA _ _) ?_)); exact bodyPost_ret (results_cell_row2 rfl _ _ (w.heap.size) _ _ _ _ rfl hZ.setRow Try.underlying28 rfl (by kernel_rfl)) rfl (RetCC.as Hm.out ⟨_, rfl, fun _ _ => rfl, (by repeat (first | assumption | exact Below.refl _ _ | refine bDrew ?_ _ | refine Below.alloc ?_ (by first | omega | (simp; done) | (simp; omega)) _ | refine Below.setCell ?_ (by first | omega | (simp; done) | (simp; omega)) _ | refine bRow ?_ (by first | omega | (simp; done) | (simp; omega)) _))⟩)
end Go.Proofs.Ytghmonkoleegjaa
