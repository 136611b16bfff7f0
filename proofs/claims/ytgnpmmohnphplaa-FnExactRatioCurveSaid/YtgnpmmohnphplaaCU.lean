/- Contracts: curves of ratios. -/
import Derived.Test.YtgnpmmohnphplaaCT
namespace Go.Proofs.Ytgnpmmohnphplaa
open Go.RowKit
set_option maxRecDepth 100000

theorem rowAt_zero (d : Nat → Nat) : rowAt d 0 = d := funext fun j => by simp [rowAt]

theorem iRatioCurve_any (c d : Nat → Nat) (w : World) : Calls Try.prog 36 #[.agg (fA 16 c), .agg (fA 16 d)] w (RetCC 16 w (ratioRes (fun i => canon .f32 (c i)) fun i => canon .f32 (d i)).1 (ratioRes (fun i => canon .f32 (c i)) fun i => canon .f32 (d i)).2) := by
  have hA : Blk (((w.alloc (.cells (fA 16 c) 24)).alloc (.cells (fA 16 d) 24)).alloc (.cells (fA 16 fun _ => 0) 24)) w.heap.size 24 (fA 16 c) := ((Blk.new _ _ _).alloc _).alloc _
  have hB : Blk (((w.alloc (.cells (fA 16 c) 24)).alloc (.cells (fA 16 d) 24)).alloc (.cells (fA 16 fun _ => 0) 24)) (w.heap.size + 1) 24 (fA 16 d) := (Blk.new_at _ _ (by simp) rfl).alloc _
  have hZ : Blk (((w.alloc (.cells (fA 16 c) 24)).alloc (.cells (fA 16 d) 24)).alloc (.cells (fA 16 fun _ => 0) 24)) (w.heap.size + 1 + 1) 24 (fA 16 fun _ => 0) := Blk.new_at _ _ (by simp) rfl
  have hb : Below w.heap.size w (((w.alloc (.cells (fA 16 c) 24)).alloc (.cells (fA 16 d) 24)).alloc (.cells (fA 16 fun _ => 0) 24)) := (by repeat (first | assumption | exact Below.refl _ _ | refine bDrew ?_ _ | refine Below.alloc ?_ (by first | omega | (simp; done) | (simp; omega)) _ | refine Below.setCell ?_ (by first | omega | (simp; done) | (simp; omega)) _ | refine bRow ?_ (by first | omega | (simp; done) | (simp; omega)) _))
  go_enter Try.func36, Try.ntmps36
  go_wp2_with (refine wpList_load_row rfl 24 _ rfl _ rfl _ _ (0, 0) _ hA Try.underlying24 rfl (by kernel_rfl) ?_)
  refine (all_any 74 amount c (((w.alloc (.cells (fA 16 c) 24)).alloc (.cells (fA 16 d) 24)).alloc (.cells (fA 16 fun _ => 0) 24)) (fun _ _ => by kernel_rfl) isAmount_any).mono ?_
  rintro e w1 ⟨rfl, hb1⟩
  have hA := hA.below hb1 hA.lt
  have hB := hB.below hb1 hB.lt
  have hZ := hZ.below hb1 hZ.lt
  have hb := bCall hb hb1 hb.size
  clear hb1
  cases h0 : (allTo 16 fun i => amount (canon .f32 (c i))) with
  | false =>
    have Hm : Hid ((ratioRes (fun i => canon .f32 (c i)) fun i => canon .f32 (d i)) = (fun _ => canon .f32 0, 2)) := Lib.hid (by unfold ratioRes; rw [h0]; rfl)
    clear h0
    go_wp2_with (first | (refine wpList_build_as rfl 24 _ rfl (fA 16 fun _ => 0) (by kernel_rfl) ?_) | (refine wpList_store_row rfl 24 _ _ rfl _ _ rfl rfl _ _ hZ (by kernel_rfl) (by simp only [size_fA]) (all_fA _ _) ?_))
    exact bodyPost_ret (results_cell_row2 rfl _ _ (w.heap.size + 1 + 1) _ _ _ _ rfl hZ.setRow Try.underlying24 rfl (by kernel_rfl)) rfl (RetCC.as Hm.out ⟨_, rfl, fun _ _ => rfl, (by repeat (first | assumption | exact Below.refl _ _ | refine bDrew ?_ _ | refine Below.alloc ?_ (by first | omega | (simp; done) | (simp; omega)) _ | refine Below.setCell ?_ (by first | omega | (simp; done) | (simp; omega)) _ | refine bRow ?_ (by first | omega | (simp; done) | (simp; omega)) _))⟩)
  | true =>
    have H0 := Lib.hid h0
    clear h0
    go_wp2_with (refine wpList_load_partW rfl 24 _ rfl 0 16 hB rfl (by decide) Try.underlying24 rfl (by kernel_rfl) ?_)
    rw [rowAt_zero]
    refine (all_any 74 amount d w1 (fun _ _ => by kernel_rfl) isAmount_any).mono ?_
    rintro e w2 ⟨rfl, hb1⟩
    have hA := hA.below hb1 hA.lt
    have hB := hB.below hb1 hB.lt
    have hZ := hZ.below hb1 hZ.lt
    have hb := bCall hb hb1 hb.size
    clear hb1
    cases h1 : (allTo 16 fun i => amount (canon .f32 (d i))) with
    | false =>
      have Hm : Hid ((ratioRes (fun i => canon .f32 (c i)) fun i => canon .f32 (d i)) = (fun _ => canon .f32 0, 2)) := Lib.hid (by unfold ratioRes; rw [h1, Bool.and_false]; rfl)
      clear h1
      go_wp2_with (first | (refine wpList_build_as rfl 24 _ rfl (fA 16 fun _ => 0) (by kernel_rfl) ?_) | (refine wpList_store_row rfl 24 _ _ rfl _ _ rfl rfl _ _ hZ (by kernel_rfl) (by simp only [size_fA]) (all_fA _ _) ?_))
      exact bodyPost_ret (results_cell_row2 rfl _ _ (w.heap.size + 1 + 1) _ _ _ _ rfl hZ.setRow Try.underlying24 rfl (by kernel_rfl)) rfl (RetCC.as Hm.out ⟨_, rfl, fun _ _ => rfl, (by repeat (first | assumption | exact Below.refl _ _ | refine bDrew ?_ _ | refine Below.alloc ?_ (by first | omega | (simp; done) | (simp; omega)) _ | refine Below.setCell ?_ (by first | omega | (simp; done) | (simp; omega)) _ | refine bRow ?_ (by first | omega | (simp; done) | (simp; omega)) _))⟩)
    | true =>
      have Hm : Hid ((ratioRes (fun i => canon .f32 (c i)) fun i => canon .f32 (d i)) = ((finRes fun i => ratioAt (canon .f32 (c i)) (canon .f32 (d i))).1, (finRes fun i => ratioAt (canon .f32 (c i)) (canon .f32 (d i))).2)) := Lib.hid (by have h0 := H0.out; unfold ratioRes; rw [h0, h1]; rfl)
      clear h1
      go_wp2_with (first | (refine wpList_load_row rfl 24 _ rfl _ rfl _ _ (0, 0) _ hA Try.underlying24 rfl (by kernel_rfl) ?_) | (refine wpList_load_row rfl 24 _ rfl _ rfl _ _ (0, 0) _ hB Try.underlying24 rfl (by kernel_rfl) ?_))
      refine (with_any 75 #[] ratioAt c d w2 (fun _ _ => by kernel_rfl) (fun x y w1 _ => (ratio_any x y w1).mono fun _ _ h => h.to)).mono ?_
      rintro e w3 ⟨r, rfl, hr, hb1⟩
      have hZ := hZ.below hb1 hZ.lt
      have hb := bCall hb hb1 hb.size
      have Hr := Lib.hid hr
      clear hr hb1
      go_wp2_with fail
      refine (finiteCurve_any r w3).mono ?_
      rintro e w4 ⟨q, rfl, hq, hb1⟩
      have hZ := hZ.below hb1 hZ.lt
      have hb := bCall hb hb1 hb.size
      have Hq := Lib.hid hq
      clear hq hb1
      go_wp2_with (refine wpList_store_row rfl 24 _ _ rfl _ _ rfl rfl _ _ hZ (by kernel_rfl) (by simp only [size_fA]) (all_fA _ _) ?_)
      exact bodyPost_ret (results_cell_row2 rfl _ _ (w.heap.size + 1 + 1) _ _ _ _ rfl hZ.setRow Try.underlying24 rfl (by kernel_rfl)) rfl (RetCC.as Hm.out (finRes_congr Hr.out ⟨q, rfl, Hq.out, (by repeat (first | assumption | exact Below.refl _ _ | refine bDrew ?_ _ | refine Below.alloc ?_ (by first | omega | (simp; done) | (simp; omega)) _ | refine Below.setCell ?_ (by first | omega | (simp; done) | (simp; omega)) _ | refine bRow ?_ (by first | omega | (simp; done) | (simp; omega)) _))⟩))
theorem sRatioCurve_any (c d : Nat → Nat) (w : World) : Calls Try.prog 35 #[.agg (fA 16 c), .agg (fA 16 d)] w (RetCC 16 w (ratioRes (fun i => canon .f32 (c i)) fun i => canon .f32 (d i)).1 (ratioRes (fun i => canon .f32 (c i)) fun i => canon .f32 (d i)).2) := by
  have hA : Blk (((w.alloc (.cells (fA 16 c) 24)).alloc (.cells (fA 16 d) 24)).alloc (.cells (fA 16 fun _ => 0) 24)) w.heap.size 24 (fA 16 c) := ((Blk.new _ _ _).alloc _).alloc _
  have hB : Blk (((w.alloc (.cells (fA 16 c) 24)).alloc (.cells (fA 16 d) 24)).alloc (.cells (fA 16 fun _ => 0) 24)) (w.heap.size + 1) 24 (fA 16 d) := (Blk.new_at _ _ (by simp) rfl).alloc _
  have hZ : Blk (((w.alloc (.cells (fA 16 c) 24)).alloc (.cells (fA 16 d) 24)).alloc (.cells (fA 16 fun _ => 0) 24)) (w.heap.size + 1 + 1) 24 (fA 16 fun _ => 0) := Blk.new_at _ _ (by simp) rfl
  have hb : Below w.heap.size w (((w.alloc (.cells (fA 16 c) 24)).alloc (.cells (fA 16 d) 24)).alloc (.cells (fA 16 fun _ => 0) 24)) := (by repeat (first | assumption | exact Below.refl _ _ | refine bDrew ?_ _ | refine Below.alloc ?_ (by first | omega | (simp; done) | (simp; omega)) _ | refine Below.setCell ?_ (by first | omega | (simp; done) | (simp; omega)) _ | refine bRow ?_ (by first | omega | (simp; done) | (simp; omega)) _))
  go_enter Try.func35, Try.ntmps35
  go_wp2_with (refine wpList_load_row rfl 24 _ rfl _ rfl _ _ (0, 0) _ hA Try.underlying24 rfl (by kernel_rfl) ?_)
  refine (l02Amounts_any c (((w.alloc (.cells (fA 16 c) 24)).alloc (.cells (fA 16 d) 24)).alloc (.cells (fA 16 fun _ => 0) 24))).mono ?_
  rintro e w1 ⟨rfl, hb1⟩
  have hA := hA.below hb1 hA.lt
  have hB := hB.below hb1 hB.lt
  have hZ := hZ.below hb1 hZ.lt
  have hb := bCall hb hb1 hb.size
  clear hb1
  cases h0 : (allTo 16 fun i => amount (canon .f32 (c i))) with
  | false =>
    have Hm : Hid ((ratioRes (fun i => canon .f32 (c i)) fun i => canon .f32 (d i)) = (fun _ => canon .f32 0, 2)) := Lib.hid (by unfold ratioRes; rw [h0]; rfl)
    clear h0
    go_wp2_with (first | (refine wpList_build_as rfl 24 _ rfl (fA 16 fun _ => 0) (by kernel_rfl) ?_) | (refine wpList_store_row rfl 24 _ _ rfl _ _ rfl rfl _ _ hZ (by kernel_rfl) (by simp only [size_fA]) (all_fA _ _) ?_))
    exact bodyPost_ret (results_cell_row2 rfl _ _ (w.heap.size + 1 + 1) _ _ _ _ rfl hZ.setRow Try.underlying24 rfl (by kernel_rfl)) rfl (RetCC.as Hm.out ⟨_, rfl, fun _ _ => rfl, (by repeat (first | assumption | exact Below.refl _ _ | refine bDrew ?_ _ | refine Below.alloc ?_ (by first | omega | (simp; done) | (simp; omega)) _ | refine Below.setCell ?_ (by first | omega | (simp; done) | (simp; omega)) _ | refine bRow ?_ (by first | omega | (simp; done) | (simp; omega)) _))⟩)
  | true =>
    have H0 := Lib.hid h0
    clear h0
    go_wp2_with (refine wpList_load_partW rfl 24 _ rfl 0 16 hB rfl (by decide) Try.underlying24 rfl (by kernel_rfl) ?_)
    rw [rowAt_zero]
    refine (l02Amounts_any d w1).mono ?_
    rintro e w2 ⟨rfl, hb1⟩
    have hA := hA.below hb1 hA.lt
    have hB := hB.below hb1 hB.lt
    have hZ := hZ.below hb1 hZ.lt
    have hb := bCall hb hb1 hb.size
    clear hb1
    cases h1 : (allTo 16 fun i => amount (canon .f32 (d i))) with
    | false =>
      have Hm : Hid ((ratioRes (fun i => canon .f32 (c i)) fun i => canon .f32 (d i)) = (fun _ => canon .f32 0, 2)) := Lib.hid (by unfold ratioRes; rw [h1, Bool.and_false]; rfl)
      clear h1
      go_wp2_with (first | (refine wpList_build_as rfl 24 _ rfl (fA 16 fun _ => 0) (by kernel_rfl) ?_) | (refine wpList_store_row rfl 24 _ _ rfl _ _ rfl rfl _ _ hZ (by kernel_rfl) (by simp only [size_fA]) (all_fA _ _) ?_))
      exact bodyPost_ret (results_cell_row2 rfl _ _ (w.heap.size + 1 + 1) _ _ _ _ rfl hZ.setRow Try.underlying24 rfl (by kernel_rfl)) rfl (RetCC.as Hm.out ⟨_, rfl, fun _ _ => rfl, (by repeat (first | assumption | exact Below.refl _ _ | refine bDrew ?_ _ | refine Below.alloc ?_ (by first | omega | (simp; done) | (simp; omega)) _ | refine Below.setCell ?_ (by first | omega | (simp; done) | (simp; omega)) _ | refine bRow ?_ (by first | omega | (simp; done) | (simp; omega)) _))⟩)
    | true =>
      have Hm : Hid ((ratioRes (fun i => canon .f32 (c i)) fun i => canon .f32 (d i)) = ((finRes fun i => ratioAt (canon .f32 (c i)) (canon .f32 (d i))).1, (finRes fun i => ratioAt (canon .f32 (c i)) (canon .f32 (d i))).2)) := Lib.hid (by have h0 := H0.out; unfold ratioRes; rw [h0, h1]; rfl)
      clear h1
      have hO : Blk (w2.alloc (.cells (fA 16 fun _ => 0) 24)) w2.heap.size 24 (fA 16 fun _ => 0) := Blk.new _ _ _
      have hO2 : Blk ((w2.alloc (.cells (fA 16 fun _ => 0) 24)).setRow w2.heap.size (fA 16 fun _ => 0)) w2.heap.size 24 (fA 16 fun _ => 0) := hO.setRow
      have hA2 : Blk ((w2.alloc (.cells (fA 16 fun _ => 0) 24)).setRow w2.heap.size (fA 16 fun _ => 0)) w.heap.size 24 (fA 16 c) := (hA.alloc _).farRow (by have := hA.lt; omega)
      have hB2 : Blk ((w2.alloc (.cells (fA 16 fun _ => 0) 24)).setRow w2.heap.size (fA 16 fun _ => 0)) (w.heap.size + 1) 24 (fA 16 d) := (hB.alloc _).farRow (by have := hB.lt; omega)
      have hZ2 : Blk ((w2.alloc (.cells (fA 16 fun _ => 0) 24)).setRow w2.heap.size (fA 16 fun _ => 0)) (w.heap.size + 1 + 1) 24 (fA 16 fun _ => 0) := (hZ.alloc _).farRow (by have := hZ.lt; omega)
      have hb2 : Below w.heap.size w ((w2.alloc (.cells (fA 16 fun _ => 0) 24)).setRow w2.heap.size (fA 16 fun _ => 0)) := bRow (Below.alloc hb hb.size _) hb.size _
      have hg : w.heap.size + 1 + 1 < w2.heap.size := hZ.lt
      clear hA hB hZ hb
      go_wp2_with (first | (refine wpList_build_as rfl 24 _ rfl (fA 16 fun _ => 0) (by kernel_rfl) ?_) | (refine wpList_store_row rfl 24 _ _ rfl _ _ rfl rfl _ _ hO (by kernel_rfl) (by simp only [size_fA]) (all_fA _ _) ?_))
      go_loopw [7] (fun i wr => ∃ (k : Nat) (cur : Nat → Nat), k ≤ 16 ∧ i = .int .i64 k ∧ Below w.heap.size w wr ∧ Blk wr w.heap.size 24 (fA 16 c) ∧ Blk wr (w.heap.size + 1) 24 (fA 16 d) ∧ Blk wr (w.heap.size + 1 + 1) 24 (fA 16 fun _ => 0) ∧ Blk wr w2.heap.size 24 (fA 16 cur) ∧ (∀ j, j < k → canon .f32 (cur j) = ratioAt (canon .f32 (c j)) (canon .f32 (d j))) ∧ ∀ j, k ≤ j → cur j = 0) (fun i _ => 16 - (intOf i).toNat)
      case atStart => exact ⟨0, fun _ => 0, by omega, rfl, hb2, hA2, hB2, hZ2, hO2, fun j h => absurd h (by omega), fun _ _ => rfl⟩
      case round =>
        clear hO hO2 hA2 hB2 hZ2 hb2
        obtain ⟨k, cur, hk, rfl, hb, hA, hB, hZ, hO, hc, ho⟩ := hrel
        have Hc := Lib.hid hc
        have Ho := Lib.hid ho
        clear hc ho
        by_cases hlt : k < 16
        · have c1 := (hA.cell k).trans (get_fA_lt c hlt)
          have c2 := (hB.cell k).trans (get_fA_lt d hlt)
          have c3 := (hO.cell k).trans (get_fA_lt cur hlt)
          have f3 := hO.frozen k
          cases hx : (FloatKind.f32.format.order (c k) 0 == some .eq) with
          | true =>
            have Hx : Hid (ratioAt (canon .f32 (c k)) (canon .f32 (d k)) = canon .f32 0) := Lib.hid (by unfold ratioAt; rw [← o_eq, hx]; rfl)
            go_wp2
            go_roundw
            case rel =>
              refine ⟨k + 1, cur, by omega, by go_num, hb, hA, hB, hZ, hO, ?_, fun j hj => Ho.out j (by omega)⟩
              intro j hj
              by_cases e : j = k
              · subst e; rw [Ho.out j (Nat.le_refl _), Hx.out]
              · exact Hc.out j (by omega)
            case measure => simp [intOf]; omega
          | false =>
            have Hx : Hid (ratioAt (canon .f32 (c k)) (canon .f32 (d k)) = fdiv (canon .f32 (c k)) (canon .f32 (d k))) := Lib.hid (by unfold ratioAt; rw [← o_eq, hx]; rfl)
            go_wp2_with fail
            (refine wp_region_loose_tail 9 (fun w' => ∃ n, w' = wr.drewN n) (fun _ _ _ => False) (by kernel_rfl) (by kernel_rfl) ⟨1, rfl⟩ ?_; simp only [List.take_succ_cons, List.take_zero, List.drop_succ_cons, List.drop_zero])
            repeat (refine wpLoose_plain rfl (fun K hK w1 hw1 => ?_); obtain ⟨n, rfl⟩ := hw1; go_simp; refine ⟨⟨_, rfl⟩, hK _ ?_⟩; clear hK K)
            (refine wpLoose_nil ?_; intro _ hw'; obtain ⟨nq, rfl⟩ := hw')
            go_wp2
            go_roundw
            case rel => exact ⟨k + 1, _, by omega, by go_num, Below.setCell (bDrew hb _) (by dsimp only; omega) _, (Blk.drewN hA _).far (by dsimp only; omega) _, (Blk.drewN hB _).far (by dsimp only; omega) _, (Blk.drewN hZ _).far (by dsimp only; omega) _, Blk.setF (Blk.drewN hO _) k _, upd_to (Q := fun j v => canon .f32 v = ratioAt (canon .f32 (c j)) (canon .f32 (d j))) Hc.out ((c_div ..).trans Hx.out.symm), upd_from Ho.out⟩
            case measure => simp [intOf]; omega
        · obtain rfl : k = 16 := by omega
          go_wp2_with (refine wpList_load_row rfl 24 _ rfl _ rfl _ _ (0, 0) _ hO Try.underlying24 rfl (by kernel_rfl) ?_)
          refine (l02Curve_any cur wr).mono ?_
          rintro e w4 ⟨q, rfl, hq, hb1⟩
          have hZ := hZ.below hb1 hZ.lt
          have hb := bCall hb hb1 hb.size
          have Hq := Lib.hid hq
          clear hq hb1
          go_wp2_with (refine wpList_store_row rfl 24 _ _ rfl _ _ rfl rfl _ _ hZ (by kernel_rfl) (by simp only [size_fA]) (all_fA _ _) ?_)
          exact bodyPost_ret (results_cell_row2 rfl _ _ (w.heap.size + 1 + 1) _ _ _ _ rfl hZ.setRow Try.underlying24 rfl (by kernel_rfl)) rfl (RetCC.as Hm.out (finRes_congr Hc.out ⟨q, rfl, Hq.out, (by repeat (first | assumption | exact Below.refl _ _ | refine bDrew ?_ _ | refine Below.alloc ?_ (by first | omega | (simp; done) | (simp; omega)) _ | refine Below.setCell ?_ (by first | omega | (simp; done) | (simp; omega)) _ | refine bRow ?_ (by first | omega | (simp; done) | (simp; omega)) _))⟩))
end Go.Proofs.Ytgnpmmohnphplaa
