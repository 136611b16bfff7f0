/- Contracts: how much a very thick layer reflects. -/
import Derived.Test.YtnfnlgmnnjgemaaGreatDoorCR
import Derived.Test.YtnfnlgmnnjgemaaGreatDoorCZ
namespace Go.Proofs.YtnfnlgmnnjgemaaGreatDoor
open Go.RowKit
set_option maxRecDepth 100000

def thickAt (k s : Option Nat) : Option Nat := if feq s (canon .f32 0) then canon .f32 0 else reflectAt (ratioAt k s)
def thickOk (k s : Option Nat) : Bool := feq s (canon .f32 0) || fin (ratioAt k s)
def thickRes (k s : Nat → Option Nat) : (Nat → Option Nat) × Int :=
  if (allTo 16 fun i => amount (k i)) && (allTo 16 fun i => amount (s i)) then if allTo 16 (fun i => thickOk (k i) (s i)) then finRes (fun i => thickAt (k i) (s i)) else (fun _ => canon .f32 0, 4) else (fun _ => canon .f32 0, 2)

set_option maxHeartbeats 4000000 in
theorem iThickOf_any (c d : Nat → Nat) (w : World) : Calls Tryz.prog 17 #[.agg (fA 16 c), .agg (fA 16 d)] w (RetCC 16 w (thickRes (fun i => canon .f32 (c i)) fun i => canon .f32 (d i)).1 (thickRes (fun i => canon .f32 (c i)) fun i => canon .f32 (d i)).2) := by
  have hA : Blk ((((w.alloc (.cells (fA 16 c) 26)).alloc (.cells (fA 16 d) 26)).alloc (.cells (fA 16 fun _ => 0) 26)).alloc (.cells (fA 16 fun _ => 0) 26)) w.heap.size 26 (fA 16 c) := (((Blk.new _ _ _).alloc _).alloc _).alloc _
  have hB : Blk ((((w.alloc (.cells (fA 16 c) 26)).alloc (.cells (fA 16 d) 26)).alloc (.cells (fA 16 fun _ => 0) 26)).alloc (.cells (fA 16 fun _ => 0) 26)) (w.heap.size + 1) 26 (fA 16 d) := ((Blk.new_at _ _ (by simp) rfl).alloc _).alloc _
  have hZ : Blk ((((w.alloc (.cells (fA 16 c) 26)).alloc (.cells (fA 16 d) 26)).alloc (.cells (fA 16 fun _ => 0) 26)).alloc (.cells (fA 16 fun _ => 0) 26)) (w.heap.size + 1 + 1) 26 (fA 16 fun _ => 0) := (Blk.new_at _ _ (by simp) rfl).alloc _
  have hO : Blk ((((w.alloc (.cells (fA 16 c) 26)).alloc (.cells (fA 16 d) 26)).alloc (.cells (fA 16 fun _ => 0) 26)).alloc (.cells (fA 16 fun _ => 0) 26)) (w.heap.size + 1 + 1 + 1) 26 (fA 16 fun _ => 0) := Blk.new_at _ _ (by simp) rfl
  have hb : Below w.heap.size w ((((w.alloc (.cells (fA 16 c) 26)).alloc (.cells (fA 16 d) 26)).alloc (.cells (fA 16 fun _ => 0) 26)).alloc (.cells (fA 16 fun _ => 0) 26)) := (by repeat (first | assumption | exact Below.refl _ _ | refine bDrew ?_ _ | refine Below.alloc ?_ (by first | omega | (simp; done) | (simp; omega)) _ | refine Below.setCell ?_ (by first | omega | (simp; done) | (simp; omega)) _ | refine bRow ?_ (by first | omega | (simp; done) | (simp; omega)) _))
  have hA1 : Blk (((((w.alloc (.cells (fA 16 c) 26)).alloc (.cells (fA 16 d) 26)).alloc (.cells (fA 16 fun _ => 0) 26)).alloc (.cells (fA 16 fun _ => 0) 26)).setRow (w.heap.size + 1 + 1 + 1) (fA 16 fun _ => 0)) w.heap.size 26 (fA 16 c) := hA.farRow (by omega)
  go_enter Tryz.func17, Tryz.ntmps17
  go_wp2_with (first | (refine wpList_build_as rfl 26 _ rfl (fA 16 fun _ => 0) (by kernel_rfl) ?_) | (refine wpList_store_row rfl 26 _ _ rfl _ _ rfl rfl _ _ hO (by kernel_rfl) (by simp only [size_fA]) (all_fA _ _) ?_) | (refine wpList_load_row rfl 26 _ rfl _ rfl _ _ (0, 0) _ hA1 Tryz.underlying26 rfl (by kernel_rfl) ?_))
  clear hA1
  have hA := hA.farRow (g' := w.heap.size + 1 + 1 + 1) (cs' := fA 16 fun _ => 0) (by omega)
  have hB := hB.farRow (g' := w.heap.size + 1 + 1 + 1) (cs' := fA 16 fun _ => 0) (by omega)
  have hZ := hZ.farRow (g' := w.heap.size + 1 + 1 + 1) (cs' := fA 16 fun _ => 0) (by omega)
  have hO := hO.setRow (cs' := fA 16 fun _ => 0)
  have hb := bRow hb (g := w.heap.size + 1 + 1 + 1) (by omega) (fA 16 fun _ => 0)
  refine (all_any 42 amount c _ (fun _ _ => by kernel_rfl) isAmount_any).mono ?_
  rintro e w1 ⟨rfl, hb1⟩
  have hA := hA.below hb1 hA.lt
  have hB := hB.below hb1 hB.lt
  have hZ := hZ.below hb1 hZ.lt
  have hO := hO.below hb1 hO.lt
  have hb := bCall hb hb1 hb.size; clear hb1
  cases h0 : (allTo 16 fun i => amount (canon .f32 (c i))) with
  | false =>
    have Hm : Hid ((thickRes (fun i => canon .f32 (c i)) fun i => canon .f32 (d i)) = (fun _ => canon .f32 0, 2)) := Lib.hid (by simp only [thickRes, h0, Bool.false_and, Bool.false_eq_true, if_false])
    clear h0
    go_wp2_with (first | (refine wpList_build_as rfl 26 _ rfl (fA 16 fun _ => 0) (by kernel_rfl) ?_) | (refine wpList_store_row rfl 26 _ _ rfl _ _ rfl rfl _ _ hZ (by kernel_rfl) (by simp only [size_fA]) (all_fA _ _) ?_)); exact bodyPost_ret (results_cell_row2 rfl _ _ (w.heap.size + 1 + 1) _ _ _ _ rfl hZ.setRow Tryz.underlying26 rfl (by kernel_rfl)) rfl (RetCC.as Hm.out ⟨_, rfl, fun _ _ => rfl, (by repeat (first | assumption | exact Below.refl _ _ | refine bDrew ?_ _ | refine Below.alloc ?_ (by first | omega | (simp; done) | (simp; omega)) _ | refine Below.setCell ?_ (by first | omega | (simp; done) | (simp; omega)) _ | refine bRow ?_ (by first | omega | (simp; done) | (simp; omega)) _))⟩)
  | true =>
    have H0 := Lib.hid h0
    clear h0
    go_wp2_with (refine wpList_load_partW rfl 26 _ rfl 0 16 hB rfl (by decide) Tryz.underlying26 rfl (by kernel_rfl) ?_)
    rw [rowAt_zero]
    refine (all_any 42 amount d w1 (fun _ _ => by kernel_rfl) isAmount_any).mono ?_
    rintro e w2 ⟨rfl, hb1⟩
    have hA := hA.below hb1 hA.lt
    have hB := hB.below hb1 hB.lt
    have hZ := hZ.below hb1 hZ.lt
    have hO := hO.below hb1 hO.lt
    have hb := bCall hb hb1 hb.size; clear hb1
    cases h1 : (allTo 16 fun i => amount (canon .f32 (d i))) with
    | false =>
      have Hm : Hid ((thickRes (fun i => canon .f32 (c i)) fun i => canon .f32 (d i)) = (fun _ => canon .f32 0, 2)) := Lib.hid (by simp only [thickRes, h1, Bool.and_false, Bool.false_eq_true, if_false])
      clear h1
      go_wp2_with (first | (refine wpList_build_as rfl 26 _ rfl (fA 16 fun _ => 0) (by kernel_rfl) ?_) | (refine wpList_store_row rfl 26 _ _ rfl _ _ rfl rfl _ _ hZ (by kernel_rfl) (by simp only [size_fA]) (all_fA _ _) ?_)); exact bodyPost_ret (results_cell_row2 rfl _ _ (w.heap.size + 1 + 1) _ _ _ _ rfl hZ.setRow Tryz.underlying26 rfl (by kernel_rfl)) rfl (RetCC.as Hm.out ⟨_, rfl, fun _ _ => rfl, (by repeat (first | assumption | exact Below.refl _ _ | refine bDrew ?_ _ | refine Below.alloc ?_ (by first | omega | (simp; done) | (simp; omega)) _ | refine Below.setCell ?_ (by first | omega | (simp; done) | (simp; omega)) _ | refine bRow ?_ (by first | omega | (simp; done) | (simp; omega)) _))⟩)
    | true =>
      have H1 := Lib.hid h1
      clear h1
      go_wp2
      go_loopw [7, 8, 19] (fun _ _ i wr => ∃ (k : Nat) (cur : Nat → Nat), k ≤ 16 ∧ i = .int .i64 k ∧ Below w.heap.size w wr ∧ Blk wr w.heap.size 26 (fA 16 c) ∧ Blk wr (w.heap.size + 1) 26 (fA 16 d) ∧ Blk wr (w.heap.size + 1 + 1) 26 (fA 16 fun _ => 0) ∧ Blk wr (w.heap.size + 1 + 1 + 1) 26 (fA 16 cur) ∧ Hid ((∀ j, j < k → thickOk (canon .f32 (c j)) (canon .f32 (d j)) = true) ∧ (∀ j, j < k → canon .f32 (cur j) = thickAt (canon .f32 (c j)) (canon .f32 (d j))) ∧ ∀ j, k ≤ j → cur j = 0)) (fun _ _ i _ => 16 - (intOf i).toNat)
      case atStart => exact ⟨0, fun _ => 0, by omega, rfl, hb, hA, hB, hZ, hO, Lib.hid ⟨fun j h => absurd h (by omega), fun j h => absurd h (by omega), fun _ _ => rfl⟩⟩
      case round =>
        clear hA hB hZ hO hb
        obtain ⟨k, cur, hk, rfl, hb, hA, hB, hZ, hC, HC⟩ := hrel
        by_cases hlt : k < 16
        · have c0 := (hA.cell k).trans (get_fA_lt c hlt)
          have c1 := (hB.cell k).trans (get_fA_lt d hlt)
          cases hz : (FloatKind.f32.format.order (d k) 0 == some .eq) with
          | true =>
            have Hz : Hid (feq (canon .f32 (d k)) (canon .f32 0) = true) := Lib.hid (by rw [← o_eq]; exact hz)
            go_wp2
            go_roundw
            case rel =>
              refine ⟨k + 1, cur, by omega, by go_num, hb, hA, hB, hZ, hC, Lib.hid ⟨?_, ?_, fun j hj => HC.out.2.2 j (by omega)⟩⟩
              · intro j hj
                by_cases e : j = k
                · subst e; simp only [thickOk, Hz.out, Bool.true_or]
                · exact HC.out.1 j (by omega)
              · intro j hj
                by_cases e : j = k
                · subst e; rw [HC.out.2.2 j (Nat.le_refl _)]; simp only [thickAt, Hz.out, if_true]
                · exact HC.out.2.1 j (by omega)
            case measure => simp [intOf]; omega
          | false =>
            have Hz : Hid (feq (canon .f32 (d k)) (canon .f32 0) = false) := Lib.hid (by rw [← o_eq]; exact hz)
            go_wp2_with fail
            clear hz
            (refine wp_region_loose_lit (fun w' => ∃ n, w' = wr.drewN n) (GM ratioAt (fun _ x => x)) (by kernel_rfl) (by kernel_rfl) ⟨1, rfl⟩ ?_)
            repeat (refine wpLoose_plain rfl (fun K hK w1 hw1 => ?_); obtain ⟨n, rfl⟩ := hw1; go_simp; refine ⟨⟨_, rfl⟩, hK _ ?_⟩; clear hK K)
            (refine wpLoose_plain rfl (fun K hK w1 hw1 => ?_); obtain ⟨n1, rfl⟩ := hw1; go_simp; refine ⟨⟨_, rfl⟩, (ratio_any _ _ _).mono ?_, fun u hu => hK _ ?_⟩; (rintro e w' ⟨r, rfl, hr, m, rfl⟩; exact ⟨_, rfl, GM.mk2 hr, _, by rw [World.drewN_drewN]⟩); clear hK K; obtain ⟨r1, rfl, R1⟩ := GM.inv2 hu; clear hu)
            repeat (refine wpLoose_plain rfl (fun K hK w1 hw1 => ?_); obtain ⟨n, rfl⟩ := hw1; go_simp; refine ⟨⟨_, rfl⟩, hK _ ?_⟩; clear hK K)
            (refine wpLoose_nil ?_; intro _ hw'; obtain ⟨nq, rfl⟩ := hw')
            obtain ⟨W, hW⟩ : ∃ W : World, W = wr.drewN nq := ⟨_, rfl⟩
            have hA : Blk W w.heap.size 26 (fA 16 c) := by subst hW; exact hA
            have hB : Blk W (w.heap.size + 1) 26 (fA 16 d) := by subst hW; exact hB
            have hZ : Blk W (w.heap.size + 1 + 1) 26 (fA 16 fun _ => 0) := by subst hW; exact hZ
            have hC : Blk W (w.heap.size + 1 + 1 + 1) 26 (fA 16 cur) := by subst hW; exact hC
            have hb : Below w.heap.size w W := by subst hW; exact bDrew hb _
            rw [← hW]
            clear hW c0 c1
            go_wp2_with (refine wpList_buildSlice rfl _ _ _ rfl (.slice (some ⟨W.heap.size, 0, none⟩) 1 1) (W.alloc (.cells (fA 1 fun _ => r1) 24)) (by kernel_rfl) ?_)
            refine (isFinite_any W.heap.size 1 24 (fun _ => r1) _ (Blk.new W _ _) (by decide)).mono ?_
            rintro e w3 ⟨rfl, hb1⟩
            have hA := (hA.alloc (.cells (fA 1 fun _ => r1) 24)).below hb1 (hA.alloc _).lt
            have hB := (hB.alloc (.cells (fA 1 fun _ => r1) 24)).below hb1 (hB.alloc _).lt
            have hZ := (hZ.alloc (.cells (fA 1 fun _ => r1) 24)).below hb1 (hZ.alloc _).lt
            have hC := (hC.alloc (.cells (fA 1 fun _ => r1) 24)).below hb1 (hC.alloc _).lt
            have hb2 : Below w.heap.size w (W.alloc (.cells (fA 1 fun _ => r1) 24)) := Below.alloc hb hb.size _
            have hb := bCall hb2 hb1 hb2.size
            clear hb1 hb2
            have e1 : (allTo 1 fun _ => fin (canon .f32 r1)) = fin (ratioAt (canon .f32 (c k)) (canon .f32 (d k))) := by rw [R1.out]; simp [allTo]
            rw [e1]
            clear e1
            cases h2 : fin (ratioAt (canon .f32 (c k)) (canon .f32 (d k))) with
            | false =>
              have Hm : Hid ((thickRes (fun i => canon .f32 (c i)) fun i => canon .f32 (d i)) = (fun _ => canon .f32 0, 4)) := Lib.hid (by
                have hq : (allTo 16 fun i => thickOk (canon .f32 (c i)) (canon .f32 (d i))) = false := allTo_false hlt (by simp only [thickOk, Hz.out, h2, Bool.or_self])
                simp only [thickRes, H0.out, H1.out, hq, Bool.and_self, Bool.false_eq_true, if_false, if_true])
              clear h2
              go_wp2_with (first | (refine wpList_build_as rfl 26 _ rfl (fA 16 fun _ => 0) (by kernel_rfl) ?_) | (refine wpList_store_row rfl 26 _ _ rfl _ _ rfl rfl _ _ hZ (by kernel_rfl) (by simp only [size_fA]) (all_fA _ _) ?_)); exact bodyPost_ret (results_cell_row2 rfl _ _ (w.heap.size + 1 + 1) _ _ _ _ rfl hZ.setRow Tryz.underlying26 rfl (by kernel_rfl)) rfl (RetCC.as Hm.out ⟨_, rfl, fun _ _ => rfl, (by repeat (first | assumption | exact Below.refl _ _ | refine bDrew ?_ _ | refine Below.alloc ?_ (by first | omega | (simp; done) | (simp; omega)) _ | refine Below.setCell ?_ (by first | omega | (simp; done) | (simp; omega)) _ | refine bRow ?_ (by first | omega | (simp; done) | (simp; omega)) _))⟩)
            | true =>
              have H2 := Lib.hid h2
              clear h2
              have c3 := (hC.cell k).trans (get_fA_lt cur hlt)
              have f1 := hC.frozen k
              go_wp2_with fail
              refine (ofRatio_any r1 w3).mono ?_
              rintro e w4 ⟨r2, rfl, hr2, n2, rfl⟩
              have R2 := Lib.hid hr2
              clear hr2
              go_wp2
              go_roundw
              case rel =>
                refine ⟨k + 1, _, by omega, by go_num, (bDrew hb _).setCell (by dsimp only; omega) _, Blk.far (Blk.drewN hA _) (by dsimp only; omega) _, Blk.far (Blk.drewN hB _) (by dsimp only; omega) _, Blk.far (Blk.drewN hZ _) (by dsimp only; omega) _, Blk.setF (Blk.drewN hC _) k _, Lib.hid ⟨?_, upd_to (Q := fun j v => canon .f32 v = thickAt (canon .f32 (c j)) (canon .f32 (d j))) HC.out.2.1 ?_, upd_from HC.out.2.2⟩⟩
                · intro j hj
                  by_cases e : j = k
                  · subst e; simp only [thickOk, H2.out, Bool.or_true]
                  · exact HC.out.1 j (by omega)
                · rw [R2.out, R1.out]; simp only [thickAt, Hz.out, Bool.false_eq_true, if_false]
              case measure => simp [intOf]; omega
        · obtain rfl : k = 16 := by omega
          have Hm : Hid ((thickRes (fun i => canon .f32 (c i)) fun i => canon .f32 (d i)) = ((finRes fun i => thickAt (canon .f32 (c i)) (canon .f32 (d i))).1, (finRes fun i => thickAt (canon .f32 (c i)) (canon .f32 (d i))).2)) := Lib.hid (by
            have hq : (allTo 16 fun i => thickOk (canon .f32 (c i)) (canon .f32 (d i))) = true := allTo_true HC.out.1
            simp only [thickRes, H0.out, H1.out, hq, Bool.and_self, if_true])
          go_wp2_with (refine wpList_load_row rfl 26 _ rfl _ rfl _ _ (0, 0) _ hC Tryz.underlying26 rfl (by kernel_rfl) ?_)
          refine (finiteCurve_any cur wr).mono ?_
          rintro e w4 ⟨s, rfl, hs, hb1⟩
          have hZ := hZ.below hb1 hZ.lt
          have hb := bCall hb hb1 hb.size
          have Hq := Lib.hid hs
          clear hs hb1
          go_wp2_with (refine wpList_store_row rfl 26 _ _ rfl _ _ rfl rfl _ _ hZ (by kernel_rfl) (by simp only [size_fA]) (all_fA _ _) ?_)
          exact bodyPost_ret (results_cell_row2 rfl _ _ (w.heap.size + 1 + 1) _ _ _ _ rfl hZ.setRow Tryz.underlying26 rfl (by kernel_rfl)) rfl (RetCC.as Hm.out (finRes_congr HC.out.2.1 ⟨s, rfl, Hq.out, (by repeat (first | assumption | exact Below.refl _ _ | refine bDrew ?_ _ | refine Below.alloc ?_ (by first | omega | (simp; done) | (simp; omega)) _ | refine Below.setCell ?_ (by first | omega | (simp; done) | (simp; omega)) _ | refine bRow ?_ (by first | omega | (simp; done) | (simp; omega)) _))⟩))
end Go.Proofs.YtnfnlgmnnjgemaaGreatDoor
