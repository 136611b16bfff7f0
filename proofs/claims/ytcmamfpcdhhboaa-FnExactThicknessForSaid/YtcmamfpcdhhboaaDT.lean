/- Contracts: how much of a backing is seen, the reference. -/
import Derived.Test.YtcmamfpcdhhboaaDS
namespace Go.Proofs.Ytcmamfpcdhhboaa
open Go.RowKit
set_option maxRecDepth 100000

set_option maxHeartbeats 4000000 in
theorem l02Contrast_any (g : Nat) (T : TypeId) (a : Nat → Nat) (w : World) (hA : Blk w g T (fA 33 a)) : Calls Try.prog 65 #[.pointer (some ⟨g, 0, none⟩)] w (RetFC w (conMade (filmMade fun i => canon .f32 (a i))).1 (conMade (filmMade fun i => canon .f32 (a i))).2) := by
  have hb : Below w.heap.size w w := Below.refl _ _
  go_enter Try.func65, Try.ntmps65
  go_wp2_with fail
  refine (l01Flat_any 1065353216 _).mono ?_
  rintro e w1 ⟨r1, rfl, hr, hb1⟩
  have hA := hA.below hb1 hA.lt
  have hb := bCall hb hb1 hb.size; clear hb1
  have H1 := Lib.hid hr
  clear hr
  go_wp2_with fail
  refine (l02Paint_any _ _ a r1 _ hA).mono ?_
  intro e w2 h2
  obtain ⟨s1, rfl, hs, hb1⟩ := paint_congr (q' := fun _ => fone) H1.out h2
  clear h2 H1
  have hA := hA.below hb1 hA.lt
  have hb := bCall hb hb1 hb.size; clear hb1
  have Hs1 := Lib.hid hs
  clear hs
  have hK : Blk (w2.alloc (.cells (fA 16 s1) 26)) w2.heap.size 26 (fA 16 s1) := Blk.new _ _ _
  have hA := hA.alloc (.cells (fA 16 s1) 26)
  have hg2 := hb.size
  have hb : Below w.heap.size w (w2.alloc (.cells (fA 16 s1) 26)) := Below.alloc hb hb.size _
  generalize hE1 : (paintMade (filmMade fun i => canon .f32 (a i)) fun _ => fone).2 = c1 at *
  by_cases hc : c1 = 0
  · subst hc
    have E1 := Lib.hid hE1
    clear hE1
    go_wp2_with (refine wpList_store_new rfl 26 _ _ rfl _ rfl rfl (by kernel_rfl) rfl (all_fA _ _) ?_)
    refine (l01Flat_any 0 _).mono ?_
    rintro e w3 ⟨r2, rfl, hr, hb1⟩
    have hA := hA.below hb1 hA.lt
    have hK := hK.below hb1 hK.lt
    have hb := bCall hb hb1 hb.size; clear hb1
    have H2 := Lib.hid hr
    clear hr
    go_wp2_with fail
    refine (l02Paint_any _ _ a r2 _ hA).mono ?_
    intro e w4 h2
    obtain ⟨s2, rfl, hs, hb1⟩ := paint_congr (q' := fun _ => fzero) H2.out h2
    clear h2 H2
    have hK := hK.below hb1 hK.lt
    have hb := bCall hb hb1 hb.size; clear hb1
    clear hA
    have Hs2 := Lib.hid hs
    clear hs
    have hlt := hK.lt
    have hg4 := hb.size
    generalize hE2 : (paintMade (filmMade fun i => canon .f32 (a i)) fun _ => fzero).2 = c2 at *
    by_cases hc : c2 = 0
    · subst hc
      have E2 := Lib.hid hE2
      clear hE2
      have Hm : Hid (conMade (filmMade fun i => canon .f32 (a i)) = (endVal (conD (filmMade fun i => canon .f32 (a i))) (bestTo fgt (conD (filmMade fun i => canon .f32 (a i))) 16), 0)) := Lib.hid (by unfold conMade; rw [if_pos E1.out, if_pos E2.out])
      have hK2 : Blk (((w4.alloc (.cells (fA 16 s2) 26)).alloc (.cells (fA 16 fun _ => 0) 26))) w2.heap.size 26 (fA 16 s1) := (hK.alloc _).alloc _
      have hL2 : Blk (((w4.alloc (.cells (fA 16 s2) 26)).alloc (.cells (fA 16 fun _ => 0) 26))) w4.heap.size 26 (fA 16 s2) := (Blk.new _ _ _).alloc _
      have hD2 : Blk (((w4.alloc (.cells (fA 16 s2) 26)).alloc (.cells (fA 16 fun _ => 0) 26))) (w4.heap.size + 1) 26 (fA 16 fun _ => 0) := Blk.new_at _ _ (by simp) rfl
      have hb2 : Below w.heap.size w (((w4.alloc (.cells (fA 16 s2) 26)).alloc (.cells (fA 16 fun _ => 0) 26))) := Below.alloc (Below.alloc hb hb.size _) (by have := hb.size; simp; omega) _
      clear hK hb
      go_wp2_with (first | (refine wpList_store_new rfl 26 _ _ rfl _ rfl rfl (by kernel_rfl) rfl (all_fA _ _) ?_) | (refine wpList_build_as rfl 26 _ rfl (fA 16 fun _ => 0) (by kernel_rfl) ?_) | (refine wpList_store_row rfl 26 _ _ rfl _ _ rfl rfl _ _ hD2 (by kernel_rfl) (by simp only [size_fA]) (all_fA _ _) ?_))
      go_loopw [9] (fun i wr => ∃ (k : Nat) (cur : Nat → Nat), k ≤ 16 ∧ i = .int .i64 k ∧ Below w.heap.size w wr ∧ Blk wr w2.heap.size 26 (fA 16 s1) ∧ Blk wr w4.heap.size 26 (fA 16 s2) ∧ Blk wr (w4.heap.size + 1) 26 (fA 16 cur) ∧ ∀ j, j < k → canon .f32 (cur j) = fsub (canon .f32 (s1 j)) (canon .f32 (s2 j))) (fun i _ => 16 - (intOf i).toNat)
      case atStart => exact ⟨0, fun _ => 0, by omega, rfl, bRow hb2 (by omega) _, hK2.farRow (by omega), hL2.farRow (by omega), hD2.setRow, fun j h => absurd h (by omega)⟩
      case round =>
        clear hb2 hK2 hL2 hD2
        obtain ⟨k, cur, hk, rfl, hb, hK, hL, hD, hc⟩ := hrel
        have Hc := Lib.hid hc
        clear hc
        by_cases hlt' : k < 16
        · have c1 := (hK.cell k).trans (get_fA_lt s1 hlt')
          have c2 := (hL.cell k).trans (get_fA_lt s2 hlt')
          have f1 := hD.frozen k
          have c3 := (hD.cell k).trans (get_fA_lt cur hlt')
          go_wp2_with fail
          (refine wp_region_loose_tail 9 (fun w' => ∃ n, w' = wr.drewN n) (fun _ _ _ => False) (by kernel_rfl) (by kernel_rfl) ⟨1, rfl⟩ ?_; simp only [List.take_succ_cons, List.take_zero, List.drop_succ_cons, List.drop_zero])
          repeat (refine wpLoose_plain rfl (fun K hK w1 hw1 => ?_); obtain ⟨n, rfl⟩ := hw1; go_simp; refine ⟨⟨_, rfl⟩, hK _ ?_⟩; clear hK K)
          (refine wpLoose_nil ?_; intro _ hw'; obtain ⟨nq, rfl⟩ := hw')
          go_wp2
          go_roundw
          case rel => exact ⟨k + 1, _, by omega, by go_num, (bDrew hb nq).setCell (by dsimp only; omega) _, (Blk.drewN hK _).far (by dsimp only; omega) _, (Blk.drewN hL _).far (by dsimp only; omega) _, Blk.setF (Blk.drewN hD _) k _, upd_to (Q := fun j v => canon .f32 v = fsub (canon .f32 (s1 j)) (canon .f32 (s2 j))) Hc.out (c_sub ..)⟩
          case measure => simp [intOf]; omega
        · obtain rfl : k = 16 := by omega
          have HD : Hid (∀ i, i < 16 → canon .f32 (cur i) = conD (filmMade fun i => canon .f32 (a i)) i) := Lib.hid (fun i hi => by rw [Hc.out i hi, Hs1.out i hi, Hs2.out i hi]; rfl)
          go_wp2_with (refine wpList_load_row rfl 26 _ rfl _ rfl _ _ (0, 0) _ hD Try.underlying26 rfl (by kernel_rfl) ?_)
          refine (l01End_greatest cur _).mono ?_
          rintro e w6 ⟨m, rfl, hr, hb1⟩
          rw [end_congr HD.out] at hr
          have hb := bCall hb hb1 hb.size; clear hb1
          have HM := Lib.hid hr
          clear hr HD
          go_wp2
          go_ret2
          rw [Hm.out]
          exact ⟨_, rfl, HM.out, hb⟩
    · obtain ⟨h1, h2⟩ := ne_facts3 hc
      have Hm : Hid (conMade (filmMade fun i => canon .f32 (a i)) = (fzero, c2)) := Lib.hid (by unfold conMade; simp only [E1.out, hE2, hc, if_true, if_false])
      have hb : Below w.heap.size w (w4.alloc (.cells (fA 16 s2) 26)) := Below.alloc hb hb.size _
      go_wp2_with (refine wpList_store_new rfl 26 _ _ rfl _ rfl rfl (by kernel_rfl) rfl (all_fA _ _) ?_)
      go_ret2
      rw [Hm.out]
      exact ⟨_, rfl, rfl, hb⟩
  · obtain ⟨h1, h2⟩ := ne_facts3 hc
    have Hm : Hid (conMade (filmMade fun i => canon .f32 (a i)) = (fzero, c1)) := Lib.hid (by unfold conMade; simp only [hE1, hc, if_false])
    go_wp2_with (refine wpList_store_new rfl 26 _ _ rfl _ rfl rfl (by kernel_rfl) rfl (all_fA _ _) ?_)
    go_ret2
    rw [Hm.out]
    exact ⟨_, rfl, rfl, hb⟩
theorem sContrastOf_any (a : Nat → Nat) (w : World) : Calls Try.prog 31 #[.agg (fA 33 a)] w (RetFC w (conMade (filmOfRes a)).1 (conMade (filmOfRes a)).2) := by
  have hA : Blk (w.alloc (.cells (fA 33 a) 47)) w.heap.size 47 (fA 33 a) := Blk.new _ _ _
  have hb : Below w.heap.size w (w.alloc (.cells (fA 33 a) 47)) := (by repeat (first | assumption | exact Below.refl _ _ | refine bDrew ?_ _ | refine Below.alloc ?_ (by first | omega | (simp; done) | (simp; omega)) _ | refine Below.setCell ?_ (by first | omega | (simp; done) | (simp; omega)) _ | refine bRow ?_ (by first | omega | (simp; done) | (simp; omega)) _))
  go_enter Try.func31, Try.ntmps31
  go_wp2_with fail
  refine (l02Ok_any _ _ a _ hA).mono ?_
  rintro e w1 ⟨rfl, hb1⟩
  have hA := hA.below hb1 hA.lt
  have hb := bCall hb hb1 hb.size; clear hb1
  cases hs : layerOk a with
  | false =>
    have Hm : Hid (conMade (filmOfRes a) = (fzero, 1)) := Lib.hid (by
      have e : filmOfRes a = (fun _ => canon .f32 0, 1) := by simp only [filmOfRes, hs, Bool.false_eq_true, if_false]
      rw [e]
      simp [conMade, paintMade])
    clear hs
    go_wp2
    go_ret2
    rw [Hm.out]
    exact ⟨_, rfl, rfl, hb⟩
  | true =>
    have Hm : Hid (filmOfRes a = (filmMade fun i => canon .f32 (a i))) := Lib.hid (by simp only [filmOfRes, hs, if_true])
    clear hs
    go_wp2_with fail
    refine (l02Contrast_any _ _ a _ hA).mono ?_
    rintro e w4 ⟨m, rfl, hr, hb1⟩
    have hb := bCall hb hb1 hb.size; clear hb1
    have HM := Lib.hid hr
    clear hr
    go_wp2
    go_ret2
    rw [Hm.out]
    exact ⟨_, rfl, HM.out, hb⟩
end Go.Proofs.Ytcmamfpcdhhboaa
