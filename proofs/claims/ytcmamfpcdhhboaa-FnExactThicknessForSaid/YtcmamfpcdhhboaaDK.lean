/- Contracts: a film over a backing; a film over another one. -/
import Derived.Test.YtcmamfpcdhhboaaDG
namespace Go.Proofs.Ytcmamfpcdhhboaa
open Go.RowKit
set_option maxRecDepth 100000

def most (x : Option Nat) : Option Nat := if fgt x (canon .f32 1065353216) then canon .f32 1065353216 else x
/-- What is divided by; a sum of what is reflected at once and later. -/
def gapOf (b q : Option Nat) : Option Nat := fsub (canon .f32 1065353216) (fmul b q)
def gapOk (b q : Option Nat) : Bool := fgt (gapOf b q) (canon .f32 0)
def upon (r t q d : Option Nat) : Option Nat := most (fadd r (fdiv (fmul (fmul t t) q) d))
def overAt (f q : Nat → Option Nat) (i : Nat) : Option Nat := upon (f i) (f (32 + i)) (q i) (gapOf (f (16 + i)) (q i))
def overRes (f q : Nat → Option Nat) : (Nat → Option Nat) × Int := if allTo 16 (fun i => share (q i)) then if allTo 16 (fun i => gapOk (f (16 + i)) (q i)) then finRes (overAt f q) else (fun _ => canon .f32 0, 4) else (fun _ => canon .f32 0, 2)
def addAt (f g : Nat → Option Nat) (i : Nat) : Option Nat :=
  if i < 16 then upon (f i) (f (32 + i)) (g i) (gapOf (f (16 + i)) (g i))
  else if i < 32 then upon (g i) (g (16 + i)) (f i) (gapOf (f i) (g (i - 16)))
  else most (fdiv (fmul (f i) (g i)) (gapOf (f (i - 16)) (g (i - 32))))
def addRes (f g : Nat → Option Nat) : (Nat → Option Nat) × Int := if allTo 16 (fun i => gapOk (f (16 + i)) (g i)) then finFilmRes (addAt f g) else (fun _ => canon .f32 0, 4)

theorem most_yes {x : Nat} (h : (FloatKind.f32.format.order x 1065353216 == some .gt) = true) : most (canon .f32 x) = canon .f32 1065353216 := by
  rw [o_gt] at h
  simp only [most, h, if_true]
theorem most_no {x : Nat} (h : (FloatKind.f32.format.order x 1065353216 == some .gt) = false) : most (canon .f32 x) = canon .f32 x := by
  rw [o_gt] at h
  simp only [most, h, Bool.false_eq_true, if_false]
theorem atMostOne_any (x : Nat) (w : World) : Calls Try.prog 76 #[.float .f32 x] w (RetFq w (most (canon .f32 x))) := by
  cases h : (FloatKind.f32.format.order x 1065353216 == some .gt) with
  | true =>
    have Hm := Lib.hid (most_yes h)
    go_enter Try.func76, Try.ntmps76
    go_wp2
    go_ret
    exact ⟨_, rfl, Hm.out.symm, 0, rfl⟩
  | false =>
    have Hm := Lib.hid (most_no h)
    go_enter Try.func76, Try.ntmps76
    go_wp2
    go_ret
    exact ⟨_, rfl, Hm.out.symm, 0, rfl⟩
theorem l02Most_any (x : Nat) (w : World) : Calls Try.prog 73 #[.float .f32 x] w (RetFq w (most (canon .f32 x))) := by
  cases h : (FloatKind.f32.format.order x 1065353216 == some .gt) with
  | true =>
    have Hm := Lib.hid (most_yes h)
    go_enter Try.func73, Try.ntmps73
    go_wp2
    go_ret
    exact ⟨_, rfl, Hm.out.symm, 0, rfl⟩
  | false =>
    have Hm := Lib.hid (most_no h)
    go_enter Try.func73, Try.ntmps73
    go_wp2
    go_ret
    exact ⟨_, rfl, Hm.out.symm, 0, rfl⟩
set_option maxHeartbeats 4000000 in
theorem over_any (f q : Nat → Nat) (w : World) : Calls Try.prog 39 #[.agg (fA 48 f), .agg (fA 16 q)] w (RetCC 16 w (overRes (fun i => canon .f32 (f i)) fun i => canon .f32 (q i)).1 (overRes (fun i => canon .f32 (f i)) fun i => canon .f32 (q i)).2) := by
  have hF : Blk (((w.alloc (.cells (fA 48 f) 30)).alloc (.cells (fA 16 q) 26)).alloc (.cells (fA 16 fun _ => 0) 26)) w.heap.size 30 (fA 48 f) := ((Blk.new _ _ _).alloc _).alloc _
  have hQ : Blk (((w.alloc (.cells (fA 48 f) 30)).alloc (.cells (fA 16 q) 26)).alloc (.cells (fA 16 fun _ => 0) 26)) (w.heap.size + 1) 26 (fA 16 q) := (Blk.new_at _ _ (by simp) rfl).alloc _
  have hZ : Blk (((w.alloc (.cells (fA 48 f) 30)).alloc (.cells (fA 16 q) 26)).alloc (.cells (fA 16 fun _ => 0) 26)) (w.heap.size + 1 + 1) 26 (fA 16 fun _ => 0) := Blk.new_at _ _ (by simp) rfl
  have hb : Below w.heap.size w (((w.alloc (.cells (fA 48 f) 30)).alloc (.cells (fA 16 q) 26)).alloc (.cells (fA 16 fun _ => 0) 26)) := (by repeat (first | assumption | exact Below.refl _ _ | refine bDrew ?_ _ | refine Below.alloc ?_ (by first | omega | (simp; done) | (simp; omega)) _ | refine Below.setCell ?_ (by first | omega | (simp; done) | (simp; omega)) _ | refine bRow ?_ (by first | omega | (simp; done) | (simp; omega)) _))
  go_enter Try.func39, Try.ntmps39
  go_wp2_with (refine wpList_load_row rfl 26 _ rfl _ rfl _ _ (0, 0) _ hQ Try.underlying26 rfl (by kernel_rfl) ?_)
  refine (all_any 45 share q _ (fun _ _ => by kernel_rfl) (fun x w => (isShare_any x w).mono fun _ _ h => h.to)).mono ?_
  rintro e w1 ⟨rfl, hb1⟩
  have hF := hF.below hb1 hF.lt
  have hQ := hQ.below hb1 hQ.lt
  have hZ := hZ.below hb1 hZ.lt
  have hb := bCall hb hb1 hb.size; clear hb1
  cases hs : (allTo 16 fun i => share (canon .f32 (q i))) with
  | false =>
    have Hm : Hid ((overRes (fun i => canon .f32 (f i)) fun i => canon .f32 (q i)) = (fun _ => canon .f32 0, 2)) := Lib.hid (by simp only [overRes, hs, Bool.false_eq_true, if_false])
    clear hs
    go_wp2_with (first | (refine wpList_build_as rfl 26 _ rfl (fA 16 fun _ => 0) (by kernel_rfl) ?_) | (refine wpList_store_row rfl 26 _ _ rfl _ _ rfl rfl _ _ hZ (by kernel_rfl) (by simp only [size_fA]) (all_fA _ _) ?_)); exact bodyPost_ret (results_cell_row2 rfl _ _ (w.heap.size + 1 + 1) _ _ _ _ rfl hZ.setRow Try.underlying26 rfl (by kernel_rfl)) rfl (RetCC.as Hm.out ⟨_, rfl, fun _ _ => rfl, (by repeat (first | assumption | exact Below.refl _ _ | refine bDrew ?_ _ | refine Below.alloc ?_ (by first | omega | (simp; done) | (simp; omega)) _ | refine Below.setCell ?_ (by first | omega | (simp; done) | (simp; omega)) _ | refine bRow ?_ (by first | omega | (simp; done) | (simp; omega)) _))⟩)
  | true =>
    have Hs := Lib.hid hs
    clear hs
    have hO : Blk (w1.alloc (.cells (fA 16 fun _ => 0) 26)) w1.heap.size 26 (fA 16 fun _ => 0) := Blk.new _ _ _
    have hO2 : Blk ((w1.alloc (.cells (fA 16 fun _ => 0) 26)).setRow w1.heap.size (fA 16 fun _ => 0)) w1.heap.size 26 (fA 16 fun _ => 0) := hO.setRow
    have hF2 : Blk ((w1.alloc (.cells (fA 16 fun _ => 0) 26)).setRow w1.heap.size (fA 16 fun _ => 0)) w.heap.size 30 (fA 48 f) := (hF.alloc _).farRow (by have := hF.lt; omega)
    have hQ2 : Blk ((w1.alloc (.cells (fA 16 fun _ => 0) 26)).setRow w1.heap.size (fA 16 fun _ => 0)) (w.heap.size + 1) 26 (fA 16 q) := (hQ.alloc _).farRow (by have := hQ.lt; omega)
    have hZ2 : Blk ((w1.alloc (.cells (fA 16 fun _ => 0) 26)).setRow w1.heap.size (fA 16 fun _ => 0)) (w.heap.size + 1 + 1) 26 (fA 16 fun _ => 0) := (hZ.alloc _).farRow (by have := hZ.lt; omega)
    have hb2 : Below w.heap.size w ((w1.alloc (.cells (fA 16 fun _ => 0) 26)).setRow w1.heap.size (fA 16 fun _ => 0)) := bRow (Below.alloc hb hb.size _) hb.size _
    have hg : w.heap.size + 1 + 1 < w1.heap.size := hZ.lt
    have hix : ∀ (k : Nat) (w : World), k < 16 → (Instr.index 26 (.agg (fA 16 q)) (.int .i64 k)).run Try.prog w = .ok (.float .f32 (q k)) w := fun k w hk =>
      run_index_fA w 26 22 16 q k Try.underlying26 Try.underlying22 (by kernel_rfl) (by omega) (by omega)
    clear hF hQ hZ hb
    go_wp2_with (first | (refine wpList_build_as rfl 26 _ rfl (fA 16 fun _ => 0) (by kernel_rfl) ?_) | (refine wpList_store_row rfl 26 _ _ rfl _ _ rfl rfl _ _ hO (by kernel_rfl) (by simp only [size_fA]) (all_fA _ _) ?_) | (refine wpList_load_row rfl 26 _ rfl _ rfl _ _ (0, 0) _ hQ2 Try.underlying26 rfl (by kernel_rfl) ?_))
    go_loopw [7, 8, 9, 16] (fun _ _ _ i wr => ∃ (k : Nat) (cur : Nat → Nat), k ≤ 16 ∧ i = .int .i64 k ∧ Below w.heap.size w wr ∧ Blk wr w.heap.size 30 (fA 48 f) ∧ Blk wr (w.heap.size + 1 + 1) 26 (fA 16 fun _ => 0) ∧ Blk wr w1.heap.size 26 (fA 16 cur) ∧ (∀ j, j < k → gapOk (canon .f32 (f (16 + j))) (canon .f32 (q j)) = true) ∧ ∀ j, j < k → canon .f32 (cur j) = overAt (fun i => canon .f32 (f i)) (fun i => canon .f32 (q i)) j) (fun _ _ _ i _ => 16 - (intOf i).toNat)
    case atStart => exact ⟨0, fun _ => 0, by omega, rfl, hb2, hF2, hZ2, hO2, fun j h => absurd h (by omega), fun j h => absurd h (by omega)⟩
    case round =>
      clear hO hO2 hF2 hQ2 hZ2 hb2
      obtain ⟨k, cur, hk, rfl, hb, hF, hZ, hC, hg', hc⟩ := hrel
      have Hc := Lib.hid hc
      have Hg := Lib.hid hg'
      clear hc hg'
      by_cases hlt : k < 16
      · have hx := fun w => hix k w hlt
        have c0 : wr.cell? ⟨w.heap.size, k, none⟩ = some (.float .f32 (f k)) := (hF.cell k).trans (get_fA_lt f (by omega))
        have c1 : wr.cell? ⟨w.heap.size, 16 + k, none⟩ = some (.float .f32 (f (16 + k))) := (hF.cell (16 + k)).trans (get_fA_lt f (by omega))
        have c2 : wr.cell? ⟨w.heap.size, 32 + k, none⟩ = some (.float .f32 (f (32 + k))) := (hF.cell (32 + k)).trans (get_fA_lt f (by omega))
        clear hix
        go_wp2_with fail
        refine (mul_any _ _ _).mono ?_
        rintro e w2 ⟨r1, rfl, hr1, n1, rfl⟩
        have HD : Hid (∀ w', canon .f32 (fval .sub .f32 1065353216 r1 w') = gapOf (canon .f32 (f (16 + k))) (canon .f32 (q k))) := Lib.hid (fun w' => by rw [c_sub, hr1]; rfl)
        have hq : ∀ w', (FloatKind.f32.format.order (fval .sub .f32 1065353216 r1 w') 0 == some .gt) = gapOk (canon .f32 (f (16 + k))) (canon .f32 (q k)) := fun w' => by rw [o_gt, HD.out]; rfl
        clear hr1 hx
        cases h0 : gapOk (canon .f32 (f (16 + k))) (canon .f32 (q k)) with
        | false =>
          have Hm : Hid ((overRes (fun i => canon .f32 (f i)) fun i => canon .f32 (q i)) = (fun _ => canon .f32 0, 4)) := Lib.hid (by
            have h1 : (allTo 16 fun i => gapOk (canon .f32 (f (16 + i))) (canon .f32 (q i))) = false := allTo_false hlt h0
            simp only [overRes, Hs.out, h1, Bool.false_eq_true, if_false, if_true])
          rw [h0] at hq
          have hZ := Blk.drewN hZ n1
          have hb := bDrew hb n1
          clear h0 c0 c1 c2
          go_wp2_with (first | (refine wpList_build_as rfl 26 _ rfl (fA 16 fun _ => 0) (by kernel_rfl) ?_) | (refine wpList_store_row rfl 26 _ _ rfl _ _ rfl rfl _ _ hZ (by kernel_rfl) (by simp only [size_fA]) (all_fA _ _) ?_)); exact bodyPost_ret (results_cell_row2 rfl _ _ (w.heap.size + 1 + 1) _ _ _ _ rfl hZ.setRow Try.underlying26 rfl (by kernel_rfl)) rfl (RetCC.as Hm.out ⟨_, rfl, fun _ _ => rfl, (by repeat (first | assumption | exact Below.refl _ _ | refine bDrew ?_ _ | refine Below.alloc ?_ (by first | omega | (simp; done) | (simp; omega)) _ | refine Below.setCell ?_ (by first | omega | (simp; done) | (simp; omega)) _ | refine bRow ?_ (by first | omega | (simp; done) | (simp; omega)) _))⟩)
        | true =>
          rw [h0] at hq
          have H0 := Lib.hid h0
          clear h0
          have c3 := (hC.cell k).trans (get_fA_lt cur hlt)
          have f1 := hC.frozen k
          go_wp2_with fail
          clear hq
          (refine wp_region_loose_tail 21 (fun w' => ∃ n, w' = wr.drewN n) (GM fmul (fun _ x => most x)) (by kernel_rfl) (by kernel_rfl) ⟨n1 + fcnt .sub .f32 1065353216 r1 + 1, rfl⟩ ?_; simp only [List.take_succ_cons, List.take_zero, List.drop_succ_cons, List.drop_zero])
          repeat (refine wpLoose_plain rfl (fun K hK w1 hw1 => ?_); obtain ⟨n, rfl⟩ := hw1; go_simp; refine ⟨⟨_, rfl⟩, hK _ ?_⟩; clear hK K)
          (refine wpLoose_plain rfl (fun K hK w1 hw1 => ?_); obtain ⟨n1, rfl⟩ := hw1; go_simp; refine ⟨⟨_, rfl⟩, (mul_any _ _ _).mono ?_, fun u hu => hK _ ?_⟩; (rintro e w' ⟨r, rfl, hr, m, rfl⟩; exact ⟨_, rfl, GM.mk2 hr, _, by rw [World.drewN_drewN]⟩); clear hK K; obtain ⟨r2, rfl, H2⟩ := GM.inv2 hu; clear hu)
          repeat (refine wpLoose_plain rfl (fun K hK w1 hw1 => ?_); obtain ⟨n, rfl⟩ := hw1; go_simp; refine ⟨⟨_, rfl⟩, hK _ ?_⟩; clear hK K)
          (refine wpLoose_plain rfl (fun K hK w1 hw1 => ?_); obtain ⟨n1, rfl⟩ := hw1; go_simp; refine ⟨⟨_, rfl⟩, (mul_any _ _ _).mono ?_, fun u hu => hK _ ?_⟩; (rintro e w' ⟨r, rfl, hr, m, rfl⟩; exact ⟨_, rfl, GM.mk2 hr, _, by rw [World.drewN_drewN]⟩); clear hK K; obtain ⟨r3, rfl, H3⟩ := GM.inv2 hu; clear hu)
          repeat (refine wpLoose_plain rfl (fun K hK w1 hw1 => ?_); obtain ⟨n, rfl⟩ := hw1; go_simp; refine ⟨⟨_, rfl⟩, hK _ ?_⟩; clear hK K)
          (refine wpLoose_plain rfl (fun K hK w1 hw1 => ?_); obtain ⟨n1, rfl⟩ := hw1; go_simp; refine ⟨⟨_, rfl⟩, (atMostOne_any _ _).mono ?_, fun u hu => hK _ ?_⟩; (rintro e w' ⟨r, rfl, hr, m, rfl⟩; exact ⟨_, rfl, GM.mk1 hr, _, by rw [World.drewN_drewN]⟩); clear hK K; obtain ⟨r4, rfl, H4⟩ := GM.inv1 hu; clear hu)
          repeat (refine wpLoose_plain rfl (fun K hK w1 hw1 => ?_); obtain ⟨n, rfl⟩ := hw1; go_simp; refine ⟨⟨_, rfl⟩, hK _ ?_⟩; clear hK K)
          (refine wpLoose_nil ?_; intro _ hw'; obtain ⟨nq, rfl⟩ := hw')
          go_wp2
          go_roundw
          case rel =>
            refine ⟨k + 1, _, by omega, by go_num, (bDrew hb _).setCell (by dsimp only; omega) _, Blk.far (Blk.drewN hF _) (by dsimp only; omega) _, Blk.far (Blk.drewN hZ _) (by dsimp only; omega) _, Blk.setF (Blk.drewN hC _) k _, ?_, upd_to (Q := fun j v => canon .f32 v = overAt (fun i => canon .f32 (f i)) (fun i => canon .f32 (q i)) j) Hc.out ?_⟩
            · intro j hj
              by_cases e : j = k
              · subst e; exact H0.out
              · exact Hg.out j (by omega)
            · rw [H4.out, c_add, c_div, H3.out, H2.out, HD.out]; rfl
          case measure => simp [intOf]; omega
      · obtain rfl : k = 16 := by omega
        have Hm : Hid ((overRes (fun i => canon .f32 (f i)) fun i => canon .f32 (q i)) = ((finRes (overAt (fun i => canon .f32 (f i)) fun i => canon .f32 (q i))).1, (finRes (overAt (fun i => canon .f32 (f i)) fun i => canon .f32 (q i))).2)) := Lib.hid (by
          have h1 : (allTo 16 fun i => gapOk (canon .f32 (f (16 + i))) (canon .f32 (q i))) = true := allTo_true Hg.out
          simp only [overRes, Hs.out, h1, if_true])
        clear hix
        go_wp2_with (refine wpList_load_row rfl 26 _ rfl _ rfl _ _ (0, 0) _ hC Try.underlying26 rfl (by kernel_rfl) ?_)
        refine (finiteCurve_any cur wr).mono ?_
        rintro e w4 ⟨s, rfl, hs, hb1⟩
        have hZ := hZ.below hb1 hZ.lt
        have hb := bCall hb hb1 hb.size
        have Hq := Lib.hid hs
        clear hs hb1
        go_wp2_with (refine wpList_store_row rfl 26 _ _ rfl _ _ rfl rfl _ _ hZ (by kernel_rfl) (by simp only [size_fA]) (all_fA _ _) ?_)
        exact bodyPost_ret (results_cell_row2 rfl _ _ (w.heap.size + 1 + 1) _ _ _ _ rfl hZ.setRow Try.underlying26 rfl (by kernel_rfl)) rfl (RetCC.as Hm.out (finRes_congr Hc.out ⟨s, rfl, Hq.out, (by repeat (first | assumption | exact Below.refl _ _ | refine bDrew ?_ _ | refine Below.alloc ?_ (by first | omega | (simp; done) | (simp; omega)) _ | refine Below.setCell ?_ (by first | omega | (simp; done) | (simp; omega)) _ | refine bRow ?_ (by first | omega | (simp; done) | (simp; omega)) _))⟩))
end Go.Proofs.Ytcmamfpcdhhboaa
