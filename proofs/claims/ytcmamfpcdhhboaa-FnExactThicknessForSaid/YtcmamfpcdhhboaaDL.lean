/- Contracts: a film over a backing, the reference and the whole. -/
import Derived.Test.YtcmamfpcdhhboaaDK
import Derived.Test.YtcmamfpcdhhboaaDH
namespace Go.Proofs.Ytcmamfpcdhhboaa
open Go.RowKit
set_option maxRecDepth 100000

def overBackingRes (f q : Nat → Nat) : (Nat → Option Nat) × Int := if filmOk f then overRes (fun i => canon .f32 (f i)) (fun i => canon .f32 (q i)) else (fun _ => canon .f32 0, 1)

set_option maxHeartbeats 4000000 in
theorem l02Over_any (g : Nat) (T : TypeId) (f q : Nat → Nat) (w : World) (hF : Blk w g T (fA 48 f)) : Calls Try.prog 37 #[.pointer (some ⟨g, 0, none⟩), .agg (fA 16 q)] w (RetCC 16 w (overRes (fun i => canon .f32 (f i)) fun i => canon .f32 (q i)).1 (overRes (fun i => canon .f32 (f i)) fun i => canon .f32 (q i)).2) := by
  have hg0 := hF.lt
  have hF := (hF.alloc (.cells (fA 16 q) 26)).alloc (.cells (fA 16 fun _ => 0) 26)
  have hQ : Blk ((w.alloc (.cells (fA 16 q) 26)).alloc (.cells (fA 16 fun _ => 0) 26)) w.heap.size 26 (fA 16 q) := (Blk.new _ _ _).alloc _
  have hZ : Blk ((w.alloc (.cells (fA 16 q) 26)).alloc (.cells (fA 16 fun _ => 0) 26)) (w.heap.size + 1) 26 (fA 16 fun _ => 0) := Blk.new_at _ _ (by simp) rfl
  have hb : Below w.heap.size w ((w.alloc (.cells (fA 16 q) 26)).alloc (.cells (fA 16 fun _ => 0) 26)) := (by repeat (first | assumption | exact Below.refl _ _ | refine bDrew ?_ _ | refine Below.alloc ?_ (by first | omega | (simp; done) | (simp; omega)) _ | refine Below.setCell ?_ (by first | omega | (simp; done) | (simp; omega)) _ | refine bRow ?_ (by first | omega | (simp; done) | (simp; omega)) _))
  go_enter Try.func37, Try.ntmps37
  go_wp2_with (refine wpList_load_row rfl 26 _ rfl _ rfl _ _ (0, 0) _ hQ Try.underlying26 rfl (by kernel_rfl) ?_)
  refine (l02Share_any q _).mono ?_
  rintro e w1 ⟨rfl, hb1⟩
  have hF := hF.below hb1 hF.lt
  have hQ := hQ.below hb1 hQ.lt
  have hZ := hZ.below hb1 hZ.lt
  have hb := bCall hb hb1 hb.size; clear hb1
  cases hs : (allTo 16 fun i => share (canon .f32 (q i))) with
  | false =>
    have Hm : Hid ((overRes (fun i => canon .f32 (f i)) fun i => canon .f32 (q i)) = (fun _ => canon .f32 0, 2)) := Lib.hid (by simp only [overRes, hs, Bool.false_eq_true, if_false])
    clear hs
    go_wp2_with (first | (refine wpList_build_as rfl 26 _ rfl (fA 16 fun _ => 0) (by kernel_rfl) ?_) | (refine wpList_store_row rfl 26 _ _ rfl _ _ rfl rfl _ _ hZ (by kernel_rfl) (by simp only [size_fA]) (all_fA _ _) ?_)); exact bodyPost_ret (results_cell_row2 rfl _ _ (w.heap.size + 1) _ _ _ _ rfl hZ.setRow Try.underlying26 rfl (by kernel_rfl)) rfl (RetCC.as Hm.out ⟨_, rfl, fun _ _ => rfl, (by repeat (first | assumption | exact Below.refl _ _ | refine bDrew ?_ _ | refine Below.alloc ?_ (by first | omega | (simp; done) | (simp; omega)) _ | refine Below.setCell ?_ (by first | omega | (simp; done) | (simp; omega)) _ | refine bRow ?_ (by first | omega | (simp; done) | (simp; omega)) _))⟩)
  | true =>
    have Hs := Lib.hid hs
    clear hs
    have hO : Blk (w1.alloc (.cells (fA 16 fun _ => 0) 26)) w1.heap.size 26 (fA 16 fun _ => 0) := Blk.new _ _ _
    have hO2 : Blk ((w1.alloc (.cells (fA 16 fun _ => 0) 26)).setRow w1.heap.size (fA 16 fun _ => 0)) w1.heap.size 26 (fA 16 fun _ => 0) := hO.setRow
    have hF2 : Blk ((w1.alloc (.cells (fA 16 fun _ => 0) 26)).setRow w1.heap.size (fA 16 fun _ => 0)) g T (fA 48 f) := (hF.alloc _).farRow (by have := hF.lt; omega)
    have hQ2 : Blk ((w1.alloc (.cells (fA 16 fun _ => 0) 26)).setRow w1.heap.size (fA 16 fun _ => 0)) w.heap.size 26 (fA 16 q) := (hQ.alloc _).farRow (by have := hQ.lt; omega)
    have hZ2 : Blk ((w1.alloc (.cells (fA 16 fun _ => 0) 26)).setRow w1.heap.size (fA 16 fun _ => 0)) (w.heap.size + 1) 26 (fA 16 fun _ => 0) := (hZ.alloc _).farRow (by have := hZ.lt; omega)
    have hb2 : Below w.heap.size w ((w1.alloc (.cells (fA 16 fun _ => 0) 26)).setRow w1.heap.size (fA 16 fun _ => 0)) := bRow (Below.alloc hb hb.size _) hb.size _
    have hg : w.heap.size + 1 < w1.heap.size := hZ.lt
    clear hF hQ hZ hb
    go_wp2_with (first | (refine wpList_build_as rfl 26 _ rfl (fA 16 fun _ => 0) (by kernel_rfl) ?_) | (refine wpList_store_row rfl 26 _ _ rfl _ _ rfl rfl _ _ hO (by kernel_rfl) (by simp only [size_fA]) (all_fA _ _) ?_))
    go_loopw [7, 8] (fun i _ wr => ∃ (k : Nat) (cur : Nat → Nat), k ≤ 16 ∧ i = .int .i64 k ∧ Below w.heap.size w wr ∧ Blk wr g T (fA 48 f) ∧ Blk wr w.heap.size 26 (fA 16 q) ∧ Blk wr (w.heap.size + 1) 26 (fA 16 fun _ => 0) ∧ Blk wr w1.heap.size 26 (fA 16 cur) ∧ (∀ j, j < k → gapOk (canon .f32 (f (16 + j))) (canon .f32 (q j)) = true) ∧ ∀ j, j < k → canon .f32 (cur j) = overAt (fun i => canon .f32 (f i)) (fun i => canon .f32 (q i)) j) (fun i _ _ => 16 - (intOf i).toNat)
    case atStart => exact ⟨0, fun _ => 0, by omega, rfl, hb2, hF2, hQ2, hZ2, hO2, fun j h => absurd h (by omega), fun j h => absurd h (by omega)⟩
    case round =>
      clear hO hO2 hF2 hQ2 hZ2 hb2
      obtain ⟨k, cur, hk, rfl, hb, hF, hQ, hZ, hC, hg', hc⟩ := hrel
      have Hc := Lib.hid hc
      have Hg := Lib.hid hg'
      clear hc hg'
      by_cases hlt : k < 16
      · have c0 : wr.cell? ⟨g, k, none⟩ = some (.float .f32 (f k)) := (hF.cell k).trans (get_fA_lt f (by omega))
        have c1 : wr.cell? ⟨g, 16 + k, none⟩ = some (.float .f32 (f (16 + k))) := (hF.cell (16 + k)).trans (get_fA_lt f (by omega))
        have c2 : wr.cell? ⟨g, 32 + k, none⟩ = some (.float .f32 (f (32 + k))) := (hF.cell (32 + k)).trans (get_fA_lt f (by omega))
        have c4 := (hQ.cell k).trans (get_fA_lt q hlt)
        go_wp2_with fail
        (refine wp_region_loose_lit (fun w' => ∃ n, w' = wr.drewN n) (fun _ _ _ => False) (by kernel_rfl) (by kernel_rfl) ⟨1, rfl⟩ ?_)
        repeat (refine wpLoose_plain rfl (fun K hK w1 hw1 => ?_); obtain ⟨n, rfl⟩ := hw1; go_simp; refine ⟨⟨_, rfl⟩, hK _ ?_⟩; clear hK K)
        (refine wpLoose_nil ?_; intro _ hw'; obtain ⟨nq, rfl⟩ := hw')
        have HD : Hid (∀ w1 w', canon .f32 (fval .sub .f32 1065353216 (fval .mul .f32 (f (16 + k)) (q k) w1) w') = gapOf (canon .f32 (f (16 + k))) (canon .f32 (q k))) := Lib.hid (fun w1 w' => by rw [c_sub, c_mul]; rfl)
        have hq : ∀ w1 w', (FloatKind.f32.format.order (fval .sub .f32 1065353216 (fval .mul .f32 (f (16 + k)) (q k) w1) w') 0 == some .gt) = gapOk (canon .f32 (f (16 + k))) (canon .f32 (q k)) := fun w1 w' => by rw [o_gt, HD.out]; rfl
        cases h0 : gapOk (canon .f32 (f (16 + k))) (canon .f32 (q k)) with
        | false =>
          have Hm : Hid ((overRes (fun i => canon .f32 (f i)) fun i => canon .f32 (q i)) = (fun _ => canon .f32 0, 4)) := Lib.hid (by
            have h1 : (allTo 16 fun i => gapOk (canon .f32 (f (16 + i))) (canon .f32 (q i))) = false := allTo_false hlt h0
            simp only [overRes, Hs.out, h1, Bool.false_eq_true, if_false, if_true])
          rw [h0] at hq
          have hZ := Blk.drewN hZ nq
          have hb := bDrew hb nq
          clear h0 c0 c1 c2 c4
          go_wp2_with (first | (refine wpList_build_as rfl 26 _ rfl (fA 16 fun _ => 0) (by kernel_rfl) ?_) | (refine wpList_store_row rfl 26 _ _ rfl _ _ rfl rfl _ _ hZ (by kernel_rfl) (by simp only [size_fA]) (all_fA _ _) ?_)); exact bodyPost_ret (results_cell_row2 rfl _ _ (w.heap.size + 1) _ _ _ _ rfl hZ.setRow Try.underlying26 rfl (by kernel_rfl)) rfl (RetCC.as Hm.out ⟨_, rfl, fun _ _ => rfl, (by repeat (first | assumption | exact Below.refl _ _ | refine bDrew ?_ _ | refine Below.alloc ?_ (by first | omega | (simp; done) | (simp; omega)) _ | refine Below.setCell ?_ (by first | omega | (simp; done) | (simp; omega)) _ | refine bRow ?_ (by first | omega | (simp; done) | (simp; omega)) _))⟩)
        | true =>
          rw [h0] at hq
          have H0 := Lib.hid h0
          clear h0
          have c3 := (hC.cell k).trans (get_fA_lt cur hlt)
          have f1 := hC.frozen k
          go_wp2_with fail
          clear hq
          (refine wp_region_loose_tail 29 (fun w' => ∃ n, w' = wr.drewN n) (GM fmul (fun _ x => most x)) (by kernel_rfl) (by kernel_rfl) ⟨nq + 1, rfl⟩ ?_; simp only [List.take_succ_cons, List.take_zero, List.drop_succ_cons, List.drop_zero])
          clear nq
          repeat (refine wpLoose_plain rfl (fun K hK w1 hw1 => ?_); obtain ⟨n, rfl⟩ := hw1; go_simp; refine ⟨⟨_, rfl⟩, hK _ ?_⟩; clear hK K)
          (refine wpLoose_plain rfl (fun K hK w1 hw1 => ?_); obtain ⟨n1, rfl⟩ := hw1; go_simp; refine ⟨⟨_, rfl⟩, (l02Most_any _ _).mono ?_, fun u hu => hK _ ?_⟩; (rintro e w' ⟨r, rfl, hr, m, rfl⟩; exact ⟨_, rfl, GM.mk1 hr, _, by rw [World.drewN_drewN]⟩); clear hK K; obtain ⟨r4, rfl, H4⟩ := GM.inv1 hu; clear hu)
          repeat (refine wpLoose_plain rfl (fun K hK w1 hw1 => ?_); obtain ⟨n, rfl⟩ := hw1; go_simp; refine ⟨⟨_, rfl⟩, hK _ ?_⟩; clear hK K)
          (refine wpLoose_nil ?_; intro _ hw'; obtain ⟨nq, rfl⟩ := hw')
          go_wp2
          go_roundw
          case rel =>
            refine ⟨k + 1, _, by omega, by go_num, (bDrew hb _).setCell (by dsimp only; omega) _, Blk.far (Blk.drewN hF _) (by dsimp only; omega) _, Blk.far (Blk.drewN hQ _) (by dsimp only; omega) _, Blk.far (Blk.drewN hZ _) (by dsimp only; omega) _, Blk.setF (Blk.drewN hC _) k _, ?_, upd_to (Q := fun j v => canon .f32 v = overAt (fun i => canon .f32 (f i)) (fun i => canon .f32 (q i)) j) Hc.out ?_⟩
            · intro j hj
              by_cases e : j = k
              · subst e; exact H0.out
              · exact Hg.out j (by omega)
            · rw [H4.out, c_add, c_div, c_mul, c_mul, HD.out]; rfl
          case measure => simp [intOf]; omega
      · obtain rfl : k = 16 := by omega
        have Hm : Hid ((overRes (fun i => canon .f32 (f i)) fun i => canon .f32 (q i)) = ((finRes (overAt (fun i => canon .f32 (f i)) fun i => canon .f32 (q i))).1, (finRes (overAt (fun i => canon .f32 (f i)) fun i => canon .f32 (q i))).2)) := Lib.hid (by
          have h1 : (allTo 16 fun i => gapOk (canon .f32 (f (16 + i))) (canon .f32 (q i))) = true := allTo_true Hg.out
          simp only [overRes, Hs.out, h1, if_true])
        go_wp2_with (refine wpList_load_row rfl 26 _ rfl _ rfl _ _ (0, 0) _ hC Try.underlying26 rfl (by kernel_rfl) ?_)
        refine (l02Curve_any cur wr).mono ?_
        rintro e w4 ⟨s, rfl, hs, hb1⟩
        have hZ := hZ.below hb1 hZ.lt
        have hb := bCall hb hb1 hb.size
        have Hq := Lib.hid hs
        clear hs hb1
        go_wp2_with (refine wpList_store_row rfl 26 _ _ rfl _ _ rfl rfl _ _ hZ (by kernel_rfl) (by simp only [size_fA]) (all_fA _ _) ?_)
        exact bodyPost_ret (results_cell_row2 rfl _ _ (w.heap.size + 1) _ _ _ _ rfl hZ.setRow Try.underlying26 rfl (by kernel_rfl)) rfl (RetCC.as Hm.out (finRes_congr Hc.out ⟨s, rfl, Hq.out, (by repeat (first | assumption | exact Below.refl _ _ | refine bDrew ?_ _ | refine Below.alloc ?_ (by first | omega | (simp; done) | (simp; omega)) _ | refine Below.setCell ?_ (by first | omega | (simp; done) | (simp; omega)) _ | refine bRow ?_ (by first | omega | (simp; done) | (simp; omega)) _))⟩))
theorem iOverBacking_any (f q : Nat → Nat) (w : World) : Calls Try.prog 14 #[.agg (fA 48 f), .agg (fA 16 q)] w (RetCC 16 w (overBackingRes f q).1 (overBackingRes f q).2) := by
  have hF : Blk (((w.alloc (.cells (fA 48 f) 30)).alloc (.cells (fA 16 q) 26)).alloc (.cells (fA 16 fun _ => 0) 26)) w.heap.size 30 (fA 48 f) := ((Blk.new _ _ _).alloc _).alloc _
  have hQ : Blk (((w.alloc (.cells (fA 48 f) 30)).alloc (.cells (fA 16 q) 26)).alloc (.cells (fA 16 fun _ => 0) 26)) (w.heap.size + 1) 26 (fA 16 q) := (Blk.new_at _ _ (by simp) rfl).alloc _
  have hZ : Blk (((w.alloc (.cells (fA 48 f) 30)).alloc (.cells (fA 16 q) 26)).alloc (.cells (fA 16 fun _ => 0) 26)) (w.heap.size + 1 + 1) 26 (fA 16 fun _ => 0) := Blk.new_at _ _ (by simp) rfl
  have hb : Below w.heap.size w (((w.alloc (.cells (fA 48 f) 30)).alloc (.cells (fA 16 q) 26)).alloc (.cells (fA 16 fun _ => 0) 26)) := (by repeat (first | assumption | exact Below.refl _ _ | refine bDrew ?_ _ | refine Below.alloc ?_ (by first | omega | (simp; done) | (simp; omega)) _ | refine Below.setCell ?_ (by first | omega | (simp; done) | (simp; omega)) _ | refine bRow ?_ (by first | omega | (simp; done) | (simp; omega)) _))
  go_enter Try.func14, Try.ntmps14
  go_wp2_with (refine wpList_load_row rfl 30 _ rfl _ rfl _ _ (0, 0) _ hF Try.underlying30 rfl (by kernel_rfl) ?_)
  refine (iValidFilm_any f _).mono ?_
  rintro e w1 ⟨rfl, hb1⟩
  have hF := hF.below hb1 hF.lt
  have hQ := hQ.below hb1 hQ.lt
  have hZ := hZ.below hb1 hZ.lt
  have hb := bCall hb hb1 hb.size; clear hb1
  cases hs : filmOk f with
  | false =>
    have Hm : Hid (overBackingRes f q = (fun _ => canon .f32 0, 1)) := Lib.hid (by simp only [overBackingRes, hs, Bool.false_eq_true, if_false])
    clear hs
    go_wp2_with (first | (refine wpList_build_as rfl 26 _ rfl (fA 16 fun _ => 0) (by kernel_rfl) ?_) | (refine wpList_store_row rfl 26 _ _ rfl _ _ rfl rfl _ _ hZ (by kernel_rfl) (by simp only [size_fA]) (all_fA _ _) ?_)); exact bodyPost_ret (results_cell_row2 rfl _ _ (w.heap.size + 1 + 1) _ _ _ _ rfl hZ.setRow Try.underlying26 rfl (by kernel_rfl)) rfl (RetCC.as Hm.out ⟨_, rfl, fun _ _ => rfl, (by repeat (first | assumption | exact Below.refl _ _ | refine bDrew ?_ _ | refine Below.alloc ?_ (by first | omega | (simp; done) | (simp; omega)) _ | refine Below.setCell ?_ (by first | omega | (simp; done) | (simp; omega)) _ | refine bRow ?_ (by first | omega | (simp; done) | (simp; omega)) _))⟩)
  | true =>
    have Hm : Hid (overBackingRes f q = ((overRes (fun i => canon .f32 (f i)) fun i => canon .f32 (q i)).1, (overRes (fun i => canon .f32 (f i)) fun i => canon .f32 (q i)).2)) := Lib.hid (by simp only [overBackingRes, hs, if_true])
    clear hs
    go_wp2_with (first | (refine wpList_load_row rfl 30 _ rfl _ rfl _ _ (0, 0) _ hF Try.underlying30 rfl (by kernel_rfl) ?_) | (refine wpList_load_row rfl 26 _ rfl _ rfl _ _ (0, 0) _ hQ Try.underlying26 rfl (by kernel_rfl) ?_))
    refine (over_any f q w1).mono ?_
    rintro e w4 ⟨s, rfl, hs, hb1⟩
    have hZ := hZ.below hb1 hZ.lt
    have hb := bCall hb hb1 hb.size
    have Hq := Lib.hid hs
    clear hs hb1
    go_wp2_with (refine wpList_store_row rfl 26 _ _ rfl _ _ rfl rfl _ _ hZ (by kernel_rfl) (by simp only [size_fA]) (all_fA _ _) ?_)
    exact bodyPost_ret (results_cell_row2 rfl _ _ (w.heap.size + 1 + 1) _ _ _ _ rfl hZ.setRow Try.underlying26 rfl (by kernel_rfl)) rfl (RetCC.as Hm.out ⟨s, rfl, Hq.out, (by repeat (first | assumption | exact Below.refl _ _ | refine bDrew ?_ _ | refine Below.alloc ?_ (by first | omega | (simp; done) | (simp; omega)) _ | refine Below.setCell ?_ (by first | omega | (simp; done) | (simp; omega)) _ | refine bRow ?_ (by first | omega | (simp; done) | (simp; omega)) _))⟩)
theorem sOverBacking_any (f q : Nat → Nat) (w : World) : Calls Try.prog 11 #[.agg (fA 48 f), .agg (fA 16 q)] w (RetCC 16 w (overBackingRes f q).1 (overBackingRes f q).2) := by
  have hF : Blk (((w.alloc (.cells (fA 48 f) 30)).alloc (.cells (fA 16 q) 26)).alloc (.cells (fA 16 fun _ => 0) 26)) w.heap.size 30 (fA 48 f) := ((Blk.new _ _ _).alloc _).alloc _
  have hQ : Blk (((w.alloc (.cells (fA 48 f) 30)).alloc (.cells (fA 16 q) 26)).alloc (.cells (fA 16 fun _ => 0) 26)) (w.heap.size + 1) 26 (fA 16 q) := (Blk.new_at _ _ (by simp) rfl).alloc _
  have hZ : Blk (((w.alloc (.cells (fA 48 f) 30)).alloc (.cells (fA 16 q) 26)).alloc (.cells (fA 16 fun _ => 0) 26)) (w.heap.size + 1 + 1) 26 (fA 16 fun _ => 0) := Blk.new_at _ _ (by simp) rfl
  have hb : Below w.heap.size w (((w.alloc (.cells (fA 48 f) 30)).alloc (.cells (fA 16 q) 26)).alloc (.cells (fA 16 fun _ => 0) 26)) := (by repeat (first | assumption | exact Below.refl _ _ | refine bDrew ?_ _ | refine Below.alloc ?_ (by first | omega | (simp; done) | (simp; omega)) _ | refine Below.setCell ?_ (by first | omega | (simp; done) | (simp; omega)) _ | refine bRow ?_ (by first | omega | (simp; done) | (simp; omega)) _))
  go_enter Try.func11, Try.ntmps11
  go_wp2_with fail
  refine (l02Film_any _ _ f _ hF).mono ?_
  rintro e w1 ⟨rfl, hb1⟩
  have hF := hF.below hb1 hF.lt
  have hQ := hQ.below hb1 hQ.lt
  have hZ := hZ.below hb1 hZ.lt
  have hb := bCall hb hb1 hb.size; clear hb1
  cases hs : filmOk f with
  | false =>
    have Hm : Hid (overBackingRes f q = (fun _ => canon .f32 0, 1)) := Lib.hid (by simp only [overBackingRes, hs, Bool.false_eq_true, if_false])
    clear hs
    go_wp2_with (first | (refine wpList_build_as rfl 26 _ rfl (fA 16 fun _ => 0) (by kernel_rfl) ?_) | (refine wpList_store_row rfl 26 _ _ rfl _ _ rfl rfl _ _ hZ (by kernel_rfl) (by simp only [size_fA]) (all_fA _ _) ?_)); exact bodyPost_ret (results_cell_row2 rfl _ _ (w.heap.size + 1 + 1) _ _ _ _ rfl hZ.setRow Try.underlying26 rfl (by kernel_rfl)) rfl (RetCC.as Hm.out ⟨_, rfl, fun _ _ => rfl, (by repeat (first | assumption | exact Below.refl _ _ | refine bDrew ?_ _ | refine Below.alloc ?_ (by first | omega | (simp; done) | (simp; omega)) _ | refine Below.setCell ?_ (by first | omega | (simp; done) | (simp; omega)) _ | refine bRow ?_ (by first | omega | (simp; done) | (simp; omega)) _))⟩)
  | true =>
    have Hm : Hid (overBackingRes f q = ((overRes (fun i => canon .f32 (f i)) fun i => canon .f32 (q i)).1, (overRes (fun i => canon .f32 (f i)) fun i => canon .f32 (q i)).2)) := Lib.hid (by simp only [overBackingRes, hs, if_true])
    clear hs
    go_wp2_with (refine wpList_load_row rfl 26 _ rfl _ rfl _ _ (0, 0) _ hQ Try.underlying26 rfl (by kernel_rfl) ?_)
    refine (l02Over_any _ _ f q w1 hF).mono ?_
    rintro e w4 ⟨s, rfl, hs, hb1⟩
    have hZ := hZ.below hb1 hZ.lt
    have hb := bCall hb hb1 hb.size
    have Hq := Lib.hid hs
    clear hs hb1
    go_wp2_with (refine wpList_store_row rfl 26 _ _ rfl _ _ rfl rfl _ _ hZ (by kernel_rfl) (by simp only [size_fA]) (all_fA _ _) ?_)
    exact bodyPost_ret (results_cell_row2 rfl _ _ (w.heap.size + 1 + 1) _ _ _ _ rfl hZ.setRow Try.underlying26 rfl (by kernel_rfl)) rfl (RetCC.as Hm.out ⟨s, rfl, Hq.out, (by repeat (first | assumption | exact Below.refl _ _ | refine bDrew ?_ _ | refine Below.alloc ?_ (by first | omega | (simp; done) | (simp; omega)) _ | refine Below.setCell ?_ (by first | omega | (simp; done) | (simp; omega)) _ | refine bRow ?_ (by first | omega | (simp; done) | (simp; omega)) _))⟩)
end Go.Proofs.Ytcmamfpcdhhboaa
