/- Contracts: a film over another one. -/
import Derived.Test.YtfpjiclkhjdihaaDM
namespace Go.Proofs.Ytfpjiclkhjdihaa
open Go.RowKit
set_option maxRecDepth 100000

/-- What a walk over the wavelengths has filled in. -/
def Fill3 (p : Nat → Option Nat) (cur : Nat → Nat) (k : Nat) : Prop := ∀ j, j < k → canon .f32 (cur j) = p j ∧ canon .f32 (cur (16 + j)) = p (16 + j) ∧ canon .f32 (cur (32 + j)) = p (32 + j)
theorem Fill3.next {p : Nat → Option Nat} {cur : Nat → Nat} {k r b t : Nat} (h : Fill3 p cur k) (hk : k < 16) (ht : canon .f32 t = p (32 + k)) (hr : canon .f32 r = p k) (hb : canon .f32 b = p (16 + k)) :
    Fill3 p (upd (upd (upd cur (32 + k) t) k r) (16 + k) b) (k + 1) := by
  intro j hj
  by_cases e : j = k
  · subst e
    refine ⟨?_, ?_, ?_⟩
    · rw [upd_other _ _ (by omega), upd_same, hr]
    · rw [upd_same, hb]
    · rw [upd_other _ _ (by omega), upd_other _ _ (by omega), upd_same, ht]
  · obtain ⟨h1, h2, h3⟩ := h j (by omega)
    refine ⟨?_, ?_, ?_⟩
    · rw [upd_other _ _ (by omega), upd_other _ _ (by omega), upd_other _ _ (by omega), h1]
    · rw [upd_other _ _ (by omega), upd_other _ _ (by omega), upd_other _ _ (by omega), h2]
    · rw [upd_other _ _ (by omega), upd_other _ _ (by omega), upd_other _ _ (by omega), h3]
theorem Fill3.all {p : Nat → Option Nat} {cur : Nat → Nat} (h : Fill3 p cur 16) : ∀ i, i < 48 → canon .f32 (cur i) = p i := by
  intro i hi
  by_cases h1 : i < 16
  · exact (h i h1).1
  · by_cases h2 : i < 32
    · have := (h (i - 16) (by omega)).2.1
      rwa [show 16 + (i - 16) = i by omega] at this
    · have := (h (i - 32) (by omega)).2.2
      rwa [show 32 + (i - 32) = i by omega] at this
theorem add_at0 {f g : Nat → Option Nat} {k : Nat} (hk : k < 16) : addAt f g k = upon (f k) (f (32 + k)) (g k) (gapOf (f (16 + k)) (g k)) := by unfold addAt; rw [if_pos hk]
theorem add_at1 {f g : Nat → Option Nat} {k : Nat} (hk : k < 16) : addAt f g (16 + k) = upon (g (16 + k)) (g (32 + k)) (f (16 + k)) (gapOf (f (16 + k)) (g k)) := by
  unfold addAt
  rw [if_neg (by omega), if_pos (by omega), show 16 + (16 + k) = 32 + k by omega, show 16 + k - 16 = k by omega]
theorem add_at2 {f g : Nat → Option Nat} {k : Nat} (hk : k < 16) : addAt f g (32 + k) = most (fdiv (fmul (f (32 + k)) (g (32 + k))) (gapOf (f (16 + k)) (g k))) := by
  unfold addAt
  rw [if_neg (by omega), if_neg (by omega), show 32 + k - 16 = 16 + k by omega, show 32 + k - 32 = k by omega]
def addFilmsRes (f g : Nat → Nat) : (Nat → Option Nat) × Int := if filmOk f && filmOk g then addRes (fun i => canon .f32 (f i)) (fun i => canon .f32 (g i)) else (fun _ => canon .f32 0, 1)

set_option maxHeartbeats 8000000 in
theorem add_any (f g : Nat → Nat) (w : World) : Calls Try.prog 29 #[.agg (fA 48 f), .agg (fA 48 g)] w (RetCC 48 w (addRes (fun i => canon .f32 (f i)) fun i => canon .f32 (g i)).1 (addRes (fun i => canon .f32 (f i)) fun i => canon .f32 (g i)).2) := by
  have hF : Blk ((((w.alloc (.cells (fA 48 f) 28)).alloc (.cells (fA 48 g) 28)).alloc (.cells (fA 48 fun _ => 0) 28)).alloc (.cells (fA 48 fun _ => 0) 28)) (w.heap.size) 28 (fA 48 f) := (((Blk.new _ _ _).alloc _).alloc _).alloc _
  have hG : Blk ((((w.alloc (.cells (fA 48 f) 28)).alloc (.cells (fA 48 g) 28)).alloc (.cells (fA 48 fun _ => 0) 28)).alloc (.cells (fA 48 fun _ => 0) 28)) (w.heap.size + 1) 28 (fA 48 g) := ((Blk.new_at _ _ (by simp) rfl).alloc _).alloc _
  have hZ : Blk ((((w.alloc (.cells (fA 48 f) 28)).alloc (.cells (fA 48 g) 28)).alloc (.cells (fA 48 fun _ => 0) 28)).alloc (.cells (fA 48 fun _ => 0) 28)) (w.heap.size + 1 + 1) 28 (fA 48 fun _ => 0) := (Blk.new_at _ _ (by simp) rfl).alloc _
  have hO : Blk ((((w.alloc (.cells (fA 48 f) 28)).alloc (.cells (fA 48 g) 28)).alloc (.cells (fA 48 fun _ => 0) 28)).alloc (.cells (fA 48 fun _ => 0) 28)) (w.heap.size + 1 + 1 + 1) 28 (fA 48 fun _ => 0) := Blk.new_at _ _ (by simp) rfl
  have hb : Below w.heap.size w ((((w.alloc (.cells (fA 48 f) 28)).alloc (.cells (fA 48 g) 28)).alloc (.cells (fA 48 fun _ => 0) 28)).alloc (.cells (fA 48 fun _ => 0) 28)) := (by repeat (first | assumption | exact Below.refl _ _ | refine bDrew ?_ _ | refine Below.alloc ?_ (by first | omega | (simp; done) | (simp; omega)) _ | refine Below.setCell ?_ (by first | omega | (simp; done) | (simp; omega)) _ | refine bRow ?_ (by first | omega | (simp; done) | (simp; omega)) _))
  go_enter Try.func29, Try.ntmps29
  go_wp2_with (first | (refine wpList_build_as rfl 28 _ rfl (fA 48 fun _ => 0) (by kernel_rfl) ?_) | (refine wpList_store_row rfl 28 _ _ rfl _ _ rfl rfl _ _ hO (by kernel_rfl) (by simp only [size_fA]) (all_fA _ _) ?_))
  go_loopw [7, 8, 10] (fun _ _ i wr => ∃ (k : Nat) (cur : Nat → Nat), k ≤ 16 ∧ i = .int .i64 k ∧ Below w.heap.size w wr ∧ Blk wr (w.heap.size) 28 (fA 48 f) ∧ Blk wr (w.heap.size + 1) 28 (fA 48 g) ∧ Blk wr (w.heap.size + 1 + 1) 28 (fA 48 fun _ => 0) ∧ Blk wr (w.heap.size + 1 + 1 + 1) 28 (fA 48 cur) ∧ Hid ((∀ j, j < k → gapOk (canon .f32 (f (16 + j))) (canon .f32 (g j)) = true) ∧ Fill3 (addAt (fun i => canon .f32 (f i)) fun i => canon .f32 (g i)) cur k)) (fun _ _ i _ => 16 - (intOf i).toNat)
  case atStart => exact ⟨0, fun _ => 0, by omega, rfl, bRow hb (by omega) _, hF.farRow (by omega), hG.farRow (by omega), hZ.farRow (by omega), hO.setRow, Lib.hid ⟨fun j h => absurd h (by omega), fun j h => absurd h (by omega)⟩⟩
  case round =>
    clear hO hF hG hZ hb
    obtain ⟨k, cur, hk, rfl, hb, hF, hG, hZ, hC, HC⟩ := hrel
    by_cases hlt : k < 16
    · have cf0 : wr.cell? ⟨w.heap.size, k, none⟩ = some (.float .f32 (f (k))) := (hF.cell (k)).trans (get_fA_lt f (by omega))
      have cf1 : wr.cell? ⟨w.heap.size, 16 + k, none⟩ = some (.float .f32 (f (16 + k))) := (hF.cell (16 + k)).trans (get_fA_lt f (by omega))
      have cf2 : wr.cell? ⟨w.heap.size, 32 + k, none⟩ = some (.float .f32 (f (32 + k))) := (hF.cell (32 + k)).trans (get_fA_lt f (by omega))
      have cg0 : wr.cell? ⟨w.heap.size + 1, k, none⟩ = some (.float .f32 (g (k))) := (hG.cell (k)).trans (get_fA_lt g (by omega))
      have cg1 : wr.cell? ⟨w.heap.size + 1, 16 + k, none⟩ = some (.float .f32 (g (16 + k))) := (hG.cell (16 + k)).trans (get_fA_lt g (by omega))
      have cg2 : wr.cell? ⟨w.heap.size + 1, 32 + k, none⟩ = some (.float .f32 (g (32 + k))) := (hG.cell (32 + k)).trans (get_fA_lt g (by omega))
      go_wp2_with fail
      (refine wp_region_loose_lit (fun w' => ∃ n, w' = wr.drewN n) (GM fmul (fun _ x => most x)) (by kernel_rfl) (by kernel_rfl) ⟨1, rfl⟩ ?_)
      repeat (refine wpLoose_plain rfl (fun K hK w1 hw1 => ?_); obtain ⟨n, rfl⟩ := hw1; go_simp; refine ⟨⟨_, rfl⟩, hK _ ?_⟩; clear hK K)
      (refine wpLoose_plain rfl (fun K hK w1 hw1 => ?_); obtain ⟨n1, rfl⟩ := hw1; go_simp; refine ⟨⟨_, rfl⟩, (mul_any _ _ _).mono ?_, fun u hu => hK _ ?_⟩; (rintro e w' ⟨r, rfl, hr, m, rfl⟩; exact ⟨_, rfl, GM.mk2 hr, _, by rw [World.drewN_drewN]⟩); clear hK K; obtain ⟨r1, rfl, H1⟩ := GM.inv2 hu; clear hu)
      repeat (refine wpLoose_plain rfl (fun K hK w1 hw1 => ?_); obtain ⟨n, rfl⟩ := hw1; go_simp; refine ⟨⟨_, rfl⟩, hK _ ?_⟩; clear hK K)
      (refine wpLoose_nil ?_; intro _ hw'; obtain ⟨nq, rfl⟩ := hw')
      have HD : Hid (∀ w', canon .f32 (fval .sub .f32 1065353216 (r1) w') = gapOf (canon .f32 (f (16 + k))) (canon .f32 (g k))) := Lib.hid (fun w' => by rw [c_sub, H1.out]; rfl)
      have hq : ∀ w', (FloatKind.f32.format.order (fval .sub .f32 1065353216 (r1) w') 0 == some .gt) = gapOk (canon .f32 (f (16 + k))) (canon .f32 (g k)) := fun w' => by rw [o_gt, HD.out]; rfl
      clear H1
      cases h0 : gapOk (canon .f32 (f (16 + k))) (canon .f32 (g k)) with
      | false =>
        have Hm : Hid ((addRes (fun i => canon .f32 (f i)) fun i => canon .f32 (g i)) = (fun _ => canon .f32 0, 4)) := Lib.hid (by
          have h1 : (allTo 16 fun i => gapOk (canon .f32 (f (16 + i))) (canon .f32 (g i))) = false := allTo_false hlt h0
          simp only [addRes, h1, Bool.false_eq_true, if_false])
        rw [h0] at hq
        have hZ := Blk.drewN hZ nq
        have hb := bDrew hb nq
        clear h0
        clear cf0 cf1 cf2 cg0 cg1 cg2
        go_wp2_with (first | (refine wpList_build_as rfl 28 _ rfl (fA 48 fun _ => 0) (by kernel_rfl) ?_) | (refine wpList_store_row rfl 28 _ _ rfl _ _ rfl rfl _ _ hZ (by kernel_rfl) (by simp only [size_fA]) (all_fA _ _) ?_)); exact bodyPost_ret (results_cell_row2 rfl _ _ (w.heap.size + 1 + 1) _ _ _ _ rfl hZ.setRow Try.underlying28 rfl (by kernel_rfl)) rfl (RetCC.as Hm.out ⟨_, rfl, fun _ _ => rfl, (by repeat (first | assumption | exact Below.refl _ _ | refine bDrew ?_ _ | refine Below.alloc ?_ (by first | omega | (simp; done) | (simp; omega)) _ | refine Below.setCell ?_ (by first | omega | (simp; done) | (simp; omega)) _ | refine bRow ?_ (by first | omega | (simp; done) | (simp; omega)) _))⟩)
      | true =>
        rw [h0] at hq
        have H0 := Lib.hid h0
        clear h0
        have c3 : wr.cell? ⟨w.heap.size + 1 + 1 + 1, 32 + k, none⟩ = some (.float .f32 (cur (32 + k))) := (hC.cell (32 + k)).trans (get_fA_lt cur (by omega))
        have f3 := hC.frozen (32 + k)
        go_wp2_with fail
        clear hq
        (refine wp_region_loose_tail 15 (fun w' => ∃ n, w' = wr.drewN n) (GM fmul (fun _ x => most x)) (by kernel_rfl) (by kernel_rfl) ⟨nq + 1, rfl⟩ ?_; simp only [List.take_succ_cons, List.take_zero, List.drop_succ_cons, List.drop_zero])
        clear nq
        repeat (refine wpLoose_plain rfl (fun K hK w1 hw1 => ?_); obtain ⟨n, rfl⟩ := hw1; go_simp; refine ⟨⟨_, rfl⟩, hK _ ?_⟩; clear hK K)
        (refine wpLoose_plain rfl (fun K hK w1 hw1 => ?_); obtain ⟨n1, rfl⟩ := hw1; go_simp; refine ⟨⟨_, rfl⟩, (mul_any _ _ _).mono ?_, fun u hu => hK _ ?_⟩; (rintro e w' ⟨r, rfl, hr, m, rfl⟩; exact ⟨_, rfl, GM.mk2 hr, _, by rw [World.drewN_drewN]⟩); clear hK K; obtain ⟨r2, rfl, H2⟩ := GM.inv2 hu; clear hu)
        repeat (refine wpLoose_plain rfl (fun K hK w1 hw1 => ?_); obtain ⟨n, rfl⟩ := hw1; go_simp; refine ⟨⟨_, rfl⟩, hK _ ?_⟩; clear hK K)
        (refine wpLoose_plain rfl (fun K hK w1 hw1 => ?_); obtain ⟨n1, rfl⟩ := hw1; go_simp; refine ⟨⟨_, rfl⟩, (atMostOne_any _ _).mono ?_, fun u hu => hK _ ?_⟩; (rintro e w' ⟨r, rfl, hr, m, rfl⟩; exact ⟨_, rfl, GM.mk1 hr, _, by rw [World.drewN_drewN]⟩); clear hK K; obtain ⟨r3, rfl, H3⟩ := GM.inv1 hu; clear hu)
        repeat (refine wpLoose_plain rfl (fun K hK w1 hw1 => ?_); obtain ⟨n, rfl⟩ := hw1; go_simp; refine ⟨⟨_, rfl⟩, hK _ ?_⟩; clear hK K)
        (refine wpLoose_nil ?_; intro _ hw'; obtain ⟨nq, rfl⟩ := hw')
        have HT : Hid (canon .f32 r3 = addAt (fun i => canon .f32 (f i)) (fun i => canon .f32 (g i)) (32 + k)) := Lib.hid (by rw [add_at2 hlt, H3.out, c_div, H2.out, HD.out])
        clear H3 H2
        clear cf0 cf1 cf2 cg0 cg1 cg2 c3 f3
        have c3 : wr.cell? ⟨w.heap.size + 1 + 1 + 1, 32 + k, none⟩ = some (.float .f32 (cur (32 + k))) := (hC.cell (32 + k)).trans (get_fA_lt cur (by omega))
        have f3 := hC.frozen (32 + k)
        go_wp2_with fail
        obtain ⟨W2, hW⟩ : ∃ W2 : World, W2 = (wr.drewN nq).setCell ⟨w.heap.size + 1 + 1 + 1, 32 + k, none⟩ (.float .f32 r3) := ⟨_, rfl⟩
        have hF : Blk W2 (w.heap.size) 28 (fA 48 f) := by subst hW; exact Blk.far (Blk.drewN hF _) (by dsimp only; omega) _
        have hG : Blk W2 (w.heap.size + 1) 28 (fA 48 g) := by subst hW; exact Blk.far (Blk.drewN hG _) (by dsimp only; omega) _
        have hZ : Blk W2 (w.heap.size + 1 + 1) 28 (fA 48 fun _ => 0) := by subst hW; exact Blk.far (Blk.drewN hZ _) (by dsimp only; omega) _
        have hC : Blk W2 (w.heap.size + 1 + 1 + 1) 28 (fA 48 (upd cur (32 + k) r3)) := by subst hW; exact Blk.setF (Blk.drewN hC _) _ _
        have hb : Below w.heap.size w W2 := by subst hW; exact (bDrew hb _).setCell (by dsimp only; omega) _
        rw [← hW]
        clear hW c3 f3
        have cf0 : W2.cell? ⟨w.heap.size, k, none⟩ = some (.float .f32 (f (k))) := (hF.cell (k)).trans (get_fA_lt f (by omega))
        have cf1 : W2.cell? ⟨w.heap.size, 16 + k, none⟩ = some (.float .f32 (f (16 + k))) := (hF.cell (16 + k)).trans (get_fA_lt f (by omega))
        have cf2 : W2.cell? ⟨w.heap.size, 32 + k, none⟩ = some (.float .f32 (f (32 + k))) := (hF.cell (32 + k)).trans (get_fA_lt f (by omega))
        have cg0 : W2.cell? ⟨w.heap.size + 1, k, none⟩ = some (.float .f32 (g (k))) := (hG.cell (k)).trans (get_fA_lt g (by omega))
        have cg1 : W2.cell? ⟨w.heap.size + 1, 16 + k, none⟩ = some (.float .f32 (g (16 + k))) := (hG.cell (16 + k)).trans (get_fA_lt g (by omega))
        have cg2 : W2.cell? ⟨w.heap.size + 1, 32 + k, none⟩ = some (.float .f32 (g (32 + k))) := (hG.cell (32 + k)).trans (get_fA_lt g (by omega))
        (refine wp_region_loose_tail 25 (fun w' => ∃ n, w' = W2.drewN n) (GM fmul (fun _ x => most x)) (by kernel_rfl) (by kernel_rfl) ⟨1, rfl⟩ ?_; simp only [List.take_succ_cons, List.take_zero, List.drop_succ_cons, List.drop_zero])
        clear nq
        repeat (refine wpLoose_plain rfl (fun K hK w1 hw1 => ?_); obtain ⟨n, rfl⟩ := hw1; go_simp; refine ⟨⟨_, rfl⟩, hK _ ?_⟩; clear hK K)
        (refine wpLoose_plain rfl (fun K hK w1 hw1 => ?_); obtain ⟨n1, rfl⟩ := hw1; go_simp; refine ⟨⟨_, rfl⟩, (mul_any _ _ _).mono ?_, fun u hu => hK _ ?_⟩; (rintro e w' ⟨r, rfl, hr, m, rfl⟩; exact ⟨_, rfl, GM.mk2 hr, _, by rw [World.drewN_drewN]⟩); clear hK K; obtain ⟨r4, rfl, H4⟩ := GM.inv2 hu; clear hu)
        repeat (refine wpLoose_plain rfl (fun K hK w1 hw1 => ?_); obtain ⟨n, rfl⟩ := hw1; go_simp; refine ⟨⟨_, rfl⟩, hK _ ?_⟩; clear hK K)
        (refine wpLoose_plain rfl (fun K hK w1 hw1 => ?_); obtain ⟨n1, rfl⟩ := hw1; go_simp; refine ⟨⟨_, rfl⟩, (mul_any _ _ _).mono ?_, fun u hu => hK _ ?_⟩; (rintro e w' ⟨r, rfl, hr, m, rfl⟩; exact ⟨_, rfl, GM.mk2 hr, _, by rw [World.drewN_drewN]⟩); clear hK K; obtain ⟨r5, rfl, H5⟩ := GM.inv2 hu; clear hu)
        repeat (refine wpLoose_plain rfl (fun K hK w1 hw1 => ?_); obtain ⟨n, rfl⟩ := hw1; go_simp; refine ⟨⟨_, rfl⟩, hK _ ?_⟩; clear hK K)
        (refine wpLoose_plain rfl (fun K hK w1 hw1 => ?_); obtain ⟨n1, rfl⟩ := hw1; go_simp; refine ⟨⟨_, rfl⟩, (atMostOne_any _ _).mono ?_, fun u hu => hK _ ?_⟩; (rintro e w' ⟨r, rfl, hr, m, rfl⟩; exact ⟨_, rfl, GM.mk1 hr, _, by rw [World.drewN_drewN]⟩); clear hK K; obtain ⟨r6, rfl, H6⟩ := GM.inv1 hu; clear hu)
        repeat (refine wpLoose_plain rfl (fun K hK w1 hw1 => ?_); obtain ⟨n, rfl⟩ := hw1; go_simp; refine ⟨⟨_, rfl⟩, hK _ ?_⟩; clear hK K)
        (refine wpLoose_nil ?_; intro _ hw'; obtain ⟨nq, rfl⟩ := hw')
        have HR : Hid (canon .f32 r6 = addAt (fun i => canon .f32 (f i)) (fun i => canon .f32 (g i)) k) := Lib.hid (by rw [add_at0 hlt, H6.out, c_add, c_div, H5.out, H4.out, HD.out]; rfl)
        clear H6 H4 H5
        clear cf0 cf1 cf2 cg0 cg1 cg2
        have c3 : W2.cell? ⟨w.heap.size + 1 + 1 + 1, k, none⟩ = some (.float .f32 (upd cur (32 + k) r3 k)) := (hC.cell k).trans (get_fA_lt _ (by omega))
        have f3 := hC.frozen k
        go_wp2_with fail
        obtain ⟨W3, hW⟩ : ∃ W3 : World, W3 = (W2.drewN nq).setCell ⟨w.heap.size + 1 + 1 + 1, k, none⟩ (.float .f32 r6) := ⟨_, rfl⟩
        have hF : Blk W3 (w.heap.size) 28 (fA 48 f) := by subst hW; exact Blk.far (Blk.drewN hF _) (by dsimp only; omega) _
        have hG : Blk W3 (w.heap.size + 1) 28 (fA 48 g) := by subst hW; exact Blk.far (Blk.drewN hG _) (by dsimp only; omega) _
        have hZ : Blk W3 (w.heap.size + 1 + 1) 28 (fA 48 fun _ => 0) := by subst hW; exact Blk.far (Blk.drewN hZ _) (by dsimp only; omega) _
        have hC : Blk W3 (w.heap.size + 1 + 1 + 1) 28 (fA 48 (upd (upd cur (32 + k) r3) k r6)) := by subst hW; exact Blk.setF (Blk.drewN hC _) _ _
        have hb : Below w.heap.size w W3 := by subst hW; exact (bDrew hb _).setCell (by dsimp only; omega) _
        rw [← hW]
        clear hW c3 f3
        have cf0 : W3.cell? ⟨w.heap.size, k, none⟩ = some (.float .f32 (f (k))) := (hF.cell (k)).trans (get_fA_lt f (by omega))
        have cf1 : W3.cell? ⟨w.heap.size, 16 + k, none⟩ = some (.float .f32 (f (16 + k))) := (hF.cell (16 + k)).trans (get_fA_lt f (by omega))
        have cf2 : W3.cell? ⟨w.heap.size, 32 + k, none⟩ = some (.float .f32 (f (32 + k))) := (hF.cell (32 + k)).trans (get_fA_lt f (by omega))
        have cg0 : W3.cell? ⟨w.heap.size + 1, k, none⟩ = some (.float .f32 (g (k))) := (hG.cell (k)).trans (get_fA_lt g (by omega))
        have cg1 : W3.cell? ⟨w.heap.size + 1, 16 + k, none⟩ = some (.float .f32 (g (16 + k))) := (hG.cell (16 + k)).trans (get_fA_lt g (by omega))
        have cg2 : W3.cell? ⟨w.heap.size + 1, 32 + k, none⟩ = some (.float .f32 (g (32 + k))) := (hG.cell (32 + k)).trans (get_fA_lt g (by omega))
        (refine wp_region_loose_tail 25 (fun w' => ∃ n, w' = W3.drewN n) (GM fmul (fun _ x => most x)) (by kernel_rfl) (by kernel_rfl) ⟨1, rfl⟩ ?_; simp only [List.take_succ_cons, List.take_zero, List.drop_succ_cons, List.drop_zero])
        clear nq
        repeat (refine wpLoose_plain rfl (fun K hK w1 hw1 => ?_); obtain ⟨n, rfl⟩ := hw1; go_simp; refine ⟨⟨_, rfl⟩, hK _ ?_⟩; clear hK K)
        (refine wpLoose_plain rfl (fun K hK w1 hw1 => ?_); obtain ⟨n1, rfl⟩ := hw1; go_simp; refine ⟨⟨_, rfl⟩, (mul_any _ _ _).mono ?_, fun u hu => hK _ ?_⟩; (rintro e w' ⟨r, rfl, hr, m, rfl⟩; exact ⟨_, rfl, GM.mk2 hr, _, by rw [World.drewN_drewN]⟩); clear hK K; obtain ⟨r7, rfl, H7⟩ := GM.inv2 hu; clear hu)
        repeat (refine wpLoose_plain rfl (fun K hK w1 hw1 => ?_); obtain ⟨n, rfl⟩ := hw1; go_simp; refine ⟨⟨_, rfl⟩, hK _ ?_⟩; clear hK K)
        (refine wpLoose_plain rfl (fun K hK w1 hw1 => ?_); obtain ⟨n1, rfl⟩ := hw1; go_simp; refine ⟨⟨_, rfl⟩, (mul_any _ _ _).mono ?_, fun u hu => hK _ ?_⟩; (rintro e w' ⟨r, rfl, hr, m, rfl⟩; exact ⟨_, rfl, GM.mk2 hr, _, by rw [World.drewN_drewN]⟩); clear hK K; obtain ⟨r8, rfl, H8⟩ := GM.inv2 hu; clear hu)
        repeat (refine wpLoose_plain rfl (fun K hK w1 hw1 => ?_); obtain ⟨n, rfl⟩ := hw1; go_simp; refine ⟨⟨_, rfl⟩, hK _ ?_⟩; clear hK K)
        (refine wpLoose_plain rfl (fun K hK w1 hw1 => ?_); obtain ⟨n1, rfl⟩ := hw1; go_simp; refine ⟨⟨_, rfl⟩, (atMostOne_any _ _).mono ?_, fun u hu => hK _ ?_⟩; (rintro e w' ⟨r, rfl, hr, m, rfl⟩; exact ⟨_, rfl, GM.mk1 hr, _, by rw [World.drewN_drewN]⟩); clear hK K; obtain ⟨r9, rfl, H9⟩ := GM.inv1 hu; clear hu)
        repeat (refine wpLoose_plain rfl (fun K hK w1 hw1 => ?_); obtain ⟨n, rfl⟩ := hw1; go_simp; refine ⟨⟨_, rfl⟩, hK _ ?_⟩; clear hK K)
        (refine wpLoose_nil ?_; intro _ hw'; obtain ⟨nq, rfl⟩ := hw')
        have HB : Hid (canon .f32 r9 = addAt (fun i => canon .f32 (f i)) (fun i => canon .f32 (g i)) (16 + k)) := Lib.hid (by rw [add_at1 hlt, H9.out, c_add, c_div, H8.out, H7.out, HD.out]; rfl)
        clear H9 H7 H8
        clear cf0 cf1 cf2 cg0 cg1 cg2
        have c3 : W3.cell? ⟨w.heap.size + 1 + 1 + 1, 16 + k, none⟩ = some (.float .f32 (upd (upd cur (32 + k) r3) k r6 (16 + k))) := (hC.cell (16 + k)).trans (get_fA_lt _ (by omega))
        have f3 := hC.frozen (16 + k)
        go_wp2
        go_roundw
        case rel =>
          refine ⟨k + 1, _, by omega, by go_num, (bDrew hb _).setCell (by dsimp only; omega) _, Blk.far (Blk.drewN hF _) (by dsimp only; omega) _, Blk.far (Blk.drewN hG _) (by dsimp only; omega) _, Blk.far (Blk.drewN hZ _) (by dsimp only; omega) _, Blk.setF (Blk.drewN hC _) (16 + k) _, Lib.hid ⟨?_, HC.out.2.next hlt HT.out HR.out HB.out⟩⟩
          intro j hj
          by_cases e : j = k
          · subst e; exact H0.out
          · exact HC.out.1 j (by omega)
        case measure => simp [intOf]; omega
    · obtain rfl : k = 16 := by omega
      have Hm : Hid ((addRes (fun i => canon .f32 (f i)) fun i => canon .f32 (g i)) = ((finFilmRes (addAt (fun i => canon .f32 (f i)) fun i => canon .f32 (g i))).1, (finFilmRes (addAt (fun i => canon .f32 (f i)) fun i => canon .f32 (g i))).2)) := Lib.hid (by
        have h1 : (allTo 16 fun i => gapOk (canon .f32 (f (16 + i))) (canon .f32 (g i))) = true := allTo_true HC.out.1
        simp only [addRes, h1, if_true])
      go_wp2_with (refine wpList_load_row rfl 28 _ rfl _ rfl _ _ (0, 0) _ hC Try.underlying28 rfl (by kernel_rfl) ?_)
      refine (finiteFilm_any cur wr).mono ?_
      rintro e w4 ⟨s, rfl, hs, hb1⟩
      have hZ := hZ.below hb1 hZ.lt
      have hb := bCall hb hb1 hb.size
      have Hq := Lib.hid hs
      clear hs hb1
      go_wp2_with (refine wpList_store_row rfl 28 _ _ rfl _ _ rfl rfl _ _ hZ (by kernel_rfl) (by simp only [size_fA]) (all_fA _ _) ?_)
      exact bodyPost_ret (results_cell_row2 rfl _ _ (w.heap.size + 1 + 1) _ _ _ _ rfl hZ.setRow Try.underlying28 rfl (by kernel_rfl)) rfl (RetCC.as Hm.out (finFilm_congr HC.out.2.all ⟨s, rfl, Hq.out, (by repeat (first | assumption | exact Below.refl _ _ | refine bDrew ?_ _ | refine Below.alloc ?_ (by first | omega | (simp; done) | (simp; omega)) _ | refine Below.setCell ?_ (by first | omega | (simp; done) | (simp; omega)) _ | refine bRow ?_ (by first | omega | (simp; done) | (simp; omega)) _))⟩))
set_option maxHeartbeats 8000000 in
theorem l02Add_any (g1 g2 : Nat) (T1 T2 : TypeId) (f g : Nat → Nat) (w : World) (hF : Blk w g1 T1 (fA 48 f)) (hG : Blk w g2 T2 (fA 48 g)) : Calls Try.prog 31 #[.pointer (some ⟨g1, 0, none⟩), .pointer (some ⟨g2, 0, none⟩)] w (RetCC 48 w (addRes (fun i => canon .f32 (f i)) fun i => canon .f32 (g i)).1 (addRes (fun i => canon .f32 (f i)) fun i => canon .f32 (g i)).2) := by
  have hg1 := hF.lt
  have hg2 := hG.lt
  have hF := (hF.alloc (.cells (fA 48 fun _ => 0) 28)).alloc (.cells (fA 48 fun _ => 0) 28)
  have hG := (hG.alloc (.cells (fA 48 fun _ => 0) 28)).alloc (.cells (fA 48 fun _ => 0) 28)
  have hZ : Blk ((w.alloc (.cells (fA 48 fun _ => 0) 28)).alloc (.cells (fA 48 fun _ => 0) 28)) (w.heap.size) 28 (fA 48 fun _ => 0) := (Blk.new _ _ _).alloc _
  have hO : Blk ((w.alloc (.cells (fA 48 fun _ => 0) 28)).alloc (.cells (fA 48 fun _ => 0) 28)) (w.heap.size + 1) 28 (fA 48 fun _ => 0) := Blk.new_at _ _ (by simp) rfl
  have hb : Below w.heap.size w ((w.alloc (.cells (fA 48 fun _ => 0) 28)).alloc (.cells (fA 48 fun _ => 0) 28)) := (by repeat (first | assumption | exact Below.refl _ _ | refine bDrew ?_ _ | refine Below.alloc ?_ (by first | omega | (simp; done) | (simp; omega)) _ | refine Below.setCell ?_ (by first | omega | (simp; done) | (simp; omega)) _ | refine bRow ?_ (by first | omega | (simp; done) | (simp; omega)) _))
  go_enter Try.func31, Try.ntmps31
  go_wp2_with (first | (refine wpList_build_as rfl 28 _ rfl (fA 48 fun _ => 0) (by kernel_rfl) ?_) | (refine wpList_store_row rfl 28 _ _ rfl _ _ rfl rfl _ _ hO (by kernel_rfl) (by simp only [size_fA]) (all_fA _ _) ?_))
  go_loopw [7, 8] (fun i _ wr => ∃ (k : Nat) (cur : Nat → Nat), k ≤ 16 ∧ i = .int .i64 k ∧ Below w.heap.size w wr ∧ Blk wr (g1) T1 (fA 48 f) ∧ Blk wr (g2) T2 (fA 48 g) ∧ Blk wr (w.heap.size) 28 (fA 48 fun _ => 0) ∧ Blk wr (w.heap.size + 1) 28 (fA 48 cur) ∧ Hid ((∀ j, j < k → gapOk (canon .f32 (f (16 + j))) (canon .f32 (g j)) = true) ∧ Fill3 (addAt (fun i => canon .f32 (f i)) fun i => canon .f32 (g i)) cur k)) (fun i _ _ => 16 - (intOf i).toNat)
  case atStart => exact ⟨0, fun _ => 0, by omega, rfl, bRow hb (by omega) _, hF.farRow (by omega), hG.farRow (by omega), hZ.farRow (by omega), hO.setRow, Lib.hid ⟨fun j h => absurd h (by omega), fun j h => absurd h (by omega)⟩⟩
  case round =>
    clear hO hF hG hZ hb
    obtain ⟨k, cur, hk, rfl, hb, hF, hG, hZ, hC, HC⟩ := hrel
    by_cases hlt : k < 16
    · have cf0 : wr.cell? ⟨g1, k, none⟩ = some (.float .f32 (f (k))) := (hF.cell (k)).trans (get_fA_lt f (by omega))
      have cf1 : wr.cell? ⟨g1, 16 + k, none⟩ = some (.float .f32 (f (16 + k))) := (hF.cell (16 + k)).trans (get_fA_lt f (by omega))
      have cf2 : wr.cell? ⟨g1, 32 + k, none⟩ = some (.float .f32 (f (32 + k))) := (hF.cell (32 + k)).trans (get_fA_lt f (by omega))
      have cg0 : wr.cell? ⟨g2, k, none⟩ = some (.float .f32 (g (k))) := (hG.cell (k)).trans (get_fA_lt g (by omega))
      have cg1 : wr.cell? ⟨g2, 16 + k, none⟩ = some (.float .f32 (g (16 + k))) := (hG.cell (16 + k)).trans (get_fA_lt g (by omega))
      have cg2 : wr.cell? ⟨g2, 32 + k, none⟩ = some (.float .f32 (g (32 + k))) := (hG.cell (32 + k)).trans (get_fA_lt g (by omega))
      go_wp2_with fail
      (refine wp_region_loose_lit (fun w' => ∃ n, w' = wr.drewN n) (fun _ _ _ => False) (by kernel_rfl) (by kernel_rfl) ⟨1, rfl⟩ ?_)
      repeat (refine wpLoose_plain rfl (fun K hK w1 hw1 => ?_); obtain ⟨n, rfl⟩ := hw1; go_simp; refine ⟨⟨_, rfl⟩, hK _ ?_⟩; clear hK K)
      (refine wpLoose_nil ?_; intro _ hw'; obtain ⟨nq, rfl⟩ := hw')
      have HD : Hid (∀ w1 w', canon .f32 (fval .sub .f32 1065353216 (fval .mul .f32 (f (16 + k)) (g k) w1) w') = gapOf (canon .f32 (f (16 + k))) (canon .f32 (g k))) := Lib.hid (fun w1 w' => by rw [c_sub, c_mul]; rfl)
      have hq : ∀ w1 w', (FloatKind.f32.format.order (fval .sub .f32 1065353216 (fval .mul .f32 (f (16 + k)) (g k) w1) w') 0 == some .gt) = gapOk (canon .f32 (f (16 + k))) (canon .f32 (g k)) := fun w1 w' => by rw [o_gt, HD.out]; rfl
      cases h0 : gapOk (canon .f32 (f (16 + k))) (canon .f32 (g k)) with
      | false =>
        have Hm : Hid ((addRes (fun i => canon .f32 (f i)) fun i => canon .f32 (g i)) = (fun _ => canon .f32 0, 4)) := Lib.hid (by
          have h1 : (allTo 16 fun i => gapOk (canon .f32 (f (16 + i))) (canon .f32 (g i))) = false := allTo_false hlt h0
          simp only [addRes, h1, Bool.false_eq_true, if_false])
        rw [h0] at hq
        have hZ := Blk.drewN hZ nq
        have hb := bDrew hb nq
        clear h0
        clear cf0 cf1 cf2 cg0 cg1 cg2
        go_wp2_with (first | (refine wpList_build_as rfl 28 _ rfl (fA 48 fun _ => 0) (by kernel_rfl) ?_) | (refine wpList_store_row rfl 28 _ _ rfl _ _ rfl rfl _ _ hZ (by kernel_rfl) (by simp only [size_fA]) (all_fA _ _) ?_)); exact bodyPost_ret (results_cell_row2 rfl _ _ (w.heap.size) _ _ _ _ rfl hZ.setRow Try.underlying28 rfl (by kernel_rfl)) rfl (RetCC.as Hm.out ⟨_, rfl, fun _ _ => rfl, (by repeat (first | assumption | exact Below.refl _ _ | refine bDrew ?_ _ | refine Below.alloc ?_ (by first | omega | (simp; done) | (simp; omega)) _ | refine Below.setCell ?_ (by first | omega | (simp; done) | (simp; omega)) _ | refine bRow ?_ (by first | omega | (simp; done) | (simp; omega)) _))⟩)
      | true =>
        rw [h0] at hq
        have H0 := Lib.hid h0
        clear h0
        have c3 : wr.cell? ⟨w.heap.size + 1, 32 + k, none⟩ = some (.float .f32 (cur (32 + k))) := (hC.cell (32 + k)).trans (get_fA_lt cur (by omega))
        have f3 := hC.frozen (32 + k)
        go_wp2_with fail
        clear hq
        (refine wp_region_loose_tail 19 (fun w' => ∃ n, w' = wr.drewN n) (GM fmul (fun _ x => most x)) (by kernel_rfl) (by kernel_rfl) ⟨nq + 1, rfl⟩ ?_; simp only [List.take_succ_cons, List.take_zero, List.drop_succ_cons, List.drop_zero])
        clear nq
        repeat (refine wpLoose_plain rfl (fun K hK w1 hw1 => ?_); obtain ⟨n, rfl⟩ := hw1; go_simp; refine ⟨⟨_, rfl⟩, hK _ ?_⟩; clear hK K)
        (refine wpLoose_plain rfl (fun K hK w1 hw1 => ?_); obtain ⟨n1, rfl⟩ := hw1; go_simp; refine ⟨⟨_, rfl⟩, (l02Most_any _ _).mono ?_, fun u hu => hK _ ?_⟩; (rintro e w' ⟨r, rfl, hr, m, rfl⟩; exact ⟨_, rfl, GM.mk1 hr, _, by rw [World.drewN_drewN]⟩); clear hK K; obtain ⟨r3, rfl, H3⟩ := GM.inv1 hu; clear hu)
        repeat (refine wpLoose_plain rfl (fun K hK w1 hw1 => ?_); obtain ⟨n, rfl⟩ := hw1; go_simp; refine ⟨⟨_, rfl⟩, hK _ ?_⟩; clear hK K)
        (refine wpLoose_nil ?_; intro _ hw'; obtain ⟨nq, rfl⟩ := hw')
        have HT : Hid (canon .f32 r3 = addAt (fun i => canon .f32 (f i)) (fun i => canon .f32 (g i)) (32 + k)) := Lib.hid (by rw [add_at2 hlt, H3.out, c_div, c_mul, HD.out])
        clear H3
        clear cf0 cf1 cf2 cg0 cg1 cg2 c3 f3
        have c3 : wr.cell? ⟨w.heap.size + 1, 32 + k, none⟩ = some (.float .f32 (cur (32 + k))) := (hC.cell (32 + k)).trans (get_fA_lt cur (by omega))
        have f3 := hC.frozen (32 + k)
        go_wp2_with fail
        obtain ⟨W2, hW⟩ : ∃ W2 : World, W2 = (wr.drewN nq).setCell ⟨w.heap.size + 1, 32 + k, none⟩ (.float .f32 r3) := ⟨_, rfl⟩
        have hF : Blk W2 (g1) T1 (fA 48 f) := by subst hW; exact Blk.far (Blk.drewN hF _) (by dsimp only; omega) _
        have hG : Blk W2 (g2) T2 (fA 48 g) := by subst hW; exact Blk.far (Blk.drewN hG _) (by dsimp only; omega) _
        have hZ : Blk W2 (w.heap.size) 28 (fA 48 fun _ => 0) := by subst hW; exact Blk.far (Blk.drewN hZ _) (by dsimp only; omega) _
        have hC : Blk W2 (w.heap.size + 1) 28 (fA 48 (upd cur (32 + k) r3)) := by subst hW; exact Blk.setF (Blk.drewN hC _) _ _
        have hb : Below w.heap.size w W2 := by subst hW; exact (bDrew hb _).setCell (by dsimp only; omega) _
        rw [← hW]
        clear hW c3 f3
        have cf0 : W2.cell? ⟨g1, k, none⟩ = some (.float .f32 (f (k))) := (hF.cell (k)).trans (get_fA_lt f (by omega))
        have cf1 : W2.cell? ⟨g1, 16 + k, none⟩ = some (.float .f32 (f (16 + k))) := (hF.cell (16 + k)).trans (get_fA_lt f (by omega))
        have cf2 : W2.cell? ⟨g1, 32 + k, none⟩ = some (.float .f32 (f (32 + k))) := (hF.cell (32 + k)).trans (get_fA_lt f (by omega))
        have cg0 : W2.cell? ⟨g2, k, none⟩ = some (.float .f32 (g (k))) := (hG.cell (k)).trans (get_fA_lt g (by omega))
        have cg1 : W2.cell? ⟨g2, 16 + k, none⟩ = some (.float .f32 (g (16 + k))) := (hG.cell (16 + k)).trans (get_fA_lt g (by omega))
        have cg2 : W2.cell? ⟨g2, 32 + k, none⟩ = some (.float .f32 (g (32 + k))) := (hG.cell (32 + k)).trans (get_fA_lt g (by omega))
        (refine wp_region_loose_tail 33 (fun w' => ∃ n, w' = W2.drewN n) (GM fmul (fun _ x => most x)) (by kernel_rfl) (by kernel_rfl) ⟨1, rfl⟩ ?_; simp only [List.take_succ_cons, List.take_zero, List.drop_succ_cons, List.drop_zero])
        clear nq
        repeat (refine wpLoose_plain rfl (fun K hK w1 hw1 => ?_); obtain ⟨n, rfl⟩ := hw1; go_simp; refine ⟨⟨_, rfl⟩, hK _ ?_⟩; clear hK K)
        (refine wpLoose_plain rfl (fun K hK w1 hw1 => ?_); obtain ⟨n1, rfl⟩ := hw1; go_simp; refine ⟨⟨_, rfl⟩, (l02Most_any _ _).mono ?_, fun u hu => hK _ ?_⟩; (rintro e w' ⟨r, rfl, hr, m, rfl⟩; exact ⟨_, rfl, GM.mk1 hr, _, by rw [World.drewN_drewN]⟩); clear hK K; obtain ⟨r6, rfl, H6⟩ := GM.inv1 hu; clear hu)
        repeat (refine wpLoose_plain rfl (fun K hK w1 hw1 => ?_); obtain ⟨n, rfl⟩ := hw1; go_simp; refine ⟨⟨_, rfl⟩, hK _ ?_⟩; clear hK K)
        (refine wpLoose_nil ?_; intro _ hw'; obtain ⟨nq, rfl⟩ := hw')
        have HR : Hid (canon .f32 r6 = addAt (fun i => canon .f32 (f i)) (fun i => canon .f32 (g i)) k) := Lib.hid (by rw [add_at0 hlt, H6.out, c_add, c_div, c_mul, c_mul, HD.out]; rfl)
        clear H6
        clear cf0 cf1 cf2 cg0 cg1 cg2
        have c3 : W2.cell? ⟨w.heap.size + 1, k, none⟩ = some (.float .f32 (upd cur (32 + k) r3 k)) := (hC.cell k).trans (get_fA_lt _ (by omega))
        have f3 := hC.frozen k
        go_wp2_with fail
        obtain ⟨W3, hW⟩ : ∃ W3 : World, W3 = (W2.drewN nq).setCell ⟨w.heap.size + 1, k, none⟩ (.float .f32 r6) := ⟨_, rfl⟩
        have hF : Blk W3 (g1) T1 (fA 48 f) := by subst hW; exact Blk.far (Blk.drewN hF _) (by dsimp only; omega) _
        have hG : Blk W3 (g2) T2 (fA 48 g) := by subst hW; exact Blk.far (Blk.drewN hG _) (by dsimp only; omega) _
        have hZ : Blk W3 (w.heap.size) 28 (fA 48 fun _ => 0) := by subst hW; exact Blk.far (Blk.drewN hZ _) (by dsimp only; omega) _
        have hC : Blk W3 (w.heap.size + 1) 28 (fA 48 (upd (upd cur (32 + k) r3) k r6)) := by subst hW; exact Blk.setF (Blk.drewN hC _) _ _
        have hb : Below w.heap.size w W3 := by subst hW; exact (bDrew hb _).setCell (by dsimp only; omega) _
        rw [← hW]
        clear hW c3 f3
        have cf0 : W3.cell? ⟨g1, k, none⟩ = some (.float .f32 (f (k))) := (hF.cell (k)).trans (get_fA_lt f (by omega))
        have cf1 : W3.cell? ⟨g1, 16 + k, none⟩ = some (.float .f32 (f (16 + k))) := (hF.cell (16 + k)).trans (get_fA_lt f (by omega))
        have cf2 : W3.cell? ⟨g1, 32 + k, none⟩ = some (.float .f32 (f (32 + k))) := (hF.cell (32 + k)).trans (get_fA_lt f (by omega))
        have cg0 : W3.cell? ⟨g2, k, none⟩ = some (.float .f32 (g (k))) := (hG.cell (k)).trans (get_fA_lt g (by omega))
        have cg1 : W3.cell? ⟨g2, 16 + k, none⟩ = some (.float .f32 (g (16 + k))) := (hG.cell (16 + k)).trans (get_fA_lt g (by omega))
        have cg2 : W3.cell? ⟨g2, 32 + k, none⟩ = some (.float .f32 (g (32 + k))) := (hG.cell (32 + k)).trans (get_fA_lt g (by omega))
        (refine wp_region_loose_tail 33 (fun w' => ∃ n, w' = W3.drewN n) (GM fmul (fun _ x => most x)) (by kernel_rfl) (by kernel_rfl) ⟨1, rfl⟩ ?_; simp only [List.take_succ_cons, List.take_zero, List.drop_succ_cons, List.drop_zero])
        clear nq
        repeat (refine wpLoose_plain rfl (fun K hK w1 hw1 => ?_); obtain ⟨n, rfl⟩ := hw1; go_simp; refine ⟨⟨_, rfl⟩, hK _ ?_⟩; clear hK K)
        (refine wpLoose_plain rfl (fun K hK w1 hw1 => ?_); obtain ⟨n1, rfl⟩ := hw1; go_simp; refine ⟨⟨_, rfl⟩, (l02Most_any _ _).mono ?_, fun u hu => hK _ ?_⟩; (rintro e w' ⟨r, rfl, hr, m, rfl⟩; exact ⟨_, rfl, GM.mk1 hr, _, by rw [World.drewN_drewN]⟩); clear hK K; obtain ⟨r9, rfl, H9⟩ := GM.inv1 hu; clear hu)
        repeat (refine wpLoose_plain rfl (fun K hK w1 hw1 => ?_); obtain ⟨n, rfl⟩ := hw1; go_simp; refine ⟨⟨_, rfl⟩, hK _ ?_⟩; clear hK K)
        (refine wpLoose_nil ?_; intro _ hw'; obtain ⟨nq, rfl⟩ := hw')
        have HB : Hid (canon .f32 r9 = addAt (fun i => canon .f32 (f i)) (fun i => canon .f32 (g i)) (16 + k)) := Lib.hid (by rw [add_at1 hlt, H9.out, c_add, c_div, c_mul, c_mul, HD.out]; rfl)
        clear H9
        clear cf0 cf1 cf2 cg0 cg1 cg2
        have c3 : W3.cell? ⟨w.heap.size + 1, 16 + k, none⟩ = some (.float .f32 (upd (upd cur (32 + k) r3) k r6 (16 + k))) := (hC.cell (16 + k)).trans (get_fA_lt _ (by omega))
        have f3 := hC.frozen (16 + k)
        go_wp2
        go_roundw
        case rel =>
          refine ⟨k + 1, _, by omega, by go_num, (bDrew hb _).setCell (by dsimp only; omega) _, Blk.far (Blk.drewN hF _) (by dsimp only; omega) _, Blk.far (Blk.drewN hG _) (by dsimp only; omega) _, Blk.far (Blk.drewN hZ _) (by dsimp only; omega) _, Blk.setF (Blk.drewN hC _) (16 + k) _, Lib.hid ⟨?_, HC.out.2.next hlt HT.out HR.out HB.out⟩⟩
          intro j hj
          by_cases e : j = k
          · subst e; exact H0.out
          · exact HC.out.1 j (by omega)
        case measure => simp [intOf]; omega
    · obtain rfl : k = 16 := by omega
      have Hm : Hid ((addRes (fun i => canon .f32 (f i)) fun i => canon .f32 (g i)) = ((finFilmRes (addAt (fun i => canon .f32 (f i)) fun i => canon .f32 (g i))).1, (finFilmRes (addAt (fun i => canon .f32 (f i)) fun i => canon .f32 (g i))).2)) := Lib.hid (by
        have h1 : (allTo 16 fun i => gapOk (canon .f32 (f (16 + i))) (canon .f32 (g i))) = true := allTo_true HC.out.1
        simp only [addRes, h1, if_true])
      go_wp2_with (refine wpList_load_row rfl 28 _ rfl _ rfl _ _ (0, 0) _ hC Try.underlying28 rfl (by kernel_rfl) ?_)
      refine (l02Made_any cur wr).mono ?_
      rintro e w4 ⟨s, rfl, hs, hb1⟩
      have hZ := hZ.below hb1 hZ.lt
      have hb := bCall hb hb1 hb.size
      have Hq := Lib.hid hs
      clear hs hb1
      go_wp2_with (refine wpList_store_row rfl 28 _ _ rfl _ _ rfl rfl _ _ hZ (by kernel_rfl) (by simp only [size_fA]) (all_fA _ _) ?_)
      exact bodyPost_ret (results_cell_row2 rfl _ _ (w.heap.size) _ _ _ _ rfl hZ.setRow Try.underlying28 rfl (by kernel_rfl)) rfl (RetCC.as Hm.out (finFilm_congr HC.out.2.all ⟨s, rfl, Hq.out, (by repeat (first | assumption | exact Below.refl _ _ | refine bDrew ?_ _ | refine Below.alloc ?_ (by first | omega | (simp; done) | (simp; omega)) _ | refine Below.setCell ?_ (by first | omega | (simp; done) | (simp; omega)) _ | refine bRow ?_ (by first | omega | (simp; done) | (simp; omega)) _))⟩))
end Go.Proofs.Ytfpjiclkhjdihaa
