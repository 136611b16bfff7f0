/- Contracts: the reference's curves. -/
import Derived.Test.YtmikeegecifbfaaCB
namespace Go.Proofs.Ytmikeegecifbfaa
open Go.RowKit
set_option maxRecDepth 100000

theorem sMulCurves_any (c d : Nat → Nat) (w : World) :
    Calls Try.prog 73 #[.agg (fA 16 c), .agg (fA 16 d)] w (RetC 16 w fun i => fmul (canon .f32 (c i)) (canon .f32 (d i))) := by
  go_enter Try.func73, Try.ntmps73
  go_wp2
  go_loopw [5] (fun i wr => ∃ (k : Nat) (z cur : Nat → Nat), k ≤ 16 ∧ i = .int .i64 k ∧ Below w.heap.size w wr ∧ Blk wr w.heap.size 26 (fA 16 cur) ∧ Blk wr (w.heap.size + 1) 26 (fA 16 d) ∧ Blk wr (w.heap.size + 1 + 1) 26 (fA 16 z) ∧ (∀ j, j < k → canon .f32 (cur j) = fmul (canon .f32 (c j)) (canon .f32 (d j))) ∧ ∀ j, k ≤ j → cur j = c j) (fun i _ => 16 - (intOf i).toNat)
  case atStart => exact ⟨0, fun _ => 0, c, by omega, rfl, (by repeat (first | assumption | exact Below.refl _ _ | refine bDrew ?_ _ | refine Below.alloc ?_ (by first | omega | (simp; done) | (simp; omega)) _ | refine Below.setCell ?_ (by first | omega | (simp; done) | (simp; omega)) _ | refine bRow ?_ (by first | omega | (simp; done) | (simp; omega)) _)), (by first | assumption | (repeat (first | assumption | (apply Blk.new_at; (focus (simp; done)); rfl) | apply Blk.alloc | apply Blk.drewN))), (by first | assumption | (repeat (first | assumption | (apply Blk.new_at; (focus (simp; done)); rfl) | apply Blk.alloc | apply Blk.drewN))), (by first | assumption | (repeat (first | assumption | (apply Blk.new_at; (focus (simp; done)); rfl) | apply Blk.alloc | apply Blk.drewN))), fun j h => absurd h (by omega), fun j _ => rfl⟩
  case round =>
    obtain ⟨k, z, cur, hk, rfl, hb, hC, hD, hZ, hc, ho⟩ := hrel
    have Hc := Lib.hid hc
    have Ho := Lib.hid ho
    by_cases hlt : k < 16
    · have c1 : wr.cell? ⟨w.heap.size, k, none⟩ = some (.float .f32 (c k)) := by rw [hC.cell k, get_fA_lt cur hlt, ho k (Nat.le_refl _)]
      have c2 := (hD.cell k).trans (get_fA_lt d hlt)
      have f1 := hC.frozen k
      clear hc ho
      go_wp2_with fail
      (refine wp_region_loose_tail 9 (fun w' => ∃ n, w' = wr.drewN n) (fun _ _ _ => False) (by kernel_rfl) (by kernel_rfl) ⟨1, rfl⟩ ?_; simp only [List.take_succ_cons, List.take_zero, List.drop_succ_cons, List.drop_zero])
      repeat (refine wpLoose_plain rfl (fun K hK w1 hw1 => ?_); obtain ⟨n, rfl⟩ := hw1; go_simp; refine ⟨⟨_, rfl⟩, hK _ ?_⟩; clear hK K)
      (refine wpLoose_nil ?_; intro _ hw'; obtain ⟨nq, rfl⟩ := hw')
      go_wp2
      go_roundw
      case rel => exact ⟨k + 1, z, _, by omega, by go_num, (by repeat (first | assumption | exact Below.refl _ _ | refine bDrew ?_ _ | refine Below.alloc ?_ (by first | omega | (simp; done) | (simp; omega)) _ | refine Below.setCell ?_ (by first | omega | (simp; done) | (simp; omega)) _ | refine bRow ?_ (by first | omega | (simp; done) | (simp; omega)) _)), Blk.setF (Blk.drewN hC _) k _, (Blk.drewN hD _).far (by dsimp only; omega) _, (Blk.drewN hZ _).far (by dsimp only; omega) _, upd_to (Q := fun j v => canon .f32 v = fmul (canon .f32 (c j)) (canon .f32 (d j))) Hc.out (c_mul ..), upd_from Ho.out⟩
      case measure => simp [intOf]; omega
    · obtain rfl : k = 16 := by omega
      clear hc ho
      go_wp2_with (first | (refine wpList_load_row rfl 26 _ rfl _ rfl _ _ (0, 0) _ (by first | assumption | (repeat (first | assumption | (apply Blk.new_at; (focus (simp; done)); rfl) | apply Blk.alloc | apply Blk.drewN))) Try.underlying26 rfl (by kernel_rfl) ?_) | (refine wpList_store_row rfl 26 _ _ rfl _ _ rfl rfl _ _ (by first | assumption | (repeat (first | assumption | (apply Blk.new_at; (focus (simp; done)); rfl) | apply Blk.alloc | apply Blk.drewN))) (by kernel_rfl) (by simp only [size_fA]) (all_fA _ _) ?_))
      exact bodyPost_ret (results_cell_row rfl _ _ (w.heap.size + 1 + 1) _ _ _ _ rfl hZ.setRow Try.underlying26 rfl (by kernel_rfl)) rfl ⟨_, rfl, Hc.out, (by repeat (first | assumption | exact Below.refl _ _ | refine bDrew ?_ _ | refine Below.alloc ?_ (by first | omega | (simp; done) | (simp; omega)) _ | refine Below.setCell ?_ (by first | omega | (simp; done) | (simp; omega)) _ | refine bRow ?_ (by first | omega | (simp; done) | (simp; omega)) _))⟩
theorem sAddCurves_any (c d : Nat → Nat) (w : World) :
    Calls Try.prog 85 #[.agg (fA 16 c), .agg (fA 16 d)] w (RetC 16 w fun i => fadd (canon .f32 (c i)) (canon .f32 (d i))) := by
  go_enter Try.func85, Try.ntmps85
  go_wp2
  go_loopw [5] (fun i wr => ∃ (k : Nat) (z cur : Nat → Nat), k ≤ 16 ∧ i = .int .i64 k ∧ Below w.heap.size w wr ∧ Blk wr w.heap.size 26 (fA 16 cur) ∧ Blk wr (w.heap.size + 1) 26 (fA 16 d) ∧ Blk wr (w.heap.size + 1 + 1) 26 (fA 16 z) ∧ (∀ j, j < k → canon .f32 (cur j) = fadd (canon .f32 (c j)) (canon .f32 (d j))) ∧ ∀ j, k ≤ j → cur j = c j) (fun i _ => 16 - (intOf i).toNat)
  case atStart => exact ⟨0, fun _ => 0, c, by omega, rfl, (by repeat (first | assumption | exact Below.refl _ _ | refine bDrew ?_ _ | refine Below.alloc ?_ (by first | omega | (simp; done) | (simp; omega)) _ | refine Below.setCell ?_ (by first | omega | (simp; done) | (simp; omega)) _ | refine bRow ?_ (by first | omega | (simp; done) | (simp; omega)) _)), (by first | assumption | (repeat (first | assumption | (apply Blk.new_at; (focus (simp; done)); rfl) | apply Blk.alloc | apply Blk.drewN))), (by first | assumption | (repeat (first | assumption | (apply Blk.new_at; (focus (simp; done)); rfl) | apply Blk.alloc | apply Blk.drewN))), (by first | assumption | (repeat (first | assumption | (apply Blk.new_at; (focus (simp; done)); rfl) | apply Blk.alloc | apply Blk.drewN))), fun j h => absurd h (by omega), fun j _ => rfl⟩
  case round =>
    obtain ⟨k, z, cur, hk, rfl, hb, hC, hD, hZ, hc, ho⟩ := hrel
    have Hc := Lib.hid hc
    have Ho := Lib.hid ho
    by_cases hlt : k < 16
    · have c1 : wr.cell? ⟨w.heap.size, k, none⟩ = some (.float .f32 (c k)) := by rw [hC.cell k, get_fA_lt cur hlt, ho k (Nat.le_refl _)]
      have c2 := (hD.cell k).trans (get_fA_lt d hlt)
      have f1 := hC.frozen k
      clear hc ho
      go_wp2_with fail
      (refine wp_region_loose_tail 9 (fun w' => ∃ n, w' = wr.drewN n) (fun _ _ _ => False) (by kernel_rfl) (by kernel_rfl) ⟨1, rfl⟩ ?_; simp only [List.take_succ_cons, List.take_zero, List.drop_succ_cons, List.drop_zero])
      repeat (refine wpLoose_plain rfl (fun K hK w1 hw1 => ?_); obtain ⟨n, rfl⟩ := hw1; go_simp; refine ⟨⟨_, rfl⟩, hK _ ?_⟩; clear hK K)
      (refine wpLoose_nil ?_; intro _ hw'; obtain ⟨nq, rfl⟩ := hw')
      go_wp2
      go_roundw
      case rel => exact ⟨k + 1, z, _, by omega, by go_num, (by repeat (first | assumption | exact Below.refl _ _ | refine bDrew ?_ _ | refine Below.alloc ?_ (by first | omega | (simp; done) | (simp; omega)) _ | refine Below.setCell ?_ (by first | omega | (simp; done) | (simp; omega)) _ | refine bRow ?_ (by first | omega | (simp; done) | (simp; omega)) _)), Blk.setF (Blk.drewN hC _) k _, (Blk.drewN hD _).far (by dsimp only; omega) _, (Blk.drewN hZ _).far (by dsimp only; omega) _, upd_to (Q := fun j v => canon .f32 v = fadd (canon .f32 (c j)) (canon .f32 (d j))) Hc.out (c_add ..), upd_from Ho.out⟩
      case measure => simp [intOf]; omega
    · obtain rfl : k = 16 := by omega
      clear hc ho
      go_wp2_with (first | (refine wpList_load_row rfl 26 _ rfl _ rfl _ _ (0, 0) _ (by first | assumption | (repeat (first | assumption | (apply Blk.new_at; (focus (simp; done)); rfl) | apply Blk.alloc | apply Blk.drewN))) Try.underlying26 rfl (by kernel_rfl) ?_) | (refine wpList_store_row rfl 26 _ _ rfl _ _ rfl rfl _ _ (by first | assumption | (repeat (first | assumption | (apply Blk.new_at; (focus (simp; done)); rfl) | apply Blk.alloc | apply Blk.drewN))) (by kernel_rfl) (by simp only [size_fA]) (all_fA _ _) ?_))
      exact bodyPost_ret (results_cell_row rfl _ _ (w.heap.size + 1 + 1) _ _ _ _ rfl hZ.setRow Try.underlying26 rfl (by kernel_rfl)) rfl ⟨_, rfl, Hc.out, (by repeat (first | assumption | exact Below.refl _ _ | refine bDrew ?_ _ | refine Below.alloc ?_ (by first | omega | (simp; done) | (simp; omega)) _ | refine Below.setCell ?_ (by first | omega | (simp; done) | (simp; omega)) _ | refine bRow ?_ (by first | omega | (simp; done) | (simp; omega)) _))⟩
theorem sScaleCurve_any (c : Nat → Nat) (b : Nat) (w : World) :
    Calls Try.prog 87 #[.agg (fA 16 c), .float .f32 b] w (RetC 16 w fun i => fmul (canon .f32 (c i)) (canon .f32 b)) := by
  go_enter Try.func87, Try.ntmps87
  go_wp2
  go_loopw [5] (fun i wr => ∃ (k : Nat) (z cur : Nat → Nat), k ≤ 16 ∧ i = .int .i64 k ∧ Below w.heap.size w wr ∧ Blk wr w.heap.size 26 (fA 16 cur) ∧ Blk wr (w.heap.size + 1) 26 (fA 16 z) ∧ (∀ j, j < k → canon .f32 (cur j) = fmul (canon .f32 (c j)) (canon .f32 b)) ∧ ∀ j, k ≤ j → cur j = c j) (fun i _ => 16 - (intOf i).toNat)
  case atStart => exact ⟨0, fun _ => 0, c, by omega, rfl, (by repeat (first | assumption | exact Below.refl _ _ | refine bDrew ?_ _ | refine Below.alloc ?_ (by first | omega | (simp; done) | (simp; omega)) _ | refine Below.setCell ?_ (by first | omega | (simp; done) | (simp; omega)) _ | refine bRow ?_ (by first | omega | (simp; done) | (simp; omega)) _)), (by first | assumption | (repeat (first | assumption | (apply Blk.new_at; (focus (simp; done)); rfl) | apply Blk.alloc | apply Blk.drewN))), (by first | assumption | (repeat (first | assumption | (apply Blk.new_at; (focus (simp; done)); rfl) | apply Blk.alloc | apply Blk.drewN))), fun j h => absurd h (by omega), fun j _ => rfl⟩
  case round =>
    obtain ⟨k, z, cur, hk, rfl, hb, hC, hZ, hc, ho⟩ := hrel
    have Hc := Lib.hid hc
    have Ho := Lib.hid ho
    by_cases hlt : k < 16
    · have c1 : wr.cell? ⟨w.heap.size, k, none⟩ = some (.float .f32 (c k)) := by rw [hC.cell k, get_fA_lt cur hlt, ho k (Nat.le_refl _)]
      have f1 := hC.frozen k
      clear hc ho
      go_wp2
      go_roundw
      case rel => exact ⟨k + 1, z, _, by omega, by go_num, (by repeat (first | assumption | exact Below.refl _ _ | refine bDrew ?_ _ | refine Below.alloc ?_ (by first | omega | (simp; done) | (simp; omega)) _ | refine Below.setCell ?_ (by first | omega | (simp; done) | (simp; omega)) _ | refine bRow ?_ (by first | omega | (simp; done) | (simp; omega)) _)), hC.setF k _, hZ.far (by dsimp only; omega) _, upd_to (Q := fun j v => canon .f32 v = fmul (canon .f32 (c j)) (canon .f32 b)) Hc.out (c_mul ..), upd_from Ho.out⟩
      case measure => simp [intOf]; omega
    · obtain rfl : k = 16 := by omega
      clear hc ho
      go_wp2_with (first | (refine wpList_load_row rfl 26 _ rfl _ rfl _ _ (0, 0) _ (by first | assumption | (repeat (first | assumption | (apply Blk.new_at; (focus (simp; done)); rfl) | apply Blk.alloc | apply Blk.drewN))) Try.underlying26 rfl (by kernel_rfl) ?_) | (refine wpList_store_row rfl 26 _ _ rfl _ _ rfl rfl _ _ (by first | assumption | (repeat (first | assumption | (apply Blk.new_at; (focus (simp; done)); rfl) | apply Blk.alloc | apply Blk.drewN))) (by kernel_rfl) (by simp only [size_fA]) (all_fA _ _) ?_))
      exact bodyPost_ret (results_cell_row rfl _ _ (w.heap.size + 1) _ _ _ _ rfl hZ.setRow Try.underlying26 rfl (by kernel_rfl)) rfl ⟨_, rfl, Hc.out, (by repeat (first | assumption | exact Below.refl _ _ | refine bDrew ?_ _ | refine Below.alloc ?_ (by first | omega | (simp; done) | (simp; omega)) _ | refine Below.setCell ?_ (by first | omega | (simp; done) | (simp; omega)) _ | refine bRow ?_ (by first | omega | (simp; done) | (simp; omega)) _))⟩
end Go.Proofs.Ytmikeegecifbfaa
