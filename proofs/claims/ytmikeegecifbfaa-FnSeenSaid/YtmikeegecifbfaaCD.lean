/- Contracts: what is made of the numbers of curves by a function value. -/
import Derived.Test.YtmikeegecifbfaaCB
namespace Go.Proofs.Ytmikeegecifbfaa
open Go.RowKit
set_option maxRecDepth 100000

theorem with_any (F : Nat) (caps : Array Value) (op : Option Nat → Option Nat → Option Nat) (c d : Nat → Nat) (w : World) (he : Enters Try.prog F)
    (hF : ∀ (x y : Nat) (w1 : World), Below w.heap.size w w1 → Calls Try.prog F (#[.float .f32 x, .float .f32 y] ++ caps) w1 (RetF w1 (op (canon .f32 x) (canon .f32 y)))) :
    Calls Try.prog 30 #[.agg (fA 16 c), .agg (fA 16 d), .func (.func F) #[] caps] w (RetC 16 w fun i => op (canon .f32 (c i)) (canon .f32 (d i))) := by
  have HF := Lib.hid hF
  have he' := he
  unfold Enters at he'
  clear hF he
  go_enter Try.func30, Try.ntmps30
  have hix : ∀ (k : Nat) (w : World), k < 16 → (Instr.index 26 (.agg (fA 16 c)) (.int .i64 k)).run Try.prog w = .ok (.float .f32 (c k)) w := fun k w hk =>
    run_index_fA w 26 24 16 c k Try.underlying26 Try.underlying24 (by kernel_rfl) (by omega) (by omega)
  go_wp2_with (refine wpList_load_row rfl 26 _ rfl (w.heap.size) rfl 26 (fA 16 c) (0, 0) _ (((Blk.new w _ _).alloc _).alloc _) Try.underlying26 rfl (by kernel_rfl) ?_)
  go_loopw [7, 8, 10] (fun _ _ i wr => ∃ (k : Nat) (z cur : Nat → Nat), k ≤ 16 ∧ i = .int .i64 k ∧ Below w.heap.size w wr ∧ Blk wr w.heap.size 26 (fA 16 cur) ∧ Blk wr (w.heap.size + 1) 26 (fA 16 d) ∧ Blk wr (w.heap.size + 1 + 1) 26 (fA 16 z) ∧ ∀ j, j < k → canon .f32 (cur j) = op (canon .f32 (c j)) (canon .f32 (d j))) (fun _ _ i _ => 16 - (intOf i).toNat)
  case atStart => exact ⟨0, fun _ => 0, c, by omega, rfl, (by repeat (first | assumption | exact Below.refl _ _ | refine bDrew ?_ _ | refine Below.alloc ?_ (by first | omega | (simp; done) | (simp; omega)) _ | refine Below.setCell ?_ (by first | omega | (simp; done) | (simp; omega)) _ | refine bRow ?_ (by first | omega | (simp; done) | (simp; omega)) _)), (by first | assumption | (repeat (first | assumption | (apply Blk.new_at; (focus (simp; done)); rfl) | apply Blk.alloc | apply Blk.drewN))), (by first | assumption | (repeat (first | assumption | (apply Blk.new_at; (focus (simp; done)); rfl) | apply Blk.alloc | apply Blk.drewN))), (by first | assumption | (repeat (first | assumption | (apply Blk.new_at; (focus (simp; done)); rfl) | apply Blk.alloc | apply Blk.drewN))), fun j h => absurd h (by omega)⟩
  case round =>
    obtain ⟨k, z, cur, hk, rfl, hb, hC, hD, hZ, hc⟩ := hrel
    have Hc := Lib.hid hc
    by_cases hlt : k < 16
    · have c1 := (hD.cell k).trans (get_fA_lt d hlt)
      have hx := hix k wr hlt
      clear hc hix
      go_wp2_with fail
      refine (HF.out _ _ _ hb).mono ?_
      rintro e w1 ⟨r, rfl, hr, hb1⟩
      have hC1 := hC.below hb1 hC.lt
      have c2 := (hC1.cell k).trans (get_fA_lt cur hlt)
      have f2 := hC1.frozen k
      have Hr := Lib.hid hr
      clear hr c1 hx
      go_wp2
      go_roundw
      case rel => exact ⟨k + 1, z, _, by omega, by go_num, (bCall hb hb1 hb.size).setCell (by simp) _, hC1.setF k r, (hD.below hb1 hD.lt).far (by dsimp only; omega) _, (hZ.below hb1 hZ.lt).far (by dsimp only; omega) _, upd_to (Q := fun j v => canon .f32 v = op (canon .f32 (c j)) (canon .f32 (d j))) Hc.out Hr.out⟩
      case measure => simp [intOf]; omega
    · obtain rfl : k = 16 := by omega
      clear hc hix
      go_wp2_with (first | (refine wpList_load_row rfl 26 _ rfl _ rfl _ _ (0, 0) _ (by first | assumption | (repeat (first | assumption | (apply Blk.new_at; (focus (simp; done)); rfl) | apply Blk.alloc | apply Blk.drewN))) Try.underlying26 rfl (by kernel_rfl) ?_) | (refine wpList_store_row rfl 26 _ _ rfl _ _ rfl rfl _ _ (by first | assumption | (repeat (first | assumption | (apply Blk.new_at; (focus (simp; done)); rfl) | apply Blk.alloc | apply Blk.drewN))) (by kernel_rfl) (by simp only [size_fA]) (all_fA _ _) ?_))
      exact bodyPost_ret (results_cell_row rfl _ _ (w.heap.size + 1 + 1) _ _ _ _ rfl hZ.setRow Try.underlying26 rfl (by kernel_rfl)) rfl ⟨_, rfl, Hc.out, (by repeat (first | assumption | exact Below.refl _ _ | refine bDrew ?_ _ | refine Below.alloc ?_ (by first | omega | (simp; done) | (simp; omega)) _ | refine Below.setCell ?_ (by first | omega | (simp; done) | (simp; omega)) _ | refine bRow ?_ (by first | omega | (simp; done) | (simp; omega)) _))⟩

theorem each_any (F : Nat) (caps : Array Value) (op : Option Nat → Option Nat) (c : Nat → Nat) (w : World) (he : Enters Try.prog F)
    (hF : ∀ (x : Nat) (w1 : World), Below w.heap.size w w1 → Calls Try.prog F (#[.float .f32 x] ++ caps) w1 (RetF w1 (op (canon .f32 x)))) :
    Calls Try.prog 32 #[.agg (fA 16 c), .func (.func F) #[] caps] w (RetC 16 w fun i => op (canon .f32 (c i))) := by
  have HF := Lib.hid hF
  have he' := he
  unfold Enters at he'
  clear hF he
  go_enter Try.func32, Try.ntmps32
  have hix : ∀ (k : Nat) (w : World), k < 16 → (Instr.index 26 (.agg (fA 16 c)) (.int .i64 k)).run Try.prog w = .ok (.float .f32 (c k)) w := fun k w hk =>
    run_index_fA w 26 24 16 c k Try.underlying26 Try.underlying24 (by kernel_rfl) (by omega) (by omega)
  go_wp2_with (refine wpList_load_row rfl 26 _ rfl (w.heap.size) rfl 26 (fA 16 c) (0, 0) _ ((Blk.new w _ _).alloc _) Try.underlying26 rfl (by kernel_rfl) ?_)
  go_loopw [5, 6, 8] (fun _ _ i wr => ∃ (k : Nat) (z cur : Nat → Nat), k ≤ 16 ∧ i = .int .i64 k ∧ Below w.heap.size w wr ∧ Blk wr w.heap.size 26 (fA 16 cur) ∧ Blk wr (w.heap.size + 1) 26 (fA 16 z) ∧ ∀ j, j < k → canon .f32 (cur j) = op (canon .f32 (c j))) (fun _ _ i _ => 16 - (intOf i).toNat)
  case atStart => exact ⟨0, fun _ => 0, c, by omega, rfl, (by repeat (first | assumption | exact Below.refl _ _ | refine bDrew ?_ _ | refine Below.alloc ?_ (by first | omega | (simp; done) | (simp; omega)) _ | refine Below.setCell ?_ (by first | omega | (simp; done) | (simp; omega)) _ | refine bRow ?_ (by first | omega | (simp; done) | (simp; omega)) _)), (by first | assumption | (repeat (first | assumption | (apply Blk.new_at; (focus (simp; done)); rfl) | apply Blk.alloc | apply Blk.drewN))), (by first | assumption | (repeat (first | assumption | (apply Blk.new_at; (focus (simp; done)); rfl) | apply Blk.alloc | apply Blk.drewN))), fun j h => absurd h (by omega)⟩
  case round =>
    obtain ⟨k, z, cur, hk, rfl, hb, hC, hZ, hc⟩ := hrel
    have Hc := Lib.hid hc
    by_cases hlt : k < 16
    · have hx := hix k wr hlt
      clear hc hix
      go_wp2_with fail
      refine (HF.out _ _ hb).mono ?_
      rintro e w1 ⟨r, rfl, hr, hb1⟩
      have hC1 := hC.below hb1 hC.lt
      have c2 := (hC1.cell k).trans (get_fA_lt cur hlt)
      have f2 := hC1.frozen k
      have Hr := Lib.hid hr
      clear hr hx
      go_wp2
      go_roundw
      case rel => exact ⟨k + 1, z, _, by omega, by go_num, (bCall hb hb1 hb.size).setCell (by simp) _, hC1.setF k r, (hZ.below hb1 hZ.lt).far (by dsimp only; omega) _, upd_to (Q := fun j v => canon .f32 v = op (canon .f32 (c j))) Hc.out Hr.out⟩
      case measure => simp [intOf]; omega
    · obtain rfl : k = 16 := by omega
      clear hc hix
      go_wp2_with (first | (refine wpList_load_row rfl 26 _ rfl _ rfl _ _ (0, 0) _ (by first | assumption | (repeat (first | assumption | (apply Blk.new_at; (focus (simp; done)); rfl) | apply Blk.alloc | apply Blk.drewN))) Try.underlying26 rfl (by kernel_rfl) ?_) | (refine wpList_store_row rfl 26 _ _ rfl _ _ rfl rfl _ _ (by first | assumption | (repeat (first | assumption | (apply Blk.new_at; (focus (simp; done)); rfl) | apply Blk.alloc | apply Blk.drewN))) (by kernel_rfl) (by simp only [size_fA]) (all_fA _ _) ?_))
      exact bodyPost_ret (results_cell_row rfl _ _ (w.heap.size + 1) _ _ _ _ rfl hZ.setRow Try.underlying26 rfl (by kernel_rfl)) rfl ⟨_, rfl, Hc.out, (by repeat (first | assumption | exact Below.refl _ _ | refine bDrew ?_ _ | refine Below.alloc ?_ (by first | omega | (simp; done) | (simp; omega)) _ | refine Below.setCell ?_ (by first | omega | (simp; done) | (simp; omega)) _ | refine bRow ?_ (by first | omega | (simp; done) | (simp; omega)) _))⟩
end Go.Proofs.Ytmikeegecifbfaa
