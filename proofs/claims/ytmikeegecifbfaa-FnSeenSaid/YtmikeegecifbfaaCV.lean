/- Contracts: bumps. -/
import Derived.Test.YtmikeegecifbfaaCT
namespace Go.Proofs.Ytmikeegecifbfaa
open Go.RowKit
set_option maxRecDepth 100000

def bumpX (p w : Option Nat) (i : Nat) : Option Nat := fdiv (fsub (fint i) p) w
def bumpZ (x : Option Nat) : Option Nat := fadd (canon .f32 1065353216) (fmul x x)
def bumpAt (p w : Option Nat) (i : Nat) : Option Nat := fdiv (canon .f32 1065353216) (fmul (bumpZ (bumpX p w i)) (bumpZ (bumpX p w i)))

theorem l01Bump_any (p q : Nat) (w : World) : Calls Try.prog 86 #[.float .f32 p, .float .f32 q] w (RetC 16 w fun i => bumpAt (canon .f32 p) (canon .f32 q) i) := by
  have hZ0 : Blk (w.alloc (.cells (fA 16 fun _ => 0) 26)) w.heap.size 26 (fA 16 fun _ => 0) := Blk.new _ _ _
  have hO0 : Blk ((w.alloc (.cells (fA 16 fun _ => 0) 26)).alloc (.cells (fA 16 fun _ => 0) 26)) (w.heap.size + 1) 26 (fA 16 fun _ => 0) := Blk.new_at _ _ (by simp) rfl
  go_enter Try.func86, Try.ntmps86
  go_wp2_with (first | (refine wpList_build_as rfl 26 _ rfl (fA 16 fun _ => 0) (by kernel_rfl) ?_) | (refine wpList_store_row rfl 26 _ _ rfl _ _ rfl rfl _ _ hO0 (by kernel_rfl) (by simp only [size_fA]) (all_fA _ _) ?_))
  go_loopw [6, 7, 8] (fun i _ _ wr => ∃ (k : Nat) (z cur : Nat → Nat), k ≤ 16 ∧ i = .int .i64 k ∧ Below w.heap.size w wr ∧ Blk wr w.heap.size 26 (fA 16 z) ∧ Blk wr (w.heap.size + 1) 26 (fA 16 cur) ∧ ∀ j, j < k → canon .f32 (cur j) = bumpAt (canon .f32 p) (canon .f32 q) j) (fun i _ _ _ => 16 - (intOf i).toNat)
  case atStart => exact ⟨0, fun _ => 0, fun _ => 0, by omega, rfl, bRow (Below.alloc (Below.alloc (Below.refl _ _) (Nat.le_refl _) _) (by simp) _) (by omega) _, (hZ0.alloc _).farRow (by omega), hO0.setRow, fun j h => absurd h (by omega)⟩
  case round =>
    clear hZ0 hO0
    obtain ⟨k, z, cur, hk, rfl, hb, hZ, hC, hc⟩ := hrel
    have Hc := Lib.hid hc
    clear hc
    by_cases hlt : k < 16
    · have c1 := (hC.cell k).trans (get_fA_lt cur hlt)
      have f1 := hC.frozen k
      go_wp2
      go_roundw
      case rel => exact ⟨k + 1, z, _, by omega, by go_num, (by repeat (first | assumption | exact Below.refl _ _ | refine bDrew ?_ _ | refine Below.alloc ?_ (by first | omega | (simp; done) | (simp; omega)) _ | refine Below.setCell ?_ (by first | omega | (simp; done) | (simp; omega)) _ | refine bRow ?_ (by first | omega | (simp; done) | (simp; omega)) _)), Blk.far (Blk.drewN hZ _) (by dsimp only; omega) _, Blk.setF (Blk.drewN hC _) k _, upd_to (Q := fun j v => canon .f32 v = bumpAt (canon .f32 p) (canon .f32 q) j) Hc.out (by simp only [c_div, c_mul, c_add, c_sub]; rfl)⟩
      case measure => simp [intOf]; omega
    · obtain rfl : k = 16 := by omega
      go_wp2_with (first | (refine wpList_load_row rfl 26 _ rfl _ rfl _ _ (0, 0) _ hC Try.underlying26 rfl (by kernel_rfl) ?_) | (refine wpList_store_row rfl 26 _ _ rfl _ _ rfl rfl _ _ hZ (by kernel_rfl) (by simp only [size_fA]) (all_fA _ _) ?_))
      exact bodyPost_ret (results_cell_row rfl _ _ w.heap.size _ _ _ _ rfl hZ.setRow Try.underlying26 rfl (by kernel_rfl)) rfl ⟨_, rfl, Hc.out, (by repeat (first | assumption | exact Below.refl _ _ | refine bDrew ?_ _ | refine Below.alloc ?_ (by first | omega | (simp; done) | (simp; omega)) _ | refine Below.setCell ?_ (by first | omega | (simp; done) | (simp; omega)) _ | refine bRow ?_ (by first | omega | (simp; done) | (simp; omega)) _))⟩
theorem bump_any (p q : Nat) (w : World) : Calls Try.prog 68 #[.float .f32 p, .float .f32 q] w (RetC 16 w fun i => bumpAt (canon .f32 p) (canon .f32 q) i) := by
  have hZ0 : Blk (w.alloc (.cells (fA 16 fun _ => 0) 26)) w.heap.size 26 (fA 16 fun _ => 0) := Blk.new _ _ _
  have hO0 : Blk ((w.alloc (.cells (fA 16 fun _ => 0) 26)).alloc (.cells (fA 16 fun _ => 0) 26)) (w.heap.size + 1) 26 (fA 16 fun _ => 0) := Blk.new_at _ _ (by simp) rfl
  go_enter Try.func68, Try.ntmps68
  go_wp2_with (first | (refine wpList_build_as rfl 26 _ rfl (fA 16 fun _ => 0) (by kernel_rfl) ?_) | (refine wpList_store_row rfl 26 _ _ rfl _ _ rfl rfl _ _ hO0 (by kernel_rfl) (by simp only [size_fA]) (all_fA _ _) ?_))
  go_loopw [6, 7, 8, 10] (fun _ _ _ i wr => ∃ (k : Nat) (z cur : Nat → Nat), k ≤ 16 ∧ i = .int .i64 k ∧ Below w.heap.size w wr ∧ Blk wr w.heap.size 26 (fA 16 z) ∧ Blk wr (w.heap.size + 1) 26 (fA 16 cur) ∧ ∀ j, j < k → canon .f32 (cur j) = bumpAt (canon .f32 p) (canon .f32 q) j) (fun _ _ _ i _ => 16 - (intOf i).toNat)
  case atStart => exact ⟨0, fun _ => 0, fun _ => 0, by omega, rfl, bRow (Below.alloc (Below.alloc (Below.refl _ _) (Nat.le_refl _) _) (by simp) _) (by omega) _, (hZ0.alloc _).farRow (by omega), hO0.setRow, fun j h => absurd h (by omega)⟩
  case round =>
    clear hZ0 hO0
    obtain ⟨k, z, cur, hk, rfl, hb, hZ, hC, hc⟩ := hrel
    have Hc := Lib.hid hc
    clear hc
    by_cases hlt : k < 16
    · have c1 := (hC.cell k).trans (get_fA_lt cur hlt)
      have f1 := hC.frozen k
      go_wp2_with fail
      refine (mul_any _ _ _).mono ?_
      rintro e w1 ⟨r1, rfl, hr1, n1, rfl⟩
      have H1 := Lib.hid hr1
      clear hr1
      go_wp2_with fail
      refine (mul_any _ _ _).mono ?_
      rintro e w1 ⟨r2, rfl, hr2, n2, rfl⟩
      have H2 := Lib.hid hr2
      clear hr2
      go_wp2
      go_roundw
      case rel => exact ⟨k + 1, z, _, by omega, by go_num, (by repeat (first | assumption | exact Below.refl _ _ | refine bDrew ?_ _ | refine Below.alloc ?_ (by first | omega | (simp; done) | (simp; omega)) _ | refine Below.setCell ?_ (by first | omega | (simp; done) | (simp; omega)) _ | refine bRow ?_ (by first | omega | (simp; done) | (simp; omega)) _)), Blk.far (Blk.drewN hZ _) (by dsimp only; omega) _, Blk.setF (Blk.drewN hC _) k _, upd_to (Q := fun j v => canon .f32 v = bumpAt (canon .f32 p) (canon .f32 q) j) Hc.out (by rw [c_div, H2.out, c_add, H1.out, c_div, c_sub]; rfl)⟩
      case measure => simp [intOf]; omega
    · obtain rfl : k = 16 := by omega
      go_wp2_with (first | (refine wpList_load_row rfl 26 _ rfl _ rfl _ _ (0, 0) _ hC Try.underlying26 rfl (by kernel_rfl) ?_) | (refine wpList_store_row rfl 26 _ _ rfl _ _ rfl rfl _ _ hZ (by kernel_rfl) (by simp only [size_fA]) (all_fA _ _) ?_))
      exact bodyPost_ret (results_cell_row rfl _ _ w.heap.size _ _ _ _ rfl hZ.setRow Try.underlying26 rfl (by kernel_rfl)) rfl ⟨_, rfl, Hc.out, (by repeat (first | assumption | exact Below.refl _ _ | refine bDrew ?_ _ | refine Below.alloc ?_ (by first | omega | (simp; done) | (simp; omega)) _ | refine Below.setCell ?_ (by first | omega | (simp; done) | (simp; omega)) _ | refine bRow ?_ (by first | omega | (simp; done) | (simp; omega)) _))⟩
end Go.Proofs.Ytmikeegecifbfaa
