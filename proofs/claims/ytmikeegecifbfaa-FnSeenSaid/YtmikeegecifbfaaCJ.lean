/- Contracts: lights. -/
import Derived.Test.YtmikeegecifbfaaCF
namespace Go.Proofs.Ytmikeegecifbfaa
open Go.RowKit
set_option maxRecDepth 100000

/-- A warmth that a light may have. -/
def warmOk (x : Option Nat) : Bool := fge x (canon .f32 3212836864) && fle x (canon .f32 1065353216)

theorem iLightOf_ok (a : Nat) (h : warmOk (canon .f32 a) = true) (w : World) : Calls Try.prog 17 #[.float .f32 a] w (RetCC 16 w (fun i => lightAt (canon .f32 a) i) 0) := by
  unfold warmOk at h
  rw [Bool.and_eq_true, ← o_ge, ← o_le] at h
  obtain ⟨h1, h2⟩ := h
  go_enter Try.func17, Try.ntmps17
  go_wp2
  go_loopw [5, 15] (fun _ i wr => ∃ (k : Nat) (z cur : Nat → Nat), k ≤ 16 ∧ i = .int .i64 k ∧ Below w.heap.size w wr ∧ Blk wr w.heap.size 26 (fA 16 z) ∧ Blk wr (w.heap.size + 1) 26 (fA 16 cur) ∧ ∀ j, j < k → canon .f32 (cur j) = lightAt (canon .f32 a) j) (fun _ i _ => 16 - (intOf i).toNat)
  case atStart => exact ⟨0, fun _ => 0, fun _ => 0, by omega, rfl, (by repeat (first | assumption | exact Below.refl _ _ | refine bDrew ?_ _ | refine Below.alloc ?_ (by first | omega | (simp; done) | (simp; omega)) _ | refine Below.setCell ?_ (by first | omega | (simp; done) | (simp; omega)) _ | refine bRow ?_ (by first | omega | (simp; done) | (simp; omega)) _)), (by first | assumption | (repeat (first | assumption | (apply Blk.new_at; (focus (simp; done)); rfl) | apply Blk.alloc | apply Blk.drewN))), (by first | assumption | (repeat (first | assumption | (apply Blk.new_at; (focus (simp; done)); rfl) | apply Blk.alloc | apply Blk.drewN))), fun j h => absurd h (by omega)⟩
  case round =>
    obtain ⟨k, z, cur, hk, rfl, hb, hZ, hC, hc⟩ := hrel
    have Hc := Lib.hid hc
    clear hc
    by_cases hlt : k < 16
    · have c1 := (hC.cell k).trans (get_fA_lt cur hlt)
      have f1 := hC.frozen k
      go_wp2_with fail
      refine (mul_any _ _ _).mono ?_
      rintro e w1 ⟨r, rfl, hr, n, rfl⟩
      have Hr := Lib.hid hr
      clear hr
      go_wp2
      go_roundw
      case rel => exact ⟨k + 1, z, _, by omega, by go_num, (by repeat (first | assumption | exact Below.refl _ _ | refine bDrew ?_ _ | refine Below.alloc ?_ (by first | omega | (simp; done) | (simp; omega)) _ | refine Below.setCell ?_ (by first | omega | (simp; done) | (simp; omega)) _ | refine bRow ?_ (by first | omega | (simp; done) | (simp; omega)) _)), (Blk.drewN hZ _).far (by dsimp only; omega) _, Blk.setF (Blk.drewN hC _) k _, upd_to (Q := fun j v => canon .f32 v = lightAt (canon .f32 a) j) Hc.out (by rw [c_add, Hr.out, c_div, c_sub]; rfl)⟩
      case measure => simp [intOf]; omega
    · obtain rfl : k = 16 := by omega
      go_wp2_with (first | (refine wpList_load_row rfl 26 _ rfl _ rfl _ _ (0, 0) _ (by first | assumption | (repeat (first | assumption | (apply Blk.new_at; (focus (simp; done)); rfl) | apply Blk.alloc | apply Blk.drewN))) Try.underlying26 rfl (by kernel_rfl) ?_) | (refine wpList_store_row rfl 26 _ _ rfl _ _ rfl rfl _ _ (by first | assumption | (repeat (first | assumption | (apply Blk.new_at; (focus (simp; done)); rfl) | apply Blk.alloc | apply Blk.drewN))) (by kernel_rfl) (by simp only [size_fA]) (all_fA _ _) ?_))
      exact bodyPost_ret (results_cell_row2 rfl _ _ w.heap.size _ _ _ _ rfl hZ.setRow Try.underlying26 rfl (by kernel_rfl)) rfl ⟨_, rfl, Hc.out, (by repeat (first | assumption | exact Below.refl _ _ | refine bDrew ?_ _ | refine Below.alloc ?_ (by first | omega | (simp; done) | (simp; omega)) _ | refine Below.setCell ?_ (by first | omega | (simp; done) | (simp; omega)) _ | refine bRow ?_ (by first | omega | (simp; done) | (simp; omega)) _))⟩
theorem iLightOf_bad (a : Nat) (h : warmOk (canon .f32 a) = false) (w : World) : Calls Try.prog 17 #[.float .f32 a] w (RetCC 16 w (fun _ => canon .f32 0) 2) := by
  unfold warmOk at h
  rw [Bool.and_eq_false_iff, ← o_ge, ← o_le] at h
  cases h1 : (FloatKind.f32.format.order a 3212836864 == some .gt || FloatKind.f32.format.order a 3212836864 == some .eq) with
  | false =>
    clear h
    go_enter Try.func17, Try.ntmps17
    go_wp2
    exact bodyPost_ret (results_cell_row2 rfl _ _ w.heap.size 26 (fA 16 fun _ => 0) _ _ rfl (Blk.new_at _ _ rfl rfl) Try.underlying26 rfl (by kernel_rfl)) rfl ⟨_, rfl, fun _ _ => rfl, (by repeat (first | assumption | exact Below.refl _ _ | refine bDrew ?_ _ | refine Below.alloc ?_ (by first | omega | (simp; done) | (simp; omega)) _ | refine Below.setCell ?_ (by first | omega | (simp; done) | (simp; omega)) _ | refine bRow ?_ (by first | omega | (simp; done) | (simp; omega)) _))⟩
  | true =>
    have h2 : (FloatKind.f32.format.order a 1065353216 == some .lt || FloatKind.f32.format.order a 1065353216 == some .eq) = false := by
      rcases h with h | h
      · rw [h1] at h; cases h
      · exact h
    clear h
    go_enter Try.func17, Try.ntmps17
    go_wp2
    exact bodyPost_ret (results_cell_row2 rfl _ _ w.heap.size 26 (fA 16 fun _ => 0) _ _ rfl (Blk.new_at _ _ rfl rfl) Try.underlying26 rfl (by kernel_rfl)) rfl ⟨_, rfl, fun _ _ => rfl, (by repeat (first | assumption | exact Below.refl _ _ | refine bDrew ?_ _ | refine Below.alloc ?_ (by first | omega | (simp; done) | (simp; omega)) _ | refine Below.setCell ?_ (by first | omega | (simp; done) | (simp; omega)) _ | refine bRow ?_ (by first | omega | (simp; done) | (simp; omega)) _))⟩
/-- A light and its code. -/
def lightRes (x : Option Nat) : (Nat → Option Nat) × Int := if warmOk x then (fun i => lightAt x i, 0) else (fun _ => canon .f32 0, 2)
theorem iLightOf_any (a : Nat) (w : World) : Calls Try.prog 17 #[.float .f32 a] w (RetCC 16 w (lightRes (canon .f32 a)).1 (lightRes (canon .f32 a)).2) := by
  unfold lightRes
  cases h : warmOk (canon .f32 a) with
  | true => simpa using iLightOf_ok a h w
  | false => simpa using iLightOf_bad a h w
end Go.Proofs.Ytmikeegecifbfaa
