/- Contracts: any number, and a curve of any numbers, as the laws draw them. -/
import Derived.Test.YtafbolnkohebjaaGreatDoorAnyc
namespace Go.Proofs.YtafbolnkohebjaaGreatDoor
open Go.RowKit
set_option maxRecDepth 100000

theorem A2Any_any (a : Option Addr) (n c : Nat) (f : Nat → Nat) (w : World) (hB : Byt w a n f) : Calls Tryz.prog 19 #[.slice a n c] w fun e w' => ∃ x : Nat, Wd x ∧ e = .returned (.float .f32 x) ∧ Below w.heap.size w w' := by
  go_enter Tryz.func19, Tryz.ntmps19
  go_wp2_with fail
  refine (l00From_any a n c f _ hB).mono ?_
  rintro e w1 ⟨rfl, hs, hS, hb⟩
  go_wp2_with fail
  refine (l01Any_any w.heap.size a n c f 0 (by omega) _ hS).mono ?_
  rintro e w2 ⟨x, hx, rfl, hU, _⟩
  have hb : Below w.heap.size w w2 := hU.below hb (Nat.le_refl _)
  go_wp2
  go_ret
  exact ⟨x, hx, rfl, hb⟩
theorem A2Wild_any (a : Option Addr) (n c : Nat) (f : Nat → Nat) (w : World) (hB : Byt w a n f) : Calls Tryz.prog 16 #[.slice a n c] w fun e w' => ∃ r : Nat → Nat, (∀ i, i < 16 → Wd (r i)) ∧ e = .returned (.agg (fA 16 r)) ∧ Below w.heap.size w w' := by
  have hZ : Blk (w.alloc (.cells (fA 16 fun _ => 0) 26)) w.heap.size 26 (fA 16 fun _ => 0) := Blk.new _ _ _
  have hb0 : Below w.heap.size w (w.alloc (.cells (fA 16 fun _ => 0) 26)) := (by repeat (first | assumption | exact Below.refl _ _ | refine bDrew ?_ _ | refine Below.alloc ?_ (by first | omega | (simp; done) | (simp; omega)) _ | refine Below.setCell ?_ (by first | omega | (simp; done) | (simp; omega)) _ | refine bRow ?_ (by first | omega | (simp; done) | (simp; omega)) _))
  have hg : (w.alloc (.cells (fA 16 fun _ => 0) 26)).heap.size = w.heap.size + 1 := by simp
  go_enter Tryz.func16, Tryz.ntmps16
  go_wp2_with fail
  refine (l00From_any a n c f _ (hB.below hb0)).mono ?_
  rintro e w1 ⟨rfl, hs, hS, hb⟩
  have hZ := hZ.below hb hZ.lt
  have hb := bCall hb0 hb (by simp)
  rw [hg] at hS ⊢
  go_wp2_with fail
  refine (l01Wild_any (w.heap.size + 1) a n c f 0 (by omega) _ hS).mono ?_
  rintro e w2 ⟨r, hr, rfl, hB, _⟩
  have hZ := hB.blk hZ (by omega)
  have hb : Below w.heap.size w w2 := hb.trans ((hB.mono (by rw [hs]; omega) : Bar w.heap.size (w.heap.size + 1) w1 w2).below (by omega))
  have Hr := Lib.hid hr
  clear hr
  go_wp2_with (first | (refine wpList_store_row rfl 26 _ _ rfl _ _ rfl rfl _ _ hZ (by kernel_rfl) (by simp only [size_fA]) (all_fA _ _) ?_))
  exact bodyPost_ret (results_cell_row rfl _ _ w.heap.size _ _ _ _ rfl hZ.setRow Tryz.underlying26 rfl (by kernel_rfl)) rfl ⟨r, Hr.out, rfl, bRow hb (Nat.le_refl _) _⟩
end Go.Proofs.YtafbolnkohebjaaGreatDoor
