/- Contracts: the curves' functions of the program and of the reference, each computing the same numbers. -/
import Derived.Test.YtmikeegecifbfaaCC
import Derived.Test.YtmikeegecifbfaaCD
namespace Go.Proofs.Ytmikeegecifbfaa
open Go.RowKit
set_option maxRecDepth 100000

theorem iMulCurves_any (c d : Nat → Nat) (w : World) :
    Calls Try.prog 47 #[.agg (fA 16 c), .agg (fA 16 d)] w (RetC 16 w fun i => fmul (canon .f32 (c i)) (canon .f32 (d i))) := by
  go_enter Try.func47, Try.ntmps47
  go_wp2_with (first | (refine wpList_load_row rfl 26 _ rfl (w.heap.size) rfl 26 (fA 16 c) (0, 0) _ (((Blk.new w _ _).alloc _).alloc _) Try.underlying26 rfl (by kernel_rfl) ?_) | (refine wpList_load_row rfl 26 _ rfl (w.heap.size + 1) rfl 26 (fA 16 d) (0, 0) _ ((Blk.new_at _ _ (by simp) rfl).alloc _) Try.underlying26 rfl (by kernel_rfl) ?_))
  refine (with_any 43 #[] fmul c d _ mul_enters (fun x y w1 _ => (mul_any x y w1).mono fun _ _ h => h.to)).mono ?_
  rintro e w1 ⟨r, rfl, hr, hb⟩
  have hZ : Blk w1 (w.heap.size + 1 + 1) 26 (fA 16 fun _ => 0) := Blk.below (by first | assumption | (repeat (first | assumption | (apply Blk.new_at; (focus (simp; done)); rfl) | apply Blk.alloc | apply Blk.drewN))) hb (by first | omega | (simp; done) | (simp; omega))
  have hB : Below w.heap.size w w1 := bCall (by repeat (first | assumption | exact Below.refl _ _ | refine bDrew ?_ _ | refine Below.alloc ?_ (by first | omega | (simp; done) | (simp; omega)) _ | refine Below.setCell ?_ (by first | omega | (simp; done) | (simp; omega)) _ | refine bRow ?_ (by first | omega | (simp; done) | (simp; omega)) _)) hb (by first | omega | (simp; done) | (simp; omega))
  have Hr := Lib.hid hr
  clear hr
  go_wp2_with (refine wpList_store_row rfl 26 _ _ rfl _ _ rfl rfl _ _ (by first | assumption | (repeat (first | assumption | (apply Blk.new_at; (focus (simp; done)); rfl) | apply Blk.alloc | apply Blk.drewN))) (by kernel_rfl) (by simp only [size_fA]) (all_fA _ _) ?_)
  exact bodyPost_ret (results_cell_row rfl _ _ (w.heap.size + 1 + 1) _ _ _ _ rfl hZ.setRow Try.underlying26 rfl (by kernel_rfl)) rfl ⟨_, rfl, Hr.out, (by repeat (first | assumption | exact Below.refl _ _ | refine bDrew ?_ _ | refine Below.alloc ?_ (by first | omega | (simp; done) | (simp; omega)) _ | refine Below.setCell ?_ (by first | omega | (simp; done) | (simp; omega)) _ | refine bRow ?_ (by first | omega | (simp; done) | (simp; omega)) _))⟩
theorem addOne_any (a b : Nat) (w : World) : Calls Try.prog 31 #[.float .f32 a, .float .f32 b] w (RetFq w (fadd (canon .f32 a) (canon .f32 b))) := by
  go_enter Try.func31, Try.ntmps31
  go_wp2
  go_ret
  exact ⟨_, rfl, c_add .., _, rfl⟩
theorem iAddCurves_any (c d : Nat → Nat) (w : World) :
    Calls Try.prog 7 #[.agg (fA 16 c), .agg (fA 16 d)] w (RetC 16 w fun i => fadd (canon .f32 (c i)) (canon .f32 (d i))) := by
  go_enter Try.func7, Try.ntmps7
  go_wp2_with (first | (refine wpList_load_row rfl 26 _ rfl (w.heap.size) rfl 26 (fA 16 c) (0, 0) _ (((Blk.new w _ _).alloc _).alloc _) Try.underlying26 rfl (by kernel_rfl) ?_) | (refine wpList_load_row rfl 26 _ rfl (w.heap.size + 1) rfl 26 (fA 16 d) (0, 0) _ ((Blk.new_at _ _ (by simp) rfl).alloc _) Try.underlying26 rfl (by kernel_rfl) ?_))
  refine (with_any 31 #[] fadd c d _ (fun _ _ => by kernel_rfl) (fun x y w1 _ => (addOne_any x y w1).mono fun _ _ h => h.to)).mono ?_
  rintro e w1 ⟨r, rfl, hr, hb⟩
  have hZ : Blk w1 (w.heap.size + 1 + 1) 26 (fA 16 fun _ => 0) := Blk.below (by first | assumption | (repeat (first | assumption | (apply Blk.new_at; (focus (simp; done)); rfl) | apply Blk.alloc | apply Blk.drewN))) hb (by first | omega | (simp; done) | (simp; omega))
  have hB : Below w.heap.size w w1 := bCall (by repeat (first | assumption | exact Below.refl _ _ | refine bDrew ?_ _ | refine Below.alloc ?_ (by first | omega | (simp; done) | (simp; omega)) _ | refine Below.setCell ?_ (by first | omega | (simp; done) | (simp; omega)) _ | refine bRow ?_ (by first | omega | (simp; done) | (simp; omega)) _)) hb (by first | omega | (simp; done) | (simp; omega))
  have Hr := Lib.hid hr
  clear hr
  go_wp2_with (refine wpList_store_row rfl 26 _ _ rfl _ _ rfl rfl _ _ (by first | assumption | (repeat (first | assumption | (apply Blk.new_at; (focus (simp; done)); rfl) | apply Blk.alloc | apply Blk.drewN))) (by kernel_rfl) (by simp only [size_fA]) (all_fA _ _) ?_)
  exact bodyPost_ret (results_cell_row rfl _ _ (w.heap.size + 1 + 1) _ _ _ _ rfl hZ.setRow Try.underlying26 rfl (by kernel_rfl)) rfl ⟨_, rfl, Hr.out, (by repeat (first | assumption | exact Below.refl _ _ | refine bDrew ?_ _ | refine Below.alloc ?_ (by first | omega | (simp; done) | (simp; omega)) _ | refine Below.setCell ?_ (by first | omega | (simp; done) | (simp; omega)) _ | refine bRow ?_ (by first | omega | (simp; done) | (simp; omega)) _))⟩
end Go.Proofs.Ytmikeegecifbfaa
