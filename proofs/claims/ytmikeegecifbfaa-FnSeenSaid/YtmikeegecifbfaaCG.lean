/- Contracts: the program's curves by function values that hold what they captured; looks at rows. -/
import Derived.Test.YtmikeegecifbfaaCE
import Derived.Test.YtmikeegecifbfaaCF
namespace Go.Proofs.Ytmikeegecifbfaa
open Go.RowKit
set_option maxRecDepth 100000

theorem flatOne_any (g a x : Nat) (w : World) (hg : w.cell? ⟨g, 0, none⟩ = some (.float .f32 a)) : Calls Try.prog 33 #[.float .f32 x, .pointer (some ⟨g, 0, none⟩)] w (RetFq w (canon .f32 a)) := by
  go_enter Try.func33, Try.ntmps33
  go_wp2
  go_ret
  exact ⟨_, rfl, rfl, 0, rfl⟩
theorem iFlatCurve_any (a : Nat) (w : World) : Calls Try.prog 8 #[.float .f32 a] w (RetC 16 w fun _ => canon .f32 a) := by
  go_enter Try.func8, Try.ntmps8
  go_wp2_with fail
  refine (each_any 33 #[.pointer (some ⟨w.heap.size, 0, none⟩)] (fun _ => canon .f32 a) (fun _ => 0) _ (fun _ _ => by kernel_rfl) (fun x w1 hb => (flatOne_any w.heap.size a x w1 (((Blk.below (t := 24) (cs := #[.float .f32 a]) (by first | assumption | (repeat (first | assumption | (apply Blk.new_at; (focus (simp; done)); rfl) | apply Blk.alloc | apply Blk.drewN))) hb (by first | omega | (simp; done) | (simp; omega))).cell 0).trans rfl)).mono fun _ _ h => h.to)).mono ?_
  rintro e w1 ⟨r, rfl, hr, hb⟩
  have hZ : Blk w1 (w.heap.size + 1) 26 (fA 16 fun _ => 0) := Blk.below (by first | assumption | (repeat (first | assumption | (apply Blk.new_at; (focus (simp; done)); rfl) | apply Blk.alloc | apply Blk.drewN))) hb (by first | omega | (simp; done) | (simp; omega))
  have hB : Below w.heap.size w w1 := bCall (by repeat (first | assumption | exact Below.refl _ _ | refine bDrew ?_ _ | refine Below.alloc ?_ (by first | omega | (simp; done) | (simp; omega)) _ | refine Below.setCell ?_ (by first | omega | (simp; done) | (simp; omega)) _ | refine bRow ?_ (by first | omega | (simp; done) | (simp; omega)) _)) hb (by first | omega | (simp; done) | (simp; omega))
  have Hr := Lib.hid hr
  clear hr
  go_wp2_with (refine wpList_store_row rfl 26 _ _ rfl _ _ rfl rfl _ _ (by first | assumption | (repeat (first | assumption | (apply Blk.new_at; (focus (simp; done)); rfl) | apply Blk.alloc | apply Blk.drewN))) (by kernel_rfl) (by simp only [size_fA]) (all_fA _ _) ?_)
  exact bodyPost_ret (results_cell_row rfl _ _ (w.heap.size + 1) _ _ _ _ rfl hZ.setRow Try.underlying26 rfl (by kernel_rfl)) rfl ⟨_, rfl, Hr.out, (by repeat (first | assumption | exact Below.refl _ _ | refine bDrew ?_ _ | refine Below.alloc ?_ (by first | omega | (simp; done) | (simp; omega)) _ | refine Below.setCell ?_ (by first | omega | (simp; done) | (simp; omega)) _ | refine bRow ?_ (by first | omega | (simp; done) | (simp; omega)) _))⟩
theorem scaleOne_any (g a x : Nat) (w : World) (hg : w.cell? ⟨g, 0, none⟩ = some (.float .f32 a)) : Calls Try.prog 84 #[.float .f32 x, .pointer (some ⟨g, 0, none⟩)] w (RetFq w (fmul (canon .f32 x) (canon .f32 a))) := by
  go_enter Try.func84, Try.ntmps84
  go_wp2_with fail
  refine (mul_any _ _ _).mono ?_
  rintro e w1 ⟨r, rfl, hr, n, rfl⟩
  have Hr := Lib.hid hr
  clear hr
  go_wp2
  go_ret
  exact ⟨_, rfl, Hr.out, _, rfl⟩
theorem iScaleCurve_any (c : Nat → Nat) (a : Nat) (w : World) : Calls Try.prog 69 #[.agg (fA 16 c), .float .f32 a] w (RetC 16 w fun i => fmul (canon .f32 (c i)) (canon .f32 a)) := by
  go_enter Try.func69, Try.ntmps69
  go_wp2_with (refine wpList_load_row rfl 26 _ rfl (w.heap.size) rfl 26 (fA 16 c) (0, 0) _ (((Blk.new w _ _).alloc _).alloc _) Try.underlying26 rfl (by kernel_rfl) ?_)
  refine (each_any 84 #[.pointer (some ⟨w.heap.size + 1, 0, none⟩)] (fun x => fmul x (canon .f32 a)) c _ (fun _ _ => by kernel_rfl) (fun x w1 hb => (scaleOne_any (w.heap.size + 1) a x w1 (((Blk.below (t := 24) (cs := #[.float .f32 a]) (by first | assumption | (repeat (first | assumption | (apply Blk.new_at; (focus (simp; done)); rfl) | apply Blk.alloc | apply Blk.drewN))) hb (by first | omega | (simp; done) | (simp; omega))).cell 0).trans rfl)).mono fun _ _ h => h.to)).mono ?_
  rintro e w1 ⟨r, rfl, hr, hb⟩
  have hZ : Blk w1 (w.heap.size + 1 + 1) 26 (fA 16 fun _ => 0) := Blk.below (by first | assumption | (repeat (first | assumption | (apply Blk.new_at; (focus (simp; done)); rfl) | apply Blk.alloc | apply Blk.drewN))) hb (by first | omega | (simp; done) | (simp; omega))
  have hB : Below w.heap.size w w1 := bCall (by repeat (first | assumption | exact Below.refl _ _ | refine bDrew ?_ _ | refine Below.alloc ?_ (by first | omega | (simp; done) | (simp; omega)) _ | refine Below.setCell ?_ (by first | omega | (simp; done) | (simp; omega)) _ | refine bRow ?_ (by first | omega | (simp; done) | (simp; omega)) _)) hb (by first | omega | (simp; done) | (simp; omega))
  have Hr := Lib.hid hr
  clear hr
  go_wp2_with (refine wpList_store_row rfl 26 _ _ rfl _ _ rfl rfl _ _ (by first | assumption | (repeat (first | assumption | (apply Blk.new_at; (focus (simp; done)); rfl) | apply Blk.alloc | apply Blk.drewN))) (by kernel_rfl) (by simp only [size_fA]) (all_fA _ _) ?_)
  exact bodyPost_ret (results_cell_row rfl _ _ (w.heap.size + 1 + 1) _ _ _ _ rfl hZ.setRow Try.underlying26 rfl (by kernel_rfl)) rfl ⟨_, rfl, Hr.out, (by repeat (first | assumption | exact Below.refl _ _ | refine bDrew ?_ _ | refine Below.alloc ?_ (by first | omega | (simp; done) | (simp; omega)) _ | refine Below.setCell ?_ (by first | omega | (simp; done) | (simp; omega)) _ | refine bRow ?_ (by first | omega | (simp; done) | (simp; omega)) _))⟩
end Go.Proofs.Ytmikeegecifbfaa
