/- Contracts: the program's curves by function values that hold what they captured; looks at rows. -/
import Derived.Test.YtfbajjddndgmlaaCE
import Derived.Test.YtfbajjddndgmlaaCF
namespace Go.Proofs.Ytfbajjddndgmlaa
open Go.RowKit

theorem flatOne_any (g a x : Nat) (w : World) (hg : w.cell? ⟨g, 0, none⟩ = some (.float .f32 a)) : Calls Try.prog 48 #[.float .f32 x, .pointer (some ⟨g, 0, none⟩)] w (RetFq w (canon .f32 a)) := by
  go_enter Try.func48, Try.ntmps48
  go_wp2
  go_ret
  exact ⟨_, rfl, rfl, 0, rfl⟩
theorem iFlatCurve_any (a : Nat) (w : World) : Calls Try.prog 20 #[.float .f32 a] w (RetC 16 w fun _ => canon .f32 a) := by
  go_enter Try.func20, Try.ntmps20
  go_wp2_with fail
  refine (each_any 48 #[.pointer (some ⟨w.heap.size, 0, none⟩)] (fun _ => canon .f32 a) (fun _ => 0) _ (fun _ _ => by kernel_rfl) (fun x w1 hb => (flatOne_any w.heap.size a x w1 (((Blk.below (t := 23) (cs := #[.float .f32 a]) (by first | assumption | (repeat (first | assumption | (apply Blk.new_at; (focus (simp; done)); rfl) | apply Blk.alloc | apply Blk.drewN))) hb (by first | omega | (simp; done) | (simp; omega))).cell 0).trans rfl)).mono fun _ _ h => h.to)).mono ?_
  rintro e w1 ⟨r, rfl, hr, hb⟩
  have hZ : Blk w1 (w.heap.size + 1) 28 (fA 16 fun _ => 0) := Blk.below (by first | assumption | (repeat (first | assumption | (apply Blk.new_at; (focus (simp; done)); rfl) | apply Blk.alloc | apply Blk.drewN))) hb (by first | omega | (simp; done) | (simp; omega))
  have hB : Below w.heap.size w w1 := bCall (by repeat (first | assumption | exact Below.refl _ _ | refine bDrew ?_ _ | refine Below.alloc ?_ (by first | omega | (simp; done) | (simp; omega)) _ | refine Below.setCell ?_ (by first | omega | (simp; done) | (simp; omega)) _ | refine bRow ?_ (by first | omega | (simp; done) | (simp; omega)) _)) hb (by first | omega | (simp; done) | (simp; omega))
  have Hr := Lib.hid hr
  clear hr
  go_wp2_with (refine wpList_store_row rfl 28 _ _ rfl _ _ rfl rfl _ _ (by first | assumption | (repeat (first | assumption | (apply Blk.new_at; (focus (simp; done)); rfl) | apply Blk.alloc | apply Blk.drewN))) (by kernel_rfl) (by simp only [size_fA]) (all_fA _ _) ?_)
  exact bodyPost_ret (results_cell_row rfl _ _ (w.heap.size + 1) _ _ _ _ rfl hZ.setRow Try.underlying28 rfl (by kernel_rfl)) rfl ⟨_, rfl, Hr.out, (by repeat (first | assumption | exact Below.refl _ _ | refine bDrew ?_ _ | refine Below.alloc ?_ (by first | omega | (simp; done) | (simp; omega)) _ | refine Below.setCell ?_ (by first | omega | (simp; done) | (simp; omega)) _ | refine bRow ?_ (by first | omega | (simp; done) | (simp; omega)) _))⟩
theorem scaleOne_any (g a x : Nat) (w : World) (hg : w.cell? ⟨g, 0, none⟩ = some (.float .f32 a)) : Calls Try.prog 55 #[.float .f32 x, .pointer (some ⟨g, 0, none⟩)] w (RetFq w (fmul (canon .f32 x) (canon .f32 a))) := by
  go_enter Try.func55, Try.ntmps55
  go_wp2_with fail
  refine (mul_any _ _ _).mono ?_
  rintro e w1 ⟨r, rfl, hr, n, rfl⟩
  have Hr := Lib.hid hr
  clear hr
  go_wp2
  go_ret
  exact ⟨_, rfl, Hr.out, _, rfl⟩
theorem iScaleCurve_any (c : Nat → Nat) (a : Nat) (w : World) : Calls Try.prog 36 #[.agg (fA 16 c), .float .f32 a] w (RetC 16 w fun i => fmul (canon .f32 (c i)) (canon .f32 a)) := by
  go_enter Try.func36, Try.ntmps36
  go_wp2_with (refine wpList_load_row rfl 28 _ rfl (w.heap.size) rfl 28 (fA 16 c) (0, 0) _ (((Blk.new w _ _).alloc _).alloc _) Try.underlying28 rfl (by kernel_rfl) ?_)
  refine (each_any 55 #[.pointer (some ⟨w.heap.size + 1, 0, none⟩)] (fun x => fmul x (canon .f32 a)) c _ (fun _ _ => by kernel_rfl) (fun x w1 hb => (scaleOne_any (w.heap.size + 1) a x w1 (((Blk.below (t := 23) (cs := #[.float .f32 a]) (by first | assumption | (repeat (first | assumption | (apply Blk.new_at; (focus (simp; done)); rfl) | apply Blk.alloc | apply Blk.drewN))) hb (by first | omega | (simp; done) | (simp; omega))).cell 0).trans rfl)).mono fun _ _ h => h.to)).mono ?_
  rintro e w1 ⟨r, rfl, hr, hb⟩
  have hZ : Blk w1 (w.heap.size + 1 + 1) 28 (fA 16 fun _ => 0) := Blk.below (by first | assumption | (repeat (first | assumption | (apply Blk.new_at; (focus (simp; done)); rfl) | apply Blk.alloc | apply Blk.drewN))) hb (by first | omega | (simp; done) | (simp; omega))
  have hB : Below w.heap.size w w1 := bCall (by repeat (first | assumption | exact Below.refl _ _ | refine bDrew ?_ _ | refine Below.alloc ?_ (by first | omega | (simp; done) | (simp; omega)) _ | refine Below.setCell ?_ (by first | omega | (simp; done) | (simp; omega)) _ | refine bRow ?_ (by first | omega | (simp; done) | (simp; omega)) _)) hb (by first | omega | (simp; done) | (simp; omega))
  have Hr := Lib.hid hr
  clear hr
  go_wp2_with (refine wpList_store_row rfl 28 _ _ rfl _ _ rfl rfl _ _ (by first | assumption | (repeat (first | assumption | (apply Blk.new_at; (focus (simp; done)); rfl) | apply Blk.alloc | apply Blk.drewN))) (by kernel_rfl) (by simp only [size_fA]) (all_fA _ _) ?_)
  exact bodyPost_ret (results_cell_row rfl _ _ (w.heap.size + 1 + 1) _ _ _ _ rfl hZ.setRow Try.underlying28 rfl (by kernel_rfl)) rfl ⟨_, rfl, Hr.out, (by repeat (first | assumption | exact Below.refl _ _ | refine bDrew ?_ _ | refine Below.alloc ?_ (by first | omega | (simp; done) | (simp; omega)) _ | refine Below.setCell ?_ (by first | omega | (simp; done) | (simp; omega)) _ | refine bRow ?_ (by first | omega | (simp; done) | (simp; omega)) _))⟩
theorem mixOne_any (g a x y : Nat) (w : World) (hg : w.cell? ⟨g, 0, none⟩ = some (.float .f32 a)) : Calls Try.prog 54 #[.float .f32 x, .float .f32 y, .pointer (some ⟨g, 0, none⟩)] w (RetFq w (mixOf (canon .f32 a) (canon .f32 x) (canon .f32 y))) := by
  go_enter Try.func54, Try.ntmps54
  go_wp2_with fail
  refine wp_region_loose_lit (fun w' => ∃ n, w' = w.drewN n) (GFF fmul) (by kernel_rfl) (by kernel_rfl) ⟨1, rfl⟩ ?_
  repeat (refine wpLoose_plain rfl (fun K hK w1 hw1 => ?_); obtain ⟨n, rfl⟩ := hw1; go_simp; refine ⟨⟨_, rfl⟩, hK _ ?_⟩; clear hK K)
  refine wpLoose_plain rfl (fun K hK w1 hw1 => ?_); obtain ⟨n1, rfl⟩ := hw1; go_simp
  refine ⟨⟨_, rfl⟩, (mul_any _ _ _).mono ?_, fun u hu => hK _ ?_⟩
  · rintro e w' ⟨r, rfl, hr, m, rfl⟩; exact ⟨_, rfl, .mk hr, _, by rw [World.drewN_drewN]⟩
  clear hK K
  obtain ⟨r1, rfl, Hr1⟩ := hu.inv
  clear hu
  repeat (refine wpLoose_plain rfl (fun K hK w1 hw1 => ?_); obtain ⟨n, rfl⟩ := hw1; go_simp; refine ⟨⟨_, rfl⟩, hK _ ?_⟩; clear hK K)
  refine wpLoose_plain rfl (fun K hK w1 hw1 => ?_); obtain ⟨n2, rfl⟩ := hw1; go_simp
  refine ⟨⟨_, rfl⟩, (mul_any _ _ _).mono ?_, fun u hu => hK _ ?_⟩
  · rintro e w' ⟨r, rfl, hr, m, rfl⟩; exact ⟨_, rfl, .mk hr, _, by rw [World.drewN_drewN]⟩
  clear hK K
  obtain ⟨r2, rfl, Hr2⟩ := hu.inv
  clear hu
  repeat (refine wpLoose_plain rfl (fun K hK w1 hw1 => ?_); obtain ⟨n, rfl⟩ := hw1; go_simp; refine ⟨⟨_, rfl⟩, hK _ ?_⟩; clear hK K)
  (refine wpLoose_nil ?_; intro _ hw'; obtain ⟨nq, rfl⟩ := hw')
  go_wp2
  go_ret
  exact ⟨_, rfl, by rw [c_add, Hr1.out, Hr2.out, c_sub]; rfl, _, rfl⟩
theorem iMixCurves_any (c d : Nat → Nat) (a : Nat) (w : World) : Calls Try.prog 34 #[.agg (fA 16 c), .agg (fA 16 d), .float .f32 a] w (RetC 16 w fun i => mixOf (canon .f32 a) (canon .f32 (c i)) (canon .f32 (d i))) := by
  have lc : Blk ((((w.alloc (.cells (fA 16 c) 28)).alloc (.cells (fA 16 d) 28)).alloc (.cells #[.float .f32 a] 23)).alloc (.cells (fA 16 fun _ => 0) 28)) w.heap.size 28 (fA 16 c) := (((Blk.new w _ _).alloc _).alloc _).alloc _
  have ld : Blk ((((w.alloc (.cells (fA 16 c) 28)).alloc (.cells (fA 16 d) 28)).alloc (.cells #[.float .f32 a] 23)).alloc (.cells (fA 16 fun _ => 0) 28)) (w.heap.size + 1) 28 (fA 16 d) := ((Blk.new_at _ _ (by simp) rfl).alloc _).alloc _
  go_enter Try.func34, Try.ntmps34
  go_wp2_with (refine wpList_load_row rfl 28 _ rfl _ rfl _ _ (0, 0) _ (by assumption) Try.underlying28 rfl (by kernel_rfl) ?_)
  refine (with_any 54 #[.pointer (some ⟨w.heap.size + 1 + 1, 0, none⟩)] (fun x y => mixOf (canon .f32 a) x y) c d _ (fun _ _ => by kernel_rfl) (fun x y w1 hb => (mixOne_any (w.heap.size + 1 + 1) a x y w1 (((Blk.below (t := 23) (cs := #[.float .f32 a]) (by first | assumption | (repeat (first | assumption | (apply Blk.new_at; (focus (simp; done)); rfl) | apply Blk.alloc | apply Blk.drewN))) hb (by first | omega | (simp; done) | (simp; omega))).cell 0).trans rfl)).mono fun _ _ h => h.to)).mono ?_
  rintro e w1 ⟨r, rfl, hr, hb⟩
  have hZ : Blk w1 (w.heap.size + 1 + 1 + 1) 28 (fA 16 fun _ => 0) := Blk.below (by first | assumption | (repeat (first | assumption | (apply Blk.new_at; (focus (simp; done)); rfl) | apply Blk.alloc | apply Blk.drewN))) hb (by first | omega | (simp; done) | (simp; omega))
  have hB : Below w.heap.size w w1 := bCall (by repeat (first | assumption | exact Below.refl _ _ | refine bDrew ?_ _ | refine Below.alloc ?_ (by first | omega | (simp; done) | (simp; omega)) _ | refine Below.setCell ?_ (by first | omega | (simp; done) | (simp; omega)) _ | refine bRow ?_ (by first | omega | (simp; done) | (simp; omega)) _)) hb (by first | omega | (simp; done) | (simp; omega))
  have Hr := Lib.hid hr
  clear hr
  go_wp2_with (refine wpList_store_row rfl 28 _ _ rfl _ _ rfl rfl _ _ (by first | assumption | (repeat (first | assumption | (apply Blk.new_at; (focus (simp; done)); rfl) | apply Blk.alloc | apply Blk.drewN))) (by kernel_rfl) (by simp only [size_fA]) (all_fA _ _) ?_)
  exact bodyPost_ret (results_cell_row rfl _ _ (w.heap.size + 1 + 1 + 1) _ _ _ _ rfl hZ.setRow Try.underlying28 rfl (by kernel_rfl)) rfl ⟨_, rfl, Hr.out, (by repeat (first | assumption | exact Below.refl _ _ | refine bDrew ?_ _ | refine Below.alloc ?_ (by first | omega | (simp; done) | (simp; omega)) _ | refine Below.setCell ?_ (by first | omega | (simp; done) | (simp; omega)) _ | refine bRow ?_ (by first | omega | (simp; done) | (simp; omega)) _))⟩
end Go.Proofs.Ytfbajjddndgmlaa
