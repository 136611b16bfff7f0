/- Contracts: distances and differences of looks. -/
import Derived.Test.YtmikeegecifbfaaCY
import Derived.Test.YtmikeegecifbfaaCC
namespace Go.Proofs.Ytmikeegecifbfaa
open Go.RowKit
set_option maxRecDepth 100000

def sqd (x y : Option Nat) : Option Nat := fmul (fsub x y) (fsub x y)
def distOf (u v : Nat → Option Nat) : Option Nat := froot (fadd (fadd (sqd (u 0) (v 0)) (sqd (u 1) (v 1))) (sqd (u 2) (v 2)))
def tint (u : Nat → Option Nat) : Option Nat := fadd (canon .f32 1065353216) (fmul (canon .f32 1008981770) (froot (fadd (fmul (u 1) (u 1)) (fmul (u 2) (u 2)))))
def diffOf (u v : Nat → Option Nat) : Option Nat := froot (fadd (sqd (u 0) (v 0)) (fdiv (fadd (sqd (u 1) (v 1)) (sqd (u 2) (v 2))) (fmul (tint u) (tint u))))

theorem squares_any (u v : Nat → Nat) (w : World) : Calls Try.prog 54 #[.agg (fA 3 u), .agg (fA 3 v)] w (RetC 3 w fun i => sqd (canon .f32 (u i)) (canon .f32 (v i))) := by
  go_enter Try.func54, Try.ntmps54
  go_wp2
  go_loopw [5, 6] (fun _ i wr => ∃ (k : Nat) (z cur : Nat → Nat), k ≤ 3 ∧ i = .int .i64 k ∧ Below w.heap.size w wr ∧ Blk wr w.heap.size 38 (fA 3 cur) ∧ Blk wr (w.heap.size + 1) 38 (fA 3 v) ∧ Blk wr (w.heap.size + 1 + 1) 38 (fA 3 z) ∧ (∀ j, j < k → canon .f32 (cur j) = sqd (canon .f32 (u j)) (canon .f32 (v j))) ∧ ∀ j, k ≤ j → cur j = u j) (fun _ i _ => 3 - (intOf i).toNat)
  case atStart => exact ⟨0, fun _ => 0, u, by omega, rfl, (by repeat (first | assumption | exact Below.refl _ _ | refine bDrew ?_ _ | refine Below.alloc ?_ (by first | omega | (simp; done) | (simp; omega)) _ | refine Below.setCell ?_ (by first | omega | (simp; done) | (simp; omega)) _ | refine bRow ?_ (by first | omega | (simp; done) | (simp; omega)) _)), (by first | assumption | (repeat (first | assumption | (apply Blk.new_at; (focus (simp; done)); rfl) | apply Blk.alloc | apply Blk.drewN))), (by first | assumption | (repeat (first | assumption | (apply Blk.new_at; (focus (simp; done)); rfl) | apply Blk.alloc | apply Blk.drewN))), (by first | assumption | (repeat (first | assumption | (apply Blk.new_at; (focus (simp; done)); rfl) | apply Blk.alloc | apply Blk.drewN))), fun j h => absurd h (by omega), fun j _ => rfl⟩
  case round =>
    obtain ⟨k, z, cur, hk, rfl, hb, hC, hD, hZ, hc, ho⟩ := hrel
    have Hc := Lib.hid hc
    have Ho := Lib.hid ho
    by_cases hlt : k < 3
    · have c1 : wr.cell? ⟨w.heap.size, k, none⟩ = some (.float .f32 (u k)) := by rw [hC.cell k, get_fA_lt cur hlt, ho k (Nat.le_refl _)]
      have c2 := (hD.cell k).trans (get_fA_lt v hlt)
      have f1 := hC.frozen k
      clear hc ho
      go_wp2_with fail
      (refine wp_region_loose_tail 17 (fun w' => ∃ n, w' = wr.drewN n) (GM fmul (fun _ x => x)) (by kernel_rfl) (by kernel_rfl) ⟨1, rfl⟩ ?_; simp only [List.take_succ_cons, List.take_zero, List.drop_succ_cons, List.drop_zero])
      repeat (refine wpLoose_plain rfl (fun K hK w1 hw1 => ?_); obtain ⟨n, rfl⟩ := hw1; go_simp; refine ⟨⟨_, rfl⟩, hK _ ?_⟩; clear hK K)
      (refine wpLoose_plain rfl (fun K hK w1 hw1 => ?_); obtain ⟨n1, rfl⟩ := hw1; go_simp; refine ⟨⟨_, rfl⟩, (mul_any _ _ _).mono ?_, fun u hu => hK _ ?_⟩; (rintro e w' ⟨r, rfl, hr, m, rfl⟩; exact ⟨_, rfl, GM.mk2 hr, _, by rw [World.drewN_drewN]⟩); clear hK K; obtain ⟨r1, rfl, H1⟩ := GM.inv2 hu; clear hu)
      repeat (refine wpLoose_plain rfl (fun K hK w1 hw1 => ?_); obtain ⟨n, rfl⟩ := hw1; go_simp; refine ⟨⟨_, rfl⟩, hK _ ?_⟩; clear hK K)
      (refine wpLoose_nil ?_; intro _ hw'; obtain ⟨nq, rfl⟩ := hw')
      go_wp2
      go_roundw
      case rel => exact ⟨k + 1, z, _, by omega, by go_num, (by repeat (first | assumption | exact Below.refl _ _ | refine bDrew ?_ _ | refine Below.alloc ?_ (by first | omega | (simp; done) | (simp; omega)) _ | refine Below.setCell ?_ (by first | omega | (simp; done) | (simp; omega)) _ | refine bRow ?_ (by first | omega | (simp; done) | (simp; omega)) _)), Blk.setF (Blk.drewN hC _) k _, (Blk.drewN hD _).far (by dsimp only; omega) _, (Blk.drewN hZ _).far (by dsimp only; omega) _, upd_to (Q := fun j x => canon .f32 x = sqd (canon .f32 (u j)) (canon .f32 (v j))) Hc.out (by rw [H1.out, c_sub, c_sub]; rfl), upd_from Ho.out⟩
      case measure => simp [intOf]; omega
    · obtain rfl : k = 3 := by omega
      clear hc ho
      go_wp2_with (first | (refine wpList_load_row rfl 38 _ rfl _ rfl _ _ (0, 0) _ hC Try.underlying38 rfl (by kernel_rfl) ?_) | (refine wpList_store_row rfl 38 _ _ rfl _ _ rfl rfl _ _ hZ (by kernel_rfl) (by simp only [size_fA]) (all_fA _ _) ?_))
      exact bodyPost_ret (results_cell_row rfl _ _ (w.heap.size + 1 + 1) _ _ _ _ rfl hZ.setRow Try.underlying38 rfl (by kernel_rfl)) rfl ⟨_, rfl, Hc.out, (by repeat (first | assumption | exact Below.refl _ _ | refine bDrew ?_ _ | refine Below.alloc ?_ (by first | omega | (simp; done) | (simp; omega)) _ | refine Below.setCell ?_ (by first | omega | (simp; done) | (simp; omega)) _ | refine bRow ?_ (by first | omega | (simp; done) | (simp; omega)) _))⟩
theorem l01Square_any (x : Nat) (w : World) : Calls Try.prog 79 #[.float .f32 x] w (RetFq w (fmul (canon .f32 x) (canon .f32 x))) := by
  go_enter Try.func79, Try.ntmps79
  go_wp2
  go_ret
  exact ⟨_, rfl, c_mul .., _, rfl⟩
theorem iDistanceOf_any (u v : Nat → Nat) (w : World) : Calls Try.prog 26 #[.agg (fA 3 u), .agg (fA 3 v)] w (RetF w (distOf (fun i => canon .f32 (u i)) fun i => canon .f32 (v i))) := by
  have hU : Blk ((w.alloc (.cells (fA 3 u) 38)).alloc (.cells (fA 3 v) 38)) w.heap.size 38 (fA 3 u) := (Blk.new _ _ _).alloc _
  have hV : Blk ((w.alloc (.cells (fA 3 u) 38)).alloc (.cells (fA 3 v) 38)) (w.heap.size + 1) 38 (fA 3 v) := Blk.new_at _ _ (by simp) rfl
  have hb : Below w.heap.size w ((w.alloc (.cells (fA 3 u) 38)).alloc (.cells (fA 3 v) 38)) := (by repeat (first | assumption | exact Below.refl _ _ | refine bDrew ?_ _ | refine Below.alloc ?_ (by first | omega | (simp; done) | (simp; omega)) _ | refine Below.setCell ?_ (by first | omega | (simp; done) | (simp; omega)) _ | refine bRow ?_ (by first | omega | (simp; done) | (simp; omega)) _))
  have hsl : ∀ (g : Nat) (w : World), (Instr.sliceAt 38 (.pointer (some ⟨g, 0, none⟩)) none none none).run Try.prog w = .ok (.slice (some ⟨g, 0, none⟩) 3 3) w := fun _ _ => by kernel_rfl
  go_enter Try.func26, Try.ntmps26
  go_wp2_with (first | (refine wpList_load_row rfl 38 _ rfl _ rfl _ _ (0, 0) _ hU Try.underlying38 rfl (by kernel_rfl) ?_) | (refine wpList_load_row rfl 38 _ rfl _ rfl _ _ (0, 0) _ hV Try.underlying38 rfl (by kernel_rfl) ?_))
  refine (squares_any u v ((w.alloc (.cells (fA 3 u) 38)).alloc (.cells (fA 3 v) 38))).mono ?_
  rintro e w1 ⟨r, rfl, hr, hb1⟩
  have hb := bCall hb hb1 hb.size
  have Hr := Lib.hid hr
  clear hr hb1 hU hV
  go_wp2_with (refine wpList_store_new rfl 38 _ _ rfl _ rfl rfl (by kernel_rfl) rfl (all_fA _ _) ?_)
  refine (sum_any _ 3 _ r _ (Blk.new w1 _ _) (by omega)).mono ?_
  rintro e w2 ⟨r2, rfl, hr2, n2, rfl⟩
  have H2 := Lib.hid hr2
  clear hr2
  go_wp2_with fail
  refine (root_any _ _).mono ?_
  rintro e w2 ⟨r3, rfl, hr3, n3, rfl⟩
  have H3 := Lib.hid hr3
  clear hr3
  go_wp2
  go_ret
  refine ⟨_, rfl, ?_, by repeat (first | exact Below.alloc hb hb.size _ | refine bDrew ?_ _)⟩
  have h0 := Hr.out 0 (by omega)
  have h1 := Hr.out 1 (by omega)
  have h2 := Hr.out 2 (by omega)
  rw [H3.out, H2.out]
  show froot (fadd (fadd (canon .f32 (r 0)) (canon .f32 (r 1))) (canon .f32 (r 2))) = _
  rw [h0, h1, h2]
  rfl
theorem iDifferenceOf_any (u v : Nat → Nat) (w : World) : Calls Try.prog 25 #[.agg (fA 3 u), .agg (fA 3 v)] w (RetF w (diffOf (fun i => canon .f32 (u i)) fun i => canon .f32 (v i))) := by
  go_enter Try.func25, Try.ntmps25
  go_wp2_with fail
  obtain ⟨W, hW⟩ : ∃ W : World, W = (w.alloc (.cells (fA 3 u) 38)).alloc (.cells (fA 3 v) 38) := ⟨_, rfl⟩
  have hU : Blk W w.heap.size 38 (fA 3 u) := by subst hW; exact (Blk.new _ _ _).alloc _
  have hV : Blk W (w.heap.size + 1) 38 (fA 3 v) := by subst hW; exact Blk.new_at _ _ (by simp) rfl
  have hb : Below w.heap.size w W := by subst hW; exact (by repeat (first | assumption | exact Below.refl _ _ | refine bDrew ?_ _ | refine Below.alloc ?_ (by first | omega | (simp; done) | (simp; omega)) _ | refine Below.setCell ?_ (by first | omega | (simp; done) | (simp; omega)) _ | refine bRow ?_ (by first | omega | (simp; done) | (simp; omega)) _))
  have u1 := (hU.cell 1).trans (get_fA_lt u (by omega))
  have u2 := (hU.cell 2).trans (get_fA_lt u (by omega))
  rw [← hW]
  clear hW
  (refine wp_region_loose_lit (fun w' => ∃ n, w' = W.drewN n) (GM fmul (fun _ x => froot x)) (by kernel_rfl) (by kernel_rfl) ⟨1, rfl⟩ ?_)
  repeat (refine wpLoose_plain rfl (fun K hK w1 hw1 => ?_); obtain ⟨n, rfl⟩ := hw1; go_simp; refine ⟨⟨_, rfl⟩, hK _ ?_⟩; clear hK K)
  (refine wpLoose_plain rfl (fun K hK w1 hw1 => ?_); obtain ⟨n1, rfl⟩ := hw1; go_simp; refine ⟨⟨_, rfl⟩, (mul_any _ _ _).mono ?_, fun u hu => hK _ ?_⟩; (rintro e w' ⟨r, rfl, hr, m, rfl⟩; exact ⟨_, rfl, GM.mk2 hr, _, by rw [World.drewN_drewN]⟩); clear hK K; obtain ⟨r1, rfl, H1⟩ := GM.inv2 hu; clear hu)
  repeat (refine wpLoose_plain rfl (fun K hK w1 hw1 => ?_); obtain ⟨n, rfl⟩ := hw1; go_simp; refine ⟨⟨_, rfl⟩, hK _ ?_⟩; clear hK K)
  (refine wpLoose_plain rfl (fun K hK w1 hw1 => ?_); obtain ⟨n1, rfl⟩ := hw1; go_simp; refine ⟨⟨_, rfl⟩, (mul_any _ _ _).mono ?_, fun u hu => hK _ ?_⟩; (rintro e w' ⟨r, rfl, hr, m, rfl⟩; exact ⟨_, rfl, GM.mk2 hr, _, by rw [World.drewN_drewN]⟩); clear hK K; obtain ⟨r2, rfl, H2⟩ := GM.inv2 hu; clear hu)
  repeat (refine wpLoose_plain rfl (fun K hK w1 hw1 => ?_); obtain ⟨n, rfl⟩ := hw1; go_simp; refine ⟨⟨_, rfl⟩, hK _ ?_⟩; clear hK K)
  (refine wpLoose_plain rfl (fun K hK w1 hw1 => ?_); obtain ⟨n1, rfl⟩ := hw1; go_simp; refine ⟨⟨_, rfl⟩, (root_any _ _).mono ?_, fun u hu => hK _ ?_⟩; (rintro e w' ⟨r, rfl, hr, m, rfl⟩; exact ⟨_, rfl, GM.mk1 hr, _, by rw [World.drewN_drewN]⟩); clear hK K; obtain ⟨r3, rfl, H3⟩ := GM.inv1 hu; clear hu)
  repeat (refine wpLoose_plain rfl (fun K hK w1 hw1 => ?_); obtain ⟨n, rfl⟩ := hw1; go_simp; refine ⟨⟨_, rfl⟩, hK _ ?_⟩; clear hK K)
  (refine wpLoose_plain rfl (fun K hK w1 hw1 => ?_); obtain ⟨n1, rfl⟩ := hw1; go_simp; refine ⟨⟨_, rfl⟩, (mul_any _ _ _).mono ?_, fun u hu => hK _ ?_⟩; (rintro e w' ⟨r, rfl, hr, m, rfl⟩; exact ⟨_, rfl, GM.mk2 hr, _, by rw [World.drewN_drewN]⟩); clear hK K; obtain ⟨r4, rfl, H4⟩ := GM.inv2 hu; clear hu)
  repeat (refine wpLoose_plain rfl (fun K hK w1 hw1 => ?_); obtain ⟨n, rfl⟩ := hw1; go_simp; refine ⟨⟨_, rfl⟩, hK _ ?_⟩; clear hK K)
  (refine wpLoose_nil ?_; intro _ hw'; obtain ⟨nq, rfl⟩ := hw')
  have hT : ∀ w', canon .f32 (fval .add .f32 1065353216 r4 w') = tint fun i => canon .f32 (u i) := by
    intro w'
    rw [c_add, H4.out, H3.out, c_add, H1.out, H2.out]
    rfl
  clear H1 H2 H3 H4 u1 u2
  have HT := Lib.hid hT
  clear hT
  have hU := Blk.drewN hU nq
  have hV := Blk.drewN hV nq
  have hb := bDrew hb nq
  generalize hWq : W.drewN nq = W1 at *
  clear hWq
  go_wp2_with (first | (refine wpList_load_row rfl 38 _ rfl _ rfl _ _ (0, 0) _ hU Try.underlying38 rfl (by kernel_rfl) ?_) | (refine wpList_load_row rfl 38 _ rfl _ rfl _ _ (0, 0) _ hV Try.underlying38 rfl (by kernel_rfl) ?_))
  refine (squares_any u v _).mono ?_
  rintro e w1 ⟨r, rfl, hr, hb1⟩
  have hb := bCall hb hb1 hb.size
  have Hr := Lib.hid hr
  clear hr hb1 hU hV
  go_wp2_with (refine wpList_store_new rfl 38 _ _ rfl _ rfl rfl (by kernel_rfl) rfl (all_fA _ _) ?_)
  obtain ⟨W2, hW⟩ : ∃ W2 : World, W2 = w1.alloc (.cells (fA 3 r) 38) := ⟨_, rfl⟩
  have hS : Blk W2 w1.heap.size 38 (fA 3 r) := by subst hW; exact Blk.new _ _ _
  have s0 := (hS.cell 0).trans (get_fA_lt r (by omega))
  have s1 := (hS.cell 1).trans (get_fA_lt r (by omega))
  have s2 := (hS.cell 2).trans (get_fA_lt r (by omega))
  have hb : Below w.heap.size w W2 := by subst hW; exact Below.alloc hb hb.size _
  rw [← hW]
  clear hW
  (refine wp_region_loose_lit (fun w' => ∃ n, w' = W2.drewN n) (GM fmul (fun _ x => froot x)) (by kernel_rfl) (by kernel_rfl) ⟨1, rfl⟩ ?_)
  repeat (refine wpLoose_plain rfl (fun K hK w1 hw1 => ?_); obtain ⟨n, rfl⟩ := hw1; go_simp; refine ⟨⟨_, rfl⟩, hK _ ?_⟩; clear hK K)
  (refine wpLoose_plain rfl (fun K hK w1 hw1 => ?_); obtain ⟨n1, rfl⟩ := hw1; go_simp; refine ⟨⟨_, rfl⟩, (mul_any _ _ _).mono ?_, fun u hu => hK _ ?_⟩; (rintro e w' ⟨r, rfl, hr, m, rfl⟩; exact ⟨_, rfl, GM.mk2 hr, _, by rw [World.drewN_drewN]⟩); clear hK K; obtain ⟨r5, rfl, H5⟩ := GM.inv2 hu; clear hu)
  repeat (refine wpLoose_plain rfl (fun K hK w1 hw1 => ?_); obtain ⟨n, rfl⟩ := hw1; go_simp; refine ⟨⟨_, rfl⟩, hK _ ?_⟩; clear hK K)
  (refine wpLoose_plain rfl (fun K hK w1 hw1 => ?_); obtain ⟨n1, rfl⟩ := hw1; go_simp; refine ⟨⟨_, rfl⟩, (root_any _ _).mono ?_, fun u hu => hK _ ?_⟩; (rintro e w' ⟨r, rfl, hr, m, rfl⟩; exact ⟨_, rfl, GM.mk1 hr, _, by rw [World.drewN_drewN]⟩); clear hK K; obtain ⟨r6, rfl, H6⟩ := GM.inv1 hu; clear hu)
  repeat (refine wpLoose_plain rfl (fun K hK w1 hw1 => ?_); obtain ⟨n, rfl⟩ := hw1; go_simp; refine ⟨⟨_, rfl⟩, hK _ ?_⟩; clear hK K)
  (refine wpLoose_nil ?_; intro _ hw'; obtain ⟨nq, rfl⟩ := hw')
  go_wp2
  go_ret
  refine ⟨_, rfl, ?_, (by repeat (first | assumption | exact Below.refl _ _ | refine bDrew ?_ _ | refine Below.alloc ?_ (by first | omega | (simp; done) | (simp; omega)) _ | refine Below.setCell ?_ (by first | omega | (simp; done) | (simp; omega)) _ | refine bRow ?_ (by first | omega | (simp; done) | (simp; omega)) _))⟩
  have h0 := Hr.out 0 (by omega)
  have h1 := Hr.out 1 (by omega)
  have h2 := Hr.out 2 (by omega)
  rw [H6.out, c_add, c_div, H5.out, c_add, HT.out, h0, h1, h2]
  rfl
theorem l01Difference_any (u v : Nat → Nat) (w : World) : Calls Try.prog 56 #[.agg (fA 3 u), .agg (fA 3 v)] w (RetF w (diffOf (fun i => canon .f32 (u i)) fun i => canon .f32 (v i))) := by
  go_enter Try.func56, Try.ntmps56
  go_wp2_with fail
  obtain ⟨W, hW⟩ : ∃ W : World, W = (w.alloc (.cells (fA 3 u) 38)).alloc (.cells (fA 3 v) 38) := ⟨_, rfl⟩
  have hU : Blk W w.heap.size 38 (fA 3 u) := by subst hW; exact (Blk.new _ _ _).alloc _
  have hV : Blk W (w.heap.size + 1) 38 (fA 3 v) := by subst hW; exact Blk.new_at _ _ (by simp) rfl
  have hb : Below w.heap.size w W := by subst hW; exact (by repeat (first | assumption | exact Below.refl _ _ | refine bDrew ?_ _ | refine Below.alloc ?_ (by first | omega | (simp; done) | (simp; omega)) _ | refine Below.setCell ?_ (by first | omega | (simp; done) | (simp; omega)) _ | refine bRow ?_ (by first | omega | (simp; done) | (simp; omega)) _))
  have u0 := (hU.cell 0).trans (get_fA_lt u (by omega))
  have u1 := (hU.cell 1).trans (get_fA_lt u (by omega))
  have u2 := (hU.cell 2).trans (get_fA_lt u (by omega))
  have v0 := (hV.cell 0).trans (get_fA_lt v (by omega))
  have v1 := (hV.cell 1).trans (get_fA_lt v (by omega))
  have v2 := (hV.cell 2).trans (get_fA_lt v (by omega))
  rw [← hW]
  clear hW
  (refine wp_region_loose_lit (fun w' => ∃ n, w' = W.drewN n) (GM fmul (fun f x => cond (f == 78) (froot x) (fmul x x))) (by kernel_rfl) (by kernel_rfl) ⟨1, rfl⟩ ?_)
  repeat (refine wpLoose_plain rfl (fun K hK w1 hw1 => ?_); obtain ⟨n, rfl⟩ := hw1; go_simp; refine ⟨⟨_, rfl⟩, hK _ ?_⟩; clear hK K)
  (refine wpLoose_plain rfl (fun K hK w1 hw1 => ?_); obtain ⟨n1, rfl⟩ := hw1; go_simp; refine ⟨⟨_, rfl⟩, (l01Square_any _ _).mono ?_, fun u hu => hK _ ?_⟩; (rintro e w' ⟨r, rfl, hr, m, rfl⟩; exact ⟨_, rfl, GM.mk1 hr, _, by rw [World.drewN_drewN]⟩); clear hK K; obtain ⟨r1, rfl, H1⟩ := GM.inv1 hu; clear hu)
  repeat (refine wpLoose_plain rfl (fun K hK w1 hw1 => ?_); obtain ⟨n, rfl⟩ := hw1; go_simp; refine ⟨⟨_, rfl⟩, hK _ ?_⟩; clear hK K)
  (refine wpLoose_plain rfl (fun K hK w1 hw1 => ?_); obtain ⟨n1, rfl⟩ := hw1; go_simp; refine ⟨⟨_, rfl⟩, (l01Square_any _ _).mono ?_, fun u hu => hK _ ?_⟩; (rintro e w' ⟨r, rfl, hr, m, rfl⟩; exact ⟨_, rfl, GM.mk1 hr, _, by rw [World.drewN_drewN]⟩); clear hK K; obtain ⟨r2, rfl, H2⟩ := GM.inv1 hu; clear hu)
  repeat (refine wpLoose_plain rfl (fun K hK w1 hw1 => ?_); obtain ⟨n, rfl⟩ := hw1; go_simp; refine ⟨⟨_, rfl⟩, hK _ ?_⟩; clear hK K)
  (refine wpLoose_plain rfl (fun K hK w1 hw1 => ?_); obtain ⟨n1, rfl⟩ := hw1; go_simp; refine ⟨⟨_, rfl⟩, (l01Root_any _ _).mono ?_, fun u hu => hK _ ?_⟩; (rintro e w' ⟨r, rfl, hr, m, rfl⟩; exact ⟨_, rfl, GM.mk1 hr, _, by rw [World.drewN_drewN]⟩); clear hK K; obtain ⟨r3, rfl, H3⟩ := GM.inv1 hu; clear hu)
  repeat (refine wpLoose_plain rfl (fun K hK w1 hw1 => ?_); obtain ⟨n, rfl⟩ := hw1; go_simp; refine ⟨⟨_, rfl⟩, hK _ ?_⟩; clear hK K)
  (refine wpLoose_nil ?_; intro _ hw'; obtain ⟨nq, rfl⟩ := hw')
  have hT : ∀ m w', canon .f32 (fval .add .f32 1065353216 (fval .mul .f32 1008981770 r3 m) w') = tint fun i => canon .f32 (u i) := by
    intro m w'
    have h1 : canon .f32 r1 = fmul _ _ := H1.out
    have h2 : canon .f32 r2 = fmul _ _ := H2.out
    have h3 : canon .f32 r3 = froot _ := H3.out
    rw [c_add, c_mul, h3, c_add, h1, h2]
    rfl
  clear H1 H2 H3
  have HT := Lib.hid hT
  clear hT
  go_wp2_with fail
  obtain ⟨W1, hW⟩ : ∃ W1 : World, W1 = W.drewN nq := ⟨_, rfl⟩
  have hU : Blk W1 w.heap.size 38 (fA 3 u) := by subst hW; exact hU
  have hV : Blk W1 (w.heap.size + 1) 38 (fA 3 v) := by subst hW; exact hV
  have hb : Below w.heap.size w W1 := by subst hW; exact bDrew hb _
  have u0 := (hU.cell 0).trans (get_fA_lt u (by omega))
  have u1 := (hU.cell 1).trans (get_fA_lt u (by omega))
  have u2 := (hU.cell 2).trans (get_fA_lt u (by omega))
  have v0 := (hV.cell 0).trans (get_fA_lt v (by omega))
  have v1 := (hV.cell 1).trans (get_fA_lt v (by omega))
  have v2 := (hV.cell 2).trans (get_fA_lt v (by omega))
  rw [← hW]
  clear hW
  (refine wp_region_loose_lit (fun w' => ∃ n, w' = W1.drewN n) (GM fmul (fun _ x => fmul x x)) (by kernel_rfl) (by kernel_rfl) ⟨1, rfl⟩ ?_)
  repeat (refine wpLoose_plain rfl (fun K hK w1 hw1 => ?_); obtain ⟨n, rfl⟩ := hw1; go_simp; refine ⟨⟨_, rfl⟩, hK _ ?_⟩; clear hK K)
  (refine wpLoose_plain rfl (fun K hK w1 hw1 => ?_); obtain ⟨n1, rfl⟩ := hw1; go_simp; refine ⟨⟨_, rfl⟩, (l01Square_any _ _).mono ?_, fun u hu => hK _ ?_⟩; (rintro e w' ⟨r, rfl, hr, m, rfl⟩; exact ⟨_, rfl, GM.mk1 hr, _, by rw [World.drewN_drewN]⟩); clear hK K; obtain ⟨r4, rfl, H4⟩ := GM.inv1 hu; clear hu)
  repeat (refine wpLoose_plain rfl (fun K hK w1 hw1 => ?_); obtain ⟨n, rfl⟩ := hw1; go_simp; refine ⟨⟨_, rfl⟩, hK _ ?_⟩; clear hK K)
  (refine wpLoose_plain rfl (fun K hK w1 hw1 => ?_); obtain ⟨n1, rfl⟩ := hw1; go_simp; refine ⟨⟨_, rfl⟩, (l01Square_any _ _).mono ?_, fun u hu => hK _ ?_⟩; (rintro e w' ⟨r, rfl, hr, m, rfl⟩; exact ⟨_, rfl, GM.mk1 hr, _, by rw [World.drewN_drewN]⟩); clear hK K; obtain ⟨r5, rfl, H5⟩ := GM.inv1 hu; clear hu)
  repeat (refine wpLoose_plain rfl (fun K hK w1 hw1 => ?_); obtain ⟨n, rfl⟩ := hw1; go_simp; refine ⟨⟨_, rfl⟩, hK _ ?_⟩; clear hK K)
  (refine wpLoose_nil ?_; intro _ hw'; obtain ⟨nq, rfl⟩ := hw')
  go_wp2_with fail
  refine (l01Square_any _ _).mono ?_
  rintro e w1 ⟨r6, rfl, hr6, n6, rfl⟩
  have H6 := Lib.hid hr6
  clear hr6
  go_wp2_with fail
  refine (l01Square_any _ _).mono ?_
  rintro e w1 ⟨r7, rfl, hr7, n7, rfl⟩
  have H7 := Lib.hid hr7
  clear hr7
  go_wp2_with fail
  refine (l01Root_any _ _).mono ?_
  rintro e w1 ⟨r8, rfl, hr8, n8, rfl⟩
  have H8 := Lib.hid hr8
  clear hr8
  go_wp2
  go_ret
  refine ⟨_, rfl, ?_, (by repeat (first | assumption | exact Below.refl _ _ | refine bDrew ?_ _ | refine Below.alloc ?_ (by first | omega | (simp; done) | (simp; omega)) _ | refine Below.setCell ?_ (by first | omega | (simp; done) | (simp; omega)) _ | refine bRow ?_ (by first | omega | (simp; done) | (simp; omega)) _))⟩
  rw [H8.out, c_add, c_div, H7.out, H6.out, HT.out, c_add, H4.out, H5.out, c_sub, c_sub, c_sub]
  rfl
theorem sDifferenceOf_any (u v : Nat → Nat) (w : World) : Calls Try.prog 27 #[.agg (fA 3 u), .agg (fA 3 v)] w (RetF w (diffOf (fun i => canon .f32 (u i)) fun i => canon .f32 (v i))) := by
  have hU : Blk ((w.alloc (.cells (fA 3 u) 38)).alloc (.cells (fA 3 v) 38)) w.heap.size 38 (fA 3 u) := (Blk.new _ _ _).alloc _
  have hV : Blk ((w.alloc (.cells (fA 3 u) 38)).alloc (.cells (fA 3 v) 38)) (w.heap.size + 1) 38 (fA 3 v) := Blk.new_at _ _ (by simp) rfl
  have hb : Below w.heap.size w ((w.alloc (.cells (fA 3 u) 38)).alloc (.cells (fA 3 v) 38)) := (by repeat (first | assumption | exact Below.refl _ _ | refine bDrew ?_ _ | refine Below.alloc ?_ (by first | omega | (simp; done) | (simp; omega)) _ | refine Below.setCell ?_ (by first | omega | (simp; done) | (simp; omega)) _ | refine bRow ?_ (by first | omega | (simp; done) | (simp; omega)) _))
  go_enter Try.func27, Try.ntmps27
  go_wp2_with (first | (refine wpList_load_row rfl 38 _ rfl _ rfl _ _ (0, 0) _ hU Try.underlying38 rfl (by kernel_rfl) ?_) | (refine wpList_load_row rfl 38 _ rfl _ rfl _ _ (0, 0) _ hV Try.underlying38 rfl (by kernel_rfl) ?_))
  refine (l01Difference_any u v ((w.alloc (.cells (fA 3 u) 38)).alloc (.cells (fA 3 v) 38))).mono ?_
  rintro e w1 ⟨r, rfl, hr, hb1⟩
  have hb := bCall hb hb1 hb.size
  have Hr := Lib.hid hr
  clear hr hb1 hU hV
  go_wp2
  go_ret
  exact ⟨_, rfl, Hr.out, (by repeat (first | assumption | exact Below.refl _ _ | refine bDrew ?_ _ | refine Below.alloc ?_ (by first | omega | (simp; done) | (simp; omega)) _ | refine Below.setCell ?_ (by first | omega | (simp; done) | (simp; omega)) _ | refine bRow ?_ (by first | omega | (simp; done) | (simp; omega)) _))⟩
end Go.Proofs.Ytmikeegecifbfaa
