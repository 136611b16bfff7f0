/- Contracts: films of layers, the reference. -/
import Derived.Test.YtghmonkoleegjaaDG
import Derived.Deep.Cut
namespace Go.Proofs.Ytghmonkoleegjaa
open Go.RowKit
set_option maxRecDepth 100000

set_option maxHeartbeats 2000000 in
theorem l02FilmOf_any (g : Nat) (T : TypeId) (a : Nat → Nat) (w : World) (hA : Blk w g T (fA 33 a)) : Calls Try.prog 30 #[.pointer (some ⟨g, 0, none⟩)] w (RetCC 48 w (filmMade fun i => canon .f32 (a i)).1 (filmMade fun i => canon .f32 (a i)).2) := by
  have hg := hA.lt
  have hZ : Blk ((w.alloc (.cells (fA 48 fun _ => 0) 28)).alloc (.cells (fA 48 fun _ => 0) 28)) w.heap.size 28 (fA 48 fun _ => 0) := (Blk.new _ _ _).alloc _
  have hO : Blk ((w.alloc (.cells (fA 48 fun _ => 0) 28)).alloc (.cells (fA 48 fun _ => 0) 28)) (w.heap.size + 1) 28 (fA 48 fun _ => 0) := Blk.new_at _ _ (by simp) rfl
  have hb : Below w.heap.size w ((w.alloc (.cells (fA 48 fun _ => 0) 28)).alloc (.cells (fA 48 fun _ => 0) 28)) := (by repeat (first | assumption | exact Below.refl _ _ | refine bDrew ?_ _ | refine Below.alloc ?_ (by first | omega | (simp; done) | (simp; omega)) _ | refine Below.setCell ?_ (by first | omega | (simp; done) | (simp; omega)) _ | refine bRow ?_ (by first | omega | (simp; done) | (simp; omega)) _))
  have hA2 : Blk (((w.alloc (.cells (fA 48 fun _ => 0) 28)).alloc (.cells (fA 48 fun _ => 0) 28)).setRow (w.heap.size + 1) (fA 48 fun _ => 0)) g T (fA 33 a) := ((hA.alloc _).alloc _).farRow (by omega)
  have c0 : ∀ o1 o2 cs, (((w.alloc o1).alloc o2).setRow (w.heap.size + 1) cs).cell? ⟨g, 32, none⟩ = some (.float .f32 (a 32)) := fun o1 o2 cs => (Blk.cell (((hA.alloc o1).alloc o2).farRow (g' := w.heap.size + 1) (cs' := cs) (by omega)) 32).trans (get_fA_lt a (by omega))
  go_enter Try.func30, Try.ntmps30
  go_upto_region 2 with (first | (refine wpList_build_as rfl 28 _ rfl (fA 48 fun _ => 0) (by kernel_rfl) ?_) | (refine wpList_store_row rfl 28 _ _ rfl _ _ rfl rfl _ _ hO (by kernel_rfl) (by simp only [size_fA]) (all_fA _ _) ?_))
  go_simp
  go_cut [5] from 5 (fun x wc => ∃ X, x = .float .f32 X ∧ Hid (canon .f32 X = thinX (canon .f32 (a 32))) ∧ Below w.heap.size w wc ∧ Blk wc g T (fA 33 a) ∧ Blk wc w.heap.size 28 (fA 48 fun _ => 0) ∧ Blk wc (w.heap.size + 1) 28 (fA 48 fun _ => 0))
  case first =>
    go_wp2
    go_meet
    case rel => exact ⟨_, rfl, Lib.hid (c_div ..), bDrew (bRow hb (by omega) _) _, Blk.drewN hA2 _, Blk.drewN (hZ.farRow (by omega)) _, Blk.drewN hO.setRow _⟩
  case rest =>
  clear hZ hO hb hA2 c0 hA
  obtain ⟨X, rfl, HX, hb, hA, hZ, hO⟩ := hcut
  go_wp2
  go_loopw [6, 7, 8, 9, 10, 11] (fun i _ _ _ _ _ wr => ∃ (k : Nat) (cur : Nat → Nat), k ≤ 16 ∧ i = .int .i64 k ∧ Below w.heap.size w wr ∧ Blk wr g T (fA 33 a) ∧ Blk wr w.heap.size 28 (fA 48 fun _ => 0) ∧ Blk wr (w.heap.size + 1) 28 (fA 48 cur) ∧ Hid ((∀ j, j < k → (!tooStrong (canon .f32 (a j)) (canon .f32 (a (16 + j))) (thinX (canon .f32 (a 32)))) = true) ∧ Filled (fun i => canon .f32 (a i)) cur k)) (fun i _ _ _ _ _ _ => 16 - (intOf i).toNat)
  case atStart => exact ⟨0, fun _ => 0, by omega, rfl, hb, hA, hZ, hO, Lib.hid ⟨fun j h => absurd h (by omega), fun j h => absurd h (by omega)⟩⟩
  case round =>
    clear hO hA hZ hb
    obtain ⟨k, cur, hk, rfl, hb, hA, hZ, hC, HC⟩ := hrel
    by_cases hlt : k < 16
    · have c0 : wr.cell? ⟨g, k, none⟩ = some (.float .f32 (a k)) := (hA.cell k).trans (get_fA_lt a (by omega))
      have c1 : wr.cell? ⟨g, 16 + k, none⟩ = some (.float .f32 (a (16 + k))) := (hA.cell (16 + k)).trans (get_fA_lt a (by omega))
      go_wp2_with fail
      (refine wp_region_loose_lit (fun w' => ∃ n, w' = wr.drewN n) (fun _ _ _ => False) (by kernel_rfl) (by kernel_rfl) ⟨fcnt .mul .f32 (a (16 + k)) X + 1, rfl⟩ ?_)
      repeat (refine wpLoose_plain rfl (fun K hK w1 hw1 => ?_); obtain ⟨n, rfl⟩ := hw1; go_simp; refine ⟨⟨_, rfl⟩, hK _ ?_⟩; clear hK K)
      (refine wpLoose_nil ?_; intro _ hw'; obtain ⟨nq, rfl⟩ := hw')
      clear c0 c1
      have hc1 : ∀ w1 w2 w3 w4, (FloatKind.f32.format.order (fval .sub .f32 (fval .sub .f32 1065353216 (fval .mul .f32 (a k) X w1) w2) (fval .mul .f32 (a (16 + k)) X w3) w4) 0 == some .lt) = flt (thinT (canon .f32 (a k)) (canon .f32 (a (16 + k))) (thinX (canon .f32 (a 32)))) (canon .f32 0) := fun w1 w2 w3 w4 => by rw [o_lt, c_sub, c_sub, c_mul, c_mul, HX.out]; rfl
      have hc2 : ∀ w1, (FloatKind.f32.format.order (fval .mul .f32 (a (16 + k)) X w1) 1065353216 == some .gt) = fgt (thinR (canon .f32 (a (16 + k))) (thinX (canon .f32 (a 32)))) (canon .f32 1065353216) := fun w1 => by rw [o_gt, c_mul, HX.out]; rfl
      cases h1 : flt (thinT (canon .f32 (a k)) (canon .f32 (a (16 + k))) (thinX (canon .f32 (a 32)))) (canon .f32 0) with
      | true =>
        have Hm : Hid ((filmMade fun i => canon .f32 (a i)) = (fun _ => canon .f32 0, 3)) := Lib.hid (by
          have hq : (allTo 16 fun i => !tooStrong (canon .f32 (a i)) (canon .f32 (a (16 + i))) (thinX (canon .f32 (a 32)))) = false := allTo_false hlt (by simp only [tooStrong, strong, h1, Bool.true_or, Bool.not_true])
          simp only [filmMade, hq, Bool.false_eq_true, if_false])
        rw [h1] at hc1
        have hZ := Blk.drewN hZ nq
        have hb := bDrew hb nq
        clear h1 hc2
        go_wp2_with (first | (refine wpList_build_as rfl 28 _ rfl (fA 48 fun _ => 0) (by kernel_rfl) ?_) | (refine wpList_store_row rfl 28 _ _ rfl _ _ rfl rfl _ _ hZ (by kernel_rfl) (by simp only [size_fA]) (all_fA _ _) ?_)); exact bodyPost_ret (results_cell_row2 rfl _ _ (w.heap.size) _ _ _ _ rfl hZ.setRow Try.underlying28 rfl (by kernel_rfl)) rfl (RetCC.as Hm.out ⟨_, rfl, fun _ _ => rfl, (by repeat (first | assumption | exact Below.refl _ _ | refine bDrew ?_ _ | refine Below.alloc ?_ (by first | omega | (simp; done) | (simp; omega)) _ | refine Below.setCell ?_ (by first | omega | (simp; done) | (simp; omega)) _ | refine bRow ?_ (by first | omega | (simp; done) | (simp; omega)) _))⟩)
      | false =>
        rw [h1] at hc1
        cases h2 : fgt (thinR (canon .f32 (a (16 + k))) (thinX (canon .f32 (a 32)))) (canon .f32 1065353216) with
        | true =>
          have Hm : Hid ((filmMade fun i => canon .f32 (a i)) = (fun _ => canon .f32 0, 3)) := Lib.hid (by
            have hq : (allTo 16 fun i => !tooStrong (canon .f32 (a i)) (canon .f32 (a (16 + i))) (thinX (canon .f32 (a 32)))) = false := allTo_false hlt (by simp only [tooStrong, strong, h1, h2, Bool.false_or, Bool.not_true])
            simp only [filmMade, hq, Bool.false_eq_true, if_false])
          rw [h2] at hc2
          have hZ := Blk.drewN hZ nq
          have hb := bDrew hb nq
          clear h1 h2
          go_wp2_with (first | (refine wpList_build_as rfl 28 _ rfl (fA 48 fun _ => 0) (by kernel_rfl) ?_) | (refine wpList_store_row rfl 28 _ _ rfl _ _ rfl rfl _ _ hZ (by kernel_rfl) (by simp only [size_fA]) (all_fA _ _) ?_)); exact bodyPost_ret (results_cell_row2 rfl _ _ (w.heap.size) _ _ _ _ rfl hZ.setRow Try.underlying28 rfl (by kernel_rfl)) rfl (RetCC.as Hm.out ⟨_, rfl, fun _ _ => rfl, (by repeat (first | assumption | exact Below.refl _ _ | refine bDrew ?_ _ | refine Below.alloc ?_ (by first | omega | (simp; done) | (simp; omega)) _ | refine Below.setCell ?_ (by first | omega | (simp; done) | (simp; omega)) _ | refine bRow ?_ (by first | omega | (simp; done) | (simp; omega)) _))⟩)
        | false =>
          have HS : Hid ((!tooStrong (canon .f32 (a k)) (canon .f32 (a (16 + k))) (thinX (canon .f32 (a 32)))) = true) := Lib.hid (by simp only [tooStrong, strong, h1, h2, Bool.false_or, Bool.not_false])
          rw [h2] at hc2
          clear h1 h2
          go_wp2
          clear hc1 hc2
          go_loopw [7, 8, 9, 10, 11] (fun r t n _ _ w2 => ∃ (m rr tt : Nat), m ≤ 10 ∧ n = .int .i64 m ∧ r = .float .f32 rr ∧ t = .float .f32 tt ∧ Hid ((canon .f32 rr, canon .f32 tt) = dblN (thin (canon .f32 (a k)) (canon .f32 (a (16 + k))) (thinX (canon .f32 (a 32)))) m) ∧ ∃ n, w2 = wr.drewN n) (fun _ _ n _ _ _ => 10 - (intOf n).toNat)
          case atStart => exact ⟨0, _, _, by omega, rfl, rfl, rfl, Lib.hid (by rw [c_sub, c_sub, c_mul, c_mul, c_mul, HX.out]; rfl), _, rfl⟩
          case round =>
            obtain ⟨m, rr, tt, hm, rfl, rfl, rfl, HR, n0, rfl⟩ := hrel
            by_cases hlt2 : m < 10
            · go_wp2
              go_roundw
              case rel => exact ⟨m + 1, _, _, by omega, by go_num, rfl, rfl, Lib.hid (by simp only [c_add, c_div, c_mul, c_sub]; show dbl (canon .f32 rr, canon .f32 tt) = _; rw [HR.out]; rfl), _, rfl⟩
              case measure => simp [intOf]; omega
            · obtain rfl : m = 10 := by omega
              have c3 : wr.cell? ⟨w.heap.size + 1, k, none⟩ = some (.float .f32 (cur k)) := (hC.cell k).trans (get_fA_lt cur (by omega))
              have c4 : wr.cell? ⟨w.heap.size + 1, 16 + k, none⟩ = some (.float .f32 (cur (16 + k))) := (hC.cell (16 + k)).trans (get_fA_lt cur (by omega))
              have c5 : wr.cell? ⟨w.heap.size + 1, 32 + k, none⟩ = some (.float .f32 (cur (32 + k))) := (hC.cell (32 + k)).trans (get_fA_lt cur (by omega))
              have f3 := hC.frozen k
              have f4 := hC.frozen (16 + k)
              have f5 := hC.frozen (32 + k)
              go_wp2
              go_roundw
              case rel =>
                refine ⟨k + 1, _, by omega, by go_num, (((bDrew hb _).setCell (by dsimp only; omega) _).setCell (by dsimp only; omega) _).setCell (by dsimp only; omega) _, Blk.far (Blk.far (Blk.far (Blk.drewN hA _) (by dsimp only; omega) _) (by dsimp only; omega) _) (by dsimp only; omega) _, Blk.far (Blk.far (Blk.far (Blk.drewN hZ _) (by dsimp only; omega) _) (by dsimp only; omega) _) (by dsimp only; omega) _, Blk.setF (Blk.setF (Blk.setF (Blk.drewN hC _) k _) (16 + k) _) (32 + k) _, Lib.hid ⟨?_, HC.out.2.next hlt (congrArg (·.1) HR.out) (congrArg (·.2) HR.out)⟩⟩
                intro j hj
                by_cases e : j = k
                · subst e; exact HS.out
                · exact HC.out.1 j (by omega)
              case measure => simp [intOf]; omega
    · obtain rfl : k = 16 := by omega
      have Hm : Hid ((filmMade fun i => canon .f32 (a i)) = ((finFilmRes (filmAt fun i => canon .f32 (a i))).1, (finFilmRes (filmAt fun i => canon .f32 (a i))).2)) := Lib.hid (by
        have hq : (allTo 16 fun i => !tooStrong (canon .f32 (a i)) (canon .f32 (a (16 + i))) (thinX (canon .f32 (a 32)))) = true := allTo_true HC.out.1
        simp only [filmMade, hq, if_true])
      go_wp2_with (refine wpList_load_row rfl 28 _ rfl _ rfl _ _ (0, 0) _ hC Try.underlying28 rfl (by kernel_rfl) ?_)
      refine (l02Made_any cur wr).mono ?_
      rintro e w4 ⟨q, rfl, hq, hb1⟩
      have hZ := hZ.below hb1 hZ.lt
      have hb := bCall hb hb1 hb.size
      have Hq := Lib.hid hq
      clear hq hb1
      go_wp2_with (refine wpList_store_row rfl 28 _ _ rfl _ _ rfl rfl _ _ hZ (by kernel_rfl) (by simp only [size_fA]) (all_fA _ _) ?_)
      exact bodyPost_ret (results_cell_row2 rfl _ _ (w.heap.size) _ _ _ _ rfl hZ.setRow Try.underlying28 rfl (by kernel_rfl)) rfl (RetCC.as Hm.out (finFilm_congr HC.out.2.all ⟨q, rfl, Hq.out, (by repeat (first | assumption | exact Below.refl _ _ | refine bDrew ?_ _ | refine Below.alloc ?_ (by first | omega | (simp; done) | (simp; omega)) _ | refine Below.setCell ?_ (by first | omega | (simp; done) | (simp; omega)) _ | refine bRow ?_ (by first | omega | (simp; done) | (simp; omega)) _))⟩))
end Go.Proofs.Ytghmonkoleegjaa
