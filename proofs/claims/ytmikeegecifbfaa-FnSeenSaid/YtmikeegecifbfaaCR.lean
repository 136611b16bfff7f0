/- Contracts: turned films, layers out of curves, sums of products. -/
import Derived.Test.YtmikeegecifbfaaCQ
namespace Go.Proofs.Ytmikeegecifbfaa
open Go.RowKit
set_option maxRecDepth 100000

theorem RetCC.as {n : Nat} {w : World} {p : Nat → Option Nat} {c : Int} {q : (Nat → Option Nat) × Int} {e : Ending} {w' : World} (h : q = (p, c)) (hr : RetCC n w p c e w') : RetCC n w q.1 q.2 e w' := by subst h; exact hr

theorem l01Dot_any (c d : Nat → Nat) (w : World) : Calls Try.prog 72 #[.agg (fA 16 c), .agg (fA 16 d)] w (RetF w (fsumTo (fun i => fmul (canon .f32 (c i)) (canon .f32 (d i))) 16)) := by
  have hC : Blk ((w.alloc (.cells (fA 16 c) 26)).alloc (.cells (fA 16 d) 26)) w.heap.size 26 (fA 16 c) := (Blk.new _ _ _).alloc _
  have hD : Blk ((w.alloc (.cells (fA 16 c) 26)).alloc (.cells (fA 16 d) 26)) (w.heap.size + 1) 26 (fA 16 d) := Blk.new_at _ _ (by simp) rfl
  have c0 := (hC.cell 0).trans (get_fA_lt c (by omega))
  have d0 := (hD.cell 0).trans (get_fA_lt d (by omega))
  have hb : Below w.heap.size w ((w.alloc (.cells (fA 16 c) 26)).alloc (.cells (fA 16 d) 26)) := (by repeat (first | assumption | exact Below.refl _ _ | refine bDrew ?_ _ | refine Below.alloc ?_ (by first | omega | (simp; done) | (simp; omega)) _ | refine Below.setCell ?_ (by first | omega | (simp; done) | (simp; omega)) _ | refine bRow ?_ (by first | omega | (simp; done) | (simp; omega)) _))
  go_enter Try.func72, Try.ntmps72
  go_wp2
  go_loopw [5, 6] (fun s i wr => ∃ (k r : Nat), 1 ≤ k ∧ k ≤ 16 ∧ i = .int .i64 k ∧ s = .float .f32 r ∧ canon .f32 r = fsumTo (fun i => fmul (canon .f32 (c i)) (canon .f32 (d i))) k ∧ Below w.heap.size w wr ∧ Blk wr w.heap.size 26 (fA 16 c) ∧ Blk wr (w.heap.size + 1) 26 (fA 16 d)) (fun _ i _ => 16 - (intOf i).toNat)
  case atStart => exact ⟨1, _, by omega, by omega, rfl, rfl, c_mul .., bDrew hb _, Blk.drewN hC _, Blk.drewN hD _⟩
  case round =>
    clear c0 d0 hC hD hb
    obtain ⟨k, r, h1, hk, rfl, rfl, hr, hb, hC, hD⟩ := hrel
    have Hr := Lib.hid hr
    clear hr
    by_cases hlt : k < 16
    · have c1 := (hC.cell k).trans (get_fA_lt c hlt)
      have c2 := (hD.cell k).trans (get_fA_lt d hlt)
      have Hk : Hid (k - 1 + 1 = k) := by unfold Hid; omega
      go_wp2_with fail
      refine wp_region_loose_lit (fun w' => ∃ n, w' = wr.drewN n) (fun _ _ _ => False) (by kernel_rfl) (by kernel_rfl) ⟨1, rfl⟩ ?_
      repeat (refine wpLoose_plain rfl (fun K hK w1 hw1 => ?_); obtain ⟨n, rfl⟩ := hw1; go_simp; refine ⟨⟨_, rfl⟩, hK _ ?_⟩; clear hK K)
      (refine wpLoose_nil ?_; intro _ hw'; obtain ⟨nq, rfl⟩ := hw')
      go_wp2
      go_roundw
      case rel =>
        refine ⟨k + 1, _, by omega, by omega, by go_num, rfl, ?_, (by repeat (first | assumption | exact Below.refl _ _ | refine bDrew ?_ _ | refine Below.alloc ?_ (by first | omega | (simp; done) | (simp; omega)) _ | refine Below.setCell ?_ (by first | omega | (simp; done) | (simp; omega)) _ | refine bRow ?_ (by first | omega | (simp; done) | (simp; omega)) _)), Blk.drewN hC _, Blk.drewN hD _⟩
        rw [c_add, c_mul, Hr.out]
        have := Hk.out
        generalize k - 1 = q at this
        subst this
        rfl
      case measure => simp [intOf]; omega
    · obtain rfl : k = 16 := by omega
      go_wp2
      go_ret
      exact ⟨_, rfl, Hr.out, hb⟩
theorem fsumTo_congr {p q : Nat → Option Nat} : ∀ {n : Nat}, (∀ i, i < n → p i = q i) → fsumTo p n = fsumTo q n
  | 0, _ => rfl
  | 1, h => h 0 (by omega)
  | n + 2, h => by
    show fadd (fsumTo p (n + 1)) (p (n + 1)) = fadd (fsumTo q (n + 1)) (q (n + 1))
    rw [fsumTo_congr (n := n + 1) fun i hi => h i (by omega), h (n + 1) (by omega)]
theorem iDotOfCurves_any (c d : Nat → Nat) (w : World) : Calls Try.prog 46 #[.agg (fA 16 c), .agg (fA 16 d)] w (RetF w (fsumTo (fun i => fmul (canon .f32 (c i)) (canon .f32 (d i))) 16)) := by
  have hC : Blk ((w.alloc (.cells (fA 16 c) 26)).alloc (.cells (fA 16 d) 26)) w.heap.size 26 (fA 16 c) := (Blk.new _ _ _).alloc _
  have hD : Blk ((w.alloc (.cells (fA 16 c) 26)).alloc (.cells (fA 16 d) 26)) (w.heap.size + 1) 26 (fA 16 d) := Blk.new_at _ _ (by simp) rfl
  have hb : Below w.heap.size w ((w.alloc (.cells (fA 16 c) 26)).alloc (.cells (fA 16 d) 26)) := (by repeat (first | assumption | exact Below.refl _ _ | refine bDrew ?_ _ | refine Below.alloc ?_ (by first | omega | (simp; done) | (simp; omega)) _ | refine Below.setCell ?_ (by first | omega | (simp; done) | (simp; omega)) _ | refine bRow ?_ (by first | omega | (simp; done) | (simp; omega)) _))
  go_enter Try.func46, Try.ntmps46
  go_wp2_with (first | (refine wpList_load_row rfl 26 _ rfl _ rfl _ _ (0, 0) _ hC Try.underlying26 rfl (by kernel_rfl) ?_) | (refine wpList_load_row rfl 26 _ rfl _ rfl _ _ (0, 0) _ hD Try.underlying26 rfl (by kernel_rfl) ?_))
  refine (iMulCurves_any c d _).mono ?_
  rintro e w1 ⟨r, rfl, hr, hb1⟩
  have hb := bCall hb hb1 hb.size
  have Hr := Lib.hid hr
  clear hr hb1
  go_wp2_with fail
  refine (iSumOfCurve_any r w1).mono ?_
  rintro e w2 ⟨q, rfl, hq, hb1⟩
  have Hq := Lib.hid hq
  clear hq
  go_wp2
  go_ret
  exact ⟨_, rfl, Hq.out.trans (fsumTo_congr Hr.out), bCall hb hb1 hb.size⟩
end Go.Proofs.Ytmikeegecifbfaa
