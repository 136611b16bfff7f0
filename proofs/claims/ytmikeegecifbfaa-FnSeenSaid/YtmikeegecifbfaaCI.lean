/- Contracts: sameness of curves and looks. -/
import Derived.Test.YtmikeegecifbfaaCC
namespace Go.Proofs.Ytmikeegecifbfaa
open Go.RowKit
set_option maxRecDepth 100000

theorem l01SameCurve_any (a b : Nat → Nat) (w : World) :
    Calls Try.prog 44 #[.agg (fA 16 a), .agg (fA 16 b)] w (RetB w (allTo 16 fun i => canon .f32 (a i) == canon .f32 (b i))) := by
  go_enter Try.func44, Try.ntmps44
  go_wp2
  go_loopw [5] (fun i wr => ∃ (k : Nat), k ≤ 16 ∧ i = .int .i64 k ∧ Below w.heap.size w wr ∧ Blk wr w.heap.size 26 (fA 16 a) ∧ Blk wr (w.heap.size + 1) 26 (fA 16 b) ∧ ∀ j, j < k → (canon .f32 (a j) == canon .f32 (b j)) = true) (fun i _ => 16 - (intOf i).toNat)
  case atStart => exact ⟨0, by omega, rfl, (by repeat (first | assumption | exact Below.refl _ _ | refine bDrew ?_ _ | refine Below.alloc ?_ (by first | omega | (simp; done) | (simp; omega)) _ | refine Below.setCell ?_ (by first | omega | (simp; done) | (simp; omega)) _ | refine bRow ?_ (by first | omega | (simp; done) | (simp; omega)) _)), (by first | assumption | (repeat (first | assumption | (apply Blk.new_at; (focus (simp; done)); rfl) | apply Blk.alloc | apply Blk.drewN))), (by first | assumption | (repeat (first | assumption | (apply Blk.new_at; (focus (simp; done)); rfl) | apply Blk.alloc | apply Blk.drewN))), fun j h => absurd h (by omega)⟩
  case round =>
    obtain ⟨k, hk, rfl, hb, hA, hB, hc⟩ := hrel
    have Hc := Lib.hid hc
    clear hc
    by_cases hlt : k < 16
    · have c1 := (hA.cell k).trans (get_fA_lt a hlt)
      have c2 := (hB.cell k).trans (get_fA_lt b hlt)
      cases hq : (canon .f32 (a k) == canon .f32 (b k)) with
      | false =>
        have Hq := Lib.hid hq
        clear hq
        go_wp2_with fail
        refine wp_region_loose_lit (fun w' => ∃ n, w' = wr.drewN n) (fun f args u => u = .bool false) (by kernel_rfl) (by kernel_rfl) ⟨1, rfl⟩ ?_
        repeat (refine wpLoose_plain rfl (fun K hK w1 hw1 => ?_); obtain ⟨n, rfl⟩ := hw1; go_simp; refine ⟨⟨_, rfl⟩, hK _ ?_⟩; clear hK K)
        refine wpLoose_plain rfl (fun K hK w1 hw1 => ?_); obtain ⟨n, rfl⟩ := hw1; go_simp
        refine ⟨⟨_, rfl⟩, (l01Same_any _ _ _).mono ?_, fun u hu => hK _ ?_⟩
        · rintro e w' ⟨rfl, m, rfl⟩; exact ⟨_, rfl, by rw [Hq.out], _, by rw [World.drewN_drewN]⟩
        clear hK K
        obtain rfl := hu
        repeat (refine wpLoose_plain rfl (fun K hK w1 hw1 => ?_); obtain ⟨n, rfl⟩ := hw1; go_simp; refine ⟨⟨_, rfl⟩, hK _ ?_⟩; clear hK K)
        (refine wpLoose_nil ?_; intro _ hw'; obtain ⟨nq, rfl⟩ := hw')
        go_wp2
        go_ret
        exact ⟨congrArg (fun x => Ending.returned (Value.bool x)) (allTo_false hlt Hq.out).symm, (by repeat (first | assumption | exact Below.refl _ _ | refine bDrew ?_ _ | refine Below.alloc ?_ (by first | omega | (simp; done) | (simp; omega)) _ | refine Below.setCell ?_ (by first | omega | (simp; done) | (simp; omega)) _ | refine bRow ?_ (by first | omega | (simp; done) | (simp; omega)) _))⟩
      | true =>
        have Hq := Lib.hid hq
        clear hq
        go_wp2_with fail
        refine wp_region_loose_lit (fun w' => ∃ n, w' = wr.drewN n) (fun f args u => u = .bool true) (by kernel_rfl) (by kernel_rfl) ⟨1, rfl⟩ ?_
        repeat (refine wpLoose_plain rfl (fun K hK w1 hw1 => ?_); obtain ⟨n, rfl⟩ := hw1; go_simp; refine ⟨⟨_, rfl⟩, hK _ ?_⟩; clear hK K)
        refine wpLoose_plain rfl (fun K hK w1 hw1 => ?_); obtain ⟨n, rfl⟩ := hw1; go_simp
        refine ⟨⟨_, rfl⟩, (l01Same_any _ _ _).mono ?_, fun u hu => hK _ ?_⟩
        · rintro e w' ⟨rfl, m, rfl⟩; exact ⟨_, rfl, by rw [Hq.out], _, by rw [World.drewN_drewN]⟩
        clear hK K
        obtain rfl := hu
        repeat (refine wpLoose_plain rfl (fun K hK w1 hw1 => ?_); obtain ⟨n, rfl⟩ := hw1; go_simp; refine ⟨⟨_, rfl⟩, hK _ ?_⟩; clear hK K)
        (refine wpLoose_nil ?_; intro _ hw'; obtain ⟨nq, rfl⟩ := hw')
        go_wp2
        go_roundw
        case rel =>
          refine ⟨k + 1, by omega, by go_num, (by repeat (first | assumption | exact Below.refl _ _ | refine bDrew ?_ _ | refine Below.alloc ?_ (by first | omega | (simp; done) | (simp; omega)) _ | refine Below.setCell ?_ (by first | omega | (simp; done) | (simp; omega)) _ | refine bRow ?_ (by first | omega | (simp; done) | (simp; omega)) _)), Blk.drewN hA _, Blk.drewN hB _, ?_⟩
          intro j hj
          by_cases e : j = k
          · subst e; exact Hq.out
          · exact Hc.out j (by omega)
        case measure => simp [intOf]; omega
    · obtain rfl : k = 16 := by omega
      go_wp2
      go_ret
      exact ⟨congrArg (fun x => Ending.returned (Value.bool x)) (allTo_true Hc.out).symm, hb⟩
theorem sSameCurve_any (a b : Nat → Nat) (w : World) :
    Calls Try.prog 14 #[.agg (fA 16 a), .agg (fA 16 b)] w (RetB w (allTo 16 fun i => canon .f32 (a i) == canon .f32 (b i))) := by
  go_enter Try.func14, Try.ntmps14
  go_wp2_with (refine (l01SameCurve_any _ _ _).mono ?_; rintro e w1 ⟨rfl, hb⟩)
  go_ret
  exact ⟨rfl, bCall (by repeat (first | assumption | exact Below.refl _ _ | refine bDrew ?_ _ | refine Below.alloc ?_ (by first | omega | (simp; done) | (simp; omega)) _ | refine Below.setCell ?_ (by first | omega | (simp; done) | (simp; omega)) _ | refine bRow ?_ (by first | omega | (simp; done) | (simp; omega)) _)) hb (by first | omega | (simp; done) | (simp; omega))⟩
theorem iSameThree_any (a b : Nat → Nat) (w : World) :
    Calls Try.prog 23 #[.agg (fA 3 a), .agg (fA 3 b)] w (RetB w (allTo 3 fun i => canon .f32 (a i) == canon .f32 (b i))) := by
  have hsl : ∀ (g : Nat) (w : World), (Instr.sliceAt 38 (.pointer (some ⟨g, 0, none⟩)) none none none).run Try.prog w = .ok (.slice (some ⟨g, 0, none⟩) 3 3) w := fun _ _ => by kernel_rfl
  go_enter Try.func23, Try.ntmps23
  go_wp2_with fail
  obtain ⟨W, hW⟩ : ∃ W : World, W = (w.alloc (.cells (fA 3 a) 38)).alloc (.cells (fA 3 b) 38) := ⟨_, rfl⟩
  have hA : Blk W w.heap.size 38 (fA 3 a) := by subst hW; exact (Blk.new w _ _).alloc _
  have hB : Blk W (w.heap.size + 1) 38 (fA 3 b) := by subst hW; exact Blk.new_at _ _ (by simp) rfl
  have hb : Below w.heap.size w W := by subst hW; exact (by repeat (first | assumption | exact Below.refl _ _ | refine bDrew ?_ _ | refine Below.alloc ?_ (by first | omega | (simp; done) | (simp; omega)) _ | refine Below.setCell ?_ (by first | omega | (simp; done) | (simp; omega)) _ | refine bRow ?_ (by first | omega | (simp; done) | (simp; omega)) _))
  rw [← hW]
  clear hW
  refine wp_region_loose_lit (fun w' => ∃ n, w' = W.drewN n) (fun f args u => u = .bool (allTo 3 fun i => canon .f32 (a i) == canon .f32 (b i))) (by kernel_rfl) (by kernel_rfl) ⟨1, rfl⟩ ?_
  repeat (refine wpLoose_plain rfl (fun K hK w1 hw1 => ?_); obtain ⟨n, rfl⟩ := hw1; go_simp; refine ⟨⟨_, rfl⟩, hK _ ?_⟩; clear hK K)
  refine wpLoose_plain rfl (fun K hK w1 hw1 => ?_); obtain ⟨n, rfl⟩ := hw1; go_simp
  refine ⟨⟨_, rfl⟩, (equalFunc_any _ _ 3 _ _ a b _ (Blk.drewN hA n) (Blk.drewN hB n) (by omega)).mono ?_, fun u hu => hK _ ?_⟩
  · rintro e w' ⟨rfl, m, rfl⟩; exact ⟨_, rfl, rfl, _, by rw [World.drewN_drewN]⟩
  clear hK K
  obtain rfl := hu
  repeat (refine wpLoose_plain rfl (fun K hK w1 hw1 => ?_); obtain ⟨n, rfl⟩ := hw1; go_simp; refine ⟨⟨_, rfl⟩, hK _ ?_⟩; clear hK K)
  (refine wpLoose_nil ?_; intro _ hw'; obtain ⟨nq, rfl⟩ := hw')
  go_wp2
  go_ret
  exact ⟨rfl, (by repeat (first | assumption | exact Below.refl _ _ | refine bDrew ?_ _ | refine Below.alloc ?_ (by first | omega | (simp; done) | (simp; omega)) _ | refine Below.setCell ?_ (by first | omega | (simp; done) | (simp; omega)) _ | refine bRow ?_ (by first | omega | (simp; done) | (simp; omega)) _))⟩
end Go.Proofs.Ytmikeegecifbfaa
