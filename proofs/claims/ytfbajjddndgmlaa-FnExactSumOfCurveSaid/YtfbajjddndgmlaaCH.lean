/- Contracts: sums of curves, sameness of curves, lights, names of codes. -/
import Derived.Test.YtfbajjddndgmlaaCG
namespace Go.Proofs.Ytfbajjddndgmlaa
open Go.RowKit

theorem iSumOfCurve_any (c : Nat → Nat) (w : World) : Calls Try.prog 24 #[.agg (fA 16 c)] w (RetF w (fsumTo (fun i => canon .f32 (c i)) 16)) := by
  have hsl : ∀ (g : Nat) (w : World), (Instr.sliceAt 28 (.pointer (some ⟨g, 0, none⟩)) none none none).run Try.prog w = .ok (.slice (some ⟨g, 0, none⟩) 16 16) w := fun _ _ => by kernel_rfl
  go_enter Try.func24, Try.ntmps24
  go_wp2_with fail
  refine (sum_any _ 16 _ c _ (Blk.new w _ _) (by omega)).mono ?_
  rintro e w1 ⟨r, rfl, hr, n, rfl⟩
  have Hr := Lib.hid hr
  clear hr
  go_wp2
  go_ret
  exact ⟨_, rfl, Hr.out, (by repeat (first | assumption | exact Below.refl _ _ | refine bDrew ?_ _ | refine Below.alloc ?_ (by first | omega | (simp; done) | (simp; omega)) _ | refine Below.setCell ?_ (by first | omega | (simp; done) | (simp; omega)) _ | refine bRow ?_ (by first | omega | (simp; done) | (simp; omega)) _))⟩
theorem sSumOfCurve_any (c : Nat → Nat) (w : World) : Calls Try.prog 22 #[.agg (fA 16 c)] w (RetF w (fsumTo (fun i => canon .f32 (c i)) 16)) := by
  go_enter Try.func22, Try.ntmps22
  have c0 := (((Blk.new w 28 (fA 16 c)).cell 0).trans (get_fA_lt c (by omega)))
  go_wp2
  go_loopw [3, 4] (fun s i wr => ∃ (k r : Nat), 1 ≤ k ∧ k ≤ 16 ∧ i = .int .i64 k ∧ s = .float .f32 r ∧ canon .f32 r = fsumTo (fun i => canon .f32 (c i)) k ∧ Below w.heap.size w wr ∧ Blk wr w.heap.size 28 (fA 16 c)) (fun _ i _ => 16 - (intOf i).toNat)
  case atStart => exact ⟨1, c 0, by omega, by omega, rfl, rfl, rfl, (by repeat (first | assumption | exact Below.refl _ _ | refine bDrew ?_ _ | refine Below.alloc ?_ (by first | omega | (simp; done) | (simp; omega)) _ | refine Below.setCell ?_ (by first | omega | (simp; done) | (simp; omega)) _ | refine bRow ?_ (by first | omega | (simp; done) | (simp; omega)) _)), (by first | assumption | (repeat (first | assumption | (apply Blk.new_at; (focus (simp; done)); rfl) | apply Blk.alloc | apply Blk.drewN)))⟩
  case round =>
    obtain ⟨k, r, h1, hk, rfl, rfl, hr, hb, hC⟩ := hrel
    have Hr := Lib.hid hr
    clear hr c0
    by_cases hlt : k < 16
    · have c1 := (hC.cell k).trans (get_fA_lt c hlt)
      have Hk : Hid (k - 1 + 1 = k) := by unfold Hid; omega
      go_wp2
      go_roundw
      case rel =>
        refine ⟨k + 1, _, by omega, by omega, by go_num, rfl, ?_, (by repeat (first | assumption | exact Below.refl _ _ | refine bDrew ?_ _ | refine Below.alloc ?_ (by first | omega | (simp; done) | (simp; omega)) _ | refine Below.setCell ?_ (by first | omega | (simp; done) | (simp; omega)) _ | refine bRow ?_ (by first | omega | (simp; done) | (simp; omega)) _)), Blk.drewN hC _⟩
        rw [c_add, Hr.out]
        have := Hk.out
        generalize k - 1 = q at this
        subst this
        rfl
      case measure => simp [intOf]; omega
    · obtain rfl : k = 16 := by omega
      go_wp2
      go_ret
      exact ⟨_, rfl, Hr.out, hb⟩
end Go.Proofs.Ytfbajjddndgmlaa
