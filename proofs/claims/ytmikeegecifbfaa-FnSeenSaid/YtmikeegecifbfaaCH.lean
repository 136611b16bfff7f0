/- Contracts: sums of curves, sameness of curves, lights, names of codes. -/
import Derived.Test.YtmikeegecifbfaaCG
namespace Go.Proofs.Ytmikeegecifbfaa
open Go.RowKit
set_option maxRecDepth 100000

theorem iSumOfCurve_any (c : Nat → Nat) (w : World) : Calls Try.prog 70 #[.agg (fA 16 c)] w (RetF w (fsumTo (fun i => canon .f32 (c i)) 16)) := by
  have hsl : ∀ (g : Nat) (w : World), (Instr.sliceAt 26 (.pointer (some ⟨g, 0, none⟩)) none none none).run Try.prog w = .ok (.slice (some ⟨g, 0, none⟩) 16 16) w := fun _ _ => by kernel_rfl
  go_enter Try.func70, Try.ntmps70
  go_wp2_with fail
  refine (sum_any _ 16 _ c _ (Blk.new w _ _) (by omega)).mono ?_
  rintro e w1 ⟨r, rfl, hr, n, rfl⟩
  have Hr := Lib.hid hr
  clear hr
  go_wp2
  go_ret
  exact ⟨_, rfl, Hr.out, (by repeat (first | assumption | exact Below.refl _ _ | refine bDrew ?_ _ | refine Below.alloc ?_ (by first | omega | (simp; done) | (simp; omega)) _ | refine Below.setCell ?_ (by first | omega | (simp; done) | (simp; omega)) _ | refine bRow ?_ (by first | omega | (simp; done) | (simp; omega)) _))⟩
end Go.Proofs.Ytmikeegecifbfaa
