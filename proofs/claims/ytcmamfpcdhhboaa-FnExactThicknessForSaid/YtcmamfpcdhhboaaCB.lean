/- Contracts: products, sameness of numbers, sums, what is made of the numbers of curves by a function value. -/
import Derived.Test.YtcmamfpcdhhboaaCA
namespace Go.Proofs.Ytcmamfpcdhhboaa
open Go.RowKit
set_option maxRecDepth 100000

theorem mul_any (a b : Nat) (w : World) : Calls Try.prog 48 #[.float .f32 a, .float .f32 b] w (RetFq w (fmul (canon .f32 a) (canon .f32 b))) := by
  go_enter Try.func48, Try.ntmps48
  go_wp2
  go_ret
  exact ⟨_, rfl, c_mul .., _, rfl⟩
theorem mul_enters : Enters Try.prog 48 := fun _ _ => by kernel_rfl




end Go.Proofs.Ytcmamfpcdhhboaa
