/- Contracts: products, sameness of numbers, sums, what is made of the numbers of curves by a function value. -/
import Derived.Test.YtbdbeaebeedakaaDoorCA
namespace Go.Proofs.YtbdbeaebeedakaaDoor
open Go.RowKit
set_option maxRecDepth 100000


theorem bits32 (b : Nat) (w : World) : (callFunc 28 #[.float .f32 b]).run Tryd.prog w = .ok (.value (.int .u32 b)) w := by kernel_rfl



end Go.Proofs.YtbdbeaebeedakaaDoor
