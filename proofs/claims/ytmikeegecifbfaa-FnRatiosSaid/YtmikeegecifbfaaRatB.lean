/- Ratios of sixty-fourths: the test, held by the kernel at some numbers. -/
import Derived.Test.YtmikeegecifbfaaRatA
namespace Go.Proofs.Ytmikeegecifbfaa
open Go.RowKit
set_option maxRecDepth 100000
theorem rat_b0 : ratRows 0 4 = true := by decide +kernel
theorem rat_b1 : ratRows 4 4 = true := by decide +kernel
theorem rat_b2 : ratRows 8 4 = true := by decide +kernel
theorem rat_b3 : ratRows 12 4 = true := by decide +kernel
end Go.Proofs.Ytmikeegecifbfaa
