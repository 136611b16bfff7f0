/- Ratios of sixty-fourths: the test, held by the kernel at some numbers. -/
import Derived.Test.YtmikeegecifbfaaRatA
namespace Go.Proofs.Ytmikeegecifbfaa
open Go.RowKit
set_option maxRecDepth 100000
theorem rat_c0 : ratRows 16 4 = true := by decide +kernel
theorem rat_c1 : ratRows 20 4 = true := by decide +kernel
theorem rat_c2 : ratRows 24 4 = true := by decide +kernel
theorem rat_c3 : ratRows 28 4 = true := by decide +kernel
end Go.Proofs.Ytmikeegecifbfaa
