/- Ratios of sixty-fourths: the test, held by the kernel at some numbers. -/
import Derived.Test.YtmikeegecifbfaaRatA
namespace Go.Proofs.Ytmikeegecifbfaa
open Go.RowKit
set_option maxRecDepth 100000
theorem rat_d0 : ratRows 32 4 = true := by decide +kernel
theorem rat_d1 : ratRows 36 4 = true := by decide +kernel
theorem rat_d2 : ratRows 40 4 = true := by decide +kernel
theorem rat_d3 : ratRows 44 4 = true := by decide +kernel
end Go.Proofs.Ytmikeegecifbfaa
