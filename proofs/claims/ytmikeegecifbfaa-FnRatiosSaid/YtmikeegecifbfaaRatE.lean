/- Ratios of sixty-fourths: the test, held by the kernel at some numbers. -/
import Derived.Test.YtmikeegecifbfaaRatA
namespace Go.Proofs.Ytmikeegecifbfaa
open Go.RowKit
set_option maxRecDepth 100000
theorem rat_e0 : ratRows 48 4 = true := by decide +kernel
theorem rat_e1 : ratRows 52 4 = true := by decide +kernel
theorem rat_e2 : ratRows 56 4 = true := by decide +kernel
theorem rat_e3 : ratRows 60 5 = true := by decide +kernel
end Go.Proofs.Ytmikeegecifbfaa
