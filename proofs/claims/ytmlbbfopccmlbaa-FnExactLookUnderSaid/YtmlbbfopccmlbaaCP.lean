/- Contracts: the reference's test of a film. -/
import Derived.Test.YtmlbbfopccmlbaaCO
import Derived.Test.YtmlbbfopccmlbaaHeld
namespace Go.Proofs.Ytmlbbfopccmlbaa
open Go.RowKit
set_option maxRecDepth 100000

end Go.Proofs.Ytmlbbfopccmlbaa
