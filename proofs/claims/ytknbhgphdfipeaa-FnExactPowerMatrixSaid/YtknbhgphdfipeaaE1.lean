/- Contracts of the exported functions that make matrices out of numbers. No condition. -/
import Derived.Test.YtknbhgphdfipeaaM3
import Derived.Test.YtknbhgphdfipeaaM6
import Derived.Test.YtknbhgphdfipeaaP4
namespace Go.Proofs.Ytknbhgphdfipeaa
set_option linter.unusedVariables false
open Go.RowKit

end Go.Proofs.Ytknbhgphdfipeaa
