/- Contracts of CanReach, IsIrreducible and ComponentsOf, the program's and the reference's. No condition. -/
import Derived.Test.YtljchmkoafahgaaRC
namespace Go.Proofs.Ytljchmkoafahgaa
set_option linter.unusedVariables false
set_option linter.unusedSimpArgs false
open Go.RowKit

end Go.Proofs.Ytljchmkoafahgaa
