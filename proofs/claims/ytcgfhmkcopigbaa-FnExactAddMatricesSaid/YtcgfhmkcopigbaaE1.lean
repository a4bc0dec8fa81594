/- Contracts of the exported functions that make matrices out of numbers. No condition. -/
import Derived.Test.YtcgfhmkcopigbaaM3
import Derived.Test.YtcgfhmkcopigbaaM6
import Derived.Test.YtcgfhmkcopigbaaP4
namespace Go.Proofs.Ytcgfhmkcopigbaa
set_option linter.unusedVariables false
open Go.RowKit

end Go.Proofs.Ytcgfhmkcopigbaa
