/- Contracts of the exported functions that make matrices out of numbers. No condition. -/
import Derived.Test.YtkfpcbafhgolnaaM3
import Derived.Test.YtkfpcbafhgolnaaM6
import Derived.Test.YtkfpcbafhgolnaaP4
namespace Go.Proofs.Ytkfpcbafhgolnaa
set_option linter.unusedVariables false
open Go.RowKit

end Go.Proofs.Ytkfpcbafhgolnaa
