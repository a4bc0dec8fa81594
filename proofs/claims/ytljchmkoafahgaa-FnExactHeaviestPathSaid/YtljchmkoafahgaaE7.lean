/- Contracts of StarMatrix, PlusMatrix, FixedPoint and PotentialOf, the program's and the reference's. No condition. -/
import Derived.Test.YtljchmkoafahgaaM14
import Derived.Test.YtljchmkoafahgaaGO
namespace Go.Proofs.Ytljchmkoafahgaa
set_option linter.unusedVariables false
set_option linter.unusedSimpArgs false
open Go.RowKit

theorem starM_len (y : List (List Int)) (n : Nat) : (starM y n).length = n := mkMat_len _ _ _

end Go.Proofs.Ytljchmkoafahgaa
