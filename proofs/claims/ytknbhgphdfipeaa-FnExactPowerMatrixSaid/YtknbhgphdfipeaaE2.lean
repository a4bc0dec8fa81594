/- Contracts of exported functions over one or two matrices. Conditions: what is read lies in own memory; no other. -/
import Derived.Test.YtknbhgphdfipeaaM3
import Derived.Test.YtknbhgphdfipeaaM4
import Derived.Test.YtknbhgphdfipeaaM5
import Derived.Test.YtknbhgphdfipeaaM7
import Derived.Test.YtknbhgphdfipeaaE1
namespace Go.Proofs.Ytknbhgphdfipeaa
set_option linter.unusedVariables false
open Go.RowKit

theorem sIsMatrixE_c (a : Option Addr) (cap : Nat) (m : List (List Int)) (w : World) (hm : MatAt w a m) :
    Calls Try.prog 54 #[.slice a m.length cap] w fun e w' => e = .returned (.bool (isMat m)) ∧ Ext w w' := (sIsMatrix_c a cap m w hm).mono fun _ _ ⟨h, q⟩ => ⟨h, q.ext⟩

end Go.Proofs.Ytknbhgphdfipeaa
