/-
  No cell of these rows narrows 'for every input' (looked for: loops, veiled, ifaces, maps, wideKeys, modest, calm, conditions, laid).
  DERIVED. THE GIVEN ROWS OF THIS SEAT. 12 by the template 'for every input the law returns true; each argument reads behind the call as it read before'; 0 by the template 'total and deterministic' (their statements: YtknbhgphdfipeaaTotals.lean).
  GIVEN WITH THE SEED: the statements are not yours to turn. If you find one false, say at which input.
  Laid BY PROGRAM, IN A SANDBOX (cutbox-rows.mjs): the forced cells as the released guide's own fill.sh prints them over the translation 41f8b46b8b9ecf92… (all of the seat's roots in one cut). By AI agents, Wed Nov 11 2026. No macro, syntax, notation, axiom, sorry.
-/
import Derived.Test.YtknbhgphdfipeaaChecked
import GoSem.Claim
import GoSem.ClaimJoined
import GoSem.ClaimMapViews
import Derived.JoinedTies
import Derived.KernelRfl
namespace Go.Proofs.Ytknbhgphdfipeaa
/- THE CELL 'sum', in the pinned program and in every row, IS THE sha256 OF THE DUMP (.gsa) THAT YtknbhgphdfipeaaProg.lean LOADS. Nothing in Lean hashes anything: it is a label: what it is worth is what the hold of that sum in a sandbox is worth. -/
noncomputable def Try.pinned : Pinned := { name := "ytknbhgphdfipeaa", sum := "41f8b46b8b9ecf928d4ddc58205e0d1d9224e750cb67f9de5b610ec2f58fe863", checked := Try.checked }
namespace Rows
def none {H : Type} : Left H := { results := [], args := [] }

/-- 'laws.FnExactShiftMatrix': WHATEVER THE INPUT: true; the input reads as it did. -/
def fnExactShiftMatrixSpec : ChangeSpec := { name := "fnExactShiftMatrix", fn := fun _ => fun
  | [d1, d2] => { results := [.lit (.bool true)], args := [d1, d2] }
  | _ => none }
def fnExactShiftMatrixRow : OpenClaim := { program := "ytknbhgphdfipeaa", sum := "41f8b46b8b9ecf928d4ddc58205e0d1d9224e750cb67f9de5b610ec2f58fe863", func := "loop.example/g00941/laws.FnExactShiftMatrix", spec := "fnExactShiftMatrix", unfollowed := true, recurses := true, apart := false }
def FnExactShiftMatrixSaid : Prop := fnExactShiftMatrixRow.holds Try.pinned (OpenSpec.ofChange fnExactShiftMatrixSpec)

/-- ITS FALSE NEIGHBOUR: 'it returns false'. Refute it at one input. -/
def fnExactShiftMatrixWrong : ChangeSpec := { name := "fnExactShiftMatrix", fn := fun _ => fun
  | [d1, d2] => { results := [.lit (.bool false)], args := [d1, d2] }
  | _ => none }
def FnExactShiftMatrixWrongFalsely : Prop := fnExactShiftMatrixRow.holds Try.pinned (OpenSpec.ofChange fnExactShiftMatrixWrong)

/-- 'laws.FnExactPowerMatrix': WHATEVER THE INPUT: true; the input reads as it did. -/
def fnExactPowerMatrixSpec : ChangeSpec := { name := "fnExactPowerMatrix", fn := fun _ => fun
  | [d1, d2] => { results := [.lit (.bool true)], args := [d1, d2] }
  | _ => none }
def fnExactPowerMatrixRow : OpenClaim := { program := "ytknbhgphdfipeaa", sum := "41f8b46b8b9ecf928d4ddc58205e0d1d9224e750cb67f9de5b610ec2f58fe863", func := "loop.example/g00941/laws.FnExactPowerMatrix", spec := "fnExactPowerMatrix", unfollowed := true, recurses := true, apart := false }
def FnExactPowerMatrixSaid : Prop := fnExactPowerMatrixRow.holds Try.pinned (OpenSpec.ofChange fnExactPowerMatrixSpec)

/-- ITS FALSE NEIGHBOUR: 'it returns false'. Refute it at one input. -/
def fnExactPowerMatrixWrong : ChangeSpec := { name := "fnExactPowerMatrix", fn := fun _ => fun
  | [d1, d2] => { results := [.lit (.bool false)], args := [d1, d2] }
  | _ => none }
def FnExactPowerMatrixWrongFalsely : Prop := fnExactPowerMatrixRow.holds Try.pinned (OpenSpec.ofChange fnExactPowerMatrixWrong)

/-- 'laws.FnExactIsEigenVector': WHATEVER THE INPUT: true; the input reads as it did. -/
def fnExactIsEigenVectorSpec : ChangeSpec := { name := "fnExactIsEigenVector", fn := fun _ => fun
  | [d1, d2, d3] => { results := [.lit (.bool true)], args := [d1, d2, d3] }
  | _ => none }
def fnExactIsEigenVectorRow : OpenClaim := { program := "ytknbhgphdfipeaa", sum := "41f8b46b8b9ecf928d4ddc58205e0d1d9224e750cb67f9de5b610ec2f58fe863", func := "loop.example/g00941/laws.FnExactIsEigenVector", spec := "fnExactIsEigenVector", unfollowed := true, recurses := true, apart := false }
def FnExactIsEigenVectorSaid : Prop := fnExactIsEigenVectorRow.holds Try.pinned (OpenSpec.ofChange fnExactIsEigenVectorSpec)

/-- ITS FALSE NEIGHBOUR: 'it returns false'. Refute it at one input. -/
def fnExactIsEigenVectorWrong : ChangeSpec := { name := "fnExactIsEigenVector", fn := fun _ => fun
  | [d1, d2, d3] => { results := [.lit (.bool false)], args := [d1, d2, d3] }
  | _ => none }
def FnExactIsEigenVectorWrongFalsely : Prop := fnExactIsEigenVectorRow.holds Try.pinned (OpenSpec.ofChange fnExactIsEigenVectorWrong)

/-- 'laws.FnExactIsSubEigen': WHATEVER THE INPUT: true; the input reads as it did. -/
def fnExactIsSubEigenSpec : ChangeSpec := { name := "fnExactIsSubEigen", fn := fun _ => fun
  | [d1, d2, d3] => { results := [.lit (.bool true)], args := [d1, d2, d3] }
  | _ => none }
def fnExactIsSubEigenRow : OpenClaim := { program := "ytknbhgphdfipeaa", sum := "41f8b46b8b9ecf928d4ddc58205e0d1d9224e750cb67f9de5b610ec2f58fe863", func := "loop.example/g00941/laws.FnExactIsSubEigen", spec := "fnExactIsSubEigen", unfollowed := true, recurses := true, apart := false }
def FnExactIsSubEigenSaid : Prop := fnExactIsSubEigenRow.holds Try.pinned (OpenSpec.ofChange fnExactIsSubEigenSpec)

/-- ITS FALSE NEIGHBOUR: 'it returns false'. Refute it at one input. -/
def fnExactIsSubEigenWrong : ChangeSpec := { name := "fnExactIsSubEigen", fn := fun _ => fun
  | [d1, d2, d3] => { results := [.lit (.bool false)], args := [d1, d2, d3] }
  | _ => none }
def FnExactIsSubEigenWrongFalsely : Prop := fnExactIsSubEigenRow.holds Try.pinned (OpenSpec.ofChange fnExactIsSubEigenWrong)

/-- 'laws.FnExactMeanOf': WHATEVER THE INPUT: true; the input reads as it did. -/
def fnExactMeanOfSpec : ChangeSpec := { name := "fnExactMeanOf", fn := fun _ => fun
  | [d1, d2] => { results := [.lit (.bool true)], args := [d1, d2] }
  | _ => none }
def fnExactMeanOfRow : OpenClaim := { program := "ytknbhgphdfipeaa", sum := "41f8b46b8b9ecf928d4ddc58205e0d1d9224e750cb67f9de5b610ec2f58fe863", func := "loop.example/g00941/laws.FnExactMeanOf", spec := "fnExactMeanOf", unfollowed := true, recurses := true, apart := false }
def FnExactMeanOfSaid : Prop := fnExactMeanOfRow.holds Try.pinned (OpenSpec.ofChange fnExactMeanOfSpec)

/-- ITS FALSE NEIGHBOUR: 'it returns false'. Refute it at one input. -/
def fnExactMeanOfWrong : ChangeSpec := { name := "fnExactMeanOf", fn := fun _ => fun
  | [d1, d2] => { results := [.lit (.bool false)], args := [d1, d2] }
  | _ => none }
def FnExactMeanOfWrongFalsely : Prop := fnExactMeanOfRow.holds Try.pinned (OpenSpec.ofChange fnExactMeanOfWrong)

/-- 'laws.FnExactTableMean': WHATEVER THE INPUT: true; the input reads as it did. -/
def fnExactTableMeanSpec : ChangeSpec := { name := "fnExactTableMean", fn := fun _ => fun
  | [d] => { results := [.lit (.bool true)], args := [d] }
  | _ => none }
def fnExactTableMeanRow : OpenClaim := { program := "ytknbhgphdfipeaa", sum := "41f8b46b8b9ecf928d4ddc58205e0d1d9224e750cb67f9de5b610ec2f58fe863", func := "loop.example/g00941/laws.FnExactTableMean", spec := "fnExactTableMean", unfollowed := true, recurses := true, apart := false }
def FnExactTableMeanSaid : Prop := fnExactTableMeanRow.holds Try.pinned (OpenSpec.ofChange fnExactTableMeanSpec)

/-- ITS FALSE NEIGHBOUR: 'it returns false'. Refute it at one input. -/
def fnExactTableMeanWrong : ChangeSpec := { name := "fnExactTableMean", fn := fun _ => fun
  | [d] => { results := [.lit (.bool false)], args := [d] }
  | _ => none }
def FnExactTableMeanWrongFalsely : Prop := fnExactTableMeanRow.holds Try.pinned (OpenSpec.ofChange fnExactTableMeanWrong)

/-- 'laws.FnExactStarMatrix': WHATEVER THE INPUT: true; the input reads as it did. -/
def fnExactStarMatrixSpec : ChangeSpec := { name := "fnExactStarMatrix", fn := fun _ => fun
  | [d] => { results := [.lit (.bool true)], args := [d] }
  | _ => none }
def fnExactStarMatrixRow : OpenClaim := { program := "ytknbhgphdfipeaa", sum := "41f8b46b8b9ecf928d4ddc58205e0d1d9224e750cb67f9de5b610ec2f58fe863", func := "loop.example/g00941/laws.FnExactStarMatrix", spec := "fnExactStarMatrix", unfollowed := true, recurses := true, apart := false }
def FnExactStarMatrixSaid : Prop := fnExactStarMatrixRow.holds Try.pinned (OpenSpec.ofChange fnExactStarMatrixSpec)

/-- ITS FALSE NEIGHBOUR: 'it returns false'. Refute it at one input. -/
def fnExactStarMatrixWrong : ChangeSpec := { name := "fnExactStarMatrix", fn := fun _ => fun
  | [d] => { results := [.lit (.bool false)], args := [d] }
  | _ => none }
def FnExactStarMatrixWrongFalsely : Prop := fnExactStarMatrixRow.holds Try.pinned (OpenSpec.ofChange fnExactStarMatrixWrong)

/-- 'laws.FnExactPlusMatrix': WHATEVER THE INPUT: true; the input reads as it did. -/
def fnExactPlusMatrixSpec : ChangeSpec := { name := "fnExactPlusMatrix", fn := fun _ => fun
  | [d] => { results := [.lit (.bool true)], args := [d] }
  | _ => none }
def fnExactPlusMatrixRow : OpenClaim := { program := "ytknbhgphdfipeaa", sum := "41f8b46b8b9ecf928d4ddc58205e0d1d9224e750cb67f9de5b610ec2f58fe863", func := "loop.example/g00941/laws.FnExactPlusMatrix", spec := "fnExactPlusMatrix", unfollowed := true, recurses := true, apart := false }
def FnExactPlusMatrixSaid : Prop := fnExactPlusMatrixRow.holds Try.pinned (OpenSpec.ofChange fnExactPlusMatrixSpec)

/-- ITS FALSE NEIGHBOUR: 'it returns false'. Refute it at one input. -/
def fnExactPlusMatrixWrong : ChangeSpec := { name := "fnExactPlusMatrix", fn := fun _ => fun
  | [d] => { results := [.lit (.bool false)], args := [d] }
  | _ => none }
def FnExactPlusMatrixWrongFalsely : Prop := fnExactPlusMatrixRow.holds Try.pinned (OpenSpec.ofChange fnExactPlusMatrixWrong)

/-- 'laws.FnExactFixedPoint': WHATEVER THE INPUT: true; the input reads as it did. -/
def fnExactFixedPointSpec : ChangeSpec := { name := "fnExactFixedPoint", fn := fun _ => fun
  | [d1, d2] => { results := [.lit (.bool true)], args := [d1, d2] }
  | _ => none }
def fnExactFixedPointRow : OpenClaim := { program := "ytknbhgphdfipeaa", sum := "41f8b46b8b9ecf928d4ddc58205e0d1d9224e750cb67f9de5b610ec2f58fe863", func := "loop.example/g00941/laws.FnExactFixedPoint", spec := "fnExactFixedPoint", unfollowed := true, recurses := true, apart := false }
def FnExactFixedPointSaid : Prop := fnExactFixedPointRow.holds Try.pinned (OpenSpec.ofChange fnExactFixedPointSpec)

/-- ITS FALSE NEIGHBOUR: 'it returns false'. Refute it at one input. -/
def fnExactFixedPointWrong : ChangeSpec := { name := "fnExactFixedPoint", fn := fun _ => fun
  | [d1, d2] => { results := [.lit (.bool false)], args := [d1, d2] }
  | _ => none }
def FnExactFixedPointWrongFalsely : Prop := fnExactFixedPointRow.holds Try.pinned (OpenSpec.ofChange fnExactFixedPointWrong)

/-- 'laws.FnExactIsMeanCertificate': WHATEVER THE INPUT: true; the input reads as it did. -/
def fnExactIsMeanCertificateSpec : ChangeSpec := { name := "fnExactIsMeanCertificate", fn := fun _ => fun
  | [d1, d2, d3, d4] => { results := [.lit (.bool true)], args := [d1, d2, d3, d4] }
  | _ => none }
def fnExactIsMeanCertificateRow : OpenClaim := { program := "ytknbhgphdfipeaa", sum := "41f8b46b8b9ecf928d4ddc58205e0d1d9224e750cb67f9de5b610ec2f58fe863", func := "loop.example/g00941/laws.FnExactIsMeanCertificate", spec := "fnExactIsMeanCertificate", unfollowed := true, recurses := true, apart := false }
def FnExactIsMeanCertificateSaid : Prop := fnExactIsMeanCertificateRow.holds Try.pinned (OpenSpec.ofChange fnExactIsMeanCertificateSpec)

/-- ITS FALSE NEIGHBOUR: 'it returns false'. Refute it at one input. -/
def fnExactIsMeanCertificateWrong : ChangeSpec := { name := "fnExactIsMeanCertificate", fn := fun _ => fun
  | [d1, d2, d3, d4] => { results := [.lit (.bool false)], args := [d1, d2, d3, d4] }
  | _ => none }
def FnExactIsMeanCertificateWrongFalsely : Prop := fnExactIsMeanCertificateRow.holds Try.pinned (OpenSpec.ofChange fnExactIsMeanCertificateWrong)

/-- 'laws.FnExactPotentialOf': WHATEVER THE INPUT: true; the input reads as it did. -/
def fnExactPotentialOfSpec : ChangeSpec := { name := "fnExactPotentialOf", fn := fun _ => fun
  | [d1, d2] => { results := [.lit (.bool true)], args := [d1, d2] }
  | _ => none }
def fnExactPotentialOfRow : OpenClaim := { program := "ytknbhgphdfipeaa", sum := "41f8b46b8b9ecf928d4ddc58205e0d1d9224e750cb67f9de5b610ec2f58fe863", func := "loop.example/g00941/laws.FnExactPotentialOf", spec := "fnExactPotentialOf", unfollowed := true, recurses := true, apart := false }
def FnExactPotentialOfSaid : Prop := fnExactPotentialOfRow.holds Try.pinned (OpenSpec.ofChange fnExactPotentialOfSpec)

/-- ITS FALSE NEIGHBOUR: 'it returns false'. Refute it at one input. -/
def fnExactPotentialOfWrong : ChangeSpec := { name := "fnExactPotentialOf", fn := fun _ => fun
  | [d1, d2] => { results := [.lit (.bool false)], args := [d1, d2] }
  | _ => none }
def FnExactPotentialOfWrongFalsely : Prop := fnExactPotentialOfRow.holds Try.pinned (OpenSpec.ofChange fnExactPotentialOfWrong)

/-- 'laws.FnExactHeaviestPath': WHATEVER THE INPUT: true; the input reads as it did. -/
def fnExactHeaviestPathSpec : ChangeSpec := { name := "fnExactHeaviestPath", fn := fun _ => fun
  | [d1, d2, d3] => { results := [.lit (.bool true)], args := [d1, d2, d3] }
  | _ => none }
def fnExactHeaviestPathRow : OpenClaim := { program := "ytknbhgphdfipeaa", sum := "41f8b46b8b9ecf928d4ddc58205e0d1d9224e750cb67f9de5b610ec2f58fe863", func := "loop.example/g00941/laws.FnExactHeaviestPath", spec := "fnExactHeaviestPath", unfollowed := true, recurses := true, apart := false }
def FnExactHeaviestPathSaid : Prop := fnExactHeaviestPathRow.holds Try.pinned (OpenSpec.ofChange fnExactHeaviestPathSpec)

/-- ITS FALSE NEIGHBOUR: 'it returns false'. Refute it at one input. -/
def fnExactHeaviestPathWrong : ChangeSpec := { name := "fnExactHeaviestPath", fn := fun _ => fun
  | [d1, d2, d3] => { results := [.lit (.bool false)], args := [d1, d2, d3] }
  | _ => none }
def FnExactHeaviestPathWrongFalsely : Prop := fnExactHeaviestPathRow.holds Try.pinned (OpenSpec.ofChange fnExactHeaviestPathWrong)

/- THE SECOND FORM. 'bulk': how many values and letters a reading holds, each counted each time it is reached (what is shared counts as often as it is met; a slice's spare places count too). A statement '..UptoSaid' is the law's where the arguments, and the package variables that the reading takes, are together of bulk at most 1048576: NARROWER than '..Said'. Prove '..Said' where nothing that the law and all that it calls make is longer than what came in: it says more and counts as full. Else prove '..UptoSaid'. A law counts once. -/
mutual
def uptoBulk {H : Type} : DataW H → Nat
  | .lit (.string bytes) => bytes.length + 1
  | .lit _ => 1
  | .nil => 1
  | .ptr d => uptoBulk d + 1
  | .slice elems spare => uptoBulkAll elems + uptoBulkAll spare + 1
  | .agg parts => uptoBulkAll parts + 1
  | .iface _ d => uptoBulk d + 1
  | .map entries => uptoBulkEntries entries + 1
  | .held _ => 1
def uptoBulkAll {H : Type} : List (DataW H) → Nat
  | [] => 0
  | d :: r => uptoBulk d + uptoBulkAll r
def uptoBulkEntries {H : Type} : List (Lit × DataW H) → Nat
  | [] => 0
  | x :: r => uptoBulkEntry x + uptoBulkEntries r
def uptoBulkEntry {H : Type} : Lit × DataW H → Nat
  | (.string bytes, d) => bytes.length + uptoBulk d + 1
  | (_, d) => uptoBulk d + 1
 end
def uptoSmall : (H : Type) → List (DataW H) → Bool := fun _ ds => decide (uptoBulkAll ds ≤ 1048576)
def OpenSpec.upto (s : _root_.Go.ChangeSpec) : _root_.Go.OpenSpec := { _root_.Go.OpenSpec.ofChange s with cond := some uptoSmall }

/-- 'laws.FnExactShiftMatrix', WHERE WHAT IT READS IS OF BULK AT MOST 1048576: true; the input reads as it did. -/
def fnExactShiftMatrixUptoRow : OpenClaim := { program := "ytknbhgphdfipeaa", sum := "41f8b46b8b9ecf928d4ddc58205e0d1d9224e750cb67f9de5b610ec2f58fe863", func := "loop.example/g00941/laws.FnExactShiftMatrix", spec := "fnExactShiftMatrix", unfollowed := true, recurses := true, apart := false, narrowed := true }
def FnExactShiftMatrixUptoSaid : Prop := fnExactShiftMatrixUptoRow.holds Try.pinned (OpenSpec.upto fnExactShiftMatrixSpec)

/-- 'laws.FnExactPowerMatrix', WHERE WHAT IT READS IS OF BULK AT MOST 1048576: true; the input reads as it did. -/
def fnExactPowerMatrixUptoRow : OpenClaim := { program := "ytknbhgphdfipeaa", sum := "41f8b46b8b9ecf928d4ddc58205e0d1d9224e750cb67f9de5b610ec2f58fe863", func := "loop.example/g00941/laws.FnExactPowerMatrix", spec := "fnExactPowerMatrix", unfollowed := true, recurses := true, apart := false, narrowed := true }
def FnExactPowerMatrixUptoSaid : Prop := fnExactPowerMatrixUptoRow.holds Try.pinned (OpenSpec.upto fnExactPowerMatrixSpec)

/-- 'laws.FnExactIsEigenVector', WHERE WHAT IT READS IS OF BULK AT MOST 1048576: true; the input reads as it did. -/
def fnExactIsEigenVectorUptoRow : OpenClaim := { program := "ytknbhgphdfipeaa", sum := "41f8b46b8b9ecf928d4ddc58205e0d1d9224e750cb67f9de5b610ec2f58fe863", func := "loop.example/g00941/laws.FnExactIsEigenVector", spec := "fnExactIsEigenVector", unfollowed := true, recurses := true, apart := false, narrowed := true }
def FnExactIsEigenVectorUptoSaid : Prop := fnExactIsEigenVectorUptoRow.holds Try.pinned (OpenSpec.upto fnExactIsEigenVectorSpec)

/-- 'laws.FnExactIsSubEigen', WHERE WHAT IT READS IS OF BULK AT MOST 1048576: true; the input reads as it did. -/
def fnExactIsSubEigenUptoRow : OpenClaim := { program := "ytknbhgphdfipeaa", sum := "41f8b46b8b9ecf928d4ddc58205e0d1d9224e750cb67f9de5b610ec2f58fe863", func := "loop.example/g00941/laws.FnExactIsSubEigen", spec := "fnExactIsSubEigen", unfollowed := true, recurses := true, apart := false, narrowed := true }
def FnExactIsSubEigenUptoSaid : Prop := fnExactIsSubEigenUptoRow.holds Try.pinned (OpenSpec.upto fnExactIsSubEigenSpec)

/-- 'laws.FnExactMeanOf', WHERE WHAT IT READS IS OF BULK AT MOST 1048576: true; the input reads as it did. -/
def fnExactMeanOfUptoRow : OpenClaim := { program := "ytknbhgphdfipeaa", sum := "41f8b46b8b9ecf928d4ddc58205e0d1d9224e750cb67f9de5b610ec2f58fe863", func := "loop.example/g00941/laws.FnExactMeanOf", spec := "fnExactMeanOf", unfollowed := true, recurses := true, apart := false, narrowed := true }
def FnExactMeanOfUptoSaid : Prop := fnExactMeanOfUptoRow.holds Try.pinned (OpenSpec.upto fnExactMeanOfSpec)

/-- 'laws.FnExactTableMean', WHERE WHAT IT READS IS OF BULK AT MOST 1048576: true; the input reads as it did. -/
def fnExactTableMeanUptoRow : OpenClaim := { program := "ytknbhgphdfipeaa", sum := "41f8b46b8b9ecf928d4ddc58205e0d1d9224e750cb67f9de5b610ec2f58fe863", func := "loop.example/g00941/laws.FnExactTableMean", spec := "fnExactTableMean", unfollowed := true, recurses := true, apart := false, narrowed := true }
def FnExactTableMeanUptoSaid : Prop := fnExactTableMeanUptoRow.holds Try.pinned (OpenSpec.upto fnExactTableMeanSpec)

/-- 'laws.FnExactStarMatrix', WHERE WHAT IT READS IS OF BULK AT MOST 1048576: true; the input reads as it did. -/
def fnExactStarMatrixUptoRow : OpenClaim := { program := "ytknbhgphdfipeaa", sum := "41f8b46b8b9ecf928d4ddc58205e0d1d9224e750cb67f9de5b610ec2f58fe863", func := "loop.example/g00941/laws.FnExactStarMatrix", spec := "fnExactStarMatrix", unfollowed := true, recurses := true, apart := false, narrowed := true }
def FnExactStarMatrixUptoSaid : Prop := fnExactStarMatrixUptoRow.holds Try.pinned (OpenSpec.upto fnExactStarMatrixSpec)

/-- 'laws.FnExactPlusMatrix', WHERE WHAT IT READS IS OF BULK AT MOST 1048576: true; the input reads as it did. -/
def fnExactPlusMatrixUptoRow : OpenClaim := { program := "ytknbhgphdfipeaa", sum := "41f8b46b8b9ecf928d4ddc58205e0d1d9224e750cb67f9de5b610ec2f58fe863", func := "loop.example/g00941/laws.FnExactPlusMatrix", spec := "fnExactPlusMatrix", unfollowed := true, recurses := true, apart := false, narrowed := true }
def FnExactPlusMatrixUptoSaid : Prop := fnExactPlusMatrixUptoRow.holds Try.pinned (OpenSpec.upto fnExactPlusMatrixSpec)

/-- 'laws.FnExactFixedPoint', WHERE WHAT IT READS IS OF BULK AT MOST 1048576: true; the input reads as it did. -/
def fnExactFixedPointUptoRow : OpenClaim := { program := "ytknbhgphdfipeaa", sum := "41f8b46b8b9ecf928d4ddc58205e0d1d9224e750cb67f9de5b610ec2f58fe863", func := "loop.example/g00941/laws.FnExactFixedPoint", spec := "fnExactFixedPoint", unfollowed := true, recurses := true, apart := false, narrowed := true }
def FnExactFixedPointUptoSaid : Prop := fnExactFixedPointUptoRow.holds Try.pinned (OpenSpec.upto fnExactFixedPointSpec)

/-- 'laws.FnExactIsMeanCertificate', WHERE WHAT IT READS IS OF BULK AT MOST 1048576: true; the input reads as it did. -/
def fnExactIsMeanCertificateUptoRow : OpenClaim := { program := "ytknbhgphdfipeaa", sum := "41f8b46b8b9ecf928d4ddc58205e0d1d9224e750cb67f9de5b610ec2f58fe863", func := "loop.example/g00941/laws.FnExactIsMeanCertificate", spec := "fnExactIsMeanCertificate", unfollowed := true, recurses := true, apart := false, narrowed := true }
def FnExactIsMeanCertificateUptoSaid : Prop := fnExactIsMeanCertificateUptoRow.holds Try.pinned (OpenSpec.upto fnExactIsMeanCertificateSpec)

/-- 'laws.FnExactPotentialOf', WHERE WHAT IT READS IS OF BULK AT MOST 1048576: true; the input reads as it did. -/
def fnExactPotentialOfUptoRow : OpenClaim := { program := "ytknbhgphdfipeaa", sum := "41f8b46b8b9ecf928d4ddc58205e0d1d9224e750cb67f9de5b610ec2f58fe863", func := "loop.example/g00941/laws.FnExactPotentialOf", spec := "fnExactPotentialOf", unfollowed := true, recurses := true, apart := false, narrowed := true }
def FnExactPotentialOfUptoSaid : Prop := fnExactPotentialOfUptoRow.holds Try.pinned (OpenSpec.upto fnExactPotentialOfSpec)

/-- 'laws.FnExactHeaviestPath', WHERE WHAT IT READS IS OF BULK AT MOST 1048576: true; the input reads as it did. -/
def fnExactHeaviestPathUptoRow : OpenClaim := { program := "ytknbhgphdfipeaa", sum := "41f8b46b8b9ecf928d4ddc58205e0d1d9224e750cb67f9de5b610ec2f58fe863", func := "loop.example/g00941/laws.FnExactHeaviestPath", spec := "fnExactHeaviestPath", unfollowed := true, recurses := true, apart := false, narrowed := true }
def FnExactHeaviestPathUptoSaid : Prop := fnExactHeaviestPathUptoRow.holds Try.pinned (OpenSpec.upto fnExactHeaviestPathSpec)

end Rows
end Go.Proofs.Ytknbhgphdfipeaa
