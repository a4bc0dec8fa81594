/-
  No cell of these rows narrows 'for every input' (looked for: loops, veiled, ifaces, maps, wideKeys, modest, calm, conditions, laid).
  DERIVED. THE GIVEN ROWS OF THIS SEAT. 6 by the template 'for every input the law returns true; each argument reads behind the call as it read before'; 0 by the template 'total and deterministic' (their statements: YtokhkpbebimohaaTotals.lean).
  GIVEN WITH THE SEED: the statements are not yours to turn. If you find one false, say at which input.
  Laid BY PROGRAM, IN A SANDBOX (cutbox-rows.mjs): the forced cells as the released guide's own fill.sh prints them over the translation a67ba29b3d1145ad… (all of the seat's roots in one cut). By AI agents, Wed Nov 11 2026. No macro, syntax, notation, axiom, sorry.
-/
import Derived.Test.YtokhkpbebimohaaChecked
import GoSem.Claim
import GoSem.ClaimJoined
import GoSem.ClaimMapViews
import Derived.JoinedTies
import Derived.KernelRfl
namespace Go.Proofs.Ytokhkpbebimohaa
/- THE CELL 'sum', in the pinned program and in every row, IS THE sha256 OF THE DUMP (.gsa) THAT YtokhkpbebimohaaProg.lean LOADS. Nothing in Lean hashes anything: it is a label: what it is worth is what the hold of that sum in a sandbox is worth. -/
noncomputable def Try.pinned : Pinned := { name := "ytokhkpbebimohaa", sum := "a67ba29b3d1145ad20fac2563d2b04e7979b090321fbcef47d05d49dcdd52b36", checked := Try.checked }
namespace Rows
def none {H : Type} : Left H := { results := [], args := [] }

/-- 'laws.FnComponents': WHATEVER THE INPUT: true; the input reads as it did. -/
def fnComponentsSpec : ChangeSpec := { name := "fnComponents", fn := fun _ => fun
  | [d] => { results := [.lit (.bool true)], args := [d] }
  | _ => none }
def fnComponentsRow : OpenClaim := { program := "ytokhkpbebimohaa", sum := "a67ba29b3d1145ad20fac2563d2b04e7979b090321fbcef47d05d49dcdd52b36", func := "loop.example/g00941/laws.FnComponents", spec := "fnComponents", unfollowed := true, recurses := true, apart := false }
def FnComponentsSaid : Prop := fnComponentsRow.holds Try.pinned (OpenSpec.ofChange fnComponentsSpec)

/-- ITS FALSE NEIGHBOUR: 'it returns false'. Refute it at one input. -/
def fnComponentsWrong : ChangeSpec := { name := "fnComponents", fn := fun _ => fun
  | [d] => { results := [.lit (.bool false)], args := [d] }
  | _ => none }
def FnComponentsWrongFalsely : Prop := fnComponentsRow.holds Try.pinned (OpenSpec.ofChange fnComponentsWrong)

/-- 'laws.FnMatrixPowers': WHATEVER THE INPUT: true; the input reads as it did. -/
def fnMatrixPowersSpec : ChangeSpec := { name := "fnMatrixPowers", fn := fun _ => fun
  | [d] => { results := [.lit (.bool true)], args := [d] }
  | _ => none }
def fnMatrixPowersRow : OpenClaim := { program := "ytokhkpbebimohaa", sum := "a67ba29b3d1145ad20fac2563d2b04e7979b090321fbcef47d05d49dcdd52b36", func := "loop.example/g00941/laws.FnMatrixPowers", spec := "fnMatrixPowers", unfollowed := true, recurses := true, apart := false }
def FnMatrixPowersSaid : Prop := fnMatrixPowersRow.holds Try.pinned (OpenSpec.ofChange fnMatrixPowersSpec)

/-- ITS FALSE NEIGHBOUR: 'it returns false'. Refute it at one input. -/
def fnMatrixPowersWrong : ChangeSpec := { name := "fnMatrixPowers", fn := fun _ => fun
  | [d] => { results := [.lit (.bool false)], args := [d] }
  | _ => none }
def FnMatrixPowersWrongFalsely : Prop := fnMatrixPowersRow.holds Try.pinned (OpenSpec.ofChange fnMatrixPowersWrong)

/-- 'laws.FnFixedPoints': WHATEVER THE INPUT: true; the input reads as it did. -/
def fnFixedPointsSpec : ChangeSpec := { name := "fnFixedPoints", fn := fun _ => fun
  | [d] => { results := [.lit (.bool true)], args := [d] }
  | _ => none }
def fnFixedPointsRow : OpenClaim := { program := "ytokhkpbebimohaa", sum := "a67ba29b3d1145ad20fac2563d2b04e7979b090321fbcef47d05d49dcdd52b36", func := "loop.example/g00941/laws.FnFixedPoints", spec := "fnFixedPoints", unfollowed := true, recurses := true, apart := false }
def FnFixedPointsSaid : Prop := fnFixedPointsRow.holds Try.pinned (OpenSpec.ofChange fnFixedPointsSpec)

/-- ITS FALSE NEIGHBOUR: 'it returns false'. Refute it at one input. -/
def fnFixedPointsWrong : ChangeSpec := { name := "fnFixedPoints", fn := fun _ => fun
  | [d] => { results := [.lit (.bool false)], args := [d] }
  | _ => none }
def FnFixedPointsWrongFalsely : Prop := fnFixedPointsRow.holds Try.pinned (OpenSpec.ofChange fnFixedPointsWrong)

/-- 'laws.FnPaths': WHATEVER THE INPUT: true; the input reads as it did. -/
def fnPathsSpec : ChangeSpec := { name := "fnPaths", fn := fun _ => fun
  | [d] => { results := [.lit (.bool true)], args := [d] }
  | _ => none }
def fnPathsRow : OpenClaim := { program := "ytokhkpbebimohaa", sum := "a67ba29b3d1145ad20fac2563d2b04e7979b090321fbcef47d05d49dcdd52b36", func := "loop.example/g00941/laws.FnPaths", spec := "fnPaths", unfollowed := true, recurses := true, apart := false }
def FnPathsSaid : Prop := fnPathsRow.holds Try.pinned (OpenSpec.ofChange fnPathsSpec)

/-- ITS FALSE NEIGHBOUR: 'it returns false'. Refute it at one input. -/
def fnPathsWrong : ChangeSpec := { name := "fnPaths", fn := fun _ => fun
  | [d] => { results := [.lit (.bool false)], args := [d] }
  | _ => none }
def FnPathsWrongFalsely : Prop := fnPathsRow.holds Try.pinned (OpenSpec.ofChange fnPathsWrong)

/-- 'laws.FnMeans': WHATEVER THE INPUT: true; the input reads as it did. -/
def fnMeansSpec : ChangeSpec := { name := "fnMeans", fn := fun _ => fun
  | [d] => { results := [.lit (.bool true)], args := [d] }
  | _ => none }
def fnMeansRow : OpenClaim := { program := "ytokhkpbebimohaa", sum := "a67ba29b3d1145ad20fac2563d2b04e7979b090321fbcef47d05d49dcdd52b36", func := "loop.example/g00941/laws.FnMeans", spec := "fnMeans", unfollowed := true, recurses := true, apart := false }
def FnMeansSaid : Prop := fnMeansRow.holds Try.pinned (OpenSpec.ofChange fnMeansSpec)

/-- ITS FALSE NEIGHBOUR: 'it returns false'. Refute it at one input. -/
def fnMeansWrong : ChangeSpec := { name := "fnMeans", fn := fun _ => fun
  | [d] => { results := [.lit (.bool false)], args := [d] }
  | _ => none }
def FnMeansWrongFalsely : Prop := fnMeansRow.holds Try.pinned (OpenSpec.ofChange fnMeansWrong)

/-- 'laws.FnPotentials': WHATEVER THE INPUT: true; the input reads as it did. -/
def fnPotentialsSpec : ChangeSpec := { name := "fnPotentials", fn := fun _ => fun
  | [d] => { results := [.lit (.bool true)], args := [d] }
  | _ => none }
def fnPotentialsRow : OpenClaim := { program := "ytokhkpbebimohaa", sum := "a67ba29b3d1145ad20fac2563d2b04e7979b090321fbcef47d05d49dcdd52b36", func := "loop.example/g00941/laws.FnPotentials", spec := "fnPotentials", unfollowed := true, recurses := true, apart := false }
def FnPotentialsSaid : Prop := fnPotentialsRow.holds Try.pinned (OpenSpec.ofChange fnPotentialsSpec)

/-- ITS FALSE NEIGHBOUR: 'it returns false'. Refute it at one input. -/
def fnPotentialsWrong : ChangeSpec := { name := "fnPotentials", fn := fun _ => fun
  | [d] => { results := [.lit (.bool false)], args := [d] }
  | _ => none }
def FnPotentialsWrongFalsely : Prop := fnPotentialsRow.holds Try.pinned (OpenSpec.ofChange fnPotentialsWrong)

/- THE SECOND FORM. 'bulk': how many values and letters a reading holds, each counted each time it is reached (what is shared counts as often as it is met; a slice's spare places count too). A statement '..UptoSaid' is the law's where the arguments, and the package variables that the reading takes, are together of bulk at most 1048576: NARROWER than '..Said'. Prove '..Said' where nothing that the law and all that it calls make is longer than what came in: it says more and counts as full. Else prove '..UptoSaid'. A law counts once. -/
mutual
def uptoBulk {H : Type} : DataW H → Nat
  | .lit (.string bytes) => bytes.length + 1
  | .lit _ => 1
  | .nil => 1
  | .ptr d => uptoBulk d + 1
  | .slice elems spare => uptoBulkAll elems + uptoBulkAll spare + 1
  | .agg parts => uptoBulkAll parts + 1
  | .iface _ d => uptoBulk d + 1
  | .map entries => uptoBulkEntries entries + 1
  | .held _ => 1
def uptoBulkAll {H : Type} : List (DataW H) → Nat
  | [] => 0
  | d :: r => uptoBulk d + uptoBulkAll r
def uptoBulkEntries {H : Type} : List (Lit × DataW H) → Nat
  | [] => 0
  | x :: r => uptoBulkEntry x + uptoBulkEntries r
def uptoBulkEntry {H : Type} : Lit × DataW H → Nat
  | (.string bytes, d) => bytes.length + uptoBulk d + 1
  | (_, d) => uptoBulk d + 1
 end
def uptoSmall : (H : Type) → List (DataW H) → Bool := fun _ ds => decide (uptoBulkAll ds ≤ 1048576)
def OpenSpec.upto (s : _root_.Go.ChangeSpec) : _root_.Go.OpenSpec := { _root_.Go.OpenSpec.ofChange s with cond := some uptoSmall }

/-- 'laws.FnComponents', WHERE WHAT IT READS IS OF BULK AT MOST 1048576: true; the input reads as it did. -/
def fnComponentsUptoRow : OpenClaim := { program := "ytokhkpbebimohaa", sum := "a67ba29b3d1145ad20fac2563d2b04e7979b090321fbcef47d05d49dcdd52b36", func := "loop.example/g00941/laws.FnComponents", spec := "fnComponents", unfollowed := true, recurses := true, apart := false, narrowed := true }
def FnComponentsUptoSaid : Prop := fnComponentsUptoRow.holds Try.pinned (OpenSpec.upto fnComponentsSpec)

/-- 'laws.FnMatrixPowers', WHERE WHAT IT READS IS OF BULK AT MOST 1048576: true; the input reads as it did. -/
def fnMatrixPowersUptoRow : OpenClaim := { program := "ytokhkpbebimohaa", sum := "a67ba29b3d1145ad20fac2563d2b04e7979b090321fbcef47d05d49dcdd52b36", func := "loop.example/g00941/laws.FnMatrixPowers", spec := "fnMatrixPowers", unfollowed := true, recurses := true, apart := false, narrowed := true }
def FnMatrixPowersUptoSaid : Prop := fnMatrixPowersUptoRow.holds Try.pinned (OpenSpec.upto fnMatrixPowersSpec)

/-- 'laws.FnFixedPoints', WHERE WHAT IT READS IS OF BULK AT MOST 1048576: true; the input reads as it did. -/
def fnFixedPointsUptoRow : OpenClaim := { program := "ytokhkpbebimohaa", sum := "a67ba29b3d1145ad20fac2563d2b04e7979b090321fbcef47d05d49dcdd52b36", func := "loop.example/g00941/laws.FnFixedPoints", spec := "fnFixedPoints", unfollowed := true, recurses := true, apart := false, narrowed := true }
def FnFixedPointsUptoSaid : Prop := fnFixedPointsUptoRow.holds Try.pinned (OpenSpec.upto fnFixedPointsSpec)

/-- 'laws.FnPaths', WHERE WHAT IT READS IS OF BULK AT MOST 1048576: true; the input reads as it did. -/
def fnPathsUptoRow : OpenClaim := { program := "ytokhkpbebimohaa", sum := "a67ba29b3d1145ad20fac2563d2b04e7979b090321fbcef47d05d49dcdd52b36", func := "loop.example/g00941/laws.FnPaths", spec := "fnPaths", unfollowed := true, recurses := true, apart := false, narrowed := true }
def FnPathsUptoSaid : Prop := fnPathsUptoRow.holds Try.pinned (OpenSpec.upto fnPathsSpec)

/-- 'laws.FnMeans', WHERE WHAT IT READS IS OF BULK AT MOST 1048576: true; the input reads as it did. -/
def fnMeansUptoRow : OpenClaim := { program := "ytokhkpbebimohaa", sum := "a67ba29b3d1145ad20fac2563d2b04e7979b090321fbcef47d05d49dcdd52b36", func := "loop.example/g00941/laws.FnMeans", spec := "fnMeans", unfollowed := true, recurses := true, apart := false, narrowed := true }
def FnMeansUptoSaid : Prop := fnMeansUptoRow.holds Try.pinned (OpenSpec.upto fnMeansSpec)

/-- 'laws.FnPotentials', WHERE WHAT IT READS IS OF BULK AT MOST 1048576: true; the input reads as it did. -/
def fnPotentialsUptoRow : OpenClaim := { program := "ytokhkpbebimohaa", sum := "a67ba29b3d1145ad20fac2563d2b04e7979b090321fbcef47d05d49dcdd52b36", func := "loop.example/g00941/laws.FnPotentials", spec := "fnPotentials", unfollowed := true, recurses := true, apart := false, narrowed := true }
def FnPotentialsUptoSaid : Prop := fnPotentialsUptoRow.holds Try.pinned (OpenSpec.upto fnPotentialsSpec)

end Rows
end Go.Proofs.Ytokhkpbebimohaa
