/-
  No cell of these rows narrows 'for every input' (looked for: loops, veiled, ifaces, maps, wideKeys, modest, calm, conditions, laid).
  DERIVED. THE GIVEN ROWS OF THIS SEAT. 12 by the template 'for every input the law returns true; each argument reads behind the call as it read before'; 0 by the template 'total and deterministic' (their statements: YtkfpcbafhgolnaaTotals.lean).
  GIVEN WITH THE SEED: the statements are not yours to turn. If you find one false, say at which input.
  Laid BY PROGRAM, IN A SANDBOX (cutbox-rows.mjs): the forced cells as the released guide's own fill.sh prints them over the translation 6f40551546c71b85… (all of the seat's roots in one cut). By AI agents, Wed Nov 11 2026. No macro, syntax, notation, axiom, sorry.
-/
import Derived.Test.YtkfpcbafhgolnaaChecked
import GoSem.Claim
import GoSem.ClaimJoined
import GoSem.ClaimMapViews
import Derived.JoinedTies
import Derived.KernelRfl
namespace Go.Proofs.Ytkfpcbafhgolnaa
/- THE CELL 'sum', in the pinned program and in every row, IS THE sha256 OF THE DUMP (.gsa) THAT YtkfpcbafhgolnaaProg.lean LOADS. Nothing in Lean hashes anything: it is a label: what it is worth is what the hold of that sum in a sandbox is worth. -/
noncomputable def Try.pinned : Pinned := { name := "ytkfpcbafhgolnaa", sum := "6f40551546c71b85007f9c2d4b6fa95e4e73edf79e2baa0af1f9191bfec6fcfb", checked := Try.checked }
namespace Rows
def none {H : Type} : Left H := { results := [], args := [] }

/-- 'laws.FnValues': WHATEVER THE INPUT: true; the input reads as it did. -/
def fnValuesSpec : ChangeSpec := { name := "fnValues", fn := fun _ => fun
  | [d] => { results := [.lit (.bool true)], args := [d] }
  | _ => none }
def fnValuesRow : OpenClaim := { program := "ytkfpcbafhgolnaa", sum := "6f40551546c71b85007f9c2d4b6fa95e4e73edf79e2baa0af1f9191bfec6fcfb", func := "loop.example/g00941/laws.FnValues", spec := "fnValues", unfollowed := true, recurses := true, apart := false }
def FnValuesSaid : Prop := fnValuesRow.holds Try.pinned (OpenSpec.ofChange fnValuesSpec)

/-- ITS FALSE NEIGHBOUR: 'it returns false'. Refute it at one input. -/
def fnValuesWrong : ChangeSpec := { name := "fnValues", fn := fun _ => fun
  | [d] => { results := [.lit (.bool false)], args := [d] }
  | _ => none }
def FnValuesWrongFalsely : Prop := fnValuesRow.holds Try.pinned (OpenSpec.ofChange fnValuesWrong)

/-- 'laws.FnExactCanReach': WHATEVER THE INPUT: true; the input reads as it did. -/
def fnExactCanReachSpec : ChangeSpec := { name := "fnExactCanReach", fn := fun _ => fun
  | [d1, d2, d3] => { results := [.lit (.bool true)], args := [d1, d2, d3] }
  | _ => none }
def fnExactCanReachRow : OpenClaim := { program := "ytkfpcbafhgolnaa", sum := "6f40551546c71b85007f9c2d4b6fa95e4e73edf79e2baa0af1f9191bfec6fcfb", func := "loop.example/g00941/laws.FnExactCanReach", spec := "fnExactCanReach", unfollowed := true, recurses := true, apart := false }
def FnExactCanReachSaid : Prop := fnExactCanReachRow.holds Try.pinned (OpenSpec.ofChange fnExactCanReachSpec)

/-- ITS FALSE NEIGHBOUR: 'it returns false'. Refute it at one input. -/
def fnExactCanReachWrong : ChangeSpec := { name := "fnExactCanReach", fn := fun _ => fun
  | [d1, d2, d3] => { results := [.lit (.bool false)], args := [d1, d2, d3] }
  | _ => none }
def FnExactCanReachWrongFalsely : Prop := fnExactCanReachRow.holds Try.pinned (OpenSpec.ofChange fnExactCanReachWrong)

/-- 'laws.FnExactPathWeight': WHATEVER THE INPUT: true; the input reads as it did. -/
def fnExactPathWeightSpec : ChangeSpec := { name := "fnExactPathWeight", fn := fun _ => fun
  | [d1, d2] => { results := [.lit (.bool true)], args := [d1, d2] }
  | _ => none }
def fnExactPathWeightRow : OpenClaim := { program := "ytkfpcbafhgolnaa", sum := "6f40551546c71b85007f9c2d4b6fa95e4e73edf79e2baa0af1f9191bfec6fcfb", func := "loop.example/g00941/laws.FnExactPathWeight", spec := "fnExactPathWeight", unfollowed := true, recurses := true, apart := false }
def FnExactPathWeightSaid : Prop := fnExactPathWeightRow.holds Try.pinned (OpenSpec.ofChange fnExactPathWeightSpec)

/-- ITS FALSE NEIGHBOUR: 'it returns false'. Refute it at one input. -/
def fnExactPathWeightWrong : ChangeSpec := { name := "fnExactPathWeight", fn := fun _ => fun
  | [d1, d2] => { results := [.lit (.bool false)], args := [d1, d2] }
  | _ => none }
def FnExactPathWeightWrongFalsely : Prop := fnExactPathWeightRow.holds Try.pinned (OpenSpec.ofChange fnExactPathWeightWrong)

/-- 'laws.FnExactIsIrreducible': WHATEVER THE INPUT: true; the input reads as it did. -/
def fnExactIsIrreducibleSpec : ChangeSpec := { name := "fnExactIsIrreducible", fn := fun _ => fun
  | [d] => { results := [.lit (.bool true)], args := [d] }
  | _ => none }
def fnExactIsIrreducibleRow : OpenClaim := { program := "ytkfpcbafhgolnaa", sum := "6f40551546c71b85007f9c2d4b6fa95e4e73edf79e2baa0af1f9191bfec6fcfb", func := "loop.example/g00941/laws.FnExactIsIrreducible", spec := "fnExactIsIrreducible", unfollowed := true, recurses := true, apart := false }
def FnExactIsIrreducibleSaid : Prop := fnExactIsIrreducibleRow.holds Try.pinned (OpenSpec.ofChange fnExactIsIrreducibleSpec)

/-- ITS FALSE NEIGHBOUR: 'it returns false'. Refute it at one input. -/
def fnExactIsIrreducibleWrong : ChangeSpec := { name := "fnExactIsIrreducible", fn := fun _ => fun
  | [d] => { results := [.lit (.bool false)], args := [d] }
  | _ => none }
def FnExactIsIrreducibleWrongFalsely : Prop := fnExactIsIrreducibleRow.holds Try.pinned (OpenSpec.ofChange fnExactIsIrreducibleWrong)

/-- 'laws.FnExactTimesVector': WHATEVER THE INPUT: true; the input reads as it did. -/
def fnExactTimesVectorSpec : ChangeSpec := { name := "fnExactTimesVector", fn := fun _ => fun
  | [d1, d2] => { results := [.lit (.bool true)], args := [d1, d2] }
  | _ => none }
def fnExactTimesVectorRow : OpenClaim := { program := "ytkfpcbafhgolnaa", sum := "6f40551546c71b85007f9c2d4b6fa95e4e73edf79e2baa0af1f9191bfec6fcfb", func := "loop.example/g00941/laws.FnExactTimesVector", spec := "fnExactTimesVector", unfollowed := true, recurses := true, apart := false }
def FnExactTimesVectorSaid : Prop := fnExactTimesVectorRow.holds Try.pinned (OpenSpec.ofChange fnExactTimesVectorSpec)

/-- ITS FALSE NEIGHBOUR: 'it returns false'. Refute it at one input. -/
def fnExactTimesVectorWrong : ChangeSpec := { name := "fnExactTimesVector", fn := fun _ => fun
  | [d1, d2] => { results := [.lit (.bool false)], args := [d1, d2] }
  | _ => none }
def FnExactTimesVectorWrongFalsely : Prop := fnExactTimesVectorRow.holds Try.pinned (OpenSpec.ofChange fnExactTimesVectorWrong)

/-- 'laws.FnExactIsCycle': WHATEVER THE INPUT: true; the input reads as it did. -/
def fnExactIsCycleSpec : ChangeSpec := { name := "fnExactIsCycle", fn := fun _ => fun
  | [d1, d2] => { results := [.lit (.bool true)], args := [d1, d2] }
  | _ => none }
def fnExactIsCycleRow : OpenClaim := { program := "ytkfpcbafhgolnaa", sum := "6f40551546c71b85007f9c2d4b6fa95e4e73edf79e2baa0af1f9191bfec6fcfb", func := "loop.example/g00941/laws.FnExactIsCycle", spec := "fnExactIsCycle", unfollowed := true, recurses := true, apart := false }
def FnExactIsCycleSaid : Prop := fnExactIsCycleRow.holds Try.pinned (OpenSpec.ofChange fnExactIsCycleSpec)

/-- ITS FALSE NEIGHBOUR: 'it returns false'. Refute it at one input. -/
def fnExactIsCycleWrong : ChangeSpec := { name := "fnExactIsCycle", fn := fun _ => fun
  | [d1, d2] => { results := [.lit (.bool false)], args := [d1, d2] }
  | _ => none }
def FnExactIsCycleWrongFalsely : Prop := fnExactIsCycleRow.holds Try.pinned (OpenSpec.ofChange fnExactIsCycleWrong)

/-- 'laws.FnTransposes': WHATEVER THE INPUT: true; the input reads as it did. -/
def fnTransposesSpec : ChangeSpec := { name := "fnTransposes", fn := fun _ => fun
  | [d] => { results := [.lit (.bool true)], args := [d] }
  | _ => none }
def fnTransposesRow : OpenClaim := { program := "ytkfpcbafhgolnaa", sum := "6f40551546c71b85007f9c2d4b6fa95e4e73edf79e2baa0af1f9191bfec6fcfb", func := "loop.example/g00941/laws.FnTransposes", spec := "fnTransposes", unfollowed := true, recurses := true, apart := false }
def FnTransposesSaid : Prop := fnTransposesRow.holds Try.pinned (OpenSpec.ofChange fnTransposesSpec)

/-- ITS FALSE NEIGHBOUR: 'it returns false'. Refute it at one input. -/
def fnTransposesWrong : ChangeSpec := { name := "fnTransposes", fn := fun _ => fun
  | [d] => { results := [.lit (.bool false)], args := [d] }
  | _ => none }
def FnTransposesWrongFalsely : Prop := fnTransposesRow.holds Try.pinned (OpenSpec.ofChange fnTransposesWrong)

/-- 'laws.FnExactCycleWeight': WHATEVER THE INPUT: true; the input reads as it did. -/
def fnExactCycleWeightSpec : ChangeSpec := { name := "fnExactCycleWeight", fn := fun _ => fun
  | [d1, d2] => { results := [.lit (.bool true)], args := [d1, d2] }
  | _ => none }
def fnExactCycleWeightRow : OpenClaim := { program := "ytkfpcbafhgolnaa", sum := "6f40551546c71b85007f9c2d4b6fa95e4e73edf79e2baa0af1f9191bfec6fcfb", func := "loop.example/g00941/laws.FnExactCycleWeight", spec := "fnExactCycleWeight", unfollowed := true, recurses := true, apart := false }
def FnExactCycleWeightSaid : Prop := fnExactCycleWeightRow.holds Try.pinned (OpenSpec.ofChange fnExactCycleWeightSpec)

/-- ITS FALSE NEIGHBOUR: 'it returns false'. Refute it at one input. -/
def fnExactCycleWeightWrong : ChangeSpec := { name := "fnExactCycleWeight", fn := fun _ => fun
  | [d1, d2] => { results := [.lit (.bool false)], args := [d1, d2] }
  | _ => none }
def FnExactCycleWeightWrongFalsely : Prop := fnExactCycleWeightRow.holds Try.pinned (OpenSpec.ofChange fnExactCycleWeightWrong)

/-- 'laws.FnExactStretchMatrix': WHATEVER THE INPUT: true; the input reads as it did. -/
def fnExactStretchMatrixSpec : ChangeSpec := { name := "fnExactStretchMatrix", fn := fun _ => fun
  | [d1, d2] => { results := [.lit (.bool true)], args := [d1, d2] }
  | _ => none }
def fnExactStretchMatrixRow : OpenClaim := { program := "ytkfpcbafhgolnaa", sum := "6f40551546c71b85007f9c2d4b6fa95e4e73edf79e2baa0af1f9191bfec6fcfb", func := "loop.example/g00941/laws.FnExactStretchMatrix", spec := "fnExactStretchMatrix", unfollowed := true, recurses := true, apart := false }
def FnExactStretchMatrixSaid : Prop := fnExactStretchMatrixRow.holds Try.pinned (OpenSpec.ofChange fnExactStretchMatrixSpec)

/-- ITS FALSE NEIGHBOUR: 'it returns false'. Refute it at one input. -/
def fnExactStretchMatrixWrong : ChangeSpec := { name := "fnExactStretchMatrix", fn := fun _ => fun
  | [d1, d2] => { results := [.lit (.bool false)], args := [d1, d2] }
  | _ => none }
def FnExactStretchMatrixWrongFalsely : Prop := fnExactStretchMatrixRow.holds Try.pinned (OpenSpec.ofChange fnExactStretchMatrixWrong)

/-- 'laws.FnExactIsPotential': WHATEVER THE INPUT: true; the input reads as it did. -/
def fnExactIsPotentialSpec : ChangeSpec := { name := "fnExactIsPotential", fn := fun _ => fun
  | [d1, d2, d3] => { results := [.lit (.bool true)], args := [d1, d2, d3] }
  | _ => none }
def fnExactIsPotentialRow : OpenClaim := { program := "ytkfpcbafhgolnaa", sum := "6f40551546c71b85007f9c2d4b6fa95e4e73edf79e2baa0af1f9191bfec6fcfb", func := "loop.example/g00941/laws.FnExactIsPotential", spec := "fnExactIsPotential", unfollowed := true, recurses := true, apart := false }
def FnExactIsPotentialSaid : Prop := fnExactIsPotentialRow.holds Try.pinned (OpenSpec.ofChange fnExactIsPotentialSpec)

/-- ITS FALSE NEIGHBOUR: 'it returns false'. Refute it at one input. -/
def fnExactIsPotentialWrong : ChangeSpec := { name := "fnExactIsPotential", fn := fun _ => fun
  | [d1, d2, d3] => { results := [.lit (.bool false)], args := [d1, d2, d3] }
  | _ => none }
def FnExactIsPotentialWrongFalsely : Prop := fnExactIsPotentialRow.holds Try.pinned (OpenSpec.ofChange fnExactIsPotentialWrong)

/-- 'laws.FnExactMultiplyMatrices': WHATEVER THE INPUT: true; the input reads as it did. -/
def fnExactMultiplyMatricesSpec : ChangeSpec := { name := "fnExactMultiplyMatrices", fn := fun _ => fun
  | [d1, d2] => { results := [.lit (.bool true)], args := [d1, d2] }
  | _ => none }
def fnExactMultiplyMatricesRow : OpenClaim := { program := "ytkfpcbafhgolnaa", sum := "6f40551546c71b85007f9c2d4b6fa95e4e73edf79e2baa0af1f9191bfec6fcfb", func := "loop.example/g00941/laws.FnExactMultiplyMatrices", spec := "fnExactMultiplyMatrices", unfollowed := true, recurses := true, apart := false }
def FnExactMultiplyMatricesSaid : Prop := fnExactMultiplyMatricesRow.holds Try.pinned (OpenSpec.ofChange fnExactMultiplyMatricesSpec)

/-- ITS FALSE NEIGHBOUR: 'it returns false'. Refute it at one input. -/
def fnExactMultiplyMatricesWrong : ChangeSpec := { name := "fnExactMultiplyMatrices", fn := fun _ => fun
  | [d1, d2] => { results := [.lit (.bool false)], args := [d1, d2] }
  | _ => none }
def FnExactMultiplyMatricesWrongFalsely : Prop := fnExactMultiplyMatricesRow.holds Try.pinned (OpenSpec.ofChange fnExactMultiplyMatricesWrong)

/-- 'laws.FnExactComponentsOf': WHATEVER THE INPUT: true; the input reads as it did. -/
def fnExactComponentsOfSpec : ChangeSpec := { name := "fnExactComponentsOf", fn := fun _ => fun
  | [d] => { results := [.lit (.bool true)], args := [d] }
  | _ => none }
def fnExactComponentsOfRow : OpenClaim := { program := "ytkfpcbafhgolnaa", sum := "6f40551546c71b85007f9c2d4b6fa95e4e73edf79e2baa0af1f9191bfec6fcfb", func := "loop.example/g00941/laws.FnExactComponentsOf", spec := "fnExactComponentsOf", unfollowed := true, recurses := true, apart := false }
def FnExactComponentsOfSaid : Prop := fnExactComponentsOfRow.holds Try.pinned (OpenSpec.ofChange fnExactComponentsOfSpec)

/-- ITS FALSE NEIGHBOUR: 'it returns false'. Refute it at one input. -/
def fnExactComponentsOfWrong : ChangeSpec := { name := "fnExactComponentsOf", fn := fun _ => fun
  | [d] => { results := [.lit (.bool false)], args := [d] }
  | _ => none }
def FnExactComponentsOfWrongFalsely : Prop := fnExactComponentsOfRow.holds Try.pinned (OpenSpec.ofChange fnExactComponentsOfWrong)

/- THE SECOND FORM. 'bulk': how many values and letters a reading holds, each counted each time it is reached (what is shared counts as often as it is met; a slice's spare places count too). A statement '..UptoSaid' is the law's where the arguments, and the package variables that the reading takes, are together of bulk at most 1048576: NARROWER than '..Said'. Prove '..Said' where nothing that the law and all that it calls make is longer than what came in: it says more and counts as full. Else prove '..UptoSaid'. A law counts once. -/
mutual
def uptoBulk {H : Type} : DataW H → Nat
  | .lit (.string bytes) => bytes.length + 1
  | .lit _ => 1
  | .nil => 1
  | .ptr d => uptoBulk d + 1
  | .slice elems spare => uptoBulkAll elems + uptoBulkAll spare + 1
  | .agg parts => uptoBulkAll parts + 1
  | .iface _ d => uptoBulk d + 1
  | .map entries => uptoBulkEntries entries + 1
  | .held _ => 1
def uptoBulkAll {H : Type} : List (DataW H) → Nat
  | [] => 0
  | d :: r => uptoBulk d + uptoBulkAll r
def uptoBulkEntries {H : Type} : List (Lit × DataW H) → Nat
  | [] => 0
  | x :: r => uptoBulkEntry x + uptoBulkEntries r
def uptoBulkEntry {H : Type} : Lit × DataW H → Nat
  | (.string bytes, d) => bytes.length + uptoBulk d + 1
  | (_, d) => uptoBulk d + 1
 end
def uptoSmall : (H : Type) → List (DataW H) → Bool := fun _ ds => decide (uptoBulkAll ds ≤ 1048576)
def OpenSpec.upto (s : _root_.Go.ChangeSpec) : _root_.Go.OpenSpec := { _root_.Go.OpenSpec.ofChange s with cond := some uptoSmall }

/-- 'laws.FnValues', WHERE WHAT IT READS IS OF BULK AT MOST 1048576: true; the input reads as it did. -/
def fnValuesUptoRow : OpenClaim := { program := "ytkfpcbafhgolnaa", sum := "6f40551546c71b85007f9c2d4b6fa95e4e73edf79e2baa0af1f9191bfec6fcfb", func := "loop.example/g00941/laws.FnValues", spec := "fnValues", unfollowed := true, recurses := true, apart := false, narrowed := true }
def FnValuesUptoSaid : Prop := fnValuesUptoRow.holds Try.pinned (OpenSpec.upto fnValuesSpec)

/-- 'laws.FnExactCanReach', WHERE WHAT IT READS IS OF BULK AT MOST 1048576: true; the input reads as it did. -/
def fnExactCanReachUptoRow : OpenClaim := { program := "ytkfpcbafhgolnaa", sum := "6f40551546c71b85007f9c2d4b6fa95e4e73edf79e2baa0af1f9191bfec6fcfb", func := "loop.example/g00941/laws.FnExactCanReach", spec := "fnExactCanReach", unfollowed := true, recurses := true, apart := false, narrowed := true }
def FnExactCanReachUptoSaid : Prop := fnExactCanReachUptoRow.holds Try.pinned (OpenSpec.upto fnExactCanReachSpec)

/-- 'laws.FnExactPathWeight', WHERE WHAT IT READS IS OF BULK AT MOST 1048576: true; the input reads as it did. -/
def fnExactPathWeightUptoRow : OpenClaim := { program := "ytkfpcbafhgolnaa", sum := "6f40551546c71b85007f9c2d4b6fa95e4e73edf79e2baa0af1f9191bfec6fcfb", func := "loop.example/g00941/laws.FnExactPathWeight", spec := "fnExactPathWeight", unfollowed := true, recurses := true, apart := false, narrowed := true }
def FnExactPathWeightUptoSaid : Prop := fnExactPathWeightUptoRow.holds Try.pinned (OpenSpec.upto fnExactPathWeightSpec)

/-- 'laws.FnExactIsIrreducible', WHERE WHAT IT READS IS OF BULK AT MOST 1048576: true; the input reads as it did. -/
def fnExactIsIrreducibleUptoRow : OpenClaim := { program := "ytkfpcbafhgolnaa", sum := "6f40551546c71b85007f9c2d4b6fa95e4e73edf79e2baa0af1f9191bfec6fcfb", func := "loop.example/g00941/laws.FnExactIsIrreducible", spec := "fnExactIsIrreducible", unfollowed := true, recurses := true, apart := false, narrowed := true }
def FnExactIsIrreducibleUptoSaid : Prop := fnExactIsIrreducibleUptoRow.holds Try.pinned (OpenSpec.upto fnExactIsIrreducibleSpec)

/-- 'laws.FnExactTimesVector', WHERE WHAT IT READS IS OF BULK AT MOST 1048576: true; the input reads as it did. -/
def fnExactTimesVectorUptoRow : OpenClaim := { program := "ytkfpcbafhgolnaa", sum := "6f40551546c71b85007f9c2d4b6fa95e4e73edf79e2baa0af1f9191bfec6fcfb", func := "loop.example/g00941/laws.FnExactTimesVector", spec := "fnExactTimesVector", unfollowed := true, recurses := true, apart := false, narrowed := true }
def FnExactTimesVectorUptoSaid : Prop := fnExactTimesVectorUptoRow.holds Try.pinned (OpenSpec.upto fnExactTimesVectorSpec)

/-- 'laws.FnExactIsCycle', WHERE WHAT IT READS IS OF BULK AT MOST 1048576: true; the input reads as it did. -/
def fnExactIsCycleUptoRow : OpenClaim := { program := "ytkfpcbafhgolnaa", sum := "6f40551546c71b85007f9c2d4b6fa95e4e73edf79e2baa0af1f9191bfec6fcfb", func := "loop.example/g00941/laws.FnExactIsCycle", spec := "fnExactIsCycle", unfollowed := true, recurses := true, apart := false, narrowed := true }
def FnExactIsCycleUptoSaid : Prop := fnExactIsCycleUptoRow.holds Try.pinned (OpenSpec.upto fnExactIsCycleSpec)

/-- 'laws.FnTransposes', WHERE WHAT IT READS IS OF BULK AT MOST 1048576: true; the input reads as it did. -/
def fnTransposesUptoRow : OpenClaim := { program := "ytkfpcbafhgolnaa", sum := "6f40551546c71b85007f9c2d4b6fa95e4e73edf79e2baa0af1f9191bfec6fcfb", func := "loop.example/g00941/laws.FnTransposes", spec := "fnTransposes", unfollowed := true, recurses := true, apart := false, narrowed := true }
def FnTransposesUptoSaid : Prop := fnTransposesUptoRow.holds Try.pinned (OpenSpec.upto fnTransposesSpec)

/-- 'laws.FnExactCycleWeight', WHERE WHAT IT READS IS OF BULK AT MOST 1048576: true; the input reads as it did. -/
def fnExactCycleWeightUptoRow : OpenClaim := { program := "ytkfpcbafhgolnaa", sum := "6f40551546c71b85007f9c2d4b6fa95e4e73edf79e2baa0af1f9191bfec6fcfb", func := "loop.example/g00941/laws.FnExactCycleWeight", spec := "fnExactCycleWeight", unfollowed := true, recurses := true, apart := false, narrowed := true }
def FnExactCycleWeightUptoSaid : Prop := fnExactCycleWeightUptoRow.holds Try.pinned (OpenSpec.upto fnExactCycleWeightSpec)

/-- 'laws.FnExactStretchMatrix', WHERE WHAT IT READS IS OF BULK AT MOST 1048576: true; the input reads as it did. -/
def fnExactStretchMatrixUptoRow : OpenClaim := { program := "ytkfpcbafhgolnaa", sum := "6f40551546c71b85007f9c2d4b6fa95e4e73edf79e2baa0af1f9191bfec6fcfb", func := "loop.example/g00941/laws.FnExactStretchMatrix", spec := "fnExactStretchMatrix", unfollowed := true, recurses := true, apart := false, narrowed := true }
def FnExactStretchMatrixUptoSaid : Prop := fnExactStretchMatrixUptoRow.holds Try.pinned (OpenSpec.upto fnExactStretchMatrixSpec)

/-- 'laws.FnExactIsPotential', WHERE WHAT IT READS IS OF BULK AT MOST 1048576: true; the input reads as it did. -/
def fnExactIsPotentialUptoRow : OpenClaim := { program := "ytkfpcbafhgolnaa", sum := "6f40551546c71b85007f9c2d4b6fa95e4e73edf79e2baa0af1f9191bfec6fcfb", func := "loop.example/g00941/laws.FnExactIsPotential", spec := "fnExactIsPotential", unfollowed := true, recurses := true, apart := false, narrowed := true }
def FnExactIsPotentialUptoSaid : Prop := fnExactIsPotentialUptoRow.holds Try.pinned (OpenSpec.upto fnExactIsPotentialSpec)

/-- 'laws.FnExactMultiplyMatrices', WHERE WHAT IT READS IS OF BULK AT MOST 1048576: true; the input reads as it did. -/
def fnExactMultiplyMatricesUptoRow : OpenClaim := { program := "ytkfpcbafhgolnaa", sum := "6f40551546c71b85007f9c2d4b6fa95e4e73edf79e2baa0af1f9191bfec6fcfb", func := "loop.example/g00941/laws.FnExactMultiplyMatrices", spec := "fnExactMultiplyMatrices", unfollowed := true, recurses := true, apart := false, narrowed := true }
def FnExactMultiplyMatricesUptoSaid : Prop := fnExactMultiplyMatricesUptoRow.holds Try.pinned (OpenSpec.upto fnExactMultiplyMatricesSpec)

/-- 'laws.FnExactComponentsOf', WHERE WHAT IT READS IS OF BULK AT MOST 1048576: true; the input reads as it did. -/
def fnExactComponentsOfUptoRow : OpenClaim := { program := "ytkfpcbafhgolnaa", sum := "6f40551546c71b85007f9c2d4b6fa95e4e73edf79e2baa0af1f9191bfec6fcfb", func := "loop.example/g00941/laws.FnExactComponentsOf", spec := "fnExactComponentsOf", unfollowed := true, recurses := true, apart := false, narrowed := true }
def FnExactComponentsOfUptoSaid : Prop := fnExactComponentsOfUptoRow.holds Try.pinned (OpenSpec.upto fnExactComponentsOfSpec)

end Rows
end Go.Proofs.Ytkfpcbafhgolnaa
