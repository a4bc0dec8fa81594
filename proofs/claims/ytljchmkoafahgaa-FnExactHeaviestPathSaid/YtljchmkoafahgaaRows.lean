/-
  No cell of these rows narrows 'for every input' (looked for: loops, veiled, ifaces, maps, wideKeys, modest, calm, conditions, laid).
  DERIVED. THE GIVEN ROWS OF THIS SEAT. 12 by the template 'for every input the law returns true; each argument reads behind the call as it read before'; 0 by the template 'total and deterministic' (their statements: YtljchmkoafahgaaTotals.lean).
  GIVEN WITH THE SEED: the statements are not yours to turn. If you find one false, say at which input.
  Laid BY PROGRAM, IN A SANDBOX (cutbox-rows.mjs): the forced cells as the released guide's own fill.sh prints them over the translation 7dd8fface7a761d9… (all of the seat's roots in one cut). By AI agents, Wed Nov 11 2026. No macro, syntax, notation, axiom, sorry.
-/
import Derived.Test.YtljchmkoafahgaaChecked
import GoSem.Claim
import GoSem.ClaimJoined
import GoSem.ClaimMapViews
import Derived.JoinedTies
import Derived.KernelRfl
namespace Go.Proofs.Ytljchmkoafahgaa
/- THE CELL 'sum', in the pinned program and in every row, IS THE sha256 OF THE DUMP (.gsa) THAT YtljchmkoafahgaaProg.lean LOADS. Nothing in Lean hashes anything: it is a label: what it is worth is what the hold of that sum in a sandbox is worth. -/
noncomputable def Try.pinned : Pinned := { name := "ytljchmkoafahgaa", sum := "7dd8fface7a761d9441924099df944eb4c8b376d48c018e7bebdeb80fe9d9dd3", checked := Try.checked }
namespace Rows
def none {H : Type} : Left H := { results := [], args := [] }

/-- 'laws.FnExactCycleMean': WHATEVER THE INPUT: true; the input reads as it did. -/
def fnExactCycleMeanSpec : ChangeSpec := { name := "fnExactCycleMean", fn := fun _ => fun
  | [d] => { results := [.lit (.bool true)], args := [d] }
  | _ => none }
def fnExactCycleMeanRow : OpenClaim := { program := "ytljchmkoafahgaa", sum := "7dd8fface7a761d9441924099df944eb4c8b376d48c018e7bebdeb80fe9d9dd3", func := "loop.example/g00941/laws.FnExactCycleMean", spec := "fnExactCycleMean", unfollowed := true, recurses := true, apart := false }
def FnExactCycleMeanSaid : Prop := fnExactCycleMeanRow.holds Try.pinned (OpenSpec.ofChange fnExactCycleMeanSpec)

/-- ITS FALSE NEIGHBOUR: 'it returns false'. Refute it at one input. -/
def fnExactCycleMeanWrong : ChangeSpec := { name := "fnExactCycleMean", fn := fun _ => fun
  | [d] => { results := [.lit (.bool false)], args := [d] }
  | _ => none }
def FnExactCycleMeanWrongFalsely : Prop := fnExactCycleMeanRow.holds Try.pinned (OpenSpec.ofChange fnExactCycleMeanWrong)

/-- 'laws.FnExactIsCriticalCycle': WHATEVER THE INPUT: true; the input reads as it did. -/
def fnExactIsCriticalCycleSpec : ChangeSpec := { name := "fnExactIsCriticalCycle", fn := fun _ => fun
  | [d1, d2] => { results := [.lit (.bool true)], args := [d1, d2] }
  | _ => none }
def fnExactIsCriticalCycleRow : OpenClaim := { program := "ytljchmkoafahgaa", sum := "7dd8fface7a761d9441924099df944eb4c8b376d48c018e7bebdeb80fe9d9dd3", func := "loop.example/g00941/laws.FnExactIsCriticalCycle", spec := "fnExactIsCriticalCycle", unfollowed := true, recurses := true, apart := false }
def FnExactIsCriticalCycleSaid : Prop := fnExactIsCriticalCycleRow.holds Try.pinned (OpenSpec.ofChange fnExactIsCriticalCycleSpec)

/-- ITS FALSE NEIGHBOUR: 'it returns false'. Refute it at one input. -/
def fnExactIsCriticalCycleWrong : ChangeSpec := { name := "fnExactIsCriticalCycle", fn := fun _ => fun
  | [d1, d2] => { results := [.lit (.bool false)], args := [d1, d2] }
  | _ => none }
def FnExactIsCriticalCycleWrongFalsely : Prop := fnExactIsCriticalCycleRow.holds Try.pinned (OpenSpec.ofChange fnExactIsCriticalCycleWrong)

/-- 'laws.FnExactUpstreamMean': WHATEVER THE INPUT: true; the input reads as it did. -/
def fnExactUpstreamMeanSpec : ChangeSpec := { name := "fnExactUpstreamMean", fn := fun _ => fun
  | [d1, d2] => { results := [.lit (.bool true)], args := [d1, d2] }
  | _ => none }
def fnExactUpstreamMeanRow : OpenClaim := { program := "ytljchmkoafahgaa", sum := "7dd8fface7a761d9441924099df944eb4c8b376d48c018e7bebdeb80fe9d9dd3", func := "loop.example/g00941/laws.FnExactUpstreamMean", spec := "fnExactUpstreamMean", unfollowed := true, recurses := true, apart := false }
def FnExactUpstreamMeanSaid : Prop := fnExactUpstreamMeanRow.holds Try.pinned (OpenSpec.ofChange fnExactUpstreamMeanSpec)

/-- ITS FALSE NEIGHBOUR: 'it returns false'. Refute it at one input. -/
def fnExactUpstreamMeanWrong : ChangeSpec := { name := "fnExactUpstreamMean", fn := fun _ => fun
  | [d1, d2] => { results := [.lit (.bool false)], args := [d1, d2] }
  | _ => none }
def FnExactUpstreamMeanWrongFalsely : Prop := fnExactUpstreamMeanRow.holds Try.pinned (OpenSpec.ofChange fnExactUpstreamMeanWrong)

/-- 'laws.FnExactCriticalMatrix': WHATEVER THE INPUT: true; the input reads as it did. -/
def fnExactCriticalMatrixSpec : ChangeSpec := { name := "fnExactCriticalMatrix", fn := fun _ => fun
  | [d] => { results := [.lit (.bool true)], args := [d] }
  | _ => none }
def fnExactCriticalMatrixRow : OpenClaim := { program := "ytljchmkoafahgaa", sum := "7dd8fface7a761d9441924099df944eb4c8b376d48c018e7bebdeb80fe9d9dd3", func := "loop.example/g00941/laws.FnExactCriticalMatrix", spec := "fnExactCriticalMatrix", unfollowed := true, recurses := true, apart := false }
def FnExactCriticalMatrixSaid : Prop := fnExactCriticalMatrixRow.holds Try.pinned (OpenSpec.ofChange fnExactCriticalMatrixSpec)

/-- ITS FALSE NEIGHBOUR: 'it returns false'. Refute it at one input. -/
def fnExactCriticalMatrixWrong : ChangeSpec := { name := "fnExactCriticalMatrix", fn := fun _ => fun
  | [d] => { results := [.lit (.bool false)], args := [d] }
  | _ => none }
def FnExactCriticalMatrixWrongFalsely : Prop := fnExactCriticalMatrixRow.holds Try.pinned (OpenSpec.ofChange fnExactCriticalMatrixWrong)

/-- 'laws.FnExactCriticalArcs': WHATEVER THE INPUT: true; the input reads as it did. -/
def fnExactCriticalArcsSpec : ChangeSpec := { name := "fnExactCriticalArcs", fn := fun _ => fun
  | [d] => { results := [.lit (.bool true)], args := [d] }
  | _ => none }
def fnExactCriticalArcsRow : OpenClaim := { program := "ytljchmkoafahgaa", sum := "7dd8fface7a761d9441924099df944eb4c8b376d48c018e7bebdeb80fe9d9dd3", func := "loop.example/g00941/laws.FnExactCriticalArcs", spec := "fnExactCriticalArcs", unfollowed := true, recurses := true, apart := false }
def FnExactCriticalArcsSaid : Prop := fnExactCriticalArcsRow.holds Try.pinned (OpenSpec.ofChange fnExactCriticalArcsSpec)

/-- ITS FALSE NEIGHBOUR: 'it returns false'. Refute it at one input. -/
def fnExactCriticalArcsWrong : ChangeSpec := { name := "fnExactCriticalArcs", fn := fun _ => fun
  | [d] => { results := [.lit (.bool false)], args := [d] }
  | _ => none }
def FnExactCriticalArcsWrongFalsely : Prop := fnExactCriticalArcsRow.holds Try.pinned (OpenSpec.ofChange fnExactCriticalArcsWrong)

/-- 'laws.FnExactCriticalComponents': WHATEVER THE INPUT: true; the input reads as it did. -/
def fnExactCriticalComponentsSpec : ChangeSpec := { name := "fnExactCriticalComponents", fn := fun _ => fun
  | [d] => { results := [.lit (.bool true)], args := [d] }
  | _ => none }
def fnExactCriticalComponentsRow : OpenClaim := { program := "ytljchmkoafahgaa", sum := "7dd8fface7a761d9441924099df944eb4c8b376d48c018e7bebdeb80fe9d9dd3", func := "loop.example/g00941/laws.FnExactCriticalComponents", spec := "fnExactCriticalComponents", unfollowed := true, recurses := true, apart := false }
def FnExactCriticalComponentsSaid : Prop := fnExactCriticalComponentsRow.holds Try.pinned (OpenSpec.ofChange fnExactCriticalComponentsSpec)

/-- ITS FALSE NEIGHBOUR: 'it returns false'. Refute it at one input. -/
def fnExactCriticalComponentsWrong : ChangeSpec := { name := "fnExactCriticalComponents", fn := fun _ => fun
  | [d] => { results := [.lit (.bool false)], args := [d] }
  | _ => none }
def FnExactCriticalComponentsWrongFalsely : Prop := fnExactCriticalComponentsRow.holds Try.pinned (OpenSpec.ofChange fnExactCriticalComponentsWrong)

/-- 'laws.FnExactEigenColumns': WHATEVER THE INPUT: true; the input reads as it did. -/
def fnExactEigenColumnsSpec : ChangeSpec := { name := "fnExactEigenColumns", fn := fun _ => fun
  | [d] => { results := [.lit (.bool true)], args := [d] }
  | _ => none }
def fnExactEigenColumnsRow : OpenClaim := { program := "ytljchmkoafahgaa", sum := "7dd8fface7a761d9441924099df944eb4c8b376d48c018e7bebdeb80fe9d9dd3", func := "loop.example/g00941/laws.FnExactEigenColumns", spec := "fnExactEigenColumns", unfollowed := true, recurses := true, apart := false }
def FnExactEigenColumnsSaid : Prop := fnExactEigenColumnsRow.holds Try.pinned (OpenSpec.ofChange fnExactEigenColumnsSpec)

/-- ITS FALSE NEIGHBOUR: 'it returns false'. Refute it at one input. -/
def fnExactEigenColumnsWrong : ChangeSpec := { name := "fnExactEigenColumns", fn := fun _ => fun
  | [d] => { results := [.lit (.bool false)], args := [d] }
  | _ => none }
def FnExactEigenColumnsWrongFalsely : Prop := fnExactEigenColumnsRow.holds Try.pinned (OpenSpec.ofChange fnExactEigenColumnsWrong)

/-- 'laws.FnExactCyclicity': WHATEVER THE INPUT: true; the input reads as it did. -/
def fnExactCyclicitySpec : ChangeSpec := { name := "fnExactCyclicity", fn := fun _ => fun
  | [d] => { results := [.lit (.bool true)], args := [d] }
  | _ => none }
def fnExactCyclicityRow : OpenClaim := { program := "ytljchmkoafahgaa", sum := "7dd8fface7a761d9441924099df944eb4c8b376d48c018e7bebdeb80fe9d9dd3", func := "loop.example/g00941/laws.FnExactCyclicity", spec := "fnExactCyclicity", unfollowed := true, recurses := true, apart := false }
def FnExactCyclicitySaid : Prop := fnExactCyclicityRow.holds Try.pinned (OpenSpec.ofChange fnExactCyclicitySpec)

/-- ITS FALSE NEIGHBOUR: 'it returns false'. Refute it at one input. -/
def fnExactCyclicityWrong : ChangeSpec := { name := "fnExactCyclicity", fn := fun _ => fun
  | [d] => { results := [.lit (.bool false)], args := [d] }
  | _ => none }
def FnExactCyclicityWrongFalsely : Prop := fnExactCyclicityRow.holds Try.pinned (OpenSpec.ofChange fnExactCyclicityWrong)

/-- 'laws.FnVectors': WHATEVER THE INPUT: true; the input reads as it did. -/
def fnVectorsSpec : ChangeSpec := { name := "fnVectors", fn := fun _ => fun
  | [d] => { results := [.lit (.bool true)], args := [d] }
  | _ => none }
def fnVectorsRow : OpenClaim := { program := "ytljchmkoafahgaa", sum := "7dd8fface7a761d9441924099df944eb4c8b376d48c018e7bebdeb80fe9d9dd3", func := "loop.example/g00941/laws.FnVectors", spec := "fnVectors", unfollowed := true, recurses := true, apart := false }
def FnVectorsSaid : Prop := fnVectorsRow.holds Try.pinned (OpenSpec.ofChange fnVectorsSpec)

/-- ITS FALSE NEIGHBOUR: 'it returns false'. Refute it at one input. -/
def fnVectorsWrong : ChangeSpec := { name := "fnVectors", fn := fun _ => fun
  | [d] => { results := [.lit (.bool false)], args := [d] }
  | _ => none }
def FnVectorsWrongFalsely : Prop := fnVectorsRow.holds Try.pinned (OpenSpec.ofChange fnVectorsWrong)

/-- 'laws.FnMatrixProducts': WHATEVER THE INPUT: true; the input reads as it did. -/
def fnMatrixProductsSpec : ChangeSpec := { name := "fnMatrixProducts", fn := fun _ => fun
  | [d] => { results := [.lit (.bool true)], args := [d] }
  | _ => none }
def fnMatrixProductsRow : OpenClaim := { program := "ytljchmkoafahgaa", sum := "7dd8fface7a761d9441924099df944eb4c8b376d48c018e7bebdeb80fe9d9dd3", func := "loop.example/g00941/laws.FnMatrixProducts", spec := "fnMatrixProducts", unfollowed := true, recurses := true, apart := false }
def FnMatrixProductsSaid : Prop := fnMatrixProductsRow.holds Try.pinned (OpenSpec.ofChange fnMatrixProductsSpec)

/-- ITS FALSE NEIGHBOUR: 'it returns false'. Refute it at one input. -/
def fnMatrixProductsWrong : ChangeSpec := { name := "fnMatrixProducts", fn := fun _ => fun
  | [d] => { results := [.lit (.bool false)], args := [d] }
  | _ => none }
def FnMatrixProductsWrongFalsely : Prop := fnMatrixProductsRow.holds Try.pinned (OpenSpec.ofChange fnMatrixProductsWrong)

/-- 'laws.FnExactTableMean': WHATEVER THE INPUT: true; the input reads as it did. -/
def fnExactTableMeanSpec : ChangeSpec := { name := "fnExactTableMean", fn := fun _ => fun
  | [d] => { results := [.lit (.bool true)], args := [d] }
  | _ => none }
def fnExactTableMeanRow : OpenClaim := { program := "ytljchmkoafahgaa", sum := "7dd8fface7a761d9441924099df944eb4c8b376d48c018e7bebdeb80fe9d9dd3", func := "loop.example/g00941/laws.FnExactTableMean", spec := "fnExactTableMean", unfollowed := true, recurses := true, apart := false }
def FnExactTableMeanSaid : Prop := fnExactTableMeanRow.holds Try.pinned (OpenSpec.ofChange fnExactTableMeanSpec)

/-- ITS FALSE NEIGHBOUR: 'it returns false'. Refute it at one input. -/
def fnExactTableMeanWrong : ChangeSpec := { name := "fnExactTableMean", fn := fun _ => fun
  | [d] => { results := [.lit (.bool false)], args := [d] }
  | _ => none }
def FnExactTableMeanWrongFalsely : Prop := fnExactTableMeanRow.holds Try.pinned (OpenSpec.ofChange fnExactTableMeanWrong)

/-- 'laws.FnExactHeaviestPath': WHATEVER THE INPUT: true; the input reads as it did. -/
def fnExactHeaviestPathSpec : ChangeSpec := { name := "fnExactHeaviestPath", fn := fun _ => fun
  | [d1, d2, d3] => { results := [.lit (.bool true)], args := [d1, d2, d3] }
  | _ => none }
def fnExactHeaviestPathRow : OpenClaim := { program := "ytljchmkoafahgaa", sum := "7dd8fface7a761d9441924099df944eb4c8b376d48c018e7bebdeb80fe9d9dd3", func := "loop.example/g00941/laws.FnExactHeaviestPath", spec := "fnExactHeaviestPath", unfollowed := true, recurses := true, apart := false }
def FnExactHeaviestPathSaid : Prop := fnExactHeaviestPathRow.holds Try.pinned (OpenSpec.ofChange fnExactHeaviestPathSpec)

/-- ITS FALSE NEIGHBOUR: 'it returns false'. Refute it at one input. -/
def fnExactHeaviestPathWrong : ChangeSpec := { name := "fnExactHeaviestPath", fn := fun _ => fun
  | [d1, d2, d3] => { results := [.lit (.bool false)], args := [d1, d2, d3] }
  | _ => none }
def FnExactHeaviestPathWrongFalsely : Prop := fnExactHeaviestPathRow.holds Try.pinned (OpenSpec.ofChange fnExactHeaviestPathWrong)

/- THE SECOND FORM. 'bulk': how many values and letters a reading holds, each counted each time it is reached (what is shared counts as often as it is met; a slice's spare places count too). A statement '..UptoSaid' is the law's where the arguments, and the package variables that the reading takes, are together of bulk at most 1048576: NARROWER than '..Said'. Prove '..Said' where nothing that the law and all that it calls make is longer than what came in: it says more and counts as full. Else prove '..UptoSaid'. A law counts once. -/
mutual
def uptoBulk {H : Type} : DataW H → Nat
  | .lit (.string bytes) => bytes.length + 1
  | .lit _ => 1
  | .nil => 1
  | .ptr d => uptoBulk d + 1
  | .slice elems spare => uptoBulkAll elems + uptoBulkAll spare + 1
  | .agg parts => uptoBulkAll parts + 1
  | .iface _ d => uptoBulk d + 1
  | .map entries => uptoBulkEntries entries + 1
  | .held _ => 1
def uptoBulkAll {H : Type} : List (DataW H) → Nat
  | [] => 0
  | d :: r => uptoBulk d + uptoBulkAll r
def uptoBulkEntries {H : Type} : List (Lit × DataW H) → Nat
  | [] => 0
  | x :: r => uptoBulkEntry x + uptoBulkEntries r
def uptoBulkEntry {H : Type} : Lit × DataW H → Nat
  | (.string bytes, d) => bytes.length + uptoBulk d + 1
  | (_, d) => uptoBulk d + 1
 end
def uptoSmall : (H : Type) → List (DataW H) → Bool := fun _ ds => decide (uptoBulkAll ds ≤ 1048576)
def OpenSpec.upto (s : _root_.Go.ChangeSpec) : _root_.Go.OpenSpec := { _root_.Go.OpenSpec.ofChange s with cond := some uptoSmall }

/-- 'laws.FnExactCycleMean', WHERE WHAT IT READS IS OF BULK AT MOST 1048576: true; the input reads as it did. -/
def fnExactCycleMeanUptoRow : OpenClaim := { program := "ytljchmkoafahgaa", sum := "7dd8fface7a761d9441924099df944eb4c8b376d48c018e7bebdeb80fe9d9dd3", func := "loop.example/g00941/laws.FnExactCycleMean", spec := "fnExactCycleMean", unfollowed := true, recurses := true, apart := false, narrowed := true }
def FnExactCycleMeanUptoSaid : Prop := fnExactCycleMeanUptoRow.holds Try.pinned (OpenSpec.upto fnExactCycleMeanSpec)

/-- 'laws.FnExactIsCriticalCycle', WHERE WHAT IT READS IS OF BULK AT MOST 1048576: true; the input reads as it did. -/
def fnExactIsCriticalCycleUptoRow : OpenClaim := { program := "ytljchmkoafahgaa", sum := "7dd8fface7a761d9441924099df944eb4c8b376d48c018e7bebdeb80fe9d9dd3", func := "loop.example/g00941/laws.FnExactIsCriticalCycle", spec := "fnExactIsCriticalCycle", unfollowed := true, recurses := true, apart := false, narrowed := true }
def FnExactIsCriticalCycleUptoSaid : Prop := fnExactIsCriticalCycleUptoRow.holds Try.pinned (OpenSpec.upto fnExactIsCriticalCycleSpec)

/-- 'laws.FnExactUpstreamMean', WHERE WHAT IT READS IS OF BULK AT MOST 1048576: true; the input reads as it did. -/
def fnExactUpstreamMeanUptoRow : OpenClaim := { program := "ytljchmkoafahgaa", sum := "7dd8fface7a761d9441924099df944eb4c8b376d48c018e7bebdeb80fe9d9dd3", func := "loop.example/g00941/laws.FnExactUpstreamMean", spec := "fnExactUpstreamMean", unfollowed := true, recurses := true, apart := false, narrowed := true }
def FnExactUpstreamMeanUptoSaid : Prop := fnExactUpstreamMeanUptoRow.holds Try.pinned (OpenSpec.upto fnExactUpstreamMeanSpec)

/-- 'laws.FnExactCriticalMatrix', WHERE WHAT IT READS IS OF BULK AT MOST 1048576: true; the input reads as it did. -/
def fnExactCriticalMatrixUptoRow : OpenClaim := { program := "ytljchmkoafahgaa", sum := "7dd8fface7a761d9441924099df944eb4c8b376d48c018e7bebdeb80fe9d9dd3", func := "loop.example/g00941/laws.FnExactCriticalMatrix", spec := "fnExactCriticalMatrix", unfollowed := true, recurses := true, apart := false, narrowed := true }
def FnExactCriticalMatrixUptoSaid : Prop := fnExactCriticalMatrixUptoRow.holds Try.pinned (OpenSpec.upto fnExactCriticalMatrixSpec)

/-- 'laws.FnExactCriticalArcs', WHERE WHAT IT READS IS OF BULK AT MOST 1048576: true; the input reads as it did. -/
def fnExactCriticalArcsUptoRow : OpenClaim := { program := "ytljchmkoafahgaa", sum := "7dd8fface7a761d9441924099df944eb4c8b376d48c018e7bebdeb80fe9d9dd3", func := "loop.example/g00941/laws.FnExactCriticalArcs", spec := "fnExactCriticalArcs", unfollowed := true, recurses := true, apart := false, narrowed := true }
def FnExactCriticalArcsUptoSaid : Prop := fnExactCriticalArcsUptoRow.holds Try.pinned (OpenSpec.upto fnExactCriticalArcsSpec)

/-- 'laws.FnExactCriticalComponents', WHERE WHAT IT READS IS OF BULK AT MOST 1048576: true; the input reads as it did. -/
def fnExactCriticalComponentsUptoRow : OpenClaim := { program := "ytljchmkoafahgaa", sum := "7dd8fface7a761d9441924099df944eb4c8b376d48c018e7bebdeb80fe9d9dd3", func := "loop.example/g00941/laws.FnExactCriticalComponents", spec := "fnExactCriticalComponents", unfollowed := true, recurses := true, apart := false, narrowed := true }
def FnExactCriticalComponentsUptoSaid : Prop := fnExactCriticalComponentsUptoRow.holds Try.pinned (OpenSpec.upto fnExactCriticalComponentsSpec)

/-- 'laws.FnExactEigenColumns', WHERE WHAT IT READS IS OF BULK AT MOST 1048576: true; the input reads as it did. -/
def fnExactEigenColumnsUptoRow : OpenClaim := { program := "ytljchmkoafahgaa", sum := "7dd8fface7a761d9441924099df944eb4c8b376d48c018e7bebdeb80fe9d9dd3", func := "loop.example/g00941/laws.FnExactEigenColumns", spec := "fnExactEigenColumns", unfollowed := true, recurses := true, apart := false, narrowed := true }
def FnExactEigenColumnsUptoSaid : Prop := fnExactEigenColumnsUptoRow.holds Try.pinned (OpenSpec.upto fnExactEigenColumnsSpec)

/-- 'laws.FnExactCyclicity', WHERE WHAT IT READS IS OF BULK AT MOST 1048576: true; the input reads as it did. -/
def fnExactCyclicityUptoRow : OpenClaim := { program := "ytljchmkoafahgaa", sum := "7dd8fface7a761d9441924099df944eb4c8b376d48c018e7bebdeb80fe9d9dd3", func := "loop.example/g00941/laws.FnExactCyclicity", spec := "fnExactCyclicity", unfollowed := true, recurses := true, apart := false, narrowed := true }
def FnExactCyclicityUptoSaid : Prop := fnExactCyclicityUptoRow.holds Try.pinned (OpenSpec.upto fnExactCyclicitySpec)

/-- 'laws.FnVectors', WHERE WHAT IT READS IS OF BULK AT MOST 1048576: true; the input reads as it did. -/
def fnVectorsUptoRow : OpenClaim := { program := "ytljchmkoafahgaa", sum := "7dd8fface7a761d9441924099df944eb4c8b376d48c018e7bebdeb80fe9d9dd3", func := "loop.example/g00941/laws.FnVectors", spec := "fnVectors", unfollowed := true, recurses := true, apart := false, narrowed := true }
def FnVectorsUptoSaid : Prop := fnVectorsUptoRow.holds Try.pinned (OpenSpec.upto fnVectorsSpec)

/-- 'laws.FnMatrixProducts', WHERE WHAT IT READS IS OF BULK AT MOST 1048576: true; the input reads as it did. -/
def fnMatrixProductsUptoRow : OpenClaim := { program := "ytljchmkoafahgaa", sum := "7dd8fface7a761d9441924099df944eb4c8b376d48c018e7bebdeb80fe9d9dd3", func := "loop.example/g00941/laws.FnMatrixProducts", spec := "fnMatrixProducts", unfollowed := true, recurses := true, apart := false, narrowed := true }
def FnMatrixProductsUptoSaid : Prop := fnMatrixProductsUptoRow.holds Try.pinned (OpenSpec.upto fnMatrixProductsSpec)

/-- 'laws.FnExactTableMean', WHERE WHAT IT READS IS OF BULK AT MOST 1048576: true; the input reads as it did. -/
def fnExactTableMeanUptoRow : OpenClaim := { program := "ytljchmkoafahgaa", sum := "7dd8fface7a761d9441924099df944eb4c8b376d48c018e7bebdeb80fe9d9dd3", func := "loop.example/g00941/laws.FnExactTableMean", spec := "fnExactTableMean", unfollowed := true, recurses := true, apart := false, narrowed := true }
def FnExactTableMeanUptoSaid : Prop := fnExactTableMeanUptoRow.holds Try.pinned (OpenSpec.upto fnExactTableMeanSpec)

/-- 'laws.FnExactHeaviestPath', WHERE WHAT IT READS IS OF BULK AT MOST 1048576: true; the input reads as it did. -/
def fnExactHeaviestPathUptoRow : OpenClaim := { program := "ytljchmkoafahgaa", sum := "7dd8fface7a761d9441924099df944eb4c8b376d48c018e7bebdeb80fe9d9dd3", func := "loop.example/g00941/laws.FnExactHeaviestPath", spec := "fnExactHeaviestPath", unfollowed := true, recurses := true, apart := false, narrowed := true }
def FnExactHeaviestPathUptoSaid : Prop := fnExactHeaviestPathUptoRow.holds Try.pinned (OpenSpec.upto fnExactHeaviestPathSpec)

end Rows
end Go.Proofs.Ytljchmkoafahgaa
