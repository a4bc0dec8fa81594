/-
  No cell of these rows narrows 'for every input' (looked for: loops, veiled, ifaces, maps, wideKeys, modest, calm, conditions, laid).
  DERIVED. THE GIVEN ROWS OF THIS SEAT. 10 by the template 'for every input the law returns true; each argument reads behind the call as it read before'; 0 by the template 'total and deterministic' (their statements: YtcgfhmkcopigbaaTotals.lean).
  GIVEN WITH THE SEED: the statements are not yours to turn. If you find one false, say at which input.
  Laid BY PROGRAM, IN A SANDBOX (cutbox-rows.mjs): the forced cells as the released guide's own fill.sh prints them over the translation cd959d7863b64256… (all of the seat's roots in one cut). By AI agents, Wed Nov 11 2026. No macro, syntax, notation, axiom, sorry.
-/
import Derived.Test.YtcgfhmkcopigbaaChecked
import GoSem.Claim
import GoSem.ClaimJoined
import GoSem.ClaimMapViews
import Derived.JoinedTies
import Derived.KernelRfl
namespace Go.Proofs.Ytcgfhmkcopigbaa
/- THE CELL 'sum', in the pinned program and in every row, IS THE sha256 OF THE DUMP (.gsa) THAT YtcgfhmkcopigbaaProg.lean LOADS. Nothing in Lean hashes anything: it is a label: what it is worth is what the hold of that sum in a sandbox is worth. -/
noncomputable def Try.pinned : Pinned := { name := "ytcgfhmkcopigbaa", sum := "cd959d7863b64256f91fb7c18a76955f383cf878b3ca4f82f9a0a5606c9b7ee9", checked := Try.checked }
namespace Rows
def none {H : Type} : Left H := { results := [], args := [] }

/-- 'laws.FnQuotients': WHATEVER THE INPUT: true; the input reads as it did. -/
def fnQuotientsSpec : ChangeSpec := { name := "fnQuotients", fn := fun _ => fun
  | [d] => { results := [.lit (.bool true)], args := [d] }
  | _ => none }
def fnQuotientsRow : OpenClaim := { program := "ytcgfhmkcopigbaa", sum := "cd959d7863b64256f91fb7c18a76955f383cf878b3ca4f82f9a0a5606c9b7ee9", func := "loop.example/g00941/laws.FnQuotients", spec := "fnQuotients", apart := false }
def FnQuotientsSaid : Prop := fnQuotientsRow.holds Try.pinned (OpenSpec.ofChange fnQuotientsSpec)

/-- ITS FALSE NEIGHBOUR: 'it returns false'. Refute it at one input. -/
def fnQuotientsWrong : ChangeSpec := { name := "fnQuotients", fn := fun _ => fun
  | [d] => { results := [.lit (.bool false)], args := [d] }
  | _ => none }
def FnQuotientsWrongFalsely : Prop := fnQuotientsRow.holds Try.pinned (OpenSpec.ofChange fnQuotientsWrong)

/-- 'laws.FnExactUnitMatrix': WHATEVER THE INPUT: true; the input reads as it did. -/
def fnExactUnitMatrixSpec : ChangeSpec := { name := "fnExactUnitMatrix", fn := fun _ => fun
  | [d] => { results := [.lit (.bool true)], args := [d] }
  | _ => none }
def fnExactUnitMatrixRow : OpenClaim := { program := "ytcgfhmkcopigbaa", sum := "cd959d7863b64256f91fb7c18a76955f383cf878b3ca4f82f9a0a5606c9b7ee9", func := "loop.example/g00941/laws.FnExactUnitMatrix", spec := "fnExactUnitMatrix", unfollowed := true, recurses := true, apart := false }
def FnExactUnitMatrixSaid : Prop := fnExactUnitMatrixRow.holds Try.pinned (OpenSpec.ofChange fnExactUnitMatrixSpec)

/-- ITS FALSE NEIGHBOUR: 'it returns false'. Refute it at one input. -/
def fnExactUnitMatrixWrong : ChangeSpec := { name := "fnExactUnitMatrix", fn := fun _ => fun
  | [d] => { results := [.lit (.bool false)], args := [d] }
  | _ => none }
def FnExactUnitMatrixWrongFalsely : Prop := fnExactUnitMatrixRow.holds Try.pinned (OpenSpec.ofChange fnExactUnitMatrixWrong)

/-- 'laws.FnExactIsMatrix': WHATEVER THE INPUT: true; the input reads as it did. -/
def fnExactIsMatrixSpec : ChangeSpec := { name := "fnExactIsMatrix", fn := fun _ => fun
  | [d] => { results := [.lit (.bool true)], args := [d] }
  | _ => none }
def fnExactIsMatrixRow : OpenClaim := { program := "ytcgfhmkcopigbaa", sum := "cd959d7863b64256f91fb7c18a76955f383cf878b3ca4f82f9a0a5606c9b7ee9", func := "loop.example/g00941/laws.FnExactIsMatrix", spec := "fnExactIsMatrix", unfollowed := true, recurses := true, apart := false }
def FnExactIsMatrixSaid : Prop := fnExactIsMatrixRow.holds Try.pinned (OpenSpec.ofChange fnExactIsMatrixSpec)

/-- ITS FALSE NEIGHBOUR: 'it returns false'. Refute it at one input. -/
def fnExactIsMatrixWrong : ChangeSpec := { name := "fnExactIsMatrix", fn := fun _ => fun
  | [d] => { results := [.lit (.bool false)], args := [d] }
  | _ => none }
def FnExactIsMatrixWrongFalsely : Prop := fnExactIsMatrixRow.holds Try.pinned (OpenSpec.ofChange fnExactIsMatrixWrong)

/-- 'laws.FnValues': WHATEVER THE INPUT: true; the input reads as it did. -/
def fnValuesSpec : ChangeSpec := { name := "fnValues", fn := fun _ => fun
  | [d] => { results := [.lit (.bool true)], args := [d] }
  | _ => none }
def fnValuesRow : OpenClaim := { program := "ytcgfhmkcopigbaa", sum := "cd959d7863b64256f91fb7c18a76955f383cf878b3ca4f82f9a0a5606c9b7ee9", func := "loop.example/g00941/laws.FnValues", spec := "fnValues", unfollowed := true, recurses := true, apart := false }
def FnValuesSaid : Prop := fnValuesRow.holds Try.pinned (OpenSpec.ofChange fnValuesSpec)

/-- ITS FALSE NEIGHBOUR: 'it returns false'. Refute it at one input. -/
def fnValuesWrong : ChangeSpec := { name := "fnValues", fn := fun _ => fun
  | [d] => { results := [.lit (.bool false)], args := [d] }
  | _ => none }
def FnValuesWrongFalsely : Prop := fnValuesRow.holds Try.pinned (OpenSpec.ofChange fnValuesWrong)

/-- 'laws.FnExactCanReach': WHATEVER THE INPUT: true; the input reads as it did. -/
def fnExactCanReachSpec : ChangeSpec := { name := "fnExactCanReach", fn := fun _ => fun
  | [d1, d2, d3] => { results := [.lit (.bool true)], args := [d1, d2, d3] }
  | _ => none }
def fnExactCanReachRow : OpenClaim := { program := "ytcgfhmkcopigbaa", sum := "cd959d7863b64256f91fb7c18a76955f383cf878b3ca4f82f9a0a5606c9b7ee9", func := "loop.example/g00941/laws.FnExactCanReach", spec := "fnExactCanReach", unfollowed := true, recurses := true, apart := false }
def FnExactCanReachSaid : Prop := fnExactCanReachRow.holds Try.pinned (OpenSpec.ofChange fnExactCanReachSpec)

/-- ITS FALSE NEIGHBOUR: 'it returns false'. Refute it at one input. -/
def fnExactCanReachWrong : ChangeSpec := { name := "fnExactCanReach", fn := fun _ => fun
  | [d1, d2, d3] => { results := [.lit (.bool false)], args := [d1, d2, d3] }
  | _ => none }
def FnExactCanReachWrongFalsely : Prop := fnExactCanReachRow.holds Try.pinned (OpenSpec.ofChange fnExactCanReachWrong)

/-- 'laws.FnRatioOrder': WHATEVER THE INPUT: true; the input reads as it did. -/
def fnRatioOrderSpec : ChangeSpec := { name := "fnRatioOrder", fn := fun _ => fun
  | [d] => { results := [.lit (.bool true)], args := [d] }
  | _ => none }
def fnRatioOrderRow : OpenClaim := { program := "ytcgfhmkcopigbaa", sum := "cd959d7863b64256f91fb7c18a76955f383cf878b3ca4f82f9a0a5606c9b7ee9", func := "loop.example/g00941/laws.FnRatioOrder", spec := "fnRatioOrder", apart := false }
def FnRatioOrderSaid : Prop := fnRatioOrderRow.holds Try.pinned (OpenSpec.ofChange fnRatioOrderSpec)

/-- ITS FALSE NEIGHBOUR: 'it returns false'. Refute it at one input. -/
def fnRatioOrderWrong : ChangeSpec := { name := "fnRatioOrder", fn := fun _ => fun
  | [d] => { results := [.lit (.bool false)], args := [d] }
  | _ => none }
def FnRatioOrderWrongFalsely : Prop := fnRatioOrderRow.holds Try.pinned (OpenSpec.ofChange fnRatioOrderWrong)

/-- 'laws.FnExactPathWeight': WHATEVER THE INPUT: true; the input reads as it did. -/
def fnExactPathWeightSpec : ChangeSpec := { name := "fnExactPathWeight", fn := fun _ => fun
  | [d1, d2] => { results := [.lit (.bool true)], args := [d1, d2] }
  | _ => none }
def fnExactPathWeightRow : OpenClaim := { program := "ytcgfhmkcopigbaa", sum := "cd959d7863b64256f91fb7c18a76955f383cf878b3ca4f82f9a0a5606c9b7ee9", func := "loop.example/g00941/laws.FnExactPathWeight", spec := "fnExactPathWeight", unfollowed := true, recurses := true, apart := false }
def FnExactPathWeightSaid : Prop := fnExactPathWeightRow.holds Try.pinned (OpenSpec.ofChange fnExactPathWeightSpec)

/-- ITS FALSE NEIGHBOUR: 'it returns false'. Refute it at one input. -/
def fnExactPathWeightWrong : ChangeSpec := { name := "fnExactPathWeight", fn := fun _ => fun
  | [d1, d2] => { results := [.lit (.bool false)], args := [d1, d2] }
  | _ => none }
def FnExactPathWeightWrongFalsely : Prop := fnExactPathWeightRow.holds Try.pinned (OpenSpec.ofChange fnExactPathWeightWrong)

/-- 'laws.FnExactTransposeMatrix': WHATEVER THE INPUT: true; the input reads as it did. -/
def fnExactTransposeMatrixSpec : ChangeSpec := { name := "fnExactTransposeMatrix", fn := fun _ => fun
  | [d] => { results := [.lit (.bool true)], args := [d] }
  | _ => none }
def fnExactTransposeMatrixRow : OpenClaim := { program := "ytcgfhmkcopigbaa", sum := "cd959d7863b64256f91fb7c18a76955f383cf878b3ca4f82f9a0a5606c9b7ee9", func := "loop.example/g00941/laws.FnExactTransposeMatrix", spec := "fnExactTransposeMatrix", unfollowed := true, recurses := true, apart := false }
def FnExactTransposeMatrixSaid : Prop := fnExactTransposeMatrixRow.holds Try.pinned (OpenSpec.ofChange fnExactTransposeMatrixSpec)

/-- ITS FALSE NEIGHBOUR: 'it returns false'. Refute it at one input. -/
def fnExactTransposeMatrixWrong : ChangeSpec := { name := "fnExactTransposeMatrix", fn := fun _ => fun
  | [d] => { results := [.lit (.bool false)], args := [d] }
  | _ => none }
def FnExactTransposeMatrixWrongFalsely : Prop := fnExactTransposeMatrixRow.holds Try.pinned (OpenSpec.ofChange fnExactTransposeMatrixWrong)

/-- 'laws.FnExactAddMatrices': WHATEVER THE INPUT: true; the input reads as it did. -/
def fnExactAddMatricesSpec : ChangeSpec := { name := "fnExactAddMatrices", fn := fun _ => fun
  | [d1, d2] => { results := [.lit (.bool true)], args := [d1, d2] }
  | _ => none }
def fnExactAddMatricesRow : OpenClaim := { program := "ytcgfhmkcopigbaa", sum := "cd959d7863b64256f91fb7c18a76955f383cf878b3ca4f82f9a0a5606c9b7ee9", func := "loop.example/g00941/laws.FnExactAddMatrices", spec := "fnExactAddMatrices", unfollowed := true, recurses := true, apart := false }
def FnExactAddMatricesSaid : Prop := fnExactAddMatricesRow.holds Try.pinned (OpenSpec.ofChange fnExactAddMatricesSpec)

/-- ITS FALSE NEIGHBOUR: 'it returns false'. Refute it at one input. -/
def fnExactAddMatricesWrong : ChangeSpec := { name := "fnExactAddMatrices", fn := fun _ => fun
  | [d1, d2] => { results := [.lit (.bool false)], args := [d1, d2] }
  | _ => none }
def FnExactAddMatricesWrongFalsely : Prop := fnExactAddMatricesRow.holds Try.pinned (OpenSpec.ofChange fnExactAddMatricesWrong)

/-- 'laws.FnExactIsIrreducible': WHATEVER THE INPUT: true; the input reads as it did. -/
def fnExactIsIrreducibleSpec : ChangeSpec := { name := "fnExactIsIrreducible", fn := fun _ => fun
  | [d] => { results := [.lit (.bool true)], args := [d] }
  | _ => none }
def fnExactIsIrreducibleRow : OpenClaim := { program := "ytcgfhmkcopigbaa", sum := "cd959d7863b64256f91fb7c18a76955f383cf878b3ca4f82f9a0a5606c9b7ee9", func := "loop.example/g00941/laws.FnExactIsIrreducible", spec := "fnExactIsIrreducible", unfollowed := true, recurses := true, apart := false }
def FnExactIsIrreducibleSaid : Prop := fnExactIsIrreducibleRow.holds Try.pinned (OpenSpec.ofChange fnExactIsIrreducibleSpec)

/-- ITS FALSE NEIGHBOUR: 'it returns false'. Refute it at one input. -/
def fnExactIsIrreducibleWrong : ChangeSpec := { name := "fnExactIsIrreducible", fn := fun _ => fun
  | [d] => { results := [.lit (.bool false)], args := [d] }
  | _ => none }
def FnExactIsIrreducibleWrongFalsely : Prop := fnExactIsIrreducibleRow.holds Try.pinned (OpenSpec.ofChange fnExactIsIrreducibleWrong)

/- THE SECOND FORM. 'bulk': how many values and letters a reading holds, each counted each time it is reached (what is shared counts as often as it is met; a slice's spare places count too). A statement '..UptoSaid' is the law's where the arguments, and the package variables that the reading takes, are together of bulk at most 1048576: NARROWER than '..Said'. Prove '..Said' where nothing that the law and all that it calls make is longer than what came in: it says more and counts as full. Else prove '..UptoSaid'. A law counts once. -/
mutual
def uptoBulk {H : Type} : DataW H → Nat
  | .lit (.string bytes) => bytes.length + 1
  | .lit _ => 1
  | .nil => 1
  | .ptr d => uptoBulk d + 1
  | .slice elems spare => uptoBulkAll elems + uptoBulkAll spare + 1
  | .agg parts => uptoBulkAll parts + 1
  | .iface _ d => uptoBulk d + 1
  | .map entries => uptoBulkEntries entries + 1
  | .held _ => 1
def uptoBulkAll {H : Type} : List (DataW H) → Nat
  | [] => 0
  | d :: r => uptoBulk d + uptoBulkAll r
def uptoBulkEntries {H : Type} : List (Lit × DataW H) → Nat
  | [] => 0
  | x :: r => uptoBulkEntry x + uptoBulkEntries r
def uptoBulkEntry {H : Type} : Lit × DataW H → Nat
  | (.string bytes, d) => bytes.length + uptoBulk d + 1
  | (_, d) => uptoBulk d + 1
 end
def uptoSmall : (H : Type) → List (DataW H) → Bool := fun _ ds => decide (uptoBulkAll ds ≤ 1048576)
def OpenSpec.upto (s : _root_.Go.ChangeSpec) : _root_.Go.OpenSpec := { _root_.Go.OpenSpec.ofChange s with cond := some uptoSmall }

/-- 'laws.FnQuotients', WHERE WHAT IT READS IS OF BULK AT MOST 1048576: true; the input reads as it did. -/
def fnQuotientsUptoRow : OpenClaim := { program := "ytcgfhmkcopigbaa", sum := "cd959d7863b64256f91fb7c18a76955f383cf878b3ca4f82f9a0a5606c9b7ee9", func := "loop.example/g00941/laws.FnQuotients", spec := "fnQuotients", apart := false, narrowed := true }
def FnQuotientsUptoSaid : Prop := fnQuotientsUptoRow.holds Try.pinned (OpenSpec.upto fnQuotientsSpec)

/-- 'laws.FnExactUnitMatrix', WHERE WHAT IT READS IS OF BULK AT MOST 1048576: true; the input reads as it did. -/
def fnExactUnitMatrixUptoRow : OpenClaim := { program := "ytcgfhmkcopigbaa", sum := "cd959d7863b64256f91fb7c18a76955f383cf878b3ca4f82f9a0a5606c9b7ee9", func := "loop.example/g00941/laws.FnExactUnitMatrix", spec := "fnExactUnitMatrix", unfollowed := true, recurses := true, apart := false, narrowed := true }
def FnExactUnitMatrixUptoSaid : Prop := fnExactUnitMatrixUptoRow.holds Try.pinned (OpenSpec.upto fnExactUnitMatrixSpec)

/-- 'laws.FnExactIsMatrix', WHERE WHAT IT READS IS OF BULK AT MOST 1048576: true; the input reads as it did. -/
def fnExactIsMatrixUptoRow : OpenClaim := { program := "ytcgfhmkcopigbaa", sum := "cd959d7863b64256f91fb7c18a76955f383cf878b3ca4f82f9a0a5606c9b7ee9", func := "loop.example/g00941/laws.FnExactIsMatrix", spec := "fnExactIsMatrix", unfollowed := true, recurses := true, apart := false, narrowed := true }
def FnExactIsMatrixUptoSaid : Prop := fnExactIsMatrixUptoRow.holds Try.pinned (OpenSpec.upto fnExactIsMatrixSpec)

/-- 'laws.FnValues', WHERE WHAT IT READS IS OF BULK AT MOST 1048576: true; the input reads as it did. -/
def fnValuesUptoRow : OpenClaim := { program := "ytcgfhmkcopigbaa", sum := "cd959d7863b64256f91fb7c18a76955f383cf878b3ca4f82f9a0a5606c9b7ee9", func := "loop.example/g00941/laws.FnValues", spec := "fnValues", unfollowed := true, recurses := true, apart := false, narrowed := true }
def FnValuesUptoSaid : Prop := fnValuesUptoRow.holds Try.pinned (OpenSpec.upto fnValuesSpec)

/-- 'laws.FnExactCanReach', WHERE WHAT IT READS IS OF BULK AT MOST 1048576: true; the input reads as it did. -/
def fnExactCanReachUptoRow : OpenClaim := { program := "ytcgfhmkcopigbaa", sum := "cd959d7863b64256f91fb7c18a76955f383cf878b3ca4f82f9a0a5606c9b7ee9", func := "loop.example/g00941/laws.FnExactCanReach", spec := "fnExactCanReach", unfollowed := true, recurses := true, apart := false, narrowed := true }
def FnExactCanReachUptoSaid : Prop := fnExactCanReachUptoRow.holds Try.pinned (OpenSpec.upto fnExactCanReachSpec)

/-- 'laws.FnRatioOrder', WHERE WHAT IT READS IS OF BULK AT MOST 1048576: true; the input reads as it did. -/
def fnRatioOrderUptoRow : OpenClaim := { program := "ytcgfhmkcopigbaa", sum := "cd959d7863b64256f91fb7c18a76955f383cf878b3ca4f82f9a0a5606c9b7ee9", func := "loop.example/g00941/laws.FnRatioOrder", spec := "fnRatioOrder", apart := false, narrowed := true }
def FnRatioOrderUptoSaid : Prop := fnRatioOrderUptoRow.holds Try.pinned (OpenSpec.upto fnRatioOrderSpec)

/-- 'laws.FnExactPathWeight', WHERE WHAT IT READS IS OF BULK AT MOST 1048576: true; the input reads as it did. -/
def fnExactPathWeightUptoRow : OpenClaim := { program := "ytcgfhmkcopigbaa", sum := "cd959d7863b64256f91fb7c18a76955f383cf878b3ca4f82f9a0a5606c9b7ee9", func := "loop.example/g00941/laws.FnExactPathWeight", spec := "fnExactPathWeight", unfollowed := true, recurses := true, apart := false, narrowed := true }
def FnExactPathWeightUptoSaid : Prop := fnExactPathWeightUptoRow.holds Try.pinned (OpenSpec.upto fnExactPathWeightSpec)

/-- 'laws.FnExactTransposeMatrix', WHERE WHAT IT READS IS OF BULK AT MOST 1048576: true; the input reads as it did. -/
def fnExactTransposeMatrixUptoRow : OpenClaim := { program := "ytcgfhmkcopigbaa", sum := "cd959d7863b64256f91fb7c18a76955f383cf878b3ca4f82f9a0a5606c9b7ee9", func := "loop.example/g00941/laws.FnExactTransposeMatrix", spec := "fnExactTransposeMatrix", unfollowed := true, recurses := true, apart := false, narrowed := true }
def FnExactTransposeMatrixUptoSaid : Prop := fnExactTransposeMatrixUptoRow.holds Try.pinned (OpenSpec.upto fnExactTransposeMatrixSpec)

/-- 'laws.FnExactAddMatrices', WHERE WHAT IT READS IS OF BULK AT MOST 1048576: true; the input reads as it did. -/
def fnExactAddMatricesUptoRow : OpenClaim := { program := "ytcgfhmkcopigbaa", sum := "cd959d7863b64256f91fb7c18a76955f383cf878b3ca4f82f9a0a5606c9b7ee9", func := "loop.example/g00941/laws.FnExactAddMatrices", spec := "fnExactAddMatrices", unfollowed := true, recurses := true, apart := false, narrowed := true }
def FnExactAddMatricesUptoSaid : Prop := fnExactAddMatricesUptoRow.holds Try.pinned (OpenSpec.upto fnExactAddMatricesSpec)

/-- 'laws.FnExactIsIrreducible', WHERE WHAT IT READS IS OF BULK AT MOST 1048576: true; the input reads as it did. -/
def fnExactIsIrreducibleUptoRow : OpenClaim := { program := "ytcgfhmkcopigbaa", sum := "cd959d7863b64256f91fb7c18a76955f383cf878b3ca4f82f9a0a5606c9b7ee9", func := "loop.example/g00941/laws.FnExactIsIrreducible", spec := "fnExactIsIrreducible", unfollowed := true, recurses := true, apart := false, narrowed := true }
def FnExactIsIrreducibleUptoSaid : Prop := fnExactIsIrreducibleUptoRow.holds Try.pinned (OpenSpec.upto fnExactIsIrreducibleSpec)

end Rows
end Go.Proofs.Ytcgfhmkcopigbaa
