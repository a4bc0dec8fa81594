/-
  DERIVED. GIVEN WITH THE SEED: THE CARDS: each row of YtkipbfjkcdccjaaGreatDoorRows.lean that lists a variable, with what it lists TIED to the program's text (the seventh form; the later family's looks); each row that meets fmt, with fmt's text TOLD by the authors' own Lean function (tested against real Go, not proved from fmt's source: count such statements apart). THE CARD IS WHAT COUNTS. Prove the row's statement (the work); the ties are given (YtkipbfjkcdccjaaGreatDoorTie.lean); close each card by the builder's one call (the guide's Derived/Test/ToyasCard.lean, 'card_holds'). Laid BY PROGRAM, IN A SANDBOX (cutbox-door.mjs). By AI agents, Wed Nov 11 2026. No macro, syntax, notation, axiom, sorry.
-/
import Derived.Test.YtkipbfjkcdccjaaGreatDoorRows
import GoSem.ClaimSeven
namespace Go.Proofs.YtkipbfjkcdccjaaGreatDoor
namespace Rows

/-- THE TIED CARD OF 'laws.FnMatrixTexts'. -/
def fnMatrixTextsCard : Claim7 := { stood := { row := fnMatrixTextsRow, standIns := [], harness := (true, "27600b2c5713edc84cb0523f661219562b1f25624ecd870323fd52891c9c53be"), looks := true }, kinds := [], alts := [], laidByText := true, laidKinds := [.data, .data, .data, .data, .sentinel, .sentinel, .pinned], laidTests := true, laidLooks := .later }
def FnMatrixTextsCardSaid : Prop := Claim7.holds Tryz.pinned (.plain (OpenSpec.ofChange fnMatrixTextsSpec)) fnMatrixTextsCard

/-- THE SECOND FORM's CARD OF 'laws.FnMatrixTexts'. -/
def fnMatrixTextsUptoCard : Claim7 := { stood := { row := fnMatrixTextsUptoRow, standIns := [], harness := (true, "27600b2c5713edc84cb0523f661219562b1f25624ecd870323fd52891c9c53be"), looks := true }, kinds := [], alts := [], laidByText := true, laidKinds := [.data, .data, .data, .data, .sentinel, .sentinel, .pinned], laidTests := true, laidLooks := .later }
def FnMatrixTextsUptoCardSaid : Prop := Claim7.holds Tryz.pinned (.plain (OpenSpec.upto fnMatrixTextsSpec)) fnMatrixTextsUptoCard
end Rows
end Go.Proofs.YtkipbfjkcdccjaaGreatDoor
