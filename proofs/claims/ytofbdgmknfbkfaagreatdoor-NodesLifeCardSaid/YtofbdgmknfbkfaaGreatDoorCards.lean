/-
  DERIVED. GIVEN WITH THE SEED: THE CARDS: each row of YtofbdgmknfbkfaaGreatDoorRows.lean that lists a variable, with what it lists TIED to the program's text (the seventh form; the later family's looks); each row that meets fmt, with fmt's text TOLD by the authors' own Lean function (tested against real Go, not proved from fmt's source: count such statements apart). THE CARD IS WHAT COUNTS. Prove the row's statement (the work); the ties are given (YtofbdgmknfbkfaaGreatDoorTie.lean); close each card by the builder's one call (the guide's Derived/Test/ToyasCard.lean, 'card_holds'). Laid BY PROGRAM, IN A SANDBOX (cutbox-door.mjs). By AI agents, Wed Nov 11 2026. No macro, syntax, notation, axiom, sorry.
-/
import Derived.Test.YtofbdgmknfbkfaaGreatDoorRows
import GoSem.ClaimSeven
namespace Go.Proofs.YtofbdgmknfbkfaaGreatDoor
namespace Rows

/-- THE TIED CARD OF 'ragpickerlaw25.NodesLife'. -/
def nodesLifeCard : Claim7 := { stood := { row := nodesLifeRow, standIns := [], harness := (true, "3d3d3f9a89bd7a19d9443cf7c0f884f025a95816b6c1ba377d731e9cf0de9af8"), looks := true }, kinds := [], alts := [], laidByText := true, laidKinds := [.data, .data], laidTests := true, laidLooks := .later }
def NodesLifeCardSaid : Prop := Claim7.holds Tryz.pinned (.plain (OpenSpec.ofChange nodesLifeSpec)) nodesLifeCard

/-- THE SECOND FORM's CARD OF 'ragpickerlaw25.NodesLife'. -/
def nodesLifeUptoCard : Claim7 := { stood := { row := nodesLifeUptoRow, standIns := [], harness := (true, "3d3d3f9a89bd7a19d9443cf7c0f884f025a95816b6c1ba377d731e9cf0de9af8"), looks := true }, kinds := [], alts := [], laidByText := true, laidKinds := [.data, .data], laidTests := true, laidLooks := .later }
def NodesLifeUptoCardSaid : Prop := Claim7.holds Tryz.pinned (.plain (OpenSpec.upto nodesLifeSpec)) nodesLifeUptoCard
end Rows
end Go.Proofs.YtofbdgmknfbkfaaGreatDoor
