/-
  DERIVED. GIVEN WITH THE SEED: THE CARDS: each row of YtcnfblibfndepaaGreatDoorRows.lean that lists a variable, with what it lists TIED to the program's text (the seventh form; the later family's looks); each row that meets fmt, with fmt's text TOLD by the authors' own Lean function (tested against real Go, not proved from fmt's source: count such statements apart). THE CARD IS WHAT COUNTS. Prove the row's statement (the work); the ties are given (YtcnfblibfndepaaGreatDoorTie.lean); close each card by the builder's one call (the guide's Derived/Test/ToyasCard.lean, 'card_holds'). Laid BY PROGRAM, IN A SANDBOX (cutbox-door.mjs). By AI agents, Wed Nov 11 2026. No macro, syntax, notation, axiom, sorry.
-/
import Derived.Test.YtcnfblibfndepaaGreatDoorRows
import GoSem.ClaimSeven
namespace Go.Proofs.YtcnfblibfndepaaGreatDoor
namespace Rows

/-- THE TIED CARD OF 'ragpickerlaw23.CtlsCover'. -/
def ctlsCoverCard : Claim7 := { stood := { row := ctlsCoverRow, standIns := [], harness := (true, "6b5dbeadf2a35b805a8500cc717c8187ee2b9413f66df8c3e000eaeae8f765ab"), looks := false }, kinds := [], alts := [], laidByText := true, laidKinds := [.data, .data, .data], laidTests := true, laidLooks := .later }
def CtlsCoverCardSaid : Prop := Claim7.holds Tryz.pinned (.plain (OpenSpec.ofChange ctlsCoverSpec)) ctlsCoverCard

/-- THE SECOND FORM's CARD OF 'ragpickerlaw23.CtlsCover'. -/
def ctlsCoverUptoCard : Claim7 := { stood := { row := ctlsCoverUptoRow, standIns := [], harness := (true, "6b5dbeadf2a35b805a8500cc717c8187ee2b9413f66df8c3e000eaeae8f765ab"), looks := false }, kinds := [], alts := [], laidByText := true, laidKinds := [.data, .data, .data], laidTests := true, laidLooks := .later }
def CtlsCoverUptoCardSaid : Prop := Claim7.holds Tryz.pinned (.plain (OpenSpec.upto ctlsCoverSpec)) ctlsCoverUptoCard
end Rows
end Go.Proofs.YtcnfblibfndepaaGreatDoor
