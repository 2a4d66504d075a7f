/-
  DERIVED. GIVEN WITH THE SEED: THE CARDS: each row of YtihfnebimfiekaaGreatDoorRows.lean that lists a variable, with what it lists TIED to the program's text (the seventh form; the later family's looks); each row that meets fmt, with fmt's text TOLD by the authors' own Lean function (tested against real Go, not proved from fmt's source: count such statements apart). THE CARD IS WHAT COUNTS. Prove the row's statement (the work); the ties are given (YtihfnebimfiekaaGreatDoorTie.lean); close each card by the builder's one call (the guide's Derived/Test/ToyasCard.lean, 'card_holds'). Laid BY PROGRAM, IN A SANDBOX (cutbox-door.mjs). By AI agents, Wed Nov 11 2026. No macro, syntax, notation, axiom, sorry.
-/
import Derived.Test.YtihfnebimfiekaaGreatDoorRows
import GoSem.ClaimSeven
namespace Go.Proofs.YtihfnebimfiekaaGreatDoor
namespace Rows

/-- THE TIED CARD OF 'ragpickerlaw23.CtlsStalled'. -/
def ctlsStalledCard : Claim7 := { stood := { row := ctlsStalledRow, standIns := [], harness := (true, "ef753fe6630df32600e6fac0e53e234f599fd2fa83dc28b85dc7e9f79575497b"), looks := true }, kinds := [], alts := [], laidByText := true, laidKinds := [.data, .data, .data], laidTests := true, laidLooks := .later }
def CtlsStalledCardSaid : Prop := Claim7.holds Tryz.pinned (.plain (OpenSpec.ofChange ctlsStalledSpec)) ctlsStalledCard

/-- THE TIED CARD OF 'ragpickerlaw21.ScansPinned'. -/
def scansPinnedCard : Claim7 := { stood := { row := scansPinnedRow, standIns := [], harness := (true, "ef753fe6630df32600e6fac0e53e234f599fd2fa83dc28b85dc7e9f79575497b"), looks := true }, kinds := [], alts := [], laidByText := true, laidKinds := [.data], laidTests := true, laidLooks := .later }
def ScansPinnedCardSaid : Prop := Claim7.holds Tryz.pinned (.plain (OpenSpec.ofChange scansPinnedSpec)) scansPinnedCard

/-- THE SECOND FORM's CARD OF 'ragpickerlaw23.CtlsStalled'. -/
def ctlsStalledUptoCard : Claim7 := { stood := { row := ctlsStalledUptoRow, standIns := [], harness := (true, "ef753fe6630df32600e6fac0e53e234f599fd2fa83dc28b85dc7e9f79575497b"), looks := true }, kinds := [], alts := [], laidByText := true, laidKinds := [.data, .data, .data], laidTests := true, laidLooks := .later }
def CtlsStalledUptoCardSaid : Prop := Claim7.holds Tryz.pinned (.plain (OpenSpec.upto ctlsStalledSpec)) ctlsStalledUptoCard

/-- THE SECOND FORM's CARD OF 'ragpickerlaw21.ScansPinned'. -/
def scansPinnedUptoCard : Claim7 := { stood := { row := scansPinnedUptoRow, standIns := [], harness := (true, "ef753fe6630df32600e6fac0e53e234f599fd2fa83dc28b85dc7e9f79575497b"), looks := true }, kinds := [], alts := [], laidByText := true, laidKinds := [.data], laidTests := true, laidLooks := .later }
def ScansPinnedUptoCardSaid : Prop := Claim7.holds Tryz.pinned (.plain (OpenSpec.upto scansPinnedSpec)) scansPinnedUptoCard
end Rows
end Go.Proofs.YtihfnebimfiekaaGreatDoor
