/-
  DERIVED. GIVEN WITH THE SEED: THE CARDS: each row of YtchekpapgfojhaaGreatDoorRows.lean that lists a variable, with what it lists TIED to the program's text (the seventh form; the later family's looks); each row that meets fmt, with fmt's text TOLD by the authors' own Lean function (tested against real Go, not proved from fmt's source: count such statements apart). THE CARD IS WHAT COUNTS. Prove the row's statement (the work); the ties are given (YtchekpapgfojhaaGreatDoorTie.lean); close each card by the builder's one call (the guide's Derived/Test/ToyasCard.lean, 'card_holds'). Laid BY PROGRAM, IN A SANDBOX (cutbox-door.mjs). By AI agents, Wed Nov 11 2026. No macro, syntax, notation, axiom, sorry.
-/
import Derived.Test.YtchekpapgfojhaaGreatDoorRows
import GoSem.ClaimSeven
namespace Go.Proofs.YtchekpapgfojhaaGreatDoor
namespace Rows

/-- THE TIED CARD OF 'ragpickerlaw23.CtlsFallback'. -/
def ctlsFallbackCard : Claim7 := { stood := { row := ctlsFallbackRow, standIns := [], harness := (true, "b69238a909f0f89088ae31eaab826741e8e95d2e649f280f9d8ecc365517025c"), looks := false }, kinds := [], alts := [], laidByText := true, laidKinds := [.data, .data, .data], laidTests := true, laidLooks := .later }
def CtlsFallbackCardSaid : Prop := Claim7.holds Tryz.pinned (.plain (OpenSpec.ofChange ctlsFallbackSpec)) ctlsFallbackCard

/-- THE SECOND FORM's CARD OF 'ragpickerlaw23.CtlsFallback'. -/
def ctlsFallbackUptoCard : Claim7 := { stood := { row := ctlsFallbackUptoRow, standIns := [], harness := (true, "b69238a909f0f89088ae31eaab826741e8e95d2e649f280f9d8ecc365517025c"), looks := false }, kinds := [], alts := [], laidByText := true, laidKinds := [.data, .data, .data], laidTests := true, laidLooks := .later }
def CtlsFallbackUptoCardSaid : Prop := Claim7.holds Tryz.pinned (.plain (OpenSpec.upto ctlsFallbackSpec)) ctlsFallbackUptoCard
end Rows
end Go.Proofs.YtchekpapgfojhaaGreatDoor
