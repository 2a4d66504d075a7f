/-
  DERIVED. GIVEN WITH THE SEED: THE CARDS: each row of YtmonmmpegmdflaaDoorRows.lean that lists a variable, with what it lists TIED to the program's text (the seventh form; the later family's looks); each row that meets fmt, with fmt's text TOLD by the authors' own Lean function (tested against real Go, not proved from fmt's source: count such statements apart). THE CARD IS WHAT COUNTS. Prove the row's statement (the work); the ties are given (YtmonmmpegmdflaaDoorTie.lean); close each card by the builder's one call (the guide's Derived/Test/ToyasCard.lean, 'card_holds'). Laid BY PROGRAM, IN A SANDBOX (cutbox-door.mjs). By AI agents, Wed Nov 11 2026. No macro, syntax, notation, axiom, sorry.
-/
import Derived.Test.YtmonmmpegmdflaaDoorRows
import GoSem.ClaimSeven
namespace Go.Proofs.YtmonmmpegmdflaaDoor
namespace Rows

/-- THE TIED CARD OF 'ragpickerlaw23.CtlsPlay'. -/
def ctlsPlayCard : Claim7 := { stood := { row := ctlsPlayRow, standIns := [], harness := (true, "e39ad4500a98f855cc010955913ade169d75c49412a14d6266e228c76b2121fc"), looks := false }, kinds := [], alts := [], laidByText := true, laidKinds := [.data, .data, .data], laidTests := true, laidLooks := .later }
def CtlsPlayCardSaid : Prop := Claim7.holds Tryd.pinned (.plain (OpenSpec.ofChange ctlsPlaySpec)) ctlsPlayCard

/-- THE SECOND FORM's CARD OF 'ragpickerlaw23.CtlsPlay'. -/
def ctlsPlayUptoCard : Claim7 := { stood := { row := ctlsPlayUptoRow, standIns := [], harness := (true, "e39ad4500a98f855cc010955913ade169d75c49412a14d6266e228c76b2121fc"), looks := false }, kinds := [], alts := [], laidByText := true, laidKinds := [.data, .data, .data], laidTests := true, laidLooks := .later }
def CtlsPlayUptoCardSaid : Prop := Claim7.holds Tryd.pinned (.plain (OpenSpec.upto ctlsPlaySpec)) ctlsPlayUptoCard
end Rows
end Go.Proofs.YtmonmmpegmdflaaDoor
