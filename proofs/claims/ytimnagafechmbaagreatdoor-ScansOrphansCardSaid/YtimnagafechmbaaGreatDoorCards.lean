/-
  DERIVED. GIVEN WITH THE SEED: THE CARDS: each row of YtimnagafechmbaaGreatDoorRows.lean that lists a variable, with what it lists TIED to the program's text (the seventh form; the later family's looks); each row that meets fmt, with fmt's text TOLD by the authors' own Lean function (tested against real Go, not proved from fmt's source: count such statements apart). THE CARD IS WHAT COUNTS. Prove the row's statement (the work); the ties are given (YtimnagafechmbaaGreatDoorTie.lean); close each card by the builder's one call (the guide's Derived/Test/ToyasCard.lean, 'card_holds'). Laid BY PROGRAM, IN A SANDBOX (cutbox-door.mjs). By AI agents, Wed Nov 11 2026. No macro, syntax, notation, axiom, sorry.
-/
import Derived.Test.YtimnagafechmbaaGreatDoorRows
import GoSem.ClaimSeven
namespace Go.Proofs.YtimnagafechmbaaGreatDoor
namespace Rows

/-- THE TIED CARD OF 'ragpickerlaw21.ScansOrphans'. -/
def scansOrphansCard : Claim7 := { stood := { row := scansOrphansRow, standIns := [], harness := (true, "335be1c449eee686787a0e235f976c6654775e54d805a1c160fa9871b03b00df"), looks := true }, kinds := [], alts := [], laidByText := true, laidKinds := [.data], laidTests := true, laidLooks := .later }
def ScansOrphansCardSaid : Prop := Claim7.holds Tryz.pinned (.plain (OpenSpec.ofChange scansOrphansSpec)) scansOrphansCard

/-- THE TIED CARD OF 'ragpickerlaw31.GhostsArena'. -/
def ghostsArenaCard : Claim7 := { stood := { row := ghostsArenaRow, standIns := [], harness := (true, "335be1c449eee686787a0e235f976c6654775e54d805a1c160fa9871b03b00df"), looks := true }, kinds := [], alts := [], laidByText := true, laidKinds := [.data, .data], laidTests := true, laidLooks := .later }
def GhostsArenaCardSaid : Prop := Claim7.holds Tryz.pinned (.plain (OpenSpec.ofChange ghostsArenaSpec)) ghostsArenaCard

/-- THE SECOND FORM's CARD OF 'ragpickerlaw21.ScansOrphans'. -/
def scansOrphansUptoCard : Claim7 := { stood := { row := scansOrphansUptoRow, standIns := [], harness := (true, "335be1c449eee686787a0e235f976c6654775e54d805a1c160fa9871b03b00df"), looks := true }, kinds := [], alts := [], laidByText := true, laidKinds := [.data], laidTests := true, laidLooks := .later }
def ScansOrphansUptoCardSaid : Prop := Claim7.holds Tryz.pinned (.plain (OpenSpec.upto scansOrphansSpec)) scansOrphansUptoCard

/-- THE SECOND FORM's CARD OF 'ragpickerlaw31.GhostsArena'. -/
def ghostsArenaUptoCard : Claim7 := { stood := { row := ghostsArenaUptoRow, standIns := [], harness := (true, "335be1c449eee686787a0e235f976c6654775e54d805a1c160fa9871b03b00df"), looks := true }, kinds := [], alts := [], laidByText := true, laidKinds := [.data, .data], laidTests := true, laidLooks := .later }
def GhostsArenaUptoCardSaid : Prop := Claim7.holds Tryz.pinned (.plain (OpenSpec.upto ghostsArenaSpec)) ghostsArenaUptoCard
end Rows
end Go.Proofs.YtimnagafechmbaaGreatDoor
