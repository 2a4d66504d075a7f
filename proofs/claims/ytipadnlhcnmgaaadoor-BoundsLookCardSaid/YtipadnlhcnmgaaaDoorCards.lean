/-
  DERIVED. GIVEN WITH THE SEED: THE CARDS: each row of YtipadnlhcnmgaaaDoorRows.lean that lists a variable, with what it lists TIED to the program's text (the seventh form; the later family's looks); each row that meets fmt, with fmt's text TOLD by the authors' own Lean function (tested against real Go, not proved from fmt's source: count such statements apart). THE CARD IS WHAT COUNTS. Prove the row's statement (the work); the ties are given (YtipadnlhcnmgaaaDoorTie.lean); close each card by the builder's one call (the guide's Derived/Test/ToyasCard.lean, 'card_holds'). Laid BY PROGRAM, IN A SANDBOX (cutbox-door.mjs). By AI agents, Wed Nov 11 2026. No macro, syntax, notation, axiom, sorry.
-/
import Derived.Test.YtipadnlhcnmgaaaDoorRows
import GoSem.ClaimSeven
namespace Go.Proofs.YtipadnlhcnmgaaaDoor
namespace Rows

/-- THE TIED CARD OF 'ragpickerlaw35.BoundsLook'. -/
def boundsLookCard : Claim7 := { stood := { row := boundsLookRow, standIns := [], harness := (true, "9db35d8ccfa5e6b4663f371a4e11fc6c02ae4af1ec1f25e011956b1bd3730f1d"), looks := false }, kinds := [], alts := [], laidByText := true, laidKinds := [.data], laidTests := true, laidLooks := .later }
def BoundsLookCardSaid : Prop := Claim7.holds Tryd.pinned (.plain (OpenSpec.ofChange boundsLookSpec)) boundsLookCard

/-- THE TIED CARD OF 'ragpickerlaw35.BoundsSteps'. -/
def boundsStepsCard : Claim7 := { stood := { row := boundsStepsRow, standIns := [], harness := (true, "9db35d8ccfa5e6b4663f371a4e11fc6c02ae4af1ec1f25e011956b1bd3730f1d"), looks := false }, kinds := [], alts := [], laidByText := true, laidKinds := [.data], laidTests := true, laidLooks := .later }
def BoundsStepsCardSaid : Prop := Claim7.holds Tryd.pinned (.plain (OpenSpec.ofChange boundsStepsSpec)) boundsStepsCard

/-- THE TIED CARD OF 'ragpickerlaw31.GhostsMore'. -/
def ghostsMoreCard : Claim7 := { stood := { row := ghostsMoreRow, standIns := [], harness := (true, "9db35d8ccfa5e6b4663f371a4e11fc6c02ae4af1ec1f25e011956b1bd3730f1d"), looks := false }, kinds := [], alts := [], laidByText := true, laidKinds := [.data, .data], laidTests := true, laidLooks := .later }
def GhostsMoreCardSaid : Prop := Claim7.holds Tryd.pinned (.plain (OpenSpec.ofChange ghostsMoreSpec)) ghostsMoreCard

/-- THE TIED CARD OF 'ragpickerlaw25.NodesSeen'. -/
def nodesSeenCard : Claim7 := { stood := { row := nodesSeenRow, standIns := [], harness := (true, "9db35d8ccfa5e6b4663f371a4e11fc6c02ae4af1ec1f25e011956b1bd3730f1d"), looks := false }, kinds := [], alts := [], laidByText := true, laidKinds := [.data, .data], laidTests := true, laidLooks := .later }
def NodesSeenCardSaid : Prop := Claim7.holds Tryd.pinned (.plain (OpenSpec.ofChange nodesSeenSpec)) nodesSeenCard

/-- THE TIED CARD OF 'ragpickerlaw31.GhostsStep'. -/
def ghostsStepCard : Claim7 := { stood := { row := ghostsStepRow, standIns := [], harness := (true, "9db35d8ccfa5e6b4663f371a4e11fc6c02ae4af1ec1f25e011956b1bd3730f1d"), looks := false }, kinds := [], alts := [], laidByText := true, laidKinds := [.data, .data], laidTests := true, laidLooks := .later }
def GhostsStepCardSaid : Prop := Claim7.holds Tryd.pinned (.plain (OpenSpec.ofChange ghostsStepSpec)) ghostsStepCard

/-- THE TIED CARD OF 'ragpickerlaw25.NodesShadow'. -/
def nodesShadowCard : Claim7 := { stood := { row := nodesShadowRow, standIns := [], harness := (true, "9db35d8ccfa5e6b4663f371a4e11fc6c02ae4af1ec1f25e011956b1bd3730f1d"), looks := false }, kinds := [], alts := [], laidByText := true, laidKinds := [.data, .data], laidTests := true, laidLooks := .later }
def NodesShadowCardSaid : Prop := Claim7.holds Tryd.pinned (.plain (OpenSpec.ofChange nodesShadowSpec)) nodesShadowCard

/-- THE SECOND FORM's CARD OF 'ragpickerlaw35.BoundsLook'. -/
def boundsLookUptoCard : Claim7 := { stood := { row := boundsLookUptoRow, standIns := [], harness := (true, "9db35d8ccfa5e6b4663f371a4e11fc6c02ae4af1ec1f25e011956b1bd3730f1d"), looks := false }, kinds := [], alts := [], laidByText := true, laidKinds := [.data], laidTests := true, laidLooks := .later }
def BoundsLookUptoCardSaid : Prop := Claim7.holds Tryd.pinned (.plain (OpenSpec.upto boundsLookSpec)) boundsLookUptoCard

/-- THE SECOND FORM's CARD OF 'ragpickerlaw35.BoundsSteps'. -/
def boundsStepsUptoCard : Claim7 := { stood := { row := boundsStepsUptoRow, standIns := [], harness := (true, "9db35d8ccfa5e6b4663f371a4e11fc6c02ae4af1ec1f25e011956b1bd3730f1d"), looks := false }, kinds := [], alts := [], laidByText := true, laidKinds := [.data], laidTests := true, laidLooks := .later }
def BoundsStepsUptoCardSaid : Prop := Claim7.holds Tryd.pinned (.plain (OpenSpec.upto boundsStepsSpec)) boundsStepsUptoCard

/-- THE SECOND FORM's CARD OF 'ragpickerlaw31.GhostsMore'. -/
def ghostsMoreUptoCard : Claim7 := { stood := { row := ghostsMoreUptoRow, standIns := [], harness := (true, "9db35d8ccfa5e6b4663f371a4e11fc6c02ae4af1ec1f25e011956b1bd3730f1d"), looks := false }, kinds := [], alts := [], laidByText := true, laidKinds := [.data, .data], laidTests := true, laidLooks := .later }
def GhostsMoreUptoCardSaid : Prop := Claim7.holds Tryd.pinned (.plain (OpenSpec.upto ghostsMoreSpec)) ghostsMoreUptoCard

/-- THE SECOND FORM's CARD OF 'ragpickerlaw25.NodesSeen'. -/
def nodesSeenUptoCard : Claim7 := { stood := { row := nodesSeenUptoRow, standIns := [], harness := (true, "9db35d8ccfa5e6b4663f371a4e11fc6c02ae4af1ec1f25e011956b1bd3730f1d"), looks := false }, kinds := [], alts := [], laidByText := true, laidKinds := [.data, .data], laidTests := true, laidLooks := .later }
def NodesSeenUptoCardSaid : Prop := Claim7.holds Tryd.pinned (.plain (OpenSpec.upto nodesSeenSpec)) nodesSeenUptoCard

/-- THE SECOND FORM's CARD OF 'ragpickerlaw31.GhostsStep'. -/
def ghostsStepUptoCard : Claim7 := { stood := { row := ghostsStepUptoRow, standIns := [], harness := (true, "9db35d8ccfa5e6b4663f371a4e11fc6c02ae4af1ec1f25e011956b1bd3730f1d"), looks := false }, kinds := [], alts := [], laidByText := true, laidKinds := [.data, .data], laidTests := true, laidLooks := .later }
def GhostsStepUptoCardSaid : Prop := Claim7.holds Tryd.pinned (.plain (OpenSpec.upto ghostsStepSpec)) ghostsStepUptoCard

/-- THE SECOND FORM's CARD OF 'ragpickerlaw25.NodesShadow'. -/
def nodesShadowUptoCard : Claim7 := { stood := { row := nodesShadowUptoRow, standIns := [], harness := (true, "9db35d8ccfa5e6b4663f371a4e11fc6c02ae4af1ec1f25e011956b1bd3730f1d"), looks := false }, kinds := [], alts := [], laidByText := true, laidKinds := [.data, .data], laidTests := true, laidLooks := .later }
def NodesShadowUptoCardSaid : Prop := Claim7.holds Tryd.pinned (.plain (OpenSpec.upto nodesShadowSpec)) nodesShadowUptoCard
end Rows
end Go.Proofs.YtipadnlhcnmgaaaDoor
