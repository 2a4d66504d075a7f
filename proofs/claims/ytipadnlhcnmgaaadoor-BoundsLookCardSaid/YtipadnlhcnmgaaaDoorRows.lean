/-
  NARROWER THAN 'FOR EVERY INPUT', by the rows' own cells (each row's printed sentence says how): BoundsLook: laid · BoundsSteps: laid · GhostsMore: laid · NodesSeen: laid · GhostsStep: laid · NodesShadow: laid.
  DERIVED. THE GIVEN ROWS OF THIS SEAT. 6 by the template 'for every input the law returns true; each argument reads behind the call as it read before'; 0 by the template 'total and deterministic' (their statements: YtipadnlhcnmgaaaDoorTotals.lean).
  GIVEN WITH THE SEED: the statements are not yours to turn. If you find one false, say at which input.
  Laid BY PROGRAM, IN A SANDBOX (cutbox-rows.mjs): the forced cells as the released guide's own fill.sh prints them over the translation 735ed8d795535e85… (all of the seat's roots in one cut). By AI agents, Wed Nov 11 2026. No macro, syntax, notation, axiom, sorry.
-/
import Derived.Test.YtipadnlhcnmgaaaDoorChecked
import GoSem.Claim
import GoSem.ClaimJoined
import GoSem.ClaimMapViews
import Derived.JoinedTies
import Derived.KernelRfl
namespace Go.Proofs.YtipadnlhcnmgaaaDoor
/- THE CELL 'sum', in the pinned program and in every row, IS THE sha256 OF THE DUMP (.gsa) THAT YtipadnlhcnmgaaaDoorProg.lean LOADS. Nothing in Lean hashes anything: it is a label: what it is worth is what the hold of that sum in a sandbox is worth. -/
noncomputable def Tryd.pinned : Pinned := { name := "ytipadnlhcnmgaaadoor", sum := "735ed8d795535e85906abc32fab21a5b5b52078a59b3e87cb22e84ec6ba53bce", checked := Tryd.checked }
namespace Rows
def none {H : Type} : Left H := { results := [], args := [] }

/- WHAT THE LISTED PACKAGE-LEVEL VARIABLES READ AS WHEN THE CALL BEGINS. Each datum BY PROGRAM (the guide's laid-datum.mjs) off the statement by which the dump's own 'gosem.cut.vars' lays the variable. In a bare row this is a premise. The card (YtipadnlhcnmgaaaDoorCards.lean) ties it to the program's text. -/
def laid_ragpicker_words_fields {H : Type} : DataW H := .agg [.agg [.lit (.int .u64 0), .lit (.int .u64 16)], .agg [.lit (.int .u64 16), .lit (.int .u64 32)], .agg [.lit (.int .u64 16), .lit (.int .u64 48)], .agg [.lit (.int .u64 0), .lit (.int .u64 3)], .agg [.lit (.int .u64 3), .lit (.int .u64 32)], .agg [.lit (.int .u64 0), .lit (.int .u64 3)], .agg [.lit (.int .u64 3), .lit (.int .u64 3)], .agg [.lit (.int .u64 6), .lit (.int .u64 3)], .agg [.lit (.int .u64 16), .lit (.int .u64 48)], .agg [.lit (.int .u64 0), .lit (.int .u64 32)], .agg [.lit (.int .u64 32), .lit (.int .u64 1)]]
def laid_ragpicker_headers_lines {H : Type} : DataW H := .agg [.agg [.lit (.int .u8 1), .lit (.int .u8 0), .lit (.int .u8 1), .lit (.int .i64 0)], .agg [.lit (.int .u8 2), .lit (.int .u8 1), .lit (.int .u8 2), .lit (.int .i64 0)], .agg [.lit (.int .u8 3), .lit (.int .u8 2), .lit (.int .u8 0), .lit (.int .i64 1)], .agg [.lit (.int .u8 4), .lit (.int .u8 1), .lit (.int .u8 0), .lit (.int .i64 1)], .agg [.lit (.int .u8 5), .lit (.int .u8 1), .lit (.int .u8 4), .lit (.int .i64 2)], .agg [.lit (.int .u8 5), .lit (.int .u8 2), .lit (.int .u8 4), .lit (.int .i64 2)], .agg [.lit (.int .u8 6), .lit (.int .u8 0), .lit (.int .u8 3), .lit (.int .i64 0)], .agg [.lit (.int .u8 7), .lit (.int .u8 3), .lit (.int .u8 0), .lit (.int .i64 0)]]

/-- 'ragpickerlaw35.BoundsLook': WHATEVER THE INPUT: true; the input reads as it did. -/
def boundsLookSpec : ChangeSpec := { name := "boundsLook", fn := fun _ => fun
  | [d] => { results := [.lit (.bool true)], args := [d] }
  | _ => none }
def boundsLookRow : OpenClaim := { program := "ytipadnlhcnmgaaadoor", sum := "735ed8d795535e85906abc32fab21a5b5b52078a59b3e87cb22e84ec6ba53bce", func := "ragpicker/ragpickerlaw35.BoundsLook", spec := "boundsLook", unfollowed := true, recurses := true, named := ["ragpicker/words.fields"], plainKeys := false, apart := false, laid := [("ragpicker/words.fields", laid_ragpicker_words_fields)] }
def BoundsLookSaid : Prop := boundsLookRow.holds Tryd.pinned (OpenSpec.ofChange boundsLookSpec)

/-- ITS FALSE NEIGHBOUR: 'it returns false'. Refute it at one input. -/
def boundsLookWrong : ChangeSpec := { name := "boundsLook", fn := fun _ => fun
  | [d] => { results := [.lit (.bool false)], args := [d] }
  | _ => none }
def BoundsLookWrongFalsely : Prop := boundsLookRow.holds Tryd.pinned (OpenSpec.ofChange boundsLookWrong)

/-- 'ragpickerlaw35.BoundsSteps': WHATEVER THE INPUT: true; the input reads as it did. -/
def boundsStepsSpec : ChangeSpec := { name := "boundsSteps", fn := fun _ => fun
  | [d1, d2, d3] => { results := [.lit (.bool true)], args := [d1, d2, d3] }
  | _ => none }
def boundsStepsRow : OpenClaim := { program := "ytipadnlhcnmgaaadoor", sum := "735ed8d795535e85906abc32fab21a5b5b52078a59b3e87cb22e84ec6ba53bce", func := "ragpicker/ragpickerlaw35.BoundsSteps", spec := "boundsSteps", unfollowed := true, recurses := true, named := ["ragpicker/words.fields"], plainKeys := false, apart := false, laid := [("ragpicker/words.fields", laid_ragpicker_words_fields)] }
def BoundsStepsSaid : Prop := boundsStepsRow.holds Tryd.pinned (OpenSpec.ofChange boundsStepsSpec)

/-- ITS FALSE NEIGHBOUR: 'it returns false'. Refute it at one input. -/
def boundsStepsWrong : ChangeSpec := { name := "boundsSteps", fn := fun _ => fun
  | [d1, d2, d3] => { results := [.lit (.bool false)], args := [d1, d2, d3] }
  | _ => none }
def BoundsStepsWrongFalsely : Prop := boundsStepsRow.holds Tryd.pinned (OpenSpec.ofChange boundsStepsWrong)

/-- 'ragpickerlaw31.GhostsMore': WHATEVER THE INPUT: true; the input reads as it did. -/
def ghostsMoreSpec : ChangeSpec := { name := "ghostsMore", fn := fun _ => fun
  | [d1, d2, d3] => { results := [.lit (.bool true)], args := [d1, d2, d3] }
  | _ => none }
def ghostsMoreRow : OpenClaim := { program := "ytipadnlhcnmgaaadoor", sum := "735ed8d795535e85906abc32fab21a5b5b52078a59b3e87cb22e84ec6ba53bce", func := "ragpicker/ragpickerlaw31.GhostsMore", spec := "ghostsMore", unfollowed := true, recurses := true, named := ["ragpicker/words.fields", "ragpicker/headers.lines"], plainKeys := false, apart := false, laid := [("ragpicker/words.fields", laid_ragpicker_words_fields), ("ragpicker/headers.lines", laid_ragpicker_headers_lines)] }
def GhostsMoreSaid : Prop := ghostsMoreRow.holds Tryd.pinned (OpenSpec.ofChange ghostsMoreSpec)

/-- ITS FALSE NEIGHBOUR: 'it returns false'. Refute it at one input. -/
def ghostsMoreWrong : ChangeSpec := { name := "ghostsMore", fn := fun _ => fun
  | [d1, d2, d3] => { results := [.lit (.bool false)], args := [d1, d2, d3] }
  | _ => none }
def GhostsMoreWrongFalsely : Prop := ghostsMoreRow.holds Tryd.pinned (OpenSpec.ofChange ghostsMoreWrong)

/-- 'ragpickerlaw25.NodesSeen': WHATEVER THE INPUT: true; the input reads as it did. -/
def nodesSeenSpec : ChangeSpec := { name := "nodesSeen", fn := fun _ => fun
  | [d1, d2, d3] => { results := [.lit (.bool true)], args := [d1, d2, d3] }
  | _ => none }
def nodesSeenRow : OpenClaim := { program := "ytipadnlhcnmgaaadoor", sum := "735ed8d795535e85906abc32fab21a5b5b52078a59b3e87cb22e84ec6ba53bce", func := "ragpicker/ragpickerlaw25.NodesSeen", spec := "nodesSeen", unfollowed := true, recurses := true, named := ["ragpicker/words.fields", "ragpicker/headers.lines"], plainKeys := false, apart := false, laid := [("ragpicker/words.fields", laid_ragpicker_words_fields), ("ragpicker/headers.lines", laid_ragpicker_headers_lines)] }
def NodesSeenSaid : Prop := nodesSeenRow.holds Tryd.pinned (OpenSpec.ofChange nodesSeenSpec)

/-- ITS FALSE NEIGHBOUR: 'it returns false'. Refute it at one input. -/
def nodesSeenWrong : ChangeSpec := { name := "nodesSeen", fn := fun _ => fun
  | [d1, d2, d3] => { results := [.lit (.bool false)], args := [d1, d2, d3] }
  | _ => none }
def NodesSeenWrongFalsely : Prop := nodesSeenRow.holds Tryd.pinned (OpenSpec.ofChange nodesSeenWrong)

/-- 'ragpickerlaw31.GhostsStep': WHATEVER THE INPUT: true; the input reads as it did. -/
def ghostsStepSpec : ChangeSpec := { name := "ghostsStep", fn := fun _ => fun
  | [d1, d2, d3] => { results := [.lit (.bool true)], args := [d1, d2, d3] }
  | _ => none }
def ghostsStepRow : OpenClaim := { program := "ytipadnlhcnmgaaadoor", sum := "735ed8d795535e85906abc32fab21a5b5b52078a59b3e87cb22e84ec6ba53bce", func := "ragpicker/ragpickerlaw31.GhostsStep", spec := "ghostsStep", unfollowed := true, recurses := true, named := ["ragpicker/words.fields", "ragpicker/headers.lines"], plainKeys := false, apart := false, laid := [("ragpicker/words.fields", laid_ragpicker_words_fields), ("ragpicker/headers.lines", laid_ragpicker_headers_lines)] }
def GhostsStepSaid : Prop := ghostsStepRow.holds Tryd.pinned (OpenSpec.ofChange ghostsStepSpec)

/-- ITS FALSE NEIGHBOUR: 'it returns false'. Refute it at one input. -/
def ghostsStepWrong : ChangeSpec := { name := "ghostsStep", fn := fun _ => fun
  | [d1, d2, d3] => { results := [.lit (.bool false)], args := [d1, d2, d3] }
  | _ => none }
def GhostsStepWrongFalsely : Prop := ghostsStepRow.holds Tryd.pinned (OpenSpec.ofChange ghostsStepWrong)

/-- 'ragpickerlaw25.NodesShadow': WHATEVER THE INPUT: true; the input reads as it did. -/
def nodesShadowSpec : ChangeSpec := { name := "nodesShadow", fn := fun _ => fun
  | [d1, d2, d3] => { results := [.lit (.bool true)], args := [d1, d2, d3] }
  | _ => none }
def nodesShadowRow : OpenClaim := { program := "ytipadnlhcnmgaaadoor", sum := "735ed8d795535e85906abc32fab21a5b5b52078a59b3e87cb22e84ec6ba53bce", func := "ragpicker/ragpickerlaw25.NodesShadow", spec := "nodesShadow", unfollowed := true, recurses := true, named := ["ragpicker/words.fields", "ragpicker/headers.lines"], plainKeys := false, apart := false, laid := [("ragpicker/words.fields", laid_ragpicker_words_fields), ("ragpicker/headers.lines", laid_ragpicker_headers_lines)] }
def NodesShadowSaid : Prop := nodesShadowRow.holds Tryd.pinned (OpenSpec.ofChange nodesShadowSpec)

/-- ITS FALSE NEIGHBOUR: 'it returns false'. Refute it at one input. -/
def nodesShadowWrong : ChangeSpec := { name := "nodesShadow", fn := fun _ => fun
  | [d1, d2, d3] => { results := [.lit (.bool false)], args := [d1, d2, d3] }
  | _ => none }
def NodesShadowWrongFalsely : Prop := nodesShadowRow.holds Tryd.pinned (OpenSpec.ofChange nodesShadowWrong)

/- THE SECOND FORM. 'bulk': how many values and letters a reading holds, each counted each time it is reached (what is shared counts as often as it is met; a slice's spare places count too). A statement '..UptoSaid' is the law's where the arguments, and the package variables that the reading takes, are together of bulk at most 1048576: NARROWER than '..Said'. Prove '..Said' where nothing that the law and all that it calls make is longer than what came in: it says more and counts as full. Else prove '..UptoSaid'. A law counts once. -/
mutual
def uptoBulk {H : Type} : DataW H → Nat
  | .lit (.string bytes) => bytes.length + 1
  | .lit _ => 1
  | .nil => 1
  | .ptr d => uptoBulk d + 1
  | .slice elems spare => uptoBulkAll elems + uptoBulkAll spare + 1
  | .agg parts => uptoBulkAll parts + 1
  | .iface _ d => uptoBulk d + 1
  | .map entries => uptoBulkEntries entries + 1
  | .held _ => 1
def uptoBulkAll {H : Type} : List (DataW H) → Nat
  | [] => 0
  | d :: r => uptoBulk d + uptoBulkAll r
def uptoBulkEntries {H : Type} : List (Lit × DataW H) → Nat
  | [] => 0
  | x :: r => uptoBulkEntry x + uptoBulkEntries r
def uptoBulkEntry {H : Type} : Lit × DataW H → Nat
  | (.string bytes, d) => bytes.length + uptoBulk d + 1
  | (_, d) => uptoBulk d + 1
 end
def uptoSmall : (H : Type) → List (DataW H) → Bool := fun _ ds => decide (uptoBulkAll ds ≤ 1048576)
def OpenSpec.upto (s : _root_.Go.ChangeSpec) : _root_.Go.OpenSpec := { _root_.Go.OpenSpec.ofChange s with cond := some uptoSmall }

/-- 'ragpickerlaw35.BoundsLook', WHERE WHAT IT READS IS OF BULK AT MOST 1048576: true; the input reads as it did. -/
def boundsLookUptoRow : OpenClaim := { program := "ytipadnlhcnmgaaadoor", sum := "735ed8d795535e85906abc32fab21a5b5b52078a59b3e87cb22e84ec6ba53bce", func := "ragpicker/ragpickerlaw35.BoundsLook", spec := "boundsLook", unfollowed := true, recurses := true, named := ["ragpicker/words.fields"], plainKeys := false, apart := false, laid := [("ragpicker/words.fields", laid_ragpicker_words_fields)], narrowed := true }
def BoundsLookUptoSaid : Prop := boundsLookUptoRow.holds Tryd.pinned (OpenSpec.upto boundsLookSpec)

/-- 'ragpickerlaw35.BoundsSteps', WHERE WHAT IT READS IS OF BULK AT MOST 1048576: true; the input reads as it did. -/
def boundsStepsUptoRow : OpenClaim := { program := "ytipadnlhcnmgaaadoor", sum := "735ed8d795535e85906abc32fab21a5b5b52078a59b3e87cb22e84ec6ba53bce", func := "ragpicker/ragpickerlaw35.BoundsSteps", spec := "boundsSteps", unfollowed := true, recurses := true, named := ["ragpicker/words.fields"], plainKeys := false, apart := false, laid := [("ragpicker/words.fields", laid_ragpicker_words_fields)], narrowed := true }
def BoundsStepsUptoSaid : Prop := boundsStepsUptoRow.holds Tryd.pinned (OpenSpec.upto boundsStepsSpec)

/-- 'ragpickerlaw31.GhostsMore', WHERE WHAT IT READS IS OF BULK AT MOST 1048576: true; the input reads as it did. -/
def ghostsMoreUptoRow : OpenClaim := { program := "ytipadnlhcnmgaaadoor", sum := "735ed8d795535e85906abc32fab21a5b5b52078a59b3e87cb22e84ec6ba53bce", func := "ragpicker/ragpickerlaw31.GhostsMore", spec := "ghostsMore", unfollowed := true, recurses := true, named := ["ragpicker/words.fields", "ragpicker/headers.lines"], plainKeys := false, apart := false, laid := [("ragpicker/words.fields", laid_ragpicker_words_fields), ("ragpicker/headers.lines", laid_ragpicker_headers_lines)], narrowed := true }
def GhostsMoreUptoSaid : Prop := ghostsMoreUptoRow.holds Tryd.pinned (OpenSpec.upto ghostsMoreSpec)

/-- 'ragpickerlaw25.NodesSeen', WHERE WHAT IT READS IS OF BULK AT MOST 1048576: true; the input reads as it did. -/
def nodesSeenUptoRow : OpenClaim := { program := "ytipadnlhcnmgaaadoor", sum := "735ed8d795535e85906abc32fab21a5b5b52078a59b3e87cb22e84ec6ba53bce", func := "ragpicker/ragpickerlaw25.NodesSeen", spec := "nodesSeen", unfollowed := true, recurses := true, named := ["ragpicker/words.fields", "ragpicker/headers.lines"], plainKeys := false, apart := false, laid := [("ragpicker/words.fields", laid_ragpicker_words_fields), ("ragpicker/headers.lines", laid_ragpicker_headers_lines)], narrowed := true }
def NodesSeenUptoSaid : Prop := nodesSeenUptoRow.holds Tryd.pinned (OpenSpec.upto nodesSeenSpec)

/-- 'ragpickerlaw31.GhostsStep', WHERE WHAT IT READS IS OF BULK AT MOST 1048576: true; the input reads as it did. -/
def ghostsStepUptoRow : OpenClaim := { program := "ytipadnlhcnmgaaadoor", sum := "735ed8d795535e85906abc32fab21a5b5b52078a59b3e87cb22e84ec6ba53bce", func := "ragpicker/ragpickerlaw31.GhostsStep", spec := "ghostsStep", unfollowed := true, recurses := true, named := ["ragpicker/words.fields", "ragpicker/headers.lines"], plainKeys := false, apart := false, laid := [("ragpicker/words.fields", laid_ragpicker_words_fields), ("ragpicker/headers.lines", laid_ragpicker_headers_lines)], narrowed := true }
def GhostsStepUptoSaid : Prop := ghostsStepUptoRow.holds Tryd.pinned (OpenSpec.upto ghostsStepSpec)

/-- 'ragpickerlaw25.NodesShadow', WHERE WHAT IT READS IS OF BULK AT MOST 1048576: true; the input reads as it did. -/
def nodesShadowUptoRow : OpenClaim := { program := "ytipadnlhcnmgaaadoor", sum := "735ed8d795535e85906abc32fab21a5b5b52078a59b3e87cb22e84ec6ba53bce", func := "ragpicker/ragpickerlaw25.NodesShadow", spec := "nodesShadow", unfollowed := true, recurses := true, named := ["ragpicker/words.fields", "ragpicker/headers.lines"], plainKeys := false, apart := false, laid := [("ragpicker/words.fields", laid_ragpicker_words_fields), ("ragpicker/headers.lines", laid_ragpicker_headers_lines)], narrowed := true }
def NodesShadowUptoSaid : Prop := nodesShadowUptoRow.holds Tryd.pinned (OpenSpec.upto nodesShadowSpec)

end Rows
end Go.Proofs.YtipadnlhcnmgaaaDoor
