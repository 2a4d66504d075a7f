/-
  No cell of these rows narrows 'for every input' (looked for: loops, veiled, ifaces, maps, wideKeys, modest, calm, conditions, laid).
  DERIVED. THE GIVEN ROWS OF THIS SEAT. 6 by the template 'for every input the law returns true; each argument reads behind the call as it read before'; 0 by the template 'total and deterministic' (their statements: YthooafgfpnedhaaTotals.lean).
  GIVEN WITH THE SEED: the statements are not yours to turn. If you find one false, say at which input.
  Laid BY PROGRAM, IN A SANDBOX (cutbox-rows.mjs): the forced cells as the released guide's own fill.sh prints them over the translation 65a6a90518dbe83f… (all of the seat's roots in one cut). By AI agents, Wed Nov 11 2026. No macro, syntax, notation, axiom, sorry.
-/
import Derived.Test.YthooafgfpnedhaaChecked
import GoSem.Claim
import GoSem.ClaimJoined
import GoSem.ClaimMapViews
import Derived.JoinedTies
import Derived.KernelRfl
namespace Go.Proofs.Ythooafgfpnedhaa
/- THE CELL 'sum', in the pinned program and in every row, IS THE sha256 OF THE DUMP (.gsa) THAT YthooafgfpnedhaaProg.lean LOADS. Nothing in Lean hashes anything: it is a label: what it is worth is what the hold of that sum in a sandbox is worth. -/
noncomputable def Try.pinned : Pinned := { name := "ythooafgfpnedhaa", sum := "65a6a90518dbe83f8a08ee93ff173d577ad05f50f7f98e437d9a3a137f208912", checked := Try.checked }
namespace Rows
def none {H : Type} : Left H := { results := [], args := [] }

/-- 'ragpickerlaw30.SpecsVoid': WHATEVER THE INPUT: true; the input reads as it did. -/
def specsVoidSpec : ChangeSpec := { name := "specsVoid", fn := fun _ => fun
  | [d] => { results := [.lit (.bool true)], args := [d] }
  | _ => none }
def specsVoidRow : OpenClaim := { program := "ythooafgfpnedhaa", sum := "65a6a90518dbe83f8a08ee93ff173d577ad05f50f7f98e437d9a3a137f208912", func := "ragpicker/ragpickerlaw30.SpecsVoid", spec := "specsVoid", unfollowed := true, recurses := true, apart := false }
def SpecsVoidSaid : Prop := specsVoidRow.holds Try.pinned (OpenSpec.ofChange specsVoidSpec)

/-- ITS FALSE NEIGHBOUR: 'it returns false'. Refute it at one input. -/
def specsVoidWrong : ChangeSpec := { name := "specsVoid", fn := fun _ => fun
  | [d] => { results := [.lit (.bool false)], args := [d] }
  | _ => none }
def SpecsVoidWrongFalsely : Prop := specsVoidRow.holds Try.pinned (OpenSpec.ofChange specsVoidWrong)

/-- 'ragpickerlaw30.SpecsApart': WHATEVER THE INPUT: true; the input reads as it did. -/
def specsApartSpec : ChangeSpec := { name := "specsApart", fn := fun _ => fun
  | [d] => { results := [.lit (.bool true)], args := [d] }
  | _ => none }
def specsApartRow : OpenClaim := { program := "ythooafgfpnedhaa", sum := "65a6a90518dbe83f8a08ee93ff173d577ad05f50f7f98e437d9a3a137f208912", func := "ragpicker/ragpickerlaw30.SpecsApart", spec := "specsApart", unfollowed := true, recurses := true, apart := false }
def SpecsApartSaid : Prop := specsApartRow.holds Try.pinned (OpenSpec.ofChange specsApartSpec)

/-- ITS FALSE NEIGHBOUR: 'it returns false'. Refute it at one input. -/
def specsApartWrong : ChangeSpec := { name := "specsApart", fn := fun _ => fun
  | [d] => { results := [.lit (.bool false)], args := [d] }
  | _ => none }
def SpecsApartWrongFalsely : Prop := specsApartRow.holds Try.pinned (OpenSpec.ofChange specsApartWrong)

/-- 'ragpickerlaw30.SpecsJudge': WHATEVER THE INPUT: true; the input reads as it did. -/
def specsJudgeSpec : ChangeSpec := { name := "specsJudge", fn := fun _ => fun
  | [d] => { results := [.lit (.bool true)], args := [d] }
  | _ => none }
def specsJudgeRow : OpenClaim := { program := "ythooafgfpnedhaa", sum := "65a6a90518dbe83f8a08ee93ff173d577ad05f50f7f98e437d9a3a137f208912", func := "ragpicker/ragpickerlaw30.SpecsJudge", spec := "specsJudge", unfollowed := true, recurses := true, apart := false }
def SpecsJudgeSaid : Prop := specsJudgeRow.holds Try.pinned (OpenSpec.ofChange specsJudgeSpec)

/-- ITS FALSE NEIGHBOUR: 'it returns false'. Refute it at one input. -/
def specsJudgeWrong : ChangeSpec := { name := "specsJudge", fn := fun _ => fun
  | [d] => { results := [.lit (.bool false)], args := [d] }
  | _ => none }
def SpecsJudgeWrongFalsely : Prop := specsJudgeRow.holds Try.pinned (OpenSpec.ofChange specsJudgeWrong)

/-- 'ragpickerlaw30.SpecsWitness': WHATEVER THE INPUT: true; the input reads as it did. -/
def specsWitnessSpec : ChangeSpec := { name := "specsWitness", fn := fun _ => fun
  | [d1, d2, d3] => { results := [.lit (.bool true)], args := [d1, d2, d3] }
  | _ => none }
def specsWitnessRow : OpenClaim := { program := "ythooafgfpnedhaa", sum := "65a6a90518dbe83f8a08ee93ff173d577ad05f50f7f98e437d9a3a137f208912", func := "ragpicker/ragpickerlaw30.SpecsWitness", spec := "specsWitness", unfollowed := true, recurses := true, apart := false }
def SpecsWitnessSaid : Prop := specsWitnessRow.holds Try.pinned (OpenSpec.ofChange specsWitnessSpec)

/-- ITS FALSE NEIGHBOUR: 'it returns false'. Refute it at one input. -/
def specsWitnessWrong : ChangeSpec := { name := "specsWitness", fn := fun _ => fun
  | [d1, d2, d3] => { results := [.lit (.bool false)], args := [d1, d2, d3] }
  | _ => none }
def SpecsWitnessWrongFalsely : Prop := specsWitnessRow.holds Try.pinned (OpenSpec.ofChange specsWitnessWrong)

/-- 'ragpickerlaw30.SpecsWrong': WHATEVER THE INPUT: true; the input reads as it did. -/
def specsWrongSpec : ChangeSpec := { name := "specsWrong", fn := fun _ => fun
  | [d1, d2, d3] => { results := [.lit (.bool true)], args := [d1, d2, d3] }
  | _ => none }
def specsWrongRow : OpenClaim := { program := "ythooafgfpnedhaa", sum := "65a6a90518dbe83f8a08ee93ff173d577ad05f50f7f98e437d9a3a137f208912", func := "ragpicker/ragpickerlaw30.SpecsWrong", spec := "specsWrong", unfollowed := true, recurses := true, apart := false }
def SpecsWrongSaid : Prop := specsWrongRow.holds Try.pinned (OpenSpec.ofChange specsWrongSpec)

/-- ITS FALSE NEIGHBOUR: 'it returns false'. Refute it at one input. -/
def specsWrongWrong : ChangeSpec := { name := "specsWrong", fn := fun _ => fun
  | [d1, d2, d3] => { results := [.lit (.bool false)], args := [d1, d2, d3] }
  | _ => none }
def SpecsWrongWrongFalsely : Prop := specsWrongRow.holds Try.pinned (OpenSpec.ofChange specsWrongWrong)

/-- 'ragpickerlaw30.SpecsDo': WHATEVER THE INPUT: true; the input reads as it did. -/
def specsDoSpec : ChangeSpec := { name := "specsDo", fn := fun _ => fun
  | [d] => { results := [.lit (.bool true)], args := [d] }
  | _ => none }
def specsDoRow : OpenClaim := { program := "ythooafgfpnedhaa", sum := "65a6a90518dbe83f8a08ee93ff173d577ad05f50f7f98e437d9a3a137f208912", func := "ragpicker/ragpickerlaw30.SpecsDo", spec := "specsDo", unfollowed := true, recurses := true, apart := false }
def SpecsDoSaid : Prop := specsDoRow.holds Try.pinned (OpenSpec.ofChange specsDoSpec)

/-- ITS FALSE NEIGHBOUR: 'it returns false'. Refute it at one input. -/
def specsDoWrong : ChangeSpec := { name := "specsDo", fn := fun _ => fun
  | [d] => { results := [.lit (.bool false)], args := [d] }
  | _ => none }
def SpecsDoWrongFalsely : Prop := specsDoRow.holds Try.pinned (OpenSpec.ofChange specsDoWrong)

/- THE SECOND FORM. 'bulk': how many values and letters a reading holds, each counted each time it is reached (what is shared counts as often as it is met; a slice's spare places count too). A statement '..UptoSaid' is the law's where the arguments, and the package variables that the reading takes, are together of bulk at most 1048576: NARROWER than '..Said'. Prove '..Said' where nothing that the law and all that it calls make is longer than what came in: it says more and counts as full. Else prove '..UptoSaid'. A law counts once. -/
mutual
def uptoBulk {H : Type} : DataW H → Nat
  | .lit (.string bytes) => bytes.length + 1
  | .lit _ => 1
  | .nil => 1
  | .ptr d => uptoBulk d + 1
  | .slice elems spare => uptoBulkAll elems + uptoBulkAll spare + 1
  | .agg parts => uptoBulkAll parts + 1
  | .iface _ d => uptoBulk d + 1
  | .map entries => uptoBulkEntries entries + 1
  | .held _ => 1
def uptoBulkAll {H : Type} : List (DataW H) → Nat
  | [] => 0
  | d :: r => uptoBulk d + uptoBulkAll r
def uptoBulkEntries {H : Type} : List (Lit × DataW H) → Nat
  | [] => 0
  | x :: r => uptoBulkEntry x + uptoBulkEntries r
def uptoBulkEntry {H : Type} : Lit × DataW H → Nat
  | (.string bytes, d) => bytes.length + uptoBulk d + 1
  | (_, d) => uptoBulk d + 1
 end
def uptoSmall : (H : Type) → List (DataW H) → Bool := fun _ ds => decide (uptoBulkAll ds ≤ 1048576)
def OpenSpec.upto (s : _root_.Go.ChangeSpec) : _root_.Go.OpenSpec := { _root_.Go.OpenSpec.ofChange s with cond := some uptoSmall }

/-- 'ragpickerlaw30.SpecsVoid', WHERE WHAT IT READS IS OF BULK AT MOST 1048576: true; the input reads as it did. -/
def specsVoidUptoRow : OpenClaim := { program := "ythooafgfpnedhaa", sum := "65a6a90518dbe83f8a08ee93ff173d577ad05f50f7f98e437d9a3a137f208912", func := "ragpicker/ragpickerlaw30.SpecsVoid", spec := "specsVoid", unfollowed := true, recurses := true, apart := false, narrowed := true }
def SpecsVoidUptoSaid : Prop := specsVoidUptoRow.holds Try.pinned (OpenSpec.upto specsVoidSpec)

/-- 'ragpickerlaw30.SpecsApart', WHERE WHAT IT READS IS OF BULK AT MOST 1048576: true; the input reads as it did. -/
def specsApartUptoRow : OpenClaim := { program := "ythooafgfpnedhaa", sum := "65a6a90518dbe83f8a08ee93ff173d577ad05f50f7f98e437d9a3a137f208912", func := "ragpicker/ragpickerlaw30.SpecsApart", spec := "specsApart", unfollowed := true, recurses := true, apart := false, narrowed := true }
def SpecsApartUptoSaid : Prop := specsApartUptoRow.holds Try.pinned (OpenSpec.upto specsApartSpec)

/-- 'ragpickerlaw30.SpecsJudge', WHERE WHAT IT READS IS OF BULK AT MOST 1048576: true; the input reads as it did. -/
def specsJudgeUptoRow : OpenClaim := { program := "ythooafgfpnedhaa", sum := "65a6a90518dbe83f8a08ee93ff173d577ad05f50f7f98e437d9a3a137f208912", func := "ragpicker/ragpickerlaw30.SpecsJudge", spec := "specsJudge", unfollowed := true, recurses := true, apart := false, narrowed := true }
def SpecsJudgeUptoSaid : Prop := specsJudgeUptoRow.holds Try.pinned (OpenSpec.upto specsJudgeSpec)

/-- 'ragpickerlaw30.SpecsWitness', WHERE WHAT IT READS IS OF BULK AT MOST 1048576: true; the input reads as it did. -/
def specsWitnessUptoRow : OpenClaim := { program := "ythooafgfpnedhaa", sum := "65a6a90518dbe83f8a08ee93ff173d577ad05f50f7f98e437d9a3a137f208912", func := "ragpicker/ragpickerlaw30.SpecsWitness", spec := "specsWitness", unfollowed := true, recurses := true, apart := false, narrowed := true }
def SpecsWitnessUptoSaid : Prop := specsWitnessUptoRow.holds Try.pinned (OpenSpec.upto specsWitnessSpec)

/-- 'ragpickerlaw30.SpecsWrong', WHERE WHAT IT READS IS OF BULK AT MOST 1048576: true; the input reads as it did. -/
def specsWrongUptoRow : OpenClaim := { program := "ythooafgfpnedhaa", sum := "65a6a90518dbe83f8a08ee93ff173d577ad05f50f7f98e437d9a3a137f208912", func := "ragpicker/ragpickerlaw30.SpecsWrong", spec := "specsWrong", unfollowed := true, recurses := true, apart := false, narrowed := true }
def SpecsWrongUptoSaid : Prop := specsWrongUptoRow.holds Try.pinned (OpenSpec.upto specsWrongSpec)

/-- 'ragpickerlaw30.SpecsDo', WHERE WHAT IT READS IS OF BULK AT MOST 1048576: true; the input reads as it did. -/
def specsDoUptoRow : OpenClaim := { program := "ythooafgfpnedhaa", sum := "65a6a90518dbe83f8a08ee93ff173d577ad05f50f7f98e437d9a3a137f208912", func := "ragpicker/ragpickerlaw30.SpecsDo", spec := "specsDo", unfollowed := true, recurses := true, apart := false, narrowed := true }
def SpecsDoUptoSaid : Prop := specsDoUptoRow.holds Try.pinned (OpenSpec.upto specsDoSpec)

end Rows
end Go.Proofs.Ythooafgfpnedhaa
