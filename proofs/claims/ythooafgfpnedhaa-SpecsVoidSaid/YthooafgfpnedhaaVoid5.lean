/- slices.Sort of a row of none, or of one, run. Conditions: those that each theorem names, and no others. -/
import Derived.Test.YthooafgfpnedhaaVoid4
import Derived.Test.YthooafgfpnedhaaVoid3
namespace Go.Proofs.Ythooafgfpnedhaa.specsVoid
open Go Go.Mini Go.Proofs
/-! ### slices.Sort of a row of none, or of one -/
theorem st_nil : runX Try.prog none_ 60 54 (.call 54 [.nilSlice] (startS Try.prog [])) [] = some ({ e := .ret, ts := [.tuple []], s := { h := { bs := [], len := 0, esc := none, wr := [] }, nx := 0 } }, [], []) := by kernel_rfl
theorem st_one (x : Int) : runX Try.prog none_ 60 54 (.call 54 [.osl 0 0 1 1] ⟨⟨[(0, .cells false [.int .u64 x])], 1, none, []⟩, 1⟩) [] = some ({ e := .ret, ts := [.tuple []], s := { h := { bs := [(0, .cells false [.int .u64 x])], len := 1, esc := none, wr := [] }, nx := 1 } }, [], []) := by kernel_rfl
end Go.Proofs.Ythooafgfpnedhaa.specsVoid
