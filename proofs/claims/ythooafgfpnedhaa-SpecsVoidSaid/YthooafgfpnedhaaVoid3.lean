/- What no entry hooks; the example of the chapter. Conditions: those that each theorem names, and no others. -/
import Derived.Test.YthooafgfpnedhaaVoid2
namespace Go.Proofs.Ythooafgfpnedhaa.specsVoid
open Go Go.Mini
def none_ : Task → Option Res := fun _ => none
theorem none_sound {P : Program} : ∀ t r, none_ t = some r → Sound P t r := fun _ _ h => by cases h
theorem mixed : Try.prog.follows .mixedOrders = true := by kernel_rfl
theorem noG : Try.prog.globals.size = 0 := by kernel_rfl

theorem i64_wrapS {x : Int} (h0 : -9223372036854775808 ≤ x) (h1 : x < 9223372036854775808) : IntKind.i64.wrap x = x := by
  simp [IntKind.wrap, IntKind.bits, IntKind.signed]; omega
theorem livR : runX Try.prog none_ 600 17 (.call 17 [] ⟨⟨[], 0, none, []⟩, 4⟩) [] = some ({ e := .ret, ts := [.bool true], s := { h := { bs := [], len := 0, esc := some 4, wr := [] }, nx := 98 } }, [], []) := by kernel_rfl
theorem livC (s : AS) : Sound Try.prog (.call 17 [] s) ⟨.ret, [.bool true], s⟩ :=
  Sound.put (bs0 := []) (runX_sound mixed none_sound livR trivial) noG (fun b => b) [] s trivial (fun b hb => by cases hb) List.nodup_nil List.nodup_nil (fun b hb => by cases hb) rfl rfl
end Go.Proofs.Ythooafgfpnedhaa.specsVoid
