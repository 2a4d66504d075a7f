/- The example of the chapter of bounds. Conditions: those that each theorem names, and no others. -/
import Derived.Test.YtipadnlhcnmgaaaDoorLook2
namespace Go.Proofs.YtipadnlhcnmgaaaDoor.boundsLook
open Go Go.Mini
def isTb (r : Option Res) : Bool := match r with
  | some ⟨_, [.bool true], _⟩ => true
  | _ => false
theorem lives35 : isTb (runH Tryd.prog none_ 3000 (.call 9 [] (startS Tryd.prog G))) = true := by kernel_rfl
theorem lives35_call (s : AS) (hG : hasG s G = true) : Sound Tryd.prog (.call 9 [] s) ⟨.ret, [.bool true], s⟩ := by
  have h := lives35
  unfold isTb at h
  split at h
  · rename_i e s1 hr
    exact Sound.pure (G := G) (runH_sound mixed none_sound _ _ _ hr) (by kernel_rfl) rfl rfl hG
  · cases h
end Go.Proofs.YtipadnlhcnmgaaaDoor.boundsLook
