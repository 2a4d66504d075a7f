/- The example of the chapter of nodes. Conditions: those that each theorem names, and no others. -/
import Derived.Test.YtipadnlhcnmgaaaDoorShade15
namespace Go.Proofs.YtipadnlhcnmgaaaDoor.nodesShadow
open Go Go.Mini
def isTd (r : Option Res) : Bool := match r with
  | some ⟨_, [.bool true], _⟩ => true
  | _ => false
theorem lives25 : isTd (runH Tryd.prog none_ 3000 (.call 25 [] (startS Tryd.prog G2))) = true := by kernel_rfl
theorem lives25_call (s : AS) (hG : hasG s G2 = true) : Sound Tryd.prog (.call 25 [] s) ⟨.ret, [.bool true], s⟩ := by
  have h := lives25
  unfold isTd at h
  split at h
  · rename_i e s1 hr
    exact Sound.pure (G := G2) (runH_sound mixed none_sound _ _ _ hr) (by kernel_rfl) rfl rfl hG
  · cases h
end Go.Proofs.YtipadnlhcnmgaaaDoor.nodesShadow
