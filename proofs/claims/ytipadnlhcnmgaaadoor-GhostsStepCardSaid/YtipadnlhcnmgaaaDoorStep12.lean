/- The example of the chapter of ghosts. Conditions: those that each theorem names, and no others. -/
import Derived.Test.YtipadnlhcnmgaaaDoorStep11
namespace Go.Proofs.YtipadnlhcnmgaaaDoor.ghostsStep
open Go Go.Mini
def isT' (r : Option Res) : Bool := match r with
  | some ⟨_, [.bool true], _⟩ => true
  | _ => false
theorem lives31 : isT' (runH Tryd.prog none_ 3000 (.call 21 [] (startS Tryd.prog G2))) = true := by kernel_rfl
theorem lives31_call (s : AS) (hG : hasG s G2 = true) : Sound Tryd.prog (.call 21 [] s) ⟨.ret, [.bool true], s⟩ := by
  have h := lives31
  unfold isT' at h
  split at h
  · rename_i e s1 hr
    exact Sound.pure (G := G2) (runH_sound mixed none_sound _ _ _ hr) (by kernel_rfl) rfl rfl hG
  · cases h
end Go.Proofs.YtipadnlhcnmgaaaDoor.ghostsStep
