/- Runs of the law ScansPinned (part 9); no condition but those that its theorems name. -/
import Derived.Test.YtihfnebimfiekaaGreatDoorScansPinnedA
namespace Go.Proofs.YtihfnebimfiekaaGreatDoor.leaf.SP
open Go Go.Mini Go.Mini.Fast
theorem x_2_4 (w : Nat → Nat) : ([0, 1].all fun i => run w 2 4 i) = true := by kernel_rfl
theorem y_2_4 (w : Nat → Nat) : ([2, 3].all fun i => run w 2 4 i) = true := by kernel_rfl
theorem z_2_4 (w : Nat → Nat) : ([4, 5].all fun i => run w 2 4 i) = true := by kernel_rfl
theorem c_2_4 (w : Nat → Nat) : ((List.range 6).all fun i => run w 2 4 i) = true := by
  rw [show List.range 6 = [0, 1] ++ ([2, 3] ++ [4, 5]) from rfl, List.all_append, List.all_append, x_2_4 w, y_2_4 w, z_2_4 w]
  rfl
end Go.Proofs.YtihfnebimfiekaaGreatDoor.leaf.SP

namespace Go.Proofs.YtihfnebimfiekaaGreatDoor.leaf.SP
open Go Go.Mini Go.Mini.Fast
theorem x_2_5 (w : Nat → Nat) : ([0, 1].all fun i => run w 2 5 i) = true := by kernel_rfl
theorem y_2_5 (w : Nat → Nat) : ([2, 3].all fun i => run w 2 5 i) = true := by kernel_rfl
theorem z_2_5 (w : Nat → Nat) : ([4, 5].all fun i => run w 2 5 i) = true := by kernel_rfl
theorem c_2_5 (w : Nat → Nat) : ((List.range 6).all fun i => run w 2 5 i) = true := by
  rw [show List.range 6 = [0, 1] ++ ([2, 3] ++ [4, 5]) from rfl, List.all_append, List.all_append, x_2_5 w, y_2_5 w, z_2_5 w]
  rfl
end Go.Proofs.YtihfnebimfiekaaGreatDoor.leaf.SP
