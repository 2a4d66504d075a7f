/- Runs of the law ScansPinned (part 4); no condition but those that its theorems name. -/
import Derived.Test.YtihfnebimfiekaaGreatDoorScansPinnedA
namespace Go.Proofs.YtihfnebimfiekaaGreatDoor.leaf.SP
open Go Go.Mini Go.Mini.Fast
theorem x_1_0 (w : Nat → Nat) : ([0, 1].all fun i => run w 1 0 i) = true := by kernel_rfl
theorem y_1_0 (w : Nat → Nat) : ([2, 3].all fun i => run w 1 0 i) = true := by kernel_rfl
theorem z_1_0 (w : Nat → Nat) : ([4, 5].all fun i => run w 1 0 i) = true := by kernel_rfl
theorem c_1_0 (w : Nat → Nat) : ((List.range 6).all fun i => run w 1 0 i) = true := by
  rw [show List.range 6 = [0, 1] ++ ([2, 3] ++ [4, 5]) from rfl, List.all_append, List.all_append, x_1_0 w, y_1_0 w, z_1_0 w]
  rfl
end Go.Proofs.YtihfnebimfiekaaGreatDoor.leaf.SP

namespace Go.Proofs.YtihfnebimfiekaaGreatDoor.leaf.SP
open Go Go.Mini Go.Mini.Fast
theorem x_1_1 (w : Nat → Nat) : ([0, 1].all fun i => run w 1 1 i) = true := by kernel_rfl
theorem y_1_1 (w : Nat → Nat) : ([2, 3].all fun i => run w 1 1 i) = true := by kernel_rfl
theorem z_1_1 (w : Nat → Nat) : ([4, 5].all fun i => run w 1 1 i) = true := by kernel_rfl
theorem c_1_1 (w : Nat → Nat) : ((List.range 6).all fun i => run w 1 1 i) = true := by
  rw [show List.range 6 = [0, 1] ++ ([2, 3] ++ [4, 5]) from rfl, List.all_append, List.all_append, x_1_1 w, y_1_1 w, z_1_1 w]
  rfl
end Go.Proofs.YtihfnebimfiekaaGreatDoor.leaf.SP
