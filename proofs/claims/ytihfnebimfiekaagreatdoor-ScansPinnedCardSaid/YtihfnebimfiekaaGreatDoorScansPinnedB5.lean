/- Runs of the law ScansPinned (part 5); no condition but those that its theorems name. -/
import Derived.Test.YtihfnebimfiekaaGreatDoorScansPinnedA
namespace Go.Proofs.YtihfnebimfiekaaGreatDoor.leaf.SP
open Go Go.Mini Go.Mini.Fast
theorem x_1_2 (w : Nat → Nat) : ([0, 1].all fun i => run w 1 2 i) = true := by kernel_rfl
theorem y_1_2 (w : Nat → Nat) : ([2, 3].all fun i => run w 1 2 i) = true := by kernel_rfl
theorem z_1_2 (w : Nat → Nat) : ([4, 5].all fun i => run w 1 2 i) = true := by kernel_rfl
theorem c_1_2 (w : Nat → Nat) : ((List.range 6).all fun i => run w 1 2 i) = true := by
  rw [show List.range 6 = [0, 1] ++ ([2, 3] ++ [4, 5]) from rfl, List.all_append, List.all_append, x_1_2 w, y_1_2 w, z_1_2 w]
  rfl
end Go.Proofs.YtihfnebimfiekaaGreatDoor.leaf.SP

namespace Go.Proofs.YtihfnebimfiekaaGreatDoor.leaf.SP
open Go Go.Mini Go.Mini.Fast
theorem x_1_3 (w : Nat → Nat) : ([0, 1].all fun i => run w 1 3 i) = true := by kernel_rfl
theorem y_1_3 (w : Nat → Nat) : ([2, 3].all fun i => run w 1 3 i) = true := by kernel_rfl
theorem z_1_3 (w : Nat → Nat) : ([4, 5].all fun i => run w 1 3 i) = true := by kernel_rfl
theorem c_1_3 (w : Nat → Nat) : ((List.range 6).all fun i => run w 1 3 i) = true := by
  rw [show List.range 6 = [0, 1] ++ ([2, 3] ++ [4, 5]) from rfl, List.all_append, List.all_append, x_1_3 w, y_1_3 w, z_1_3 w]
  rfl
end Go.Proofs.YtihfnebimfiekaaGreatDoor.leaf.SP
