/- Runs of the law CtlsStalled (part 1); no condition but those that its theorems name. -/
import Derived.Test.YtihfnebimfiekaaGreatDoorCtlsStalledA
namespace Go.Proofs.YtihfnebimfiekaaGreatDoor.leaf.SK
open Go Go.Mini Go.Mini.Fast
theorem c_0_0 (w : Nat → Nat) : ((List.range 12).all fun i => run w 0 i 0) = true := by kernel_rfl
end Go.Proofs.YtihfnebimfiekaaGreatDoor.leaf.SK

namespace Go.Proofs.YtihfnebimfiekaaGreatDoor.leaf.SK
open Go Go.Mini Go.Mini.Fast
theorem c_0_1 (w : Nat → Nat) : ((List.range 12).all fun i => run w 0 i 1) = true := by kernel_rfl
end Go.Proofs.YtihfnebimfiekaaGreatDoor.leaf.SK

namespace Go.Proofs.YtihfnebimfiekaaGreatDoor.leaf.SK
open Go Go.Mini Go.Mini.Fast
theorem c_0_2 (w : Nat → Nat) : ((List.range 12).all fun i => run w 0 i 2) = true := by kernel_rfl
end Go.Proofs.YtihfnebimfiekaaGreatDoor.leaf.SK

namespace Go.Proofs.YtihfnebimfiekaaGreatDoor.leaf.SK
open Go Go.Mini Go.Mini.Fast
theorem c_0_3 (w : Nat → Nat) : ((List.range 12).all fun i => run w 0 i 3) = true := by kernel_rfl
end Go.Proofs.YtihfnebimfiekaaGreatDoor.leaf.SK
