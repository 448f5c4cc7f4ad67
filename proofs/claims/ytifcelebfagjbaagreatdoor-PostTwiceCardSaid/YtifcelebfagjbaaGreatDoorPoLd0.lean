import Derived.Test.YtifcelebfagjbaaGreatDoorMgS
namespace Go.Proofs.YtifcelebfagjbaaGreatDoor
open Go.RowKit Go.ChangeShapes Go.WideShapes
theorem twice_loops : (Tryz.f6.params.toList ++ Rows.postTwiceSpec.plain.varTypes Tryz.pinned.checked.prog).any (Tryz.pinned.checked.prog.loopsFrom ·) = false := by kernel_rfl
theorem twice_joined : joinedFacts Tryz.pinned.checked.prog 6 Tryz.f6 Rows.postTwiceSpec Rows.postTwiceRow = true := by
 unfold joinedFacts; rw [twice_loops]
 kernel_rfl
end Go.Proofs.YtifcelebfagjbaaGreatDoor
