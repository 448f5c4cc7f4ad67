import Derived.Test.YtifcelebfagjbaaGreatDoorMgS
namespace Go.Proofs.YtifcelebfagjbaaGreatDoor
open Go.RowKit Go.ChangeShapes Go.WideShapes
theorem plays_loops : (Tryz.f4.params.toList ++ Rows.postPlaysSpec.plain.varTypes Tryz.pinned.checked.prog).any (Tryz.pinned.checked.prog.loopsFrom ·) = false := by kernel_rfl
theorem plays_joined : joinedFacts Tryz.pinned.checked.prog 4 Tryz.f4 Rows.postPlaysSpec Rows.postPlaysRow = true := by
 unfold joinedFacts; rw [plays_loops]
 kernel_rfl
end Go.Proofs.YtifcelebfagjbaaGreatDoor
