import Derived.Test.YtifcelebfagjbaaGreatDoorMgS
namespace Go.Proofs.YtifcelebfagjbaaGreatDoor
open Go.RowKit Go.ChangeShapes Go.WideShapes
theorem paths_loops : (Tryz.f8.params.toList ++ Rows.postPathsSpec.plain.varTypes Tryz.pinned.checked.prog).any (Tryz.pinned.checked.prog.loopsFrom ·) = false := by kernel_rfl
theorem paths_joined : joinedFacts Tryz.pinned.checked.prog 8 Tryz.f8 Rows.postPathsSpec Rows.postPathsRow = true := by
 unfold joinedFacts; rw [paths_loops]
 kernel_rfl
end Go.Proofs.YtifcelebfagjbaaGreatDoor
