/-
  Layer 37 (post): the law PostEntries: what its row says of the program, looked up once.
-/
import Derived.Test.YtifcelebfagjbaaGreatDoorPoSz
namespace Go.Proofs.YtifcelebfagjbaaGreatDoor
open Go.RowKit Go.ChangeShapes Go.WideShapes
theorem entries_loops : (Tryz.f3.params.toList ++ Rows.postEntriesSpec.plain.varTypes Tryz.pinned.checked.prog).any (Tryz.pinned.checked.prog.loopsFrom ·) = false := by kernel_rfl
theorem entries_joined : joinedFacts Tryz.pinned.checked.prog 3 Tryz.f3 Rows.postEntriesSpec Rows.postEntriesRow = true := by
  unfold joinedFacts
  rw [entries_loops]
  kernel_rfl
end Go.Proofs.YtifcelebfagjbaaGreatDoor
