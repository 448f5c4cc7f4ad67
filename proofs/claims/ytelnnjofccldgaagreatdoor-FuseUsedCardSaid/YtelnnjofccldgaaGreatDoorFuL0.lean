/-
  Layer 16 (fuse): what the row of FuseUsed says of the program, looked up once.
-/
import Derived.Test.YtelnnjofccldgaaGreatDoorRows
import Derived.Test.YtelnnjofccldgaaGreatDoorCards
import Derived.Test.YtelnnjofccldgaaGreatDoorTie
import Derived.SevenTiedAt
namespace Go.Proofs.YtelnnjofccldgaaGreatDoor
open Go.ChangeShapes Go.WideShapes
theorem used_loops : (Tryz.f3.params.toList ++ Rows.fuseUsedSpec.plain.varTypes Tryz.pinned.checked.prog).any (Tryz.pinned.checked.prog.loopsFrom ·) = false := by kernel_rfl
theorem used_joined : joinedFacts Tryz.pinned.checked.prog 3 Tryz.f3 Rows.fuseUsedSpec Rows.fuseUsedRow = true := by
  unfold joinedFacts
  rw [used_loops]
  kernel_rfl
end Go.Proofs.YtelnnjofccldgaaGreatDoor
