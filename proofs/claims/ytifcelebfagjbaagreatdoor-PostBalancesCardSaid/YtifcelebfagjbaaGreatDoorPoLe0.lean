import Derived.Test.YtifcelebfagjbaaGreatDoorMgS
namespace Go.Proofs.YtifcelebfagjbaaGreatDoor
open Go.RowKit Go.ChangeShapes Go.WideShapes
theorem balances_loops : (Tryz.f7.params.toList ++ Rows.postBalancesSpec.plain.varTypes Tryz.pinned.checked.prog).any (Tryz.pinned.checked.prog.loopsFrom ·) = false := by kernel_rfl
theorem balances_joined : joinedFacts Tryz.pinned.checked.prog 7 Tryz.f7 Rows.postBalancesSpec Rows.postBalancesRow = true := by
 unfold joinedFacts; rw [balances_loops]
 kernel_rfl
end Go.Proofs.YtifcelebfagjbaaGreatDoor
