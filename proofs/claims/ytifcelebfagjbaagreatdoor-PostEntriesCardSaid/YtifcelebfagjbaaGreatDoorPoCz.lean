/-
  Layer 37 (post): how long the keys of a posting are.
-/
import Derived.Test.YtifcelebfagjbaaGreatDoorMgR
namespace Go.Proofs.YtifcelebfagjbaaGreatDoor
open Go.RowKit Go.Tw Go.Tw.Ord Go.Tw.Po Go.Sort
theorem debC_size {c : List Acc} {x : Chg} (hk : CfOk c) (hx : x.veh.size ≤ 30) : (debC c x).size ≤ maxLen := by
  unfold debC maxLen
  split
  · rename_i nm he
    have := owner_short hk he
    rw [ByteArray.size_append]
    show 8 + _ ≤ _
    omega
  · rw [ByteArray.size_append]
    show 5 + _ ≤ _
    omega
theorem creC_size {x : Chg} (hx : x.sys.size ≤ 30) : (creC x).size ≤ maxLen := by
  unfold creC maxLen
  rw [ByteArray.size_append]
  show 8 + _ ≤ _
  unfold orS orS orS
  split
  · split
    · show 8 + 0 ≤ _; omega
    · show 8 + 1 ≤ _; omega
  · omega
end Go.Proofs.YtifcelebfagjbaaGreatDoor
