import Derived.Shelf.SlSortCmp.InsertionK
import Derived.Test.YtifcelebfagjbaaGreatDoorProg
namespace Go.Proofs
open Go.Shelf
def Tryz.insK_ren : Go.Shelf.Ren := ⟨fun | 20 => 141 | n => n, fun | 24 => 49 | 22 => 52 | 3 => 3 | 25 => 167 | 4 => 4 | 0 => 0 | n => n, fun | n => n⟩
theorem Tryz.insK : Go.Proofs.SlLaysF0.n20 Tryz.prog Tryz.insK_ren := {
 mixed := by kernel_rfl
 f20 := ⟨Tryz.f141.name, by decide, Tryz.func141.trans (congrArg some (by kernel_rfl))⟩
 t0 := Tryz.underlying0
 a0 := Tryz.isAgg0
 z0 := Tryz.sizeOf0
 v0 := Tryz.zeroValue0
 t3 := Tryz.underlying3
 a3 := Tryz.isAgg3
 z3 := Tryz.sizeOf3
 v3 := Tryz.zeroValue3
 t4 := Tryz.underlying4
 a4 := Tryz.isAgg4
 z4 := Tryz.sizeOf4
 v4 := Tryz.zeroValue4
 t22 := Tryz.underlying52
 a22 := Tryz.isAgg52
 z22 := Tryz.sizeOf52
 v22 := Tryz.zeroValue52
 t25 := Tryz.underlying167
 a25 := Tryz.isAgg167
 z25 := Tryz.sizeOf167
 v25 := Tryz.zeroValue167 }
end Go.Proofs
