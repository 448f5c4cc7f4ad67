/-
  Layer 16 (fuse): the chapter's example: awake, evaluated.
-/
import Derived.Test.YtelnnjofccldgaaGreatDoorFuD
namespace Go.Proofs.YtelnnjofccldgaaGreatDoor
open Go Go.RowKit Go.Ev
theorem awake_ev : okB true (evF Tryz.prog 4 fuS oraD 3000 4 [] [] 4) = true := by kernel_rfl
theorem awake_any (w : World) : Calls Tryz.prog 4 #[] w fun e w' => e = .returned (.bool true) ∧ Below w.heap.size w w' :=
  ev_call (S := fuS) (ora := oraD) (k := 3000) oraD_ok mixed0 fuS_stat true awake_ev w
end Go.Proofs.YtelnnjofccldgaaGreatDoor
