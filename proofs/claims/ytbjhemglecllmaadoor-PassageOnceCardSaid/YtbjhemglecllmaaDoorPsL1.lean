/-
  Layer 17 (passage): what the laws are handed.
-/
import Derived.Test.YtbjhemglecllmaaDoorMgA
import Derived.Test.YtbjhemglecllmaaDoorRows
import Derived.Test.YtbjhemglecllmaaDoorCards
import Derived.Test.YtbjhemglecllmaaDoorTie
import Derived.SevenTiedAt
import Derived.Test.YtbjhemglecllmaaDoorPsAw
namespace Go.Proofs.YtbjhemglecllmaaDoor
open Go.RowKit Go.Tw Go.Tw.Ord Go.Tw.Ps Go.Sort Go.ChangeShapes Go.WideShapes
theorem own0 : ownKnob Tryd.prog.godebug = none := by kernel_rfl
theorem laid0 : laidOutB Tryd.prog = true := by kernel_rfl
def laidL : List (String × DataW Unit) := [("math/bits.deBruijn32tab", Rows.laid_math_bits_deBruijn32tab), ("math/bits.deBruijn64tab", Rows.laid_math_bits_deBruijn64tab), ("internal/strconv.uint64pow10", Rows.laid_internal_strconv_uint64pow10)]
theorem door_met (os : Os) (args : Array Value) : laidMetH Tryd.prog laidL ((World.doorLaid Tryd.prog 24 os).forCall (fun _ _ => 0) ⟨#[], args, []⟩).memory :=
  laidMetH_of_parts3 (fuel := 8) (laidMet_of_run' 8 (by kernel_rfl) (by kernel_rfl)) (by kernel_rfl) (by kernel_rfl)
theorem opensSrc : Opens Tryd.prog 54 tSrc :=
  opens_via (fun x => ⟨x.1, x.2⟩) (fun _ => rfl) (opens_struct Tryd.underlying54 (by kernel_rfl) (.cons rfl (by kernel_rfl) (opens_str Tryd.underlying9) (.one rfl (by kernel_rfl) (opens_int Tryd.underlying3))))
theorem opensPas : Opens Tryd.prog 24 (tPas eS) :=
  opens_via (fun x => ⟨x.1, x.2.1, x.2.2.1, x.2.2.2.1, x.2.2.2.2.1, x.2.2.2.2.2.1, x.2.2.2.2.2.2.1, x.2.2.2.2.2.2.2⟩) (fun _ => rfl)
    (opens_struct Tryd.underlying24 (by kernel_rfl) (.cons rfl (by kernel_rfl) (opens_str Tryd.underlying9) (.cons rfl (by kernel_rfl) (opens_str Tryd.underlying9) (.cons rfl (by kernel_rfl) (opens_int Tryd.underlying3) (.cons rfl (by kernel_rfl) (opens_str Tryd.underlying9)
      (.cons rfl (by kernel_rfl) (opens_str Tryd.underlying9) (.cons rfl (by kernel_rfl) (opens_int Tryd.underlying3) (.cons rfl (by kernel_rfl) (opens_int Tryd.underlying3) (.one rfl (by kernel_rfl) (opens_slice Tryd.underlying22 (by kernel_rfl) (by decide) opensSrc (e' := eS)))))))))))
theorem opensPass {e : TypeId} : Opens Tryd.prog 38 ((tPas eS).list e) := opens_slice Tryd.underlying38 (by kernel_rfl) (by decide) opensPas
theorem few_src {l : List Pas} (h : ∀ x ∈ l, OneP x) : ∀ x ∈ l, x.src.length ≤ 1000000 := fun x hx => Nat.le_trans (h x hx).src (by decide)
end Go.Proofs.YtbjhemglecllmaaDoor
