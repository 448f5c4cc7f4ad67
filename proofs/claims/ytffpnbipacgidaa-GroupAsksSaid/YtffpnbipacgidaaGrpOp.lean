/-
  Layer 14 (group): what the laws are handed, read off the form's reading.
-/
import Derived.Test.YtffpnbipacgidaaGrpB
import Derived.Test.YtffpnbipacgidaaRows
namespace Go.Proofs.Ytffpnbipacgidaa
open Go.RowKit Go.Tw Go.Tw.Ord Go.Tw.Grp Go.Sort Go.ChangeShapes Go.WideShapes
theorem own0 : ownKnob Try.prog.godebug = none := by kernel_rfl
theorem laid0 : laidOutB Try.prog = true := by kernel_rfl
theorem opensSeen : Opens Try.prog 31 tSeen :=
  opens_via (fun x => ⟨x.1.1, x.1.2.1, x.1.2.2.1, x.1.2.2.2.1, x.1.2.2.2.2.1, x.1.2.2.2.2.2.1, x.1.2.2.2.2.2.2, x.2.1, x.2.2.1, x.2.2.2.1, x.2.2.2.2⟩) (fun _ => rfl)
    (opens_struct Try.underlying31 (by kernel_rfl) (.cons rfl (by kernel_rfl)
      (opens_struct Try.underlying29 (by kernel_rfl) (.cons rfl (by kernel_rfl) (opens_str Try.underlying9) (.cons rfl (by kernel_rfl) (opens_int Try.underlying3) (.cons rfl (by kernel_rfl) (opens_int Try.underlying3) (.cons rfl (by kernel_rfl) (opens_str Try.underlying9) (.cons rfl (by kernel_rfl) (opens_str Try.underlying9) (.cons rfl (by kernel_rfl) (opens_int Try.underlying3) (.one rfl (by kernel_rfl) (opens_int Try.underlying3)))))))))
      (.cons rfl (by kernel_rfl) (opens_int Try.underlying3) (.cons rfl (by kernel_rfl) (opens_str Try.underlying9) (.cons rfl (by kernel_rfl) (opens_int Try.underlying3) (.one rfl (by kernel_rfl) (opens_int Try.underlying3)))))))
theorem opensSeens {e : TypeId} : Opens Try.prog 22 (tSeen.list e) := opens_slice Try.underlying22 (by kernel_rfl) (by decide) opensSeen
theorem opensFrms {e : TypeId} : Opens Try.prog 24 (tFrm.list e) := opens_slice Try.underlying24 (by kernel_rfl) (by decide) opensSeens
end Go.Proofs.Ytffpnbipacgidaa
