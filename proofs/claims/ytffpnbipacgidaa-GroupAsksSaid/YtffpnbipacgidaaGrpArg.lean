/-
  Layer 14 (group): a detection handed to a law.
-/
import Derived.Test.YtffpnbipacgidaaGrpOp
namespace Go.Proofs.Ytffpnbipacgidaa
open Go.RowKit Go.Tw Go.Tw.Ord Go.Tw.Grp Go.Sort Go.ChangeShapes Go.WideShapes
set_option maxRecDepth 100000 in
theorem arg_seen {H : Type} {enc : TypeId × Value → H} {w : World} {r : Reach} {b0 : Nat} {v : Value} {d : DataW H} {ps : List MemPlace} (hval : Value.okWide Try.prog w r b0 31 v) (hd : DataW.Trod enc Try.prog w 0 (fun _ => true) true 31 v d ps) : ∃ s, v = .agg (sCells s).toArray ∧ SeenOk s := by
  obtain ⟨cs, s, rfl, hi⟩ := arg_struct Try.underlying31 opensSeen hval hd
  obtain ⟨hcs, hm⟩ := tSeen_is hi
  exact ⟨s, by congr 1; apply Array.ext'; simpa using hcs, hm⟩
/-- .. its cells a name -/
theorem arg_seenA {H : Type} {enc : TypeId × Value → H} {w : World} {r : Reach} {b0 : Nat} {v : Value} {d : DataW H} {ps : List MemPlace} (hval : Value.okWide Try.prog w r b0 31 v) (hd : DataW.Trod enc Try.prog w 0 (fun _ => true) true 31 v d ps) : ∃ s A, v = .agg A ∧ (sCells s).toArray = A ∧ SeenOk s := by
  obtain ⟨s, h1, h2⟩ := arg_seen hval hd
  exact ⟨s, _, h1, rfl, h2⟩
end Go.Proofs.Ytffpnbipacgidaa
