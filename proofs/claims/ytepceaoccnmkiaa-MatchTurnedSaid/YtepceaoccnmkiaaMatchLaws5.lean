/-
  Layer 6 (match): the law MatchTurned.
-/
import Derived.Test.YtepceaoccnmkiaaMatchTurnW
import Derived.Test.YtepceaoccnmkiaaMatchLaws
namespace Go.Proofs.Ytepceaoccnmkiaa
open Go.RowKit Go.Tw Go.Tw.Match Go.ChangeShapes Go.WideShapes
set_option maxRecDepth 100000 in
set_option maxHeartbeats 8000000 in
theorem turned_walk : LawWalk Try.prog 9 Try.f9 := by
  intro H enc W base args ds ps hval hA hsz
  rw [Try.params9] at hA hval
  obtain ⟨v0, d0, rfl, rfl, h0⟩ := trodAll_one hA
  obtain ⟨vc, vr, vl, m, rfl, hm⟩ := arg_mat (hval 0 _ _ rfl rfl) h0
  exact turned_any m vc vr vl W hm
set_option maxRecDepth 100000 in
theorem turned_lift (os : Os) (started : os.Started) (H : Type) (enc : TypeId × Value → H) :
    ReturnsInHanded {} Try.checked os 9 .any (Rows.matchTurnedSpec.pre6 enc Try.prog Try.f9 Rows.matchTurnedRow.domain false) (Rows.matchTurnedSpec.post enc Try.prog Try.f9 false true false false) :=
  law_lift (C := Try.checked) (s := Rows.matchTurnedSpec) (fn := Try.f9) ⟨rfl, fun H ds h => by
    match ds, h with
    | [a], _ => exact ⟨rfl, rfl, rfl⟩⟩ rfl Try.underlying4 (by kernel_rfl) laid0 own0 started (by kernel_rfl) Try.func9
    (ChangeSpec.witness6 (enc := enc) (C := Try.checked) false ⟨#[], #[.agg #[.slice none 0 0, .slice none 0 0, .slice none 0 0]], []⟩ 8 (by kernel_rfl) (by kernel_rfl) (by kernel_rfl) (by kernel_rfl)) turned_walk

/-- THE STATEMENT: MatchTurned. -/
theorem turned_holds : Rows.MatchTurnedSaid :=
  OpenClaim.holds_of_wide 9 Try.f9 rfl rfl rfl rfl rfl rfl rfl ⟨rfl, rfl, rfl, rfl, rfl⟩ rfl rfl rfl rfl rfl (by kernel_rfl) Try.func9 (by kernel_rfl)
    (of_decide_eq_true (by kernel_rfl)) (by unfold Func.isWrapper; rw [if_neg (of_decide_eq_false (by kernel_rfl))]; exact ⟨rfl, rfl⟩)
    (fun os started H enc _ => turned_lift os started H enc)
end Go.Proofs.Ytepceaoccnmkiaa
