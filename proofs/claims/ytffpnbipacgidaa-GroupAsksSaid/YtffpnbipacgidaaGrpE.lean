/-
  Layer 14 (group): detections are compared; the walks of the reference's Same, SameFrames.
-/
import Derived.Test.YtffpnbipacgidaaGrpF
import Derived.Laws.StructEq
namespace Go.Proofs.Ytffpnbipacgidaa
open Go.RowKit Go.Tw Go.Tw.Ord Go.Tw.Grp Go.Sort
theorem seen_eqb (x y : Seen) : (x.dev.toList == y.dev.toList && (x.seq == y.seq && (x.dtm == y.dtm && (x.tag.toList == y.tag.toList && (x.plt.toList == y.plt.toList && (x.axl == y.axl && x.sco == y.sco)))))  && (x.tm == y.tm && (x.pt.toList == y.pt.toList && (x.ln == y.ln && x.kd == y.kd)))) = decide (x = y) := by
  simp only [eq_str]
  rw [Bool.eq_iff_iff]
  simp only [Bool.and_eq_true, decide_eq_true_eq, beq_iff_eq]
  constructor
  · rintro ⟨⟨a1, a2, a3, a4, a5, a6, a7⟩, b1, b2, b3, b4⟩
    cases x; cases y
    simp_all
  · rintro rfl
    simp
set_option maxRecDepth 100000 in
set_option maxHeartbeats 2000000 in
theorem run_seen_eq (x y : Seen) (w : World) : (Op.equalIn 10000 31 (.agg (sCells x).toArray) (.agg (sCells y).toArray)).run Try.prog w = .ok (decide (x = y)) w := by
  have u3 := Try.underlying3
  have a3 := Try.isAgg3
  have z3 := Try.sizeOf3
  have u9 := Try.underlying9
  have a9 := Try.isAgg9
  have z9 := Try.sizeOf9
  have aD := Try.isAgg29
  have zD := Try.sizeOf29
  rw [← seen_eqb]
  simp only [sCells]
  rw [show (10000 : Nat) = 9999 + 1 from rfl, run_equalIn_agg w 9999 31 _ _ (by kernel_rfl) (by kernel_rfl)]
  simp only [Program.fieldsOf, Try.underlying31]
  go_simp
  repeat' split
  all_goals simp [*]
/-- '==' at detections -/
theorem run_seen_eql (x y : Seen) (w : World) : (binOp .eql 31 (.agg (sCells x).toArray) (.agg (sCells y).toArray)).run Try.prog w = .ok (.bool (decide (x = y))) w := by
  rw [run_eql_struct, run_seen_eq]
  rfl
theorem run_seen_neq (x y : Seen) (w : World) : (binOp .neq 31 (.agg (sCells x).toArray) (.agg (sCells y).toArray)).run Try.prog w = .ok (.bool (!decide (x = y))) w := by
  rw [run_neq_struct, run_seen_eq]
  rfl
end Go.Proofs.Ytffpnbipacgidaa
