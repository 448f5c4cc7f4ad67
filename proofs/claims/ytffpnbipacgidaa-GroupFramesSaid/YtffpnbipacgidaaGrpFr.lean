/-
  Layer 14 (group): the law GroupFrames.
-/
import Derived.Test.YtffpnbipacgidaaGrpR3
import Derived.Test.YtffpnbipacgidaaGrpOp
namespace Go.Proofs.Ytffpnbipacgidaa
open Go.RowKit Go.Tw Go.Tw.Ord Go.Tw.Grp Go.Sort Go.ChangeShapes Go.WideShapes
set_option maxRecDepth 100000 in
set_option maxHeartbeats 8000000 in
theorem frames_walk : LawWalk Try.prog 3 Try.f3 := by
  intro H enc W base args ds ps hval hA hsz
  rw [Try.params3] at hA hval
  obtain ⟨v0, v1, d0, d1, p0, p1, rfl, rfl, rfl, h0, h1⟩ := trodAll_two hA
  obtain ⟨l, hl⟩ := arg_slice Try.underlying22 (opensSeens (e := 31)) (hval 0 _ _ rfl rfl) h0
  obtain ⟨g, rfl, hg⟩ := arg_int Try.underlying3 (hval 1 _ _ rfl rfl) h1
  clear hA hval h0 h1 hsz
  obtain ⟨ao, cp, b, o, rfl, q1, q2, -⟩ := seen_row hl
  unfold maxLen at q2
  have HLL := Lib.hid hl
  have HG := Lib.hid hg
  clear hl hg
  go_enter Try.func3, Try.ntmps3
  by_cases hmost : (l.length : Int) > 40
  · go_wp2_with (fail)
    go_ret
    exact ⟨rfl, Below.refl _ _⟩
  · have HL40 := Lib.hid (show l.length ≤ 40 by omega)
    obtain ⟨R, hR⟩ : ∃ R, framesC g l = R := ⟨_, rfl⟩
    have HFR := Lib.hid (fun (w : World) (h : SlIs tSeen (· < w.heap.size) w (.slice ao l.length cp) l) => Frames_any l g _ w h (by have := HL40.out; omega) HG.out)
    have HFQ := Lib.hid (fun (w : World) (h : SlIs tSeen (· < w.heap.size) w (.slice ao l.length cp) l) => FramesR_any l g _ w h (by have := HL40.out; omega) HG.out)
    rw [hR] at HFR HFQ
    clear hR
    go_wp2_with (first
      | (go_at_call 11
         refine (HFR.out _ HLL.out).mono ?_
         rintro e w1 ⟨⟨v1, rfl, hn1⟩, hb1⟩
         obtain ⟨a1, c1, rfl, -⟩ := hn1.form
         have HB1 := Lib.hid hb1
         have HN1 := Lib.hid hn1.sl'
         clear hn1 hb1)
      | (go_at_call 12
         refine (HFQ.out _ (SlIs.step HLL.out HB1.out)).mono ?_
         rintro e w2 ⟨⟨v2, rfl, hn2⟩, hb2⟩
         obtain ⟨a2, c2, rfl, -⟩ := hn2.form
         have HB2 := Lib.hid (bl_trans HB1.out hb2)
         have HN2 := Lib.hid hn2.sl'
         have HM1 := Lib.hid (SlIs.step HN1.out hb2)
         clear hn2 hb2)
      | (go_at_call 10
         refine (sameF_any R R _ _ _ HM1.out HN2.out).mono ?_
         rintro e w3 ⟨rfl, hg3⟩
         have HB3 := Lib.hid (bl_trans HB2.out hg3.below)
         have hdt : decide (R = R) = true := by simp
         rw [hdt]
         clear hg3 hdt)
      | (go_at_call 13
         refine (alive_any _).mono ?_
         rintro e w4 ⟨rfl, hb4⟩
         have HB4 := Lib.hid (bl_trans HB3.out hb4)
         clear hb4))
    go_ret
    exact ⟨rfl, HB4.out⟩
set_option maxRecDepth 100000 in
theorem frames_lift (os : Os) (started : os.Started) (H : Type) (enc : TypeId × Value → H) :
    ReturnsInHanded {} Try.checked os 3 .any (Rows.groupFramesSpec.pre6 enc Try.prog Try.f3 Rows.groupFramesRow.domain false) (Rows.groupFramesSpec.post enc Try.prog Try.f3 false true false false) :=
  law_lift (C := Try.checked) (s := Rows.groupFramesSpec) (fn := Try.f3) ⟨rfl, fun H ds h => by
    match ds, h with
    | [a, b], _ => exact ⟨rfl, rfl, rfl⟩⟩ rfl Try.underlying4 (by kernel_rfl) laid0 own0 started (by kernel_rfl) Try.func3
    (ChangeSpec.witness6 (enc := enc) (C := Try.checked) false ⟨#[], #[.slice none 0 0, .int .i64 0], []⟩ 8 (by kernel_rfl) (by kernel_rfl) (by kernel_rfl) (by kernel_rfl)) frames_walk

/-- THE STATEMENT: GroupFrames. -/
theorem frames_holds : Rows.GroupFramesSaid :=
  OpenClaim.holds_of_wide 3 Try.f3 rfl rfl rfl rfl rfl rfl rfl ⟨rfl, rfl, rfl, rfl, rfl⟩ rfl rfl rfl rfl rfl (by kernel_rfl) Try.func3 (by kernel_rfl)
    (of_decide_eq_true (by kernel_rfl)) (by unfold Func.isWrapper; rw [if_neg (of_decide_eq_false (by kernel_rfl))]; exact ⟨rfl, rfl⟩)
    (fun os started H enc _ => frames_lift os started H enc)
end Go.Proofs.Ytffpnbipacgidaa
