/-
  Layer 6 (match): the law MatchBests.
-/
import Derived.Test.YtepceaoccnmkiaaMatchLaws4
import Derived.Test.YtepceaoccnmkiaaMatchRefB
namespace Go.Proofs.Ytepceaoccnmkiaa
open Go.RowKit Go.Tw Go.Tw.Match Go.ChangeShapes Go.WideShapes
set_option maxRecDepth 100000 in
set_option maxHeartbeats 4000000 in
theorem bests_walk : LawWalk Try.prog 4 Try.f4 := by
  intro H enc W base args ds ps hval hA hsz
  rw [Try.params4] at hA hval
  obtain ⟨v0, d0, rfl, rfl, h0⟩ := trodAll_one hA
  obtain ⟨vc, vr, vl, m, rfl, hm⟩ := arg_mat (hval 0 _ _ rfl rfl) h0
  clear hA hval h0 hsz
  have HM := Lib.hid hm
  obtain ⟨ac, cc, bc, oc, ar, cr, br, or, al, cl, bl, ol, rfl, rfl, rfl, -⟩ := hm.at
  have HB := Lib.hid (BoxW.start W (.slice ac m.cost.length cc) (.slice ar m.row.length cr) (.slice al m.col.length cl))
  clear hm
  go_enter Try.func4, Try.ntmps4
  go_wp2_with (fail)
  refine (great_any m _ _ _ _ (HM.out.step HB.out.2)).mono ?_
  rintro e w1 ⟨⟨bg, rfl⟩, hb⟩
  have HB' := Lib.hid (HB.out.below hb)
  clear hb HB
  have HB := HB'
  clear HB'
  obtain ⟨x0, x1, x2, -⟩ := blk3 HB.out.1
  cases bg
  case true =>
    go_wp2_with (fail)
    refine (awake_any _).mono ?_
    rintro e wz ⟨rfl, hb⟩
    have HZ := Lib.hid (bl_trans HB.out.2 hb)
    clear hb
    go_wp2_with (fail)
    go_ret
    exact ⟨rfl, HZ.out⟩
  go_wp2_with (fail)
  refine (best_any m _ _ _ _ (HM.out.step HB.out.2)).mono ?_
  rintro e w2 ⟨⟨v2, rfl, ho2⟩, hb⟩
  have HO2 := Lib.hid ho2
  have HB2 := Lib.hid (show Below w2.heap.size w2 w2 from Below.refl _ _)
  have HB' := Lib.hid (HB.out.below hb)
  clear hb HB
  have HB := HB'
  clear HB'
  clear x0 x1 x2 ho2
  obtain ⟨x0, x1, x2, -⟩ := blk3 HB.out.1
  obtain ⟨c, hc⟩ : ∃ c, (bestC m).2.1 = c := ⟨_, rfl⟩
  obtain ⟨o, ho⟩ : ∃ o, (bestC m).2.2 = o := ⟨_, rfl⟩
  rw [hc, ho]
  have HCC := Lib.hid (show (bestC m).2.1 = c ∧ (bestC m).2.2 = o from ⟨hc, ho⟩)
  clear hc ho
  go_wp2_with (fail)
  refine (bestR_any m _ _ _ _ (HM.out.step HB.out.2)).mono ?_
  rintro e w3 ⟨⟨v3, rfl, ho3⟩, hb⟩
  rw [HCC.out.1, HCC.out.2]
  have HO3 := Lib.hid ho3
  have HO23 := Lib.hid (HO2.out.below hb)
  have HB' := Lib.hid (HB.out.below hb)
  clear hb HB
  have HB := HB'
  clear HB'
  clear x0 x1 x2 ho3 HB2
  obtain ⟨x0, x1, x2, -⟩ := blk3 HB.out.1
  go_wp2_with (fail)
  refine (ties_any m _ _ _ _ (HM.out.step HB.out.2)).mono ?_
  rintro e w4 ⟨rfl, hb⟩
  have HO34 := Lib.hid (HO3.out.below hb)
  have HO24 := Lib.hid (HO23.out.below hb)
  have HB' := Lib.hid (HB.out.below hb)
  clear hb HB
  have HB := HB'
  clear HB'
  clear x0 x1 x2
  obtain ⟨x0, x1, x2, -⟩ := blk3 HB.out.1
  obtain ⟨tc, htc⟩ : ∃ c, (tiesC m).1 = c := ⟨_, rfl⟩
  obtain ⟨tn, htn⟩ : ∃ c, (tiesC m).2 = c := ⟨_, rfl⟩
  rw [htc, htn]
  have HTC := Lib.hid (show (tiesC m).1 = tc ∧ (tiesC m).2 = tn from ⟨htc, htn⟩)
  clear htc htn
  go_wp2_with (fail)
  refine (tiesR_any m _ _ _ _ (HM.out.step HB.out.2)).mono ?_
  rintro e w5 ⟨rfl, hb⟩
  rw [HTC.out.1, HTC.out.2]
  have HO35 := Lib.hid (HO34.out.below hb)
  have HO25 := Lib.hid (HO24.out.below hb)
  have HB' := Lib.hid (HB.out.below hb)
  clear hb HB
  have HB := HB'
  clear HB'
  clear x0 x1 x2
  go_wp2_with (fail)
  refine (same_any (bestC m).1 (bestC m).1 _ _ _ HO25.out.sl HO35.out.sl).mono ?_
  rintro e w6 ⟨rfl, n6, hw6⟩
  have hb : Below w5.heap.size w5 w6 := by rw [hw6]; exact bl_drewN (Below.refl _ _) _
  have HB' := Lib.hid (HB.out.below hb)
  clear hb HB
  have HB := HB'
  clear HB'
  clear hw6
  rw [show decide ((bestC m).1 = (bestC m).1) = true by simp]
  have e1 : (c == c) = true := by simp
  have e2 : (o == o) = true := by simp
  have e3 : (tc == tc) = true := by simp
  have e4 : (tn == tn) = true := by simp
  go_wp2_with (fail)
  refine (awake_any _).mono ?_
  rintro e wz ⟨rfl, hb⟩
  have HZ := Lib.hid (bl_trans HB.out.2 hb)
  clear hb
  go_wp2_with (fail)
  go_ret
  exact ⟨rfl, HZ.out⟩
set_option maxRecDepth 100000 in
theorem bests_lift (os : Os) (started : os.Started) (H : Type) (enc : TypeId × Value → H) :
    ReturnsInHanded {} Try.checked os 4 .any (Rows.matchBestsSpec.pre6 enc Try.prog Try.f4 Rows.matchBestsRow.domain false) (Rows.matchBestsSpec.post enc Try.prog Try.f4 false true false false) :=
  law_lift (C := Try.checked) (s := Rows.matchBestsSpec) (fn := Try.f4) ⟨rfl, fun H ds h => by
    match ds, h with
    | [a], _ => exact ⟨rfl, rfl, rfl⟩⟩ rfl Try.underlying4 (by kernel_rfl) laid0 own0 started (by kernel_rfl) Try.func4
    (ChangeSpec.witness6 (enc := enc) (C := Try.checked) false ⟨#[], #[.agg #[.slice none 0 0, .slice none 0 0, .slice none 0 0]], []⟩ 8 (by kernel_rfl) (by kernel_rfl) (by kernel_rfl) (by kernel_rfl)) bests_walk

/-- THE STATEMENT: MatchBests. -/
theorem bests_holds : Rows.MatchBestsSaid :=
  OpenClaim.holds_of_wide 4 Try.f4 rfl rfl rfl rfl rfl rfl rfl ⟨rfl, rfl, rfl, rfl, rfl⟩ rfl rfl rfl rfl rfl (by kernel_rfl) Try.func4 (by kernel_rfl)
    (of_decide_eq_true (by kernel_rfl)) (by unfold Func.isWrapper; rw [if_neg (of_decide_eq_false (by kernel_rfl))]; exact ⟨rfl, rfl⟩)
    (fun os started H enc _ => bests_lift os started H enc)
end Go.Proofs.Ytepceaoccnmkiaa
