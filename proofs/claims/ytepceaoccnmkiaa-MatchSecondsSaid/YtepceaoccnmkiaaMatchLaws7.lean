/-
  Layer 6 (match): the law MatchSeconds.
-/
import Derived.Test.YtepceaoccnmkiaaMatchLaws4
import Derived.Test.YtepceaoccnmkiaaMatchRefS
namespace Go.Proofs.Ytepceaoccnmkiaa
open Go.RowKit Go.Tw Go.Tw.Match Go.ChangeShapes Go.WideShapes
set_option maxRecDepth 100000 in
set_option maxHeartbeats 4000000 in
theorem seconds_walk : LawWalk Try.prog 5 Try.f5 := by
  intro H enc W base args ds ps hval hA hsz
  rw [Try.params5] at hA hval
  obtain ⟨v0, d0, rfl, rfl, h0⟩ := trodAll_one hA
  obtain ⟨vc, vr, vl, m, rfl, hm⟩ := arg_mat (hval 0 _ _ rfl rfl) h0
  clear hA hval h0 hsz
  have HM := Lib.hid hm
  obtain ⟨ac, cc, bc, oc, ar, cr, br, or, al, cl, bl, ol, rfl, rfl, rfl, -⟩ := hm.at
  have HB := Lib.hid (BoxW.start W (.slice ac m.cost.length cc) (.slice ar m.row.length cr) (.slice al m.col.length cl))
  clear hm
  go_enter Try.func5, Try.ntmps5
  go_wp2_with (fail)
  refine (great_any m _ _ _ _ (HM.out.step HB.out.2)).mono ?_
  rintro e w1 ⟨⟨bg, rfl⟩, hb⟩
  have HB' := Lib.hid (HB.out.below hb)
  clear hb HB
  have HB := HB'
  clear HB'
  obtain ⟨x0, x1, x2, -⟩ := blk3 HB.out.1
  cases bg
  case true =>
    go_wp2_with (fail)
    refine (awake_any _).mono ?_
    rintro e wz ⟨rfl, hb⟩
    have HZ := Lib.hid (bl_trans HB.out.2 hb)
    clear hb
    go_wp2_with (fail)
    go_ret
    exact ⟨rfl, HZ.out⟩
  go_wp2_with (fail)
  refine (second_any m _ _ _ _ (HM.out.step HB.out.2)).mono ?_
  rintro e w2 ⟨⟨v2, rfl, ho2⟩, hb⟩
  have HO2 := Lib.hid ho2
  have HB' := Lib.hid (HB.out.below hb)
  clear hb HB
  have HB := HB'
  clear HB'
  clear x0 x1 x2 ho2
  obtain ⟨x0, x1, x2, -⟩ := blk3 HB.out.1
  obtain ⟨c, hc⟩ : ∃ c, (secC m).2.1 = c := ⟨_, rfl⟩
  obtain ⟨o, ho⟩ : ∃ o, (secC m).2.2 = o := ⟨_, rfl⟩
  rw [hc, ho]
  have HCC := Lib.hid (show (secC m).2.1 = c ∧ (secC m).2.2 = o from ⟨hc, ho⟩)
  clear hc ho
  go_wp2_with (fail)
  refine (secondR_any m _ _ _ _ (HM.out.step HB.out.2)).mono ?_
  rintro e w3 ⟨⟨v3, rfl, ho3⟩, hb⟩
  rw [HCC.out.1, HCC.out.2]
  have HO3 := Lib.hid ho3
  have HO23 := Lib.hid (HO2.out.below hb)
  have HB' := Lib.hid (HB.out.below hb)
  clear hb HB
  have HB := HB'
  clear HB'
  clear x0 x1 x2 ho3
  go_wp2_with (fail)
  refine (same_any (secC m).1 (secC m).1 _ _ _ HO23.out.sl HO3.out.sl).mono ?_
  rintro e w6 ⟨rfl, n6, hw6⟩
  have hb : Below w3.heap.size w3 w6 := by rw [hw6]; exact bl_drewN (Below.refl _ _) _
  have HB' := Lib.hid (HB.out.below hb)
  clear hb HB
  have HB := HB'
  clear HB'
  clear hw6
  rw [show decide ((secC m).1 = (secC m).1) = true by simp]
  have e1 : (c == c) = true := by simp
  have e2 : (o == o) = true := by simp
  go_wp2_with (fail)
  refine (awake_any _).mono ?_
  rintro e wz ⟨rfl, hb⟩
  have HZ := Lib.hid (bl_trans HB.out.2 hb)
  clear hb
  go_wp2_with (fail)
  go_ret
  exact ⟨rfl, HZ.out⟩
set_option maxRecDepth 100000 in
theorem seconds_lift (os : Os) (started : os.Started) (H : Type) (enc : TypeId × Value → H) :
    ReturnsInHanded {} Try.checked os 5 .any (Rows.matchSecondsSpec.pre6 enc Try.prog Try.f5 Rows.matchSecondsRow.domain false) (Rows.matchSecondsSpec.post enc Try.prog Try.f5 false true false false) :=
  law_lift (C := Try.checked) (s := Rows.matchSecondsSpec) (fn := Try.f5) ⟨rfl, fun H ds h => by
    match ds, h with
    | [a], _ => exact ⟨rfl, rfl, rfl⟩⟩ rfl Try.underlying4 (by kernel_rfl) laid0 own0 started (by kernel_rfl) Try.func5
    (ChangeSpec.witness6 (enc := enc) (C := Try.checked) false ⟨#[], #[.agg #[.slice none 0 0, .slice none 0 0, .slice none 0 0]], []⟩ 8 (by kernel_rfl) (by kernel_rfl) (by kernel_rfl) (by kernel_rfl)) seconds_walk

/-- THE STATEMENT: MatchSeconds. -/
theorem seconds_holds : Rows.MatchSecondsSaid :=
  OpenClaim.holds_of_wide 5 Try.f5 rfl rfl rfl rfl rfl rfl rfl ⟨rfl, rfl, rfl, rfl, rfl⟩ rfl rfl rfl rfl rfl (by kernel_rfl) Try.func5 (by kernel_rfl)
    (of_decide_eq_true (by kernel_rfl)) (by unfold Func.isWrapper; rw [if_neg (of_decide_eq_false (by kernel_rfl))]; exact ⟨rfl, rfl⟩)
    (fun os started H enc _ => seconds_lift os started H enc)
end Go.Proofs.Ytepceaoccnmkiaa
