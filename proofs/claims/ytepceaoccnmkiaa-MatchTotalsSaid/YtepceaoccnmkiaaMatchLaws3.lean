/-
  Layer 6 (match): the law MatchTotals.
-/
import Derived.Test.YtepceaoccnmkiaaMatchLaws
namespace Go.Proofs.Ytepceaoccnmkiaa
open Go.RowKit Go.Tw Go.Tw.Match Go.ChangeShapes Go.WideShapes
set_option maxRecDepth 100000 in
set_option maxHeartbeats 8000000 in
theorem totals_walk : LawWalk Try.prog 3 Try.f3 := by
  intro H enc W base args ds ps hval hA hsz
  rw [Try.params3] at hA hval
  obtain ⟨v0, v1, d0, d1, p0, p1, rfl, rfl, rfl, h0, h1⟩ := trodAll_two hA
  obtain ⟨vc, vr, vl, m, rfl, hm⟩ := arg_mat (hval 0 _ _ rfl rfl) h0
  obtain ⟨a, ha⟩ := arg_slice Try.underlying23 (opensInts (e := 0)) (hval 1 _ _ rfl rfl) h1
  clear hA hval h0 h1 hsz
  have HM := Lib.hid hm
  obtain ⟨ac, cc, bc, oc, ar, cr, br, or, al, cl, bl, ol, rfl, rfl, rfl, -⟩ := hm.at
  have HB := Lib.hid (BoxW.start W (.slice ac m.cost.length cc) (.slice ar m.row.length cr) (.slice al m.col.length cl))
  clear hm
  have HA := Lib.hid ha
  obtain ⟨aa, ca, ba, oa, rfl, ca1, ca2, -⟩ := Go.Tw.Match.ints_at ha
  clear ha
  go_enter Try.func3, Try.ntmps3
  go_wp2_with (fail)
  refine (great_any m _ _ _ _ (HM.out.step HB.out.2)).mono ?_
  rintro e w1 ⟨⟨bg, rfl⟩, hb⟩
  have HB' := Lib.hid (HB.out.below hb)
  clear hb HB
  have HB := HB'
  clear HB'
  obtain ⟨x0, x1, x2, -⟩ := blk3 HB.out.1
  cases bg
  case true =>
    go_wp2_with (fail)
    refine (awake_any _).mono ?_
    rintro e wz ⟨rfl, hb⟩
    have HZ := Lib.hid (bl_trans HB.out.2 hb)
    clear hb
    go_wp2_with (fail)
    go_ret
    exact ⟨rfl, HZ.out⟩
  by_cases h20 : (20 : Int) < (a.length : Int)
  · go_wp2_with (fail)
    refine (awake_any _).mono ?_
    rintro e wz ⟨rfl, hb⟩
    have HZ := Lib.hid (bl_trans HB.out.2 hb)
    clear hb
    go_wp2_with (fail)
    go_ret
    exact ⟨rfl, HZ.out⟩
  go_wp2_with (fail)
  refine (total_any m a _ _ _ _ _ (HM.out.step HB.out.2) (HA.out.step HB.out.2)).mono ?_
  rintro e w2 ⟨rfl, hb⟩
  have HB' := Lib.hid (HB.out.below hb)
  clear hb HB
  have HB := HB'
  clear HB'
  clear x0 x1 x2
  obtain ⟨x0, x1, x2, -⟩ := blk3 HB.out.1
  go_wp2_with (fail)
  refine (totalR_any m a _ _ _ _ _ (HM.out.step HB.out.2) (HA.out.step HB.out.2)).mono ?_
  rintro e w3 ⟨rfl, hb⟩
  have HB' := Lib.hid (HB.out.below hb)
  clear hb HB
  have HB := HB'
  clear HB'
  clear x0 x1 x2
  obtain ⟨x0, x1, x2, -⟩ := blk3 HB.out.1
  obtain ⟨c, hc⟩ : ∃ c, (totC m a).1 = c := ⟨_, rfl⟩
  obtain ⟨o, ho⟩ : ∃ o, (totC m a).2 = o := ⟨_, rfl⟩
  rw [hc, ho]
  clear hc ho
  go_wp2_with (fail)
  go_region_held3 (fun w' => w'.cell? ⟨W.heap.size, 0, none⟩ = some (.slice ac m.cost.length cc) ∧ w'.cell? ⟨W.heap.size, 1, none⟩ = some (.slice ar m.row.length cr) ∧ w'.cell? ⟨W.heap.size, 2, none⟩ = some (.slice al m.col.length cl)) (go_keep)
    (first
      | (go_at_call 14
         refine (check_any m _ _ _ _ (HM.out.step HB6.out.2)).mono ?_
         rintro e w7 ⟨rfl, hb7⟩
         have HB7 := Lib.hid (HB6.out.below hb7)
         obtain ⟨f0, f1, f2, -⟩ := blk3 HB7.out.1
         clear hb7)
      | (go_at_call 15
         refine (checkR_any m _ _ _ _ (HM.out.step HB6.out.2)).mono ?_
         rintro e w7 ⟨rfl, hb7⟩
         have HB7 := Lib.hid (HB6.out.below hb7)
         obtain ⟨f0, f1, f2, -⟩ := blk3 HB7.out.1
         clear hb7)
      | (go_at_call 14
         refine (check_any m _ _ _ _ (HM.out.step (Below.drew HB.out.2))).mono ?_
         rintro e w6 ⟨rfl, hb6⟩
         have HB6 := Lib.hid (HB.out.below (Below.trans (Below.drew (Below.refl _ _)) hb6))
         obtain ⟨e0, e1, e2, -⟩ := blk3 HB6.out.1
         clear hb6)
      | (go_at_call 15
         refine (checkR_any m _ _ _ _ (HM.out.step (Below.drew HB.out.2))).mono ?_
         rintro e w6 ⟨rfl, hb6⟩
         have HB6 := Lib.hid (HB.out.below (Below.trans (Below.drew (Below.refl _ _)) hb6))
         obtain ⟨e0, e1, e2, -⟩ := blk3 HB6.out.1
         clear hb6)
      | (go_at_call 11
         refine (awake_any _).mono ?_
         rintro e w8 ⟨rfl, hb8⟩
         have HB8 := Lib.hid (HB7.out.below hb8)
         obtain ⟨g0, g1, g2, -⟩ := blk3 HB8.out.1
         clear hb8))
  all_goals
    go_wp2_with (fail)
    go_ret
    exact ⟨rfl, HB8.out.2⟩

set_option maxRecDepth 100000 in
theorem totals_lift (os : Os) (started : os.Started) (H : Type) (enc : TypeId × Value → H) :
    ReturnsInHanded {} Try.checked os 3 .any (Rows.matchTotalsSpec.pre6 enc Try.prog Try.f3 Rows.matchTotalsRow.domain false) (Rows.matchTotalsSpec.post enc Try.prog Try.f3 false true false false) :=
  law_lift (C := Try.checked) (s := Rows.matchTotalsSpec) (fn := Try.f3) ⟨rfl, fun H ds h => by
    match ds, h with
    | [a, b], _ => exact ⟨rfl, rfl, rfl⟩⟩ rfl Try.underlying4 (by kernel_rfl) laid0 own0 started (by kernel_rfl) Try.func3
    (ChangeSpec.witness6 (enc := enc) (C := Try.checked) false ⟨#[], #[.agg #[.slice none 0 0, .slice none 0 0, .slice none 0 0], .slice none 0 0], []⟩ 8 (by kernel_rfl) (by kernel_rfl) (by kernel_rfl) (by kernel_rfl)) totals_walk

/-- THE STATEMENT: MatchTotals. -/
theorem totals_holds : Rows.MatchTotalsSaid :=
  OpenClaim.holds_of_wide 3 Try.f3 rfl rfl rfl rfl rfl rfl rfl ⟨rfl, rfl, rfl, rfl, rfl⟩ rfl rfl rfl rfl rfl (by kernel_rfl) Try.func3 (by kernel_rfl)
    (of_decide_eq_true (by kernel_rfl)) (by unfold Func.isWrapper; rw [if_neg (of_decide_eq_false (by kernel_rfl))]; exact ⟨rfl, rfl⟩)
    (fun os started H enc _ => totals_lift os started H enc)
end Go.Proofs.Ytepceaoccnmkiaa
