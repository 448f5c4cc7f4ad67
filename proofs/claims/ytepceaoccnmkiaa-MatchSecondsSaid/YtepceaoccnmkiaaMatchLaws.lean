/-
  Layer 6 (match): the laws MatchWiths and MatchTotals.
-/
import Derived.Test.YtepceaoccnmkiaaMatchAwake
import Derived.Test.YtepceaoccnmkiaaMatchRefs
import Derived.Test.YtepceaoccnmkiaaRows
namespace Go.Proofs.Ytepceaoccnmkiaa
open Go.RowKit Go.Tw Go.Tw.Match Go.ChangeShapes Go.WideShapes

theorem own0 : ownKnob Try.prog.godebug = none := by kernel_rfl
theorem laid0 : laidOutB Try.prog = true := by kernel_rfl
theorem opensInts {e : TypeId} : Opens Try.prog 23 (tInt.list e) := opens_slice Try.underlying23 (by kernel_rfl) (by decide) (opens_int Try.underlying3)
theorem opensRows {e : TypeId} : Opens Try.prog 22 (Ty.list (tInt.list 23) e) := opens_slice Try.underlying22 (by kernel_rfl) (by decide) opensInts
theorem opensMat : Opens Try.prog 25 (tMat 23 23) :=
  opens_via (fun x => ⟨x.1, x.2.1, x.2.2⟩) (fun _ => rfl) (opens_struct Try.underlying25 (by kernel_rfl) (.cons rfl (by kernel_rfl) opensRows (.cons rfl (by kernel_rfl) opensInts (.one rfl (by kernel_rfl) opensInts))))
theorem arg_mat {H : Type} {enc : TypeId × Value → H} {w : World} {r : Reach} {b0 : Nat} {v : Value} {d : DataW H} {ps : List MemPlace} (hval : Value.okWide Try.prog w r b0 25 v) (hd : DataW.Trod enc Try.prog w 0 (fun _ => true) true 25 v d ps) : ∃ vc vr vl m, v = .agg #[vc, vr, vl] ∧ MatIs w vc vr vl m := by
  obtain ⟨cs, m, rfl, him⟩ := arg_struct Try.underlying25 opensMat hval hd
  obtain ⟨vc, vr, vl, hcs, hm⟩ := mat_is him
  exact ⟨vc, vr, vl, m, by congr 1; apply Array.ext'; simpa using hcs, hm⟩

theorem withs_walk : LawWalk Try.prog 6 Try.f6 := by
  intro H enc W base args ds ps hval hA hsz
  rw [Try.params6] at hA hval
  obtain ⟨v0, v1, v2, d0, d1, d2, p0, p1, p2, rfl, rfl, rfl, h0, h1, h2⟩ := trodAll_three hA
  obtain ⟨vc, vr, vl, m, rfl, hm⟩ := arg_mat (hval 0 _ _ rfl rfl) h0
  obtain ⟨i, rfl, hi⟩ := arg_int Try.underlying3 (hval 1 _ _ rfl rfl) h1
  obtain ⟨j, rfl, hj⟩ := arg_int Try.underlying3 (hval 2 _ _ rfl rfl) h2
  clear hA hval h0 h1 h2 hsz
  have HM := Lib.hid hm
  obtain ⟨ac, cc, bc, oc, ar, cr, br, or, al, cl, bl, ol, rfl, rfl, rfl, -⟩ := hm.at
  have HB := Lib.hid (BoxW.start W (.slice ac m.cost.length cc) (.slice ar m.row.length cr) (.slice al m.col.length cl))
  clear hm
  go_enter Try.func6, Try.ntmps6
  go_wp2_with (fail)
  refine (great_any m _ _ _ _ (HM.out.step HB.out.2)).mono ?_
  rintro e w1 ⟨⟨bg, rfl⟩, hb⟩
  have HB' := Lib.hid (HB.out.below hb)
  clear hb HB
  have HB := HB'
  clear HB'
  obtain ⟨x0, x1, x2, -⟩ := blk3 HB.out.1
  cases bg
  case true =>
    go_wp2_with (fail)
    refine (awake_any _).mono ?_
    rintro e wz ⟨rfl, hb⟩
    have HZ := Lib.hid (bl_trans HB.out.2 hb)
    clear hb
    go_wp2_with (fail)
    go_ret
    exact ⟨rfl, HZ.out⟩
  go_wp2_with (fail)
  refine (with_any m i j _ _ _ _ (HM.out.step HB.out.2) hi hj).mono ?_
  rintro e w2 ⟨rfl, hb⟩
  have HB' := Lib.hid (HB.out.below hb)
  clear hb HB
  have HB := HB'
  clear HB'
  clear x0 x1 x2
  obtain ⟨x0, x1, x2, -⟩ := blk3 HB.out.1
  go_wp2_with (fail)
  refine (withR_any m i j _ _ _ _ (HM.out.step HB.out.2) hi hj).mono ?_
  rintro e w3 ⟨rfl, hb⟩
  have HB' := Lib.hid (HB.out.below hb)
  clear hb HB
  have HB := HB'
  clear HB'
  clear x0 x1 x2
  obtain ⟨c, hc⟩ : ∃ c, (withC m i j).1 = c := ⟨_, rfl⟩
  obtain ⟨o, ho⟩ : ∃ o, (withC m i j).2 = o := ⟨_, rfl⟩
  rw [hc, ho]
  clear hc ho
  go_wp2_with (fail)
  refine (awake_any _).mono ?_
  rintro e wz ⟨rfl, hb⟩
  have HZ := Lib.hid (bl_trans HB.out.2 hb)
  clear hb
  go_wp2_with (fail)
  go_ret
  exact ⟨rfl, HZ.out⟩

set_option maxRecDepth 100000 in
theorem withs_lift (os : Os) (started : os.Started) (H : Type) (enc : TypeId × Value → H) :
    ReturnsInHanded {} Try.checked os 6 .any (Rows.matchWithsSpec.pre6 enc Try.prog Try.f6 Rows.matchWithsRow.domain false) (Rows.matchWithsSpec.post enc Try.prog Try.f6 false true false false) :=
  law_lift (C := Try.checked) (s := Rows.matchWithsSpec) (fn := Try.f6) ⟨rfl, fun H ds h => by
    match ds, h with
    | [a, b, c], _ => exact ⟨rfl, rfl, rfl⟩⟩ rfl Try.underlying4 (by kernel_rfl) laid0 own0 started (by kernel_rfl) Try.func6
    (ChangeSpec.witness6 (enc := enc) (C := Try.checked) false ⟨#[], #[.agg #[.slice none 0 0, .slice none 0 0, .slice none 0 0], .int .i64 0, .int .i64 0], []⟩ 8 (by kernel_rfl) (by kernel_rfl) (by kernel_rfl) (by kernel_rfl)) withs_walk

/-- THE STATEMENT: MatchWiths. -/
theorem withs_holds : Rows.MatchWithsSaid :=
  OpenClaim.holds_of_wide 6 Try.f6 rfl rfl rfl rfl rfl rfl rfl ⟨rfl, rfl, rfl, rfl, rfl⟩ rfl rfl rfl rfl rfl (by kernel_rfl) Try.func6 (by kernel_rfl)
    (of_decide_eq_true (by kernel_rfl)) (by unfold Func.isWrapper; rw [if_neg (of_decide_eq_false (by kernel_rfl))]; exact ⟨rfl, rfl⟩)
    (fun os started H enc _ => withs_lift os started H enc)
end Go.Proofs.Ytepceaoccnmkiaa
