/-
  Layer 44 (recon): the law ReconCorrects.
-/
import Derived.Test.YthdbojbblkfhaaaRecoK
import Derived.Test.YthdbojbblkfhaaaExcLaws
namespace Go.Proofs.Ythdbojbblkfhaaa
open Go.RowKit Go.Tw Go.Tw.Exc Go.ChangeShapes Go.WideShapes
theorem opensDif : Opens Try.prog 65 tDif :=
  opens_via (fun x => ⟨x.1, x.2.1, x.2.2⟩) (fun _ => rfl) (opens_struct Try.underlying65 (by kernel_rfl) (.cons rfl (by kernel_rfl) (opens_str Try.underlying9) (.cons rfl (by kernel_rfl) (opens_int Try.underlying3) (.one rfl (by kernel_rfl) (opens_int Try.underlying3)))))
theorem opensDifs {e : TypeId} : Opens Try.prog 62 (tDif.list e) := opens_slice Try.underlying62 (by kernel_rfl) (by decide) opensDif
set_option maxRecDepth 100000 in
set_option maxHeartbeats 4000000 in
theorem corrects_walk : LawWalk Try.prog 10 Try.f10 := by
  intro H enc W base args ds ps hval hA hsz
  rw [Try.params10] at hA hval
  obtain ⟨v0, d0, rfl, rfl, h0⟩ := trodAll_one hA
  obtain ⟨L, hl⟩ := arg_slice Try.underlying62 (opensDifs (e := 65)) (hval 0 _ _ rfl rfl) h0
  clear hA hval h0 hsz
  obtain ⟨al, cl, _, _, rfl, hl1, hl2, -⟩ := id hl
  unfold maxLen at hl2
  have HL := Lib.hid hl
  clear hl
  go_enter Try.func10, Try.ntmps10
  by_cases q1 : 100 < L.length
  · have hq : (100 : Int) < (L.length : Int) := by omega
    go_wp2_with (fail)
    refine (awake44_any _).mono ?_
    rintro e wz ⟨rfl, hbz⟩
    have HZ := Lib.hid hbz
    clear hbz
    go_wp2_with (fail)
    go_ret
    exact ⟨rfl, HZ.out⟩
  have hq1 : ¬ (100 : Int) < (L.length : Int) := by omega
  go_wp2_with (fail)
  refine (correct_any L _ W HL.out (by omega)).mono ?_
  rintro e w1 ⟨⟨v1, rfl, ho1⟩, hb1⟩
  have HO1 := Lib.hid ho1
  have HB1 := Lib.hid hb1
  clear ho1 hb1
  go_wp2_with (fail)
  refine (correctR_any L _ w1 (HL.out.step HB1.out) (by omega)).mono ?_
  rintro e w2 ⟨⟨v2, rfl, ho2⟩, hb2⟩
  have HO12 := Lib.hid (HO1.out.below hb2)
  have HO2 := Lib.hid ho2
  have HB2 := Lib.hid (bl_trans HB1.out hb2)
  clear ho2 hb2 HO1 HB1
  go_wp2_with (fail)
  refine (sameRec42_any (correctC L) _ _ w2 HO12.out.sl HO2.out.sl).mono ?_
  rintro e w3 ⟨rfl, hw3⟩
  have HB3 := Lib.hid (show Below W.heap.size W w3 from by
    obtain ⟨n7, rfl⟩ := hw3
    exact bl_drewN HB2.out _)
  clear hw3 HO12 HO2 HB2
  go_wp2_with (fail)
  refine (awake44_any _).mono ?_
  rintro e wz ⟨rfl, hbz⟩
  have HZ := Lib.hid (bl_trans HB3.out hbz)
  clear hbz
  go_wp2_with (fail)
  go_ret
  exact ⟨rfl, HZ.out⟩
set_option maxRecDepth 100000 in
theorem corrects_lift (os : Os) (started : os.Started) (H : Type) (enc : TypeId × Value → H) :
    ReturnsInHanded {} Try.checked os 10 .any (Rows.reconCorrectsSpec.pre6 enc Try.prog Try.f10 Rows.reconCorrectsRow.domain false) (Rows.reconCorrectsSpec.post enc Try.prog Try.f10 false true false false) :=
  law_lift (C := Try.checked) (s := Rows.reconCorrectsSpec) (fn := Try.f10) ⟨rfl, fun H ds h => by
    match ds, h with
    | [a], _ => exact ⟨rfl, rfl, rfl⟩⟩ rfl Try.underlying4 (by kernel_rfl) laid0 own0 started (by kernel_rfl) Try.func10
    (ChangeSpec.witness6 (enc := enc) (C := Try.checked) false ⟨#[], #[.slice none 0 0], []⟩ 8 (by kernel_rfl) (by kernel_rfl) (by kernel_rfl) (by kernel_rfl)) corrects_walk

/-- THE STATEMENT: ReconCorrects. -/
theorem corrects_holds : Rows.ReconCorrectsSaid :=
  OpenClaim.holds_of_wide 10 Try.f10 rfl rfl rfl rfl rfl rfl rfl ⟨rfl, rfl, rfl, rfl, rfl⟩ rfl rfl rfl rfl rfl (by kernel_rfl) Try.func10 (by kernel_rfl)
    (of_decide_eq_true (by kernel_rfl)) (by unfold Func.isWrapper; rw [if_neg (of_decide_eq_false (by kernel_rfl))]; exact ⟨rfl, rfl⟩)
    (fun os started H enc _ => corrects_lift os started H enc)
end Go.Proofs.Ythdbojbblkfhaaa
