/-
  Layer 17 (passage): the law PassageDiffs.
-/
import Derived.Test.YtbjhemglecllmaaDoorPsL1
namespace Go.Proofs.YtbjhemglecllmaaDoor
open Go.RowKit Go.Tw Go.Tw.Ord Go.Tw.Ps Go.Sort Go.ChangeShapes Go.WideShapes
set_option maxRecDepth 100000 in
set_option maxHeartbeats 2000000 in
theorem diffs_walk : LawWalkL Tryd.prog laidL 5 Tryd.f5 := by
  intro H enc W base args ds ps hval hA hsz hL
  rw [Tryd.params5] at hA hval
  obtain ⟨v0, v1, d0, d1, p0, p1, rfl, rfl, rfl, h0, h1⟩ := trodAll_two hA
  obtain ⟨l, hl⟩ := arg_slice Tryd.underlying38 (opensPass (e := 24)) (hval 0 _ _ rfl rfl) h0
  obtain ⟨m, hm⟩ := arg_slice Tryd.underlying38 (opensPass (e := 24)) (hval 1 _ _ rfl rfl) h1
  clear hA hval h0 h1 hsz hL
  have HL := Lib.hid hl
  have HM := Lib.hid hm
  have HFW := Lib.hid (few_any l v0 W hl)
  clear hl hm
  go_enter Tryd.func5, Tryd.ntmps5
  go_wp2_with (first
    | (go_at_call 19
       first
       | (with_reducible refine HFW.out.mono ?_
          rintro e w1 ⟨⟨c, rfl, hc⟩, hg⟩
          have HC := Lib.hid hc
          have HB1 := Lib.hid hg.below
          have H1 := Lib.hid (HL.out.step hg.below)
          have M1 := Lib.hid (HM.out.step hg.below)
          clear hc hg
          cases c)
       | (with_reducible refine (few_any m v1 _ M1.out).mono ?_
          rintro e w2 ⟨⟨c, rfl, hc⟩, hg⟩
          have HD := Lib.hid hc
          have HB2 := Lib.hid (bl_trans HB1.out hg.below)
          have H2 := Lib.hid (H1.out.step hg.below)
          have M2 := Lib.hid (M1.out.step hg.below)
          clear hc hg
          cases c))
    | (go_at_call 23
       with_reducible refine (diff_any l m v0 v1 _ H2.out M2.out (by have := (HC.out (by simp)).1; omega) (by have := (HD.out (by simp)).1; omega) (few_src (HC.out (by simp)).2) (few_src (HD.out (by simp)).2)).mono ?_
       rintro e w3 ⟨⟨va, vb, rfl, Oa, Ob, da, db, la, lb, sa, sb⟩, hb⟩
       have L3 := Lib.hid hb
       have D3 := Lib.hid da
       have D3' := Lib.hid db
       have S3 := Lib.hid sa
       have S3' := Lib.hid sb
       have HB3 := Lib.hid (bl_trans HB2.out hb)
       clear da db la lb sa sb hb)
    | (go_at_call 24
       with_reducible refine (diffR_any l m v0 v1 _ (H2.out.step L3.out) (M2.out.step L3.out) (by have := (HC.out (by simp)).1; omega) (by have := (HD.out (by simp)).1; omega)).mono ?_
       rintro e w4 ⟨⟨v4, v4', rfl, O4, O4', d, d', s, s'⟩, hb⟩
       obtain rfl := D3.out.uniq d
       obtain rfl := D3'.out.uniq d'
       have K3 := Lib.hid (S3.out.step hb)
       have K3' := Lib.hid (S3'.out.step hb)
       have S4 := Lib.hid s
       have S4' := Lib.hid s'
       have HB4 := Lib.hid (bl_trans HB3.out hb)
       clear d d' s s' hb)
    | (go_at_call 20
       first
       | (with_reducible refine (samEx K3.out S4.out).mono ?_
          rintro e w5 ⟨rfl, hb⟩
          have J3' := Lib.hid (K3'.out.step hb)
          have J4' := Lib.hid (S4'.out.step hb)
          have HB5 := Lib.hid (bl_trans HB4.out hb)
          clear hb)
       | (with_reducible refine (samEx J3'.out J4'.out).mono ?_
          rintro e w9 ⟨rfl, hb⟩
          have HB9 := Lib.hid (bl_trans HB5.out hb)
          clear hb))
    | (go_at_call 12
       with_reducible refine (awake_any _).mono ?_
       rintro e wz ⟨rfl, hbz⟩
       have HBZ := Lib.hid (bl_trans (show Below W.heap.size W _ from by first | exact HB9.out | exact HB2.out | exact HB1.out) hbz)
       clear hbz))
  all_goals
    go_ret
    exact ⟨rfl, HBZ.out⟩
set_option maxRecDepth 100000 in
theorem diffs_lift (os : Os) (started : os.Started) (H : Type) (enc : TypeId × Value → H) :
    ReturnsInHanded {} Tryd.checked os 5 .any (fun w args => (Rows.passageDiffsSpec.pre enc Tryd.prog Tryd.f5 [] false w args ∧ laidMetH Tryd.prog laidL w) ∧ sizedMet enc Tryd.prog Tryd.f5 (OpenSpec.ofChange Rows.passageDiffsSpec) false w args)
      (Rows.passageDiffsSpec.post enc Tryd.prog Tryd.f5 false true false false) :=
  law_lift_laid (C := Tryd.checked) (s := Rows.passageDiffsSpec) (fn := Tryd.f5) ⟨rfl, fun H ds h => by
    match ds, h with
    | [a, b], _ => exact ⟨rfl, rfl, rfl⟩⟩ rfl Tryd.underlying4 (by kernel_rfl) laid0 own0 started (by kernel_rfl) Tryd.func5
    (ChangeSpec.witness_shaped (enc := enc) (C := Tryd.checked) (os := os) (X := fun w _ => laidMetH Tryd.prog laidL w) false (World.doorLaid Tryd.prog 24 os) #[.slice none 0 0, .slice none 0 0] 8 rfl (World.shaped_of_RefB (by kernel_rfl) (by kernel_rfl)) (by kernel_rfl) (by kernel_rfl) (by kernel_rfl) (door_met os _)) diffs_walk
theorem diffs_row : Rows.PassageDiffsSaid :=
  OpenClaim.holds_of_wide 5 Tryd.f5 rfl rfl rfl rfl rfl rfl rfl ⟨rfl, rfl, rfl, rfl, rfl⟩ rfl rfl rfl rfl rfl (by kernel_rfl) Tryd.func5 (by kernel_rfl)
    (of_decide_eq_true (by kernel_rfl)) (by unfold Func.isWrapper; rw [if_neg (of_decide_eq_false (by kernel_rfl))]; exact ⟨rfl, rfl⟩)
    (fun os started H enc _ => diffs_lift os started H enc)
/-- THE STATEMENT: PassageDiffs, as a card. -/
theorem diffs_holds : Rows.PassageDiffsCardSaid :=
  Claim7.holds_tied_plain_at .later [] [.data, .data, .data] true (true, "aecdef402db0857d3deff0902d79660c7a9739e5c0215286cb3695e0890af9f4") false
    diffs_row (fun _ h => by cases h) (by kernel_rfl) (fun _ h => by cases h) passageDiffs_row_tie rfl ⟨rfl, rfl⟩ (by kernel_rfl) rfl
    (fun f fn hf hfn => by
      obtain rfl : f = 5 := Option.some.inj ((show Tryd.prog.funcNamed "tollway/tollwaylaw17.PassageDiffs" = some 5 by kernel_rfl).symm.trans hf) |>.symm
      obtain rfl : fn = Tryd.f5 := (Option.some.inj (Tryd.func5.symm.trans hfn)).symm
      exact ⟨by kernel_rfl, fun j t ht => by
        rw [Tryd.params5] at ht
        have hm := Array.mem_of_getElem? ht
        have hall : (Tryd.f5.params.toList.all fun u => !Tryd.prog.wantsStandIn u) = true := by kernel_rfl
        rw [Tryd.params5] at hall
        exact (show Tryd.prog.wantsStandIn t = false by simpa using List.all_eq_true.1 hall t (by simpa using hm))⟩)
    (by kernel_rfl)
end Go.Proofs.YtbjhemglecllmaaDoor
