/-
  Layer 17 (passage): the law PassageSorts.
-/
import Derived.Test.YtbjhemglecllmaaDoorPsL1
namespace Go.Proofs.YtbjhemglecllmaaDoor
open Go.RowKit Go.Tw Go.Tw.Ord Go.Tw.Ps Go.Sort Go.ChangeShapes Go.WideShapes
set_option maxRecDepth 100000 in
set_option maxHeartbeats 2000000 in
theorem sorts_walk : LawWalkL Tryd.prog laidL 4 Tryd.f4 := by
  intro H enc W base args ds ps hval hA hsz hL
  rw [Tryd.params4] at hA hval
  obtain ⟨v0, d0, rfl, rfl, h0⟩ := trodAll_one hA
  obtain ⟨l, hl⟩ := arg_slice Tryd.underlying38 (opensPass (e := 24)) (hval 0 _ _ rfl rfl) h0
  clear hA hval h0 hsz hL
  have HL := Lib.hid hl
  have HFW := Lib.hid (few_any l v0 W hl)
  clear hl
  go_enter Tryd.func4, Tryd.ntmps4
  go_wp2_with (first
    | (go_at_call 19
       with_reducible refine HFW.out.mono ?_
       rintro e w1 ⟨⟨c, rfl, hc⟩, hg⟩
       have HC := Lib.hid hc
       have HB1 := Lib.hid hg.below
       have H1 := Lib.hid (HL.out.step hg.below)
       clear hc hg
       cases c)
    | (go_at_call 21
       with_reducible refine (sort_any l v0 _ H1.out (by have := (HC.out (by simp)).1; omega) (few_src (HC.out (by simp)).2)).mono ?_
       rintro e w3 ⟨⟨a3, c3, rfl, hs⟩, hb⟩
       have S3 := Lib.hid hs
       have HB3 := Lib.hid (bl_trans HB1.out hb)
       have H3 := Lib.hid (H1.out.step hb)
       clear hs hb)
    | (go_at_call 22
       with_reducible refine (sortR_any l v0 _ H3.out (by have := (HC.out (by simp)).1; omega)).mono ?_
       rintro e w4 ⟨⟨v4, rfl, hs⟩, hb⟩
       have S4 := Lib.hid hs
       have K3 := Lib.hid (S3.out.step hb)
       have HB4 := Lib.hid (bl_trans HB3.out hb)
       clear hs hb)
    | (go_at_call 20
       with_reducible refine (samEx K3.out S4.out).mono ?_
       rintro e w9 ⟨rfl, hb⟩
       have HB9 := Lib.hid (bl_trans HB4.out hb)
       clear hb)
    | (go_at_call 12
       with_reducible refine (awake_any _).mono ?_
       rintro e wz ⟨rfl, hbz⟩
       have HBZ := Lib.hid (bl_trans (show Below W.heap.size W _ from by first | exact HB9.out | exact HB2.out | exact HB1.out) hbz)
       clear hbz))
  all_goals
    go_ret
    exact ⟨rfl, HBZ.out⟩
set_option maxRecDepth 100000 in
theorem sorts_lift (os : Os) (started : os.Started) (H : Type) (enc : TypeId × Value → H) :
    ReturnsInHanded {} Tryd.checked os 4 .any (fun w args => (Rows.passageSortsSpec.pre enc Tryd.prog Tryd.f4 [] false w args ∧ laidMetH Tryd.prog laidL w) ∧ sizedMet enc Tryd.prog Tryd.f4 (OpenSpec.ofChange Rows.passageSortsSpec) false w args)
      (Rows.passageSortsSpec.post enc Tryd.prog Tryd.f4 false true false false) :=
  law_lift_laid (C := Tryd.checked) (s := Rows.passageSortsSpec) (fn := Tryd.f4) ⟨rfl, fun H ds h => by
    match ds, h with
    | [a], _ => exact ⟨rfl, rfl, rfl⟩⟩ rfl Tryd.underlying4 (by kernel_rfl) laid0 own0 started (by kernel_rfl) Tryd.func4
    (ChangeSpec.witness_shaped (enc := enc) (C := Tryd.checked) (os := os) (X := fun w _ => laidMetH Tryd.prog laidL w) false (World.doorLaid Tryd.prog 24 os) #[.slice none 0 0] 8 rfl (World.shaped_of_RefB (by kernel_rfl) (by kernel_rfl)) (by kernel_rfl) (by kernel_rfl) (by kernel_rfl) (door_met os _)) sorts_walk
theorem sorts_row : Rows.PassageSortsSaid :=
  OpenClaim.holds_of_wide 4 Tryd.f4 rfl rfl rfl rfl rfl rfl rfl ⟨rfl, rfl, rfl, rfl, rfl⟩ rfl rfl rfl rfl rfl (by kernel_rfl) Tryd.func4 (by kernel_rfl)
    (of_decide_eq_true (by kernel_rfl)) (by unfold Func.isWrapper; rw [if_neg (of_decide_eq_false (by kernel_rfl))]; exact ⟨rfl, rfl⟩)
    (fun os started H enc _ => sorts_lift os started H enc)
/-- THE STATEMENT: PassageSorts, as a card. -/
theorem sorts_holds : Rows.PassageSortsCardSaid :=
  Claim7.holds_tied_plain_at .later [] [.data, .data, .data] true (true, "aecdef402db0857d3deff0902d79660c7a9739e5c0215286cb3695e0890af9f4") false
    sorts_row (fun _ h => by cases h) (by kernel_rfl) (fun _ h => by cases h) passageSorts_row_tie rfl ⟨rfl, rfl⟩ (by kernel_rfl) rfl
    (fun f fn hf hfn => by
      obtain rfl : f = 4 := Option.some.inj ((show Tryd.prog.funcNamed "tollway/tollwaylaw17.PassageSorts" = some 4 by kernel_rfl).symm.trans hf) |>.symm
      obtain rfl : fn = Tryd.f4 := (Option.some.inj (Tryd.func4.symm.trans hfn)).symm
      exact ⟨by kernel_rfl, fun j t ht => by
        rw [Tryd.params4] at ht
        have hm := Array.mem_of_getElem? ht
        have hall : (Tryd.f4.params.toList.all fun u => !Tryd.prog.wantsStandIn u) = true := by kernel_rfl
        rw [Tryd.params4] at hall
        exact (show Tryd.prog.wantsStandIn t = false by simpa using List.all_eq_true.1 hall t (by simpa using hm))⟩)
    (by kernel_rfl)
end Go.Proofs.YtbjhemglecllmaaDoor
