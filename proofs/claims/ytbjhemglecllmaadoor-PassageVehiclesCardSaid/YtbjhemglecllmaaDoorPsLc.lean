/-
  Layer 17 (passage): the law PassageVehicles.
-/
import Derived.Test.YtbjhemglecllmaaDoorPsL1
namespace Go.Proofs.YtbjhemglecllmaaDoor
open Go.RowKit Go.Tw Go.Tw.Ord Go.Tw.Ps Go.Sort Go.ChangeShapes Go.WideShapes
set_option maxRecDepth 100000 in
set_option maxHeartbeats 2000000 in
theorem vehs_walk : LawWalkL Tryd.prog laidL 6 Tryd.f6 := by
  intro H enc W base args ds ps hval hA hsz hL
  rw [Tryd.params6] at hA hval
  obtain ⟨v0, v1, d0, d1, p0, p1, rfl, rfl, rfl, h0, h1⟩ := trodAll_two hA
  obtain ⟨l, hl⟩ := arg_slice Tryd.underlying38 (opensPass (e := 24)) (hval 0 _ _ rfl rfl) h0
  obtain ⟨s, rfl, hs⟩ := arg_str Tryd.underlying9 (hval 1 _ _ rfl rfl) h1
  clear hA hval h0 h1 hsz hL
  have HL := Lib.hid hl
  have HFW := Lib.hid (few_any l v0 W hl)
  clear hl hs
  by_cases h40 : (40 : Int) < (s.size : Int)
  · go_enter Tryd.func6, Tryd.ntmps6
    go_wp2_with (first
      | (go_at_call 19
         with_reducible refine HFW.out.mono ?_
         rintro e w1 ⟨⟨c, rfl, hc⟩, hg⟩
         have HC := Lib.hid hc
         have HB1 := Lib.hid hg.below
         have H1 := Lib.hid (HL.out.step hg.below)
         clear hc hg
         cases c)
      | (go_at_call 12
         with_reducible refine (awake_any _).mono ?_
         rintro e wz ⟨rfl, hbz⟩
         have HBZ := Lib.hid (bl_trans (show Below W.heap.size W _ from by first | exact HB9.out | exact HB2.out | exact HB1.out) hbz)
         clear hbz))
    all_goals
      go_ret
      exact ⟨rfl, HBZ.out⟩
  · go_enter Tryd.func6, Tryd.ntmps6
    go_wp2_with (first
      | (go_at_call 19
         with_reducible refine HFW.out.mono ?_
         rintro e w1 ⟨⟨c, rfl, hc⟩, hg⟩
         have HC := Lib.hid hc
         have HB1 := Lib.hid hg.below
         have H1 := Lib.hid (HL.out.step hg.below)
         clear hc hg
         cases c)
      | (go_at_call 25
         with_reducible refine (of_any l s v0 _ H1.out (by have := (HC.out (by simp)).1; omega) (few_src (HC.out (by simp)).2)).mono ?_
         rintro e w3 ⟨⟨v3, rfl, hs⟩, hb⟩
         have S3 := Lib.hid hs
         have HB3 := Lib.hid (bl_trans HB1.out hb)
         have H3 := Lib.hid (H1.out.step hb)
         clear hs hb)
      | (go_at_call 26
         with_reducible refine (ofR_any l s v0 _ H3.out (by have := (HC.out (by simp)).1; omega)).mono ?_
         rintro e w4 ⟨⟨v4, rfl, hs⟩, hb⟩
         have S4 := Lib.hid hs
         have K3 := Lib.hid (S3.out.step hb)
         have HB4 := Lib.hid (bl_trans HB3.out hb)
         have H4 := Lib.hid (H3.out.step hb)
         clear hs hb)
      | (go_at_call 20
         with_reducible refine (samEx K3.out S4.out).mono ?_
         rintro e w5 ⟨rfl, hb⟩
         have HB5 := Lib.hid (bl_trans HB4.out hb)
         have H5 := Lib.hid (H4.out.step hb)
         clear hb)
      | (go_at_call 28
         with_reducible refine (vehicles_any l v0 _ H5.out (by have := (HC.out (by simp)).1; omega)).mono ?_
         rintro e w6 ⟨⟨v6, rfl, O6, hO, hs⟩, hb⟩
         have S6 := Lib.hid hs
         have D6 := Lib.hid hO
         have HB6 := Lib.hid (bl_trans HB5.out hb)
         have H6 := Lib.hid (H5.out.step hb)
         clear hs hO hb)
      | (go_at_call 29
         with_reducible refine (vehiclesR_any l v0 _ H6.out (by have := (HC.out (by simp)).1; omega)).mono ?_
         rintro e w7 ⟨⟨v7, rfl, O7, hO, hs⟩, hb⟩
         obtain rfl := D6.out.uniq hO
         have S7 := Lib.hid hs
         have K6 := Lib.hid (S6.out.step hb)
         have HB7 := Lib.hid (bl_trans HB6.out hb)
         clear hs hO hb)
      | (go_at_call 27
         with_reducible refine (stxEx K6.out S7.out).mono ?_
         rintro e w9 ⟨rfl, hb⟩
         have HB9 := Lib.hid (bl_trans HB7.out hb)
         clear hb)
      | (go_at_call 12
         with_reducible refine (awake_any _).mono ?_
         rintro e wz ⟨rfl, hbz⟩
         have HBZ := Lib.hid (bl_trans (show Below W.heap.size W _ from by first | exact HB9.out | exact HB2.out | exact HB1.out) hbz)
         clear hbz))
    all_goals
      go_ret
      exact ⟨rfl, HBZ.out⟩
set_option maxRecDepth 100000 in
theorem vehs_lift (os : Os) (started : os.Started) (H : Type) (enc : TypeId × Value → H) :
    ReturnsInHanded {} Tryd.checked os 6 .any (fun w args => (Rows.passageVehiclesSpec.pre enc Tryd.prog Tryd.f6 [] false w args ∧ laidMetH Tryd.prog laidL w) ∧ sizedMet enc Tryd.prog Tryd.f6 (OpenSpec.ofChange Rows.passageVehiclesSpec) false w args)
      (Rows.passageVehiclesSpec.post enc Tryd.prog Tryd.f6 false true false false) :=
  law_lift_laid (C := Tryd.checked) (s := Rows.passageVehiclesSpec) (fn := Tryd.f6) ⟨rfl, fun H ds h => by
    match ds, h with
    | [a, b], _ => exact ⟨rfl, rfl, rfl⟩⟩ rfl Tryd.underlying4 (by kernel_rfl) laid0 own0 started (by kernel_rfl) Tryd.func6
    (ChangeSpec.witness_shaped (enc := enc) (C := Tryd.checked) (os := os) (X := fun w _ => laidMetH Tryd.prog laidL w) false (World.doorLaid Tryd.prog 24 os) #[.slice none 0 0, .string ByteArray.empty] 8 rfl (World.shaped_of_RefB (by kernel_rfl) (by kernel_rfl)) (by kernel_rfl) (by kernel_rfl) (by kernel_rfl) (door_met os _)) vehs_walk
theorem vehs_row : Rows.PassageVehiclesSaid :=
  OpenClaim.holds_of_wide 6 Tryd.f6 rfl rfl rfl rfl rfl rfl rfl ⟨rfl, rfl, rfl, rfl, rfl⟩ rfl rfl rfl rfl rfl (by kernel_rfl) Tryd.func6 (by kernel_rfl)
    (of_decide_eq_true (by kernel_rfl)) (by unfold Func.isWrapper; rw [if_neg (of_decide_eq_false (by kernel_rfl))]; exact ⟨rfl, rfl⟩)
    (fun os started H enc _ => vehs_lift os started H enc)
/-- THE STATEMENT: PassageVehicles, as a card. -/
theorem vehs_holds : Rows.PassageVehiclesCardSaid :=
  Claim7.holds_tied_plain_at .later [] [.data, .data, .data] true (true, "aecdef402db0857d3deff0902d79660c7a9739e5c0215286cb3695e0890af9f4") false
    vehs_row (fun _ h => by cases h) (by kernel_rfl) (fun _ h => by cases h) passageVehicles_row_tie rfl ⟨rfl, rfl⟩ (by kernel_rfl) rfl
    (fun f fn hf hfn => by
      obtain rfl : f = 6 := Option.some.inj ((show Tryd.prog.funcNamed "tollway/tollwaylaw17.PassageVehicles" = some 6 by kernel_rfl).symm.trans hf) |>.symm
      obtain rfl : fn = Tryd.f6 := (Option.some.inj (Tryd.func6.symm.trans hfn)).symm
      exact ⟨by kernel_rfl, fun j t ht => by
        rw [Tryd.params6] at ht
        have hm := Array.mem_of_getElem? ht
        have hall : (Tryd.f6.params.toList.all fun u => !Tryd.prog.wantsStandIn u) = true := by kernel_rfl
        rw [Tryd.params6] at hall
        exact (show Tryd.prog.wantsStandIn t = false by simpa using List.all_eq_true.1 hall t (by simpa using hm))⟩)
    (by kernel_rfl)
end Go.Proofs.YtbjhemglecllmaaDoor
