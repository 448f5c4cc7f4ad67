/-
 Layer 37 (post): the law PostTwice, its card.
-/
import Derived.Test.YtifcelebfagjbaaGreatDoorPoLd
import Derived.Test.YtifcelebfagjbaaGreatDoorPoLd0
namespace Go.Proofs.YtifcelebfagjbaaGreatDoor
open Go.RowKit Go.Tw Go.Tw.Ord Go.Tw.Po Go.Sort Go.ChangeShapes Go.WideShapes
set_option maxRecDepth 100000 in
theorem twice_lift (os : Os) (started : os.Started) (H : Type) (enc : TypeId × Value → H) :
  ReturnsInHanded {} Tryz.checked os 6 .any (fun w args => (Rows.postTwiceSpec.pre enc Tryz.prog Tryz.f6 [] false w args ∧ laidMetH Tryz.prog laidL w) ∧ sizedMet enc Tryz.prog Tryz.f6 (OpenSpec.ofChange Rows.postTwiceSpec) false w args)
   (Rows.postTwiceSpec.post enc Tryz.prog Tryz.f6 false true false false) :=
 law_lift_laid (C := Tryz.checked) (s := Rows.postTwiceSpec) (fn := Tryz.f6) ⟨rfl, fun H ds h => by
  match ds, h with
  | [a, b, c, d], _ => exact ⟨rfl, rfl, rfl⟩⟩ rfl Tryz.underlying4 (by kernel_rfl) laid0 own0 started (by kernel_rfl) Tryz.func6
  (ChangeSpec.witness_shaped (enc := enc) (C := Tryz.checked) (os := os) (X := fun w _ => laidMetH Tryz.prog laidL w) false (World.doorLaid Tryz.prog 24 os) #[.agg (zCfg (.slice none 0 0)), .slice none 0 0, .slice none 0 0, .int .u16 0] 8 rfl (World.shaped_of_RefB (by kernel_rfl) (by kernel_rfl)) (by kernel_rfl) (by kernel_rfl) (by kernel_rfl) (door_met os _)) twice_walk
theorem twice_row : Rows.PostTwiceSaid :=
 OpenClaim.holds_of_wide 6 Tryz.f6 rfl rfl rfl rfl rfl rfl rfl ⟨rfl, rfl, rfl, rfl, rfl⟩ rfl rfl rfl rfl rfl (by kernel_rfl) Tryz.func6 twice_joined
  (of_decide_eq_true (by kernel_rfl)) (by unfold Func.isWrapper; rw [if_neg (of_decide_eq_false (by kernel_rfl))]; exact ⟨rfl, rfl⟩)
  (fun os started H enc _ => twice_lift os started H enc)
theorem twice_holds : Rows.PostTwiceCardSaid :=
 Claim7.holds_tied_plain_at .later [] [.data, .data, .data] true (true, "bfc6f10494a15554166fc6dc9c487a38c7761dbcf1ab71ea92e7becd53be55ec") false
  twice_row (fun _ h => by cases h) (by kernel_rfl) (fun _ h => by cases h) postTwice_row_tie rfl ⟨rfl, rfl⟩ (by kernel_rfl) rfl
  (fun f fn hf hfn => by
   obtain rfl : f = 6 := Option.some.inj ((show Tryz.prog.funcNamed "tollway/tollwaylaw37.PostTwice" = some 6 by kernel_rfl).symm.trans hf) |>.symm; obtain rfl : fn = Tryz.f6 := (Option.some.inj (Tryz.func6.symm.trans hfn)).symm
   exact ⟨by kernel_rfl, fun j t ht => by
    rw [Tryz.params6] at ht; have hm := Array.mem_of_getElem? ht; have hall : (Tryz.f6.params.toList.all fun u => !Tryz.prog.wantsStandIn u) = true := by kernel_rfl
    rw [Tryz.params6] at hall
    exact (show Tryz.prog.wantsStandIn t = false by simpa using List.all_eq_true.1 hall t (by simpa using hm))⟩)
  (by kernel_rfl)
end Go.Proofs.YtifcelebfagjbaaGreatDoor
