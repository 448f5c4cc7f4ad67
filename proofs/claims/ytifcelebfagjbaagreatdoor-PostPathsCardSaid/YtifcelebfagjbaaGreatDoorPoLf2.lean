/-
 Layer 37 (post): the law PostPaths, its card.
-/
import Derived.Test.YtifcelebfagjbaaGreatDoorPoLf
import Derived.Test.YtifcelebfagjbaaGreatDoorPoLf0
namespace Go.Proofs.YtifcelebfagjbaaGreatDoor
open Go.RowKit Go.Tw Go.Tw.Ord Go.Tw.Po Go.Sort Go.ChangeShapes Go.WideShapes
set_option maxRecDepth 100000 in
theorem paths_lift (os : Os) (started : os.Started) (H : Type) (enc : TypeId × Value → H) :
  ReturnsInHanded {} Tryz.checked os 8 .any (fun w args => (Rows.postPathsSpec.pre enc Tryz.prog Tryz.f8 [] false w args ∧ laidMetH Tryz.prog laidL w) ∧ sizedMet enc Tryz.prog Tryz.f8 (OpenSpec.ofChange Rows.postPathsSpec) false w args)
   (Rows.postPathsSpec.post enc Tryz.prog Tryz.f8 false true false false) :=
 law_lift_laid (C := Tryz.checked) (s := Rows.postPathsSpec) (fn := Tryz.f8) ⟨rfl, fun H ds h => by
  match ds, h with
  | [a, b, c, d], _ => exact ⟨rfl, rfl, rfl⟩⟩ rfl Tryz.underlying4 (by kernel_rfl) laid0 own0 started (by kernel_rfl) Tryz.func8
  (ChangeSpec.witness_shaped (enc := enc) (C := Tryz.checked) (os := os) (X := fun w _ => laidMetH Tryz.prog laidL w) false (World.doorLaid Tryz.prog 24 os) #[.agg (zCfg (.slice none 0 0)), .slice none 0 0, .slice none 0 0, .int .u16 0] 8 rfl (World.shaped_of_RefB (by kernel_rfl) (by kernel_rfl)) (by kernel_rfl) (by kernel_rfl) (by kernel_rfl) (door_met os _)) paths_walk
theorem paths_row : Rows.PostPathsSaid :=
 OpenClaim.holds_of_wide 8 Tryz.f8 rfl rfl rfl rfl rfl rfl rfl ⟨rfl, rfl, rfl, rfl, rfl⟩ rfl rfl rfl rfl rfl (by kernel_rfl) Tryz.func8 paths_joined
  (of_decide_eq_true (by kernel_rfl)) (by unfold Func.isWrapper; rw [if_neg (of_decide_eq_false (by kernel_rfl))]; exact ⟨rfl, rfl⟩)
  (fun os started H enc _ => paths_lift os started H enc)
theorem paths_holds : Rows.PostPathsCardSaid :=
 Claim7.holds_tied_plain_at .later [] [.data, .data, .data] true (true, "bfc6f10494a15554166fc6dc9c487a38c7761dbcf1ab71ea92e7becd53be55ec") false
  paths_row (fun _ h => by cases h) (by kernel_rfl) (fun _ h => by cases h) postPaths_row_tie rfl ⟨rfl, rfl⟩ (by kernel_rfl) rfl
  (fun f fn hf hfn => by
   obtain rfl : f = 8 := Option.some.inj ((show Tryz.prog.funcNamed "tollway/tollwaylaw37.PostPaths" = some 8 by kernel_rfl).symm.trans hf) |>.symm; obtain rfl : fn = Tryz.f8 := (Option.some.inj (Tryz.func8.symm.trans hfn)).symm
   exact ⟨by kernel_rfl, fun j t ht => by
    rw [Tryz.params8] at ht; have hm := Array.mem_of_getElem? ht; have hall : (Tryz.f8.params.toList.all fun u => !Tryz.prog.wantsStandIn u) = true := by kernel_rfl
    rw [Tryz.params8] at hall
    exact (show Tryz.prog.wantsStandIn t = false by simpa using List.all_eq_true.1 hall t (by simpa using hm))⟩)
  (by kernel_rfl)
end Go.Proofs.YtifcelebfagjbaaGreatDoor
