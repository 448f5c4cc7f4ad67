/-
 Layer 37 (post): the law PostBalances, its card.
-/
import Derived.Test.YtifcelebfagjbaaGreatDoorPoLe
import Derived.Test.YtifcelebfagjbaaGreatDoorPoLe0
namespace Go.Proofs.YtifcelebfagjbaaGreatDoor
open Go.RowKit Go.Tw Go.Tw.Ord Go.Tw.Po Go.Sort Go.ChangeShapes Go.WideShapes
set_option maxRecDepth 100000 in
theorem balances_lift (os : Os) (started : os.Started) (H : Type) (enc : TypeId × Value → H) :
  ReturnsInHanded {} Tryz.checked os 7 .any (fun w args => (Rows.postBalancesSpec.pre enc Tryz.prog Tryz.f7 [] false w args ∧ laidMetH Tryz.prog laidL w) ∧ sizedMet enc Tryz.prog Tryz.f7 (OpenSpec.ofChange Rows.postBalancesSpec) false w args)
   (Rows.postBalancesSpec.post enc Tryz.prog Tryz.f7 false true false false) :=
 law_lift_laid (C := Tryz.checked) (s := Rows.postBalancesSpec) (fn := Tryz.f7) ⟨rfl, fun H ds h => by
  match ds, h with
  | [a, b, c], _ => exact ⟨rfl, rfl, rfl⟩⟩ rfl Tryz.underlying4 (by kernel_rfl) laid0 own0 started (by kernel_rfl) Tryz.func7
  (ChangeSpec.witness_shaped (enc := enc) (C := Tryz.checked) (os := os) (X := fun w _ => laidMetH Tryz.prog laidL w) false (World.doorLaid Tryz.prog 24 os) #[.agg (zCfg (.slice none 0 0)), .slice none 0 0, .slice none 0 0] 8 rfl (World.shaped_of_RefB (by kernel_rfl) (by kernel_rfl)) (by kernel_rfl) (by kernel_rfl) (by kernel_rfl) (door_met os _)) balances_walk
theorem balances_row : Rows.PostBalancesSaid :=
 OpenClaim.holds_of_wide 7 Tryz.f7 rfl rfl rfl rfl rfl rfl rfl ⟨rfl, rfl, rfl, rfl, rfl⟩ rfl rfl rfl rfl rfl (by kernel_rfl) Tryz.func7 balances_joined
  (of_decide_eq_true (by kernel_rfl)) (by unfold Func.isWrapper; rw [if_neg (of_decide_eq_false (by kernel_rfl))]; exact ⟨rfl, rfl⟩)
  (fun os started H enc _ => balances_lift os started H enc)
theorem balances_holds : Rows.PostBalancesCardSaid :=
 Claim7.holds_tied_plain_at .later [] [.data, .data, .data] true (true, "bfc6f10494a15554166fc6dc9c487a38c7761dbcf1ab71ea92e7becd53be55ec") false
  balances_row (fun _ h => by cases h) (by kernel_rfl) (fun _ h => by cases h) postBalances_row_tie rfl ⟨rfl, rfl⟩ (by kernel_rfl) rfl
  (fun f fn hf hfn => by
   obtain rfl : f = 7 := Option.some.inj ((show Tryz.prog.funcNamed "tollway/tollwaylaw37.PostBalances" = some 7 by kernel_rfl).symm.trans hf) |>.symm; obtain rfl : fn = Tryz.f7 := (Option.some.inj (Tryz.func7.symm.trans hfn)).symm
   exact ⟨by kernel_rfl, fun j t ht => by
    rw [Tryz.params7] at ht; have hm := Array.mem_of_getElem? ht; have hall : (Tryz.f7.params.toList.all fun u => !Tryz.prog.wantsStandIn u) = true := by kernel_rfl
    rw [Tryz.params7] at hall
    exact (show Tryz.prog.wantsStandIn t = false by simpa using List.all_eq_true.1 hall t (by simpa using hm))⟩)
  (by kernel_rfl)
end Go.Proofs.YtifcelebfagjbaaGreatDoor
