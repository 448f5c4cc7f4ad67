/-
  Layer 16 (fuse): the law FuseUsed, its card.
-/
import Derived.Test.YtelnnjofccldgaaGreatDoorFuL
import Derived.Test.YtelnnjofccldgaaGreatDoorFuL0
namespace Go.Proofs.YtelnnjofccldgaaGreatDoor
open Go.RowKit Go.Tw Go.Sort Go.ChangeShapes Go.WideShapes
set_option maxRecDepth 100000 in
theorem used_lift (os : Os) (started : os.Started) (H : Type) (enc : TypeId × Value → H) :
    ReturnsInHanded {} Tryz.checked os 3 .any (fun w args => (Rows.fuseUsedSpec.pre enc Tryz.prog Tryz.f3 [] false w args ∧ laidMetH Tryz.prog laidL w) ∧ sizedMet enc Tryz.prog Tryz.f3 (OpenSpec.ofChange Rows.fuseUsedSpec) false w args)
      (Rows.fuseUsedSpec.post enc Tryz.prog Tryz.f3 false true false false) :=
  law_lift_laid (C := Tryz.checked) (s := Rows.fuseUsedSpec) (fn := Tryz.f3) ⟨rfl, fun H ds h => by
    match ds, h with
    | [a], _ => exact ⟨rfl, rfl, rfl⟩⟩ rfl Tryz.underlying4 (by kernel_rfl) laid0 own0 started (by kernel_rfl) Tryz.func3
    (ChangeSpec.witness_shaped (enc := enc) (C := Tryz.checked) (os := os) (X := fun w _ => laidMetH Tryz.prog laidL w) false (World.doorLaid Tryz.prog 24 os) #[.agg #[.slice none 0 0, .slice none 0 0, .int .i64 0, .int .i64 0]] 8 rfl (World.shaped_of_RefB (by kernel_rfl) (by kernel_rfl)) (by kernel_rfl) (by kernel_rfl) (by kernel_rfl) (door_met os _)) used_walk
theorem used_row : Rows.FuseUsedSaid :=
  OpenClaim.holds_of_wide 3 Tryz.f3 rfl rfl rfl rfl rfl rfl rfl ⟨rfl, rfl, rfl, rfl, rfl⟩ rfl rfl rfl rfl rfl (by kernel_rfl) Tryz.func3 used_joined
    (of_decide_eq_true (by kernel_rfl)) (by unfold Func.isWrapper; rw [if_neg (of_decide_eq_false (by kernel_rfl))]; exact ⟨rfl, rfl⟩)
    (fun os started H enc _ => used_lift os started H enc)
/-- THE STATEMENT: FuseUsed, as a card. -/
theorem used_holds : Rows.FuseUsedCardSaid :=
  Claim7.holds_tied_plain_at .later [] [.data, .data, .data] true (true, "2863c3cb3ac0201cef5bfbf5ce01d32d2990504b1320fe2f3d6f42e6d132c08d") false
    used_row (fun _ h => by cases h) (by kernel_rfl) (fun _ h => by cases h) fuseUsed_row_tie rfl ⟨rfl, rfl⟩ (by kernel_rfl) rfl
    (fun f fn hf hfn => by
      obtain rfl : f = 3 := Option.some.inj ((show Tryz.prog.funcNamed "tollway/tollwaylaw16.FuseUsed" = some 3 by kernel_rfl).symm.trans hf) |>.symm
      obtain rfl : fn = Tryz.f3 := (Option.some.inj (Tryz.func3.symm.trans hfn)).symm
      exact ⟨by kernel_rfl, fun j t ht => by
        rw [Tryz.params3] at ht
        have hm := Array.mem_of_getElem? ht
        have hall : (Tryz.f3.params.toList.all fun u => !Tryz.prog.wantsStandIn u) = true := by kernel_rfl
        rw [Tryz.params3] at hall
        exact (show Tryz.prog.wantsStandIn t = false by simpa using List.all_eq_true.1 hall t (by simpa using hm))⟩)
    (by kernel_rfl)
end Go.Proofs.YtelnnjofccldgaaGreatDoor
