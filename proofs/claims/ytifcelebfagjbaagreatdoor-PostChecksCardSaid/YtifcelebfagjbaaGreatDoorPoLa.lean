/-
  Layer 37 (post): the law PostChecks: for books with at most 20 entries of at most 8 posts and at most 8 charges, Check returns the error of the reference.
-/
import Derived.Test.YtifcelebfagjbaaGreatDoorMgW
import Derived.Test.YtifcelebfagjbaaGreatDoorMgW
namespace Go.Proofs.YtifcelebfagjbaaGreatDoor
open Go.RowKit Go.Tw Go.Tw.Ord Go.Tw.Po Go.Sort Go.ChangeShapes Go.WideShapes
set_option maxRecDepth 100000 in
set_option maxHeartbeats 4000000 in
theorem checks_walk : LawWalkL Tryz.prog laidL 5 Tryz.f5 := by
  intro H enc W base args ds ps hval hA hsz hL
  rw [Tryz.params5] at hA hval
  obtain ⟨v0, d0, rfl, rfl, h0⟩ := trodAll_one hA
  obtain ⟨cs, x, e0, hi⟩ := arg_struct Tryz.underlying70 (opensBooks (e := 56) (e' := 49)) (hval 0 _ _ rfl rfl) h0
  obtain ⟨es, ds⟩ := x
  obtain ⟨c1, c2, hcs, ⟨ve, rfl, he⟩, ⟨vd, rfl, hd⟩⟩ := hi
  have hcc : cs = #[ve, vd] := by
    apply Array.toList_inj.1
    rw [hcs]; rfl
  subst hcc
  subst e0
  have HF := Lib.hid (fmt_all hL)
  clear hA hval h0 hsz hL hcs
  have n0 := alloc1_0 W (.cells #[ve, vd] 70)
  have HB0 := Lib.hid (bl_alloc (Below.refl W.heap.size W) (.cells #[ve, vd] 70))
  obtain ⟨ae, ce, be, oe, rfl, he1, he2, ho1⟩ := ent_open he
  obtain ⟨ad, cd, bd, od, rfl, hd1, hd2, -⟩ := chg_open hd
  unfold maxLen at he2 hd2
  have HO := Lib.hid ho1
  have HE := Lib.hid he
  have HD := Lib.hid hd
  have HN := Lib.hid n0
  obtain ⟨x0, x1, -⟩ := blk2 n0
  clear he hd ho1 n0
  go_enter Tryz.func5, Tryz.ntmps5
  by_cases h20 : 20 < es.length
  · have q20 : (20 : Int) < (es.length : Int) := by omega
    clear h20
    have HAW := Lib.hid (awake_any _ (HF.out.step HB0.out))
    go_wp2_with (fail)
    with_reducible refine HAW.out.mono ?_
    clear HAW
    rintro r wz ⟨rfl, hbz⟩
    have HBZ := Lib.hid (bl_trans HB0.out hbz)
    clear hbz
    go_wp2
    go_ret
    exact ⟨rfl, HBZ.out⟩
  have q20 : decide ((20 : Int) < (es.length : Int)) = false := by simp; omega
  have HSH := Lib.hid (short_any ds (.slice ad ds.length cd) _ (HD.out.step HB0.out))
  go_wp2_with (fail)
  with_reducible refine HSH.out.mono ?_
  clear HSH
  rintro r w1 ⟨⟨b, rfl, hb⟩, hb1⟩
  have HB1 := Lib.hid (bl_trans HB0.out hb1)
  have HN1 := Lib.hid (show BB W.heap.size (.slice ae es.length ce) (.slice ad ds.length cd) w1 from (hb1.block _ (by simp)).trans HN.out)
  have HBB := Lib.hid hb
  clear hb1 hb x0 x1 HN HB0
  cases b with
  | false =>
    have HAW := Lib.hid (awake_any w1 (HF.out.step HB1.out))
    go_wp2_with (fail)
    with_reducible refine HAW.out.mono ?_
    clear HAW
    rintro r wz ⟨rfl, hbz⟩
    have HBZ := Lib.hid (bl_trans HB1.out hbz)
    clear hbz
    go_wp2
    go_ret
    exact ⟨rfl, HBZ.out⟩
  | true =>
  obtain ⟨h8, hco⟩ := HBB.out (by trivial)
  have HCO := Lib.hid hco
  clear HBB hco
  obtain ⟨x0, x1, -⟩ := blk2 HN1.out
  go_wp2
  go_loopg [3] es.length (fun g i wr => ∃ k : Nat, k + g = es.length ∧ i = .int .i64 k ∧ wr = w1)
  case atStart => exact ⟨0, by omega, rfl, rfl⟩
  case round =>
    obtain ⟨k, hk, rfl, rfl⟩ := hrel
    by_cases hlt : k < es.length
    · obtain ⟨rfl, -, hbi, -, hv, hsl, c0, c1, c2⟩ := HO.out wr (.of_below HB1.out) k hlt
      have k0 : (0 : Int) ≤ (k : Int) := by omega
      have k1 : (k : Int) < (es.length : Int) := by omega
      generalize es[k] = y at *
      obtain ⟨hva, hvc, _, _, rfl, -⟩ := hsl
      by_cases hp : 8 < y.ps.length
      · have qp : (8 : Int) < (y.ps.length : Int) := by omega
        clear hp
        have HAW := Lib.hid (awake_any wr (HF.out.step HB1.out))
        go_wp2_with (fail)
        with_reducible refine HAW.out.mono ?_
        clear HAW
        rintro r wz ⟨rfl, hbz⟩
        have HBZ := Lib.hid (bl_trans HB1.out hbz)
        clear hbz
        go_wp2
        go_ret
        exact ⟨rfl, HBZ.out⟩
      · have qp : decide ((8 : Int) < (y.ps.length : Int)) = false := by simp; omega
        clear hp
        go_wp2
        go_roundg (es.length - (k + 1))
        case measure => omega
        case rel => exact ⟨k + 1, by omega, by go_num, rfl⟩
    · have hkd : decide ((k : Int) < (es.length : Int)) = false := by simp; omega
      have k0 := cell_regrown x0
      have k1 := cell_regrown x1
      have cA := fun d os => Calls.regrown_of (bcheck_any (.slice ae es.length ce) (.slice ad ds.length cd) es ds (grow (redrawn wr d) os) (HE.out.step (bl_trans HB1.out (below_regrown wr d os))) (HD.out.step (bl_trans HB1.out (below_regrown wr d os))) (fun x hx => by have := (HCO.out x hx).ls; omega) (by omega))
      have cB := fun d os => Calls.regrown_of (bcheckR_any (.slice ae es.length ce) (.slice ad ds.length cd) es ds (grow (redrawn wr d) os) (HE.out.step (bl_trans HB1.out (below_regrown wr d os))) (HD.out.step (bl_trans HB1.out (below_regrown wr d os))) (fun x hx => by have := (HCO.out x hx).ls; omega) (by omega))
      have cW := fun d os => awake_re (HF.out.step HB1.out) d os
      generalize checkP ⟨es, ds⟩ = z at cA cB
      go_upto_region 8 with (fail)
      clear x0 x1
      refine QW.region (by kernel_rfl) (by kernel_rfl) ?_
      (refine QW.yes (by kernel_rfl) (fun K hK => ?_)
       go_simp
       (with_reducible refine hK _ ?_)
       clear hK K)
      (refine QW.yes (by kernel_rfl) (fun K hK => ?_)
       go_simp
       apply Exists.intro
       refine ⟨fun _ => ?_, hK _ ?_⟩
       (go_at_call 17; with_reducible exact cA _ _)
       clear hK K)
      (refine QW.yes (by kernel_rfl) (fun K hK => ?_)
       go_simp
       (with_reducible refine hK _ ?_)
       clear hK K)
      (refine QW.yes (by kernel_rfl) (fun K hK => ?_)
       go_simp
       apply Exists.intro
       refine ⟨fun _ => ?_, hK _ ?_⟩
       (go_at_call 18; with_reducible exact cB _ _)
       clear hK K)
      (refine QW.yes (by kernel_rfl) (fun K hK => ?_)
       go_simp
       (with_reducible refine hK _ ?_)
       clear hK K)
      (refine QW.yes (by kernel_rfl) (fun K hK => ?_)
       go_simp
       (with_reducible refine hK _ ?_)
       clear hK K)
      (refine QW.yes (by kernel_rfl) (fun K hK => ?_)
       go_simp
       apply Exists.intro
       refine ⟨fun _ => ?_, hK _ ?_⟩
       (go_at_call 11; with_reducible exact cW _ _)
       clear hK K)
      (refine QW.yes (by kernel_rfl) (fun K hK => ?_)
       go_simp
       (with_reducible refine hK _ ?_)
       clear hK K)
      (refine QW.yes (by kernel_rfl) (fun K hK => ?_)
       go_simp
       (with_reducible refine hK _ ?_)
       clear hK K)
      refine QW.nil ?_
      intro _ hw'
      obtain ⟨⟨dq, osq⟩, hw''⟩ := hw'
      subst hw''
      have HGQ := Lib.hid (bl_trans HB1.out (below_regrown wr dq osq))
      clear cA cB cW k0 k1
      go_wp2
      go_ret
      exact ⟨rfl, HGQ.out⟩
set_option maxRecDepth 100000 in
theorem checks_lift (os : Os) (started : os.Started) (H : Type) (enc : TypeId × Value → H) :
    ReturnsInHanded {} Tryz.checked os 5 .any (fun w args => (Rows.postChecksSpec.pre enc Tryz.prog Tryz.f5 [] false w args ∧ laidMetH Tryz.prog laidL w) ∧ sizedMet enc Tryz.prog Tryz.f5 (OpenSpec.ofChange Rows.postChecksSpec) false w args)
      (Rows.postChecksSpec.post enc Tryz.prog Tryz.f5 false true false false) :=
  law_lift_laid (C := Tryz.checked) (s := Rows.postChecksSpec) (fn := Tryz.f5) ⟨rfl, fun H ds h => by
    match ds, h with
    | [a], _ => exact ⟨rfl, rfl, rfl⟩⟩ rfl Tryz.underlying4 (by kernel_rfl) laid0 own0 started (by kernel_rfl) Tryz.func5
    (ChangeSpec.witness_shaped (enc := enc) (C := Tryz.checked) (os := os) (X := fun w _ => laidMetH Tryz.prog laidL w) false (World.doorLaid Tryz.prog 24 os) #[.agg #[.slice none 0 0, .slice none 0 0]] 8 rfl (World.shaped_of_RefB (by kernel_rfl) (by kernel_rfl)) (by kernel_rfl) (by kernel_rfl) (by kernel_rfl) (door_met os _)) checks_walk
theorem checks_row : Rows.PostChecksSaid :=
  OpenClaim.holds_of_wide 5 Tryz.f5 rfl rfl rfl rfl rfl rfl rfl ⟨rfl, rfl, rfl, rfl, rfl⟩ rfl rfl rfl rfl rfl (by kernel_rfl) Tryz.func5 (by kernel_rfl)
    (of_decide_eq_true (by kernel_rfl)) (by unfold Func.isWrapper; rw [if_neg (of_decide_eq_false (by kernel_rfl))]; exact ⟨rfl, rfl⟩)
    (fun os started H enc _ => checks_lift os started H enc)
/-- THE STATEMENT: PostChecks, as a card. -/
theorem checks_holds : Rows.PostChecksCardSaid :=
  Claim7.holds_tied_plain_at .later [] [.data, .data, .data] true (true, "bfc6f10494a15554166fc6dc9c487a38c7761dbcf1ab71ea92e7becd53be55ec") false
    checks_row (fun _ h => by cases h) (by kernel_rfl) (fun _ h => by cases h) postChecks_row_tie rfl ⟨rfl, rfl⟩ (by kernel_rfl) rfl
    (fun f fn hf hfn => by
      obtain rfl : f = 5 := Option.some.inj ((show Tryz.prog.funcNamed "tollway/tollwaylaw37.PostChecks" = some 5 by kernel_rfl).symm.trans hf) |>.symm
      obtain rfl : fn = Tryz.f5 := (Option.some.inj (Tryz.func5.symm.trans hfn)).symm
      exact ⟨by kernel_rfl, fun j t ht => by
        rw [Tryz.params5] at ht
        have hm := Array.mem_of_getElem? ht
        have hall : (Tryz.f5.params.toList.all fun u => !Tryz.prog.wantsStandIn u) = true := by kernel_rfl
        rw [Tryz.params5] at hall
        exact (show Tryz.prog.wantsStandIn t = false by simpa using List.all_eq_true.1 hall t (by simpa using hm))⟩)
    (by kernel_rfl)
end Go.Proofs.YtifcelebfagjbaaGreatDoor
