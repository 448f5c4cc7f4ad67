import Derived.Test.YtifcelebfagjbaaGreatDoorPoLx
import Derived.Test.YtifcelebfagjbaaGreatDoorMgD
namespace Go.Proofs.YtifcelebfagjbaaGreatDoor
open Go.RowKit Go.Tw Go.Tw.Ord Go.Tw.Po Go.Sort Go.ChangeShapes Go.WideShapes
set_option maxRecDepth 100000 in
set_option maxHeartbeats 8000000 in
theorem plays_walk : LawWalkL Tryz.prog laidL 4 Tryz.f4 := by
 intro H enc W base args ds ps hval hA hsz hL; rw [Tryz.params4] at hA hval; obtain ⟨v0, v1, v2, d0, d1, d2, p0, p1, p2, rfl, rfl, rfl, h0, h1, h2⟩ := trodAll_three hA; obtain ⟨A, ao, an, ac, c, e0, hA0, hc0, hplt⟩ := arg_cfg (hval 0 _ _ rfl rfl) h0 hsz (j := 0) rfl rfl; obtain ⟨l, hl0⟩ := arg_slice Tryz.underlying52 (opensChgs (e := 49)) (hval 1 _ _ rfl rfl) h1; obtain ⟨dl, hd0⟩ := arg_slice Tryz.underlying65 (opensDeeds (e := 86)) (hval 2 _ _ rfl rfl) h2; subst e0; have HF := Lib.hid (fmt_all hL); clear hA hval h0 h1 h2 hsz hL; have n0 := alloc1_0 W (.cells A 46); have HB0 := Lib.hid (bl_alloc (Below.refl W.heap.size W) (.cells A 46)); obtain ⟨al, cl, bl, ol, rfl, hl1, hl2, hlop⟩ := chg_open hl0; obtain ⟨ad, cd, bd, od, rfl, hd1, hd2, hdop⟩ := deed_open hd0; unfold maxLen at hl2 hd2; have HLO := Lib.hid hlop; have HDO := Lib.hid hdop; have HA := Lib.hid hA0; have HC := Lib.hid hc0; have HL := Lib.hid hl0; have HD := Lib.hid hd0; have HN0 := Lib.hid n0
 have HXO := Lib.hid (show ∀ x ∈ l, ChgOk x from fun x hx => by
  obtain ⟨k, hk, rfl⟩ := List.getElem_of_mem hx
  exact (hlop W (SameOn.refl _ _) k hk).2.2.2.1)
 have HRT := Lib.hid (right_any c A (.slice ao an ac) (W.alloc (.cells A 46)) hA0 (hc0.step HB0.out) hplt); have hld := load_blk n0 hA0.size Tryz.prog; clear hA0 hc0 hplt hl0 hd0 n0 hlop hdop
 go_enter Tryz.func4, Tryz.ntmps4
 go_wp2_with (first | (refine wpList_loadA _ rfl 46 rfl Tryz.isAgg46 Tryz.sizeOf46 rfl (by with_reducible assumption) ?_) | fail)
 with_reducible refine HRT.out.mono ?_
 clear HRT hld; rintro r w1 ⟨⟨b, rfl, hb⟩, hb1⟩; have HRB := Lib.hid hb; have HB1 := Lib.hid (bl_trans HB0.out hb1); have N0 := Lib.hid ((hb1.block _ (lt_of_heap HN0.out)).trans HN0.out); clear hb hb1 HN0 HB0
 cases b with
 | false =>
  have HAW := Lib.hid (awake_any _ (HF.out.step HB1.out))
  go_wp2_with (fail)
  with_reducible refine HAW.out.mono ?_
  clear HAW; rintro r wz ⟨rfl, hbz⟩; have HBZ := Lib.hid (bl_trans HB1.out hbz); clear hbz; go_wp2; go_ret; exact ⟨rfl, HBZ.out⟩
 | true =>
 have HRK := Lib.hid (HRB.out (by trivial)); have HSH := Lib.hid (short_any l (.slice al l.length cl) w1 (HL.out.step HB1.out)); clear HRB
 go_wp2_with (fail)
 with_reducible refine HSH.out.mono ?_
 clear HSH; rintro r w2 ⟨⟨b, rfl, hb⟩, hb2⟩; have HSB := Lib.hid hb; have HB2 := Lib.hid (bl_trans HB1.out hb2); have M0 := Lib.hid ((hb2.block _ (lt_of_heap N0.out)).trans N0.out); clear hb hb2 HB1 N0
 cases b with
 | false =>
  have HAW := Lib.hid (awake_any _ (HF.out.step HB2.out))
  go_wp2_with (fail)
  with_reducible refine HAW.out.mono ?_
  clear HAW; rintro r wz ⟨rfl, hbz⟩; have HBZ := Lib.hid (bl_trans HB2.out hbz); clear hbz; go_wp2; go_ret; exact ⟨rfl, HBZ.out⟩
 | true =>
 have HXC := Lib.hid ((HSB.out (by trivial)).2); have hl8 := (HSB.out (by trivial)).1; clear HSB; have hldc := load_blk M0.out HA.out.size Tryz.prog; have HCG := Lib.hid (config_any A ao an ac w2 HA.out)
 go_wp2_with (first | (refine wpList_loadA _ rfl 46 rfl Tryz.isAgg46 Tryz.sizeOf46 rfl (by with_reducible assumption) ?_) | fail)
 with_reducible refine HCG.out.mono ?_
 clear HCG hldc; rintro r w3 ⟨rfl, hb3⟩; have HB3 := Lib.hid (bl_trans HB2.out hb3); have M3 := Lib.hid ((hb3.block _ (lt_of_heap M0.out)).trans M0.out); have HPY := Lib.hid (plays_any c (zCfg (.slice ao an ac)) (.slice ao an ac) (.slice al l.length cl) (.slice ad dl.length cd) l dl w3 (zCfgA _) (HC.out.step HB3.out) HRK.out.2 (HL.out.step HB3.out) hl8 HXC.out HXO.out (HD.out.step HB3.out) (HF.out.step HB3.out)); clear hb3 HB2 M0
 go_wp2_with (fail)
 with_reducible refine HPY.out.mono ?_
 clear HPY; rintro r w4 ⟨ve, vd, rfl, he, hd, hb4⟩; obtain ⟨ae, ne, ce, rfl⟩ := ent_sl he; obtain ⟨ac2, nc, cc, rfl⟩ := chg_sl hd; have HB := Lib.hid (CB.mk' ((hb4.block _ (lt_of_heap M3.out)).trans M3.out) he hd (plays_bok (c := c) (dl := dl) hl8 HXC.out) (bl_trans HB3.out hb4)); clear he hd hb4 HB3 M3
 go_upto_region 4 with (fail)
 generalize w4.alloc (.cells #[.slice ae ne ce, .slice ac2 nc cc] 70) = w5 at HB ⊢; generalize w4.heap.size = g at HB ⊢; generalize playsP c l ⟨[], []⟩ (dl.take 16) = bk at *; obtain ⟨es, ds⟩ := bk; obtain ⟨x0, x1, -⟩ := blk2 HB.out.g; have k0 := cell_regrown x0; have k1 := cell_regrown x1; have hds := HB.out.k.ds; have hel := HB.out.k.len; simp only at hds hel; have cA := fun d os => Calls.regrown_of (bcheck_any (.slice ae ne ce) (.slice ac2 nc cc) es ds (grow (redrawn w5 d) os) (HB.out.e.step (below_regrown w5 d os)) (HB.out.d.step (below_regrown w5 d os)) (fun x hx => by have := (HB.out.k.cok x hx).ls; omega) (by omega))
 have cB := fun d os => Calls.regrown_of (bcheckR_any (.slice ae ne ce) (.slice ac2 nc cc) es ds (grow (redrawn w5 d) os) (HB.out.e.step (below_regrown w5 d os)) (HB.out.d.step (below_regrown w5 d os)) (fun x hx => by have := (HB.out.k.cok x hx).ls; omega) (by omega))
 generalize checkP ⟨es, ds⟩ = z at cA cB; clear x0 x1 hds hel; refine QW.region (by kernel_rfl) (by kernel_rfl) ?_
 (refine QW.yes (by kernel_rfl) (fun K hK => ?_)
  go_simp
  (with_reducible refine hK _ ?_)
  clear hK K)
 (refine QW.yes (by kernel_rfl) (fun K hK => ?_)
  go_simp
  (with_reducible refine hK _ ?_)
  clear hK K)
 (refine QW.yes (by kernel_rfl) (fun K hK => ?_)
  go_simp
  (with_reducible refine hK _ ?_)
  clear hK K)
 (refine QW.yes (by kernel_rfl) (fun K hK => ?_)
  go_simp
  (with_reducible refine hK _ ?_)
  clear hK K)
 (refine QW.yes (by kernel_rfl) (fun K hK => ?_)
  go_simp
  apply Exists.intro
  refine ⟨fun _ => ?_, hK _ ?_⟩
  (go_at_call 17; with_reducible exact cA _ _)
  clear hK K)
 (refine QW.yes (by kernel_rfl) (fun K hK => ?_)
  go_simp
  (with_reducible refine hK _ ?_)
  clear hK K)
 (refine QW.yes (by kernel_rfl) (fun K hK => ?_)
  go_simp
  apply Exists.intro
  refine ⟨fun _ => ?_, hK _ ?_⟩
  (go_at_call 18; with_reducible exact cB _ _)
  clear hK K)
 (refine QW.yes (by kernel_rfl) (fun K hK => ?_)
  go_simp
  (with_reducible refine hK _ ?_)
  clear hK K)
 (refine QW.yes (by kernel_rfl) (fun K hK => ?_)
  go_simp
  (with_reducible refine hK _ ?_)
  clear hK K)
 refine QW.nil ?_; intro _ hw'; obtain ⟨⟨dq, osq⟩, hw''⟩ := hw'; subst hw''; have HB2 := Lib.hid (HB.out.step (below_regrown w5 dq osq)); clear cA cB k0 k1 HB
 go_wp2_with (fail)
 generalize grow (redrawn w5 dq) osq = w6 at HB2 ⊢
 go_loopg [9] l.length (fun g' i wr => ∃ k : Nat, k + g' = l.length ∧ i = .int .i64 k ∧ Hid (Below w6.heap.size w6 wr))
 case atStart => exact ⟨0, by omega, rfl, Lib.hid (Below.refl _ _)⟩
 case round =>
  obtain ⟨k, hk, rfl, HBW⟩ := hrel
  by_cases hlt : k < l.length
  · have HW := Lib.hid (bl_trans HB2.out.b HBW.out)
    obtain ⟨rfl, -, hbi, -, -, -, c0, -⟩ := HLO.out wr (.of_below HW.out) k hlt; have j0 : (0 : Int) ≤ (k : Int) := by omega
    have j1 : (k : Int) < (l.length : Int) := by omega
    have HBr := Lib.hid (HB2.out.step HBW.out); generalize l[k].key = s at *; obtain ⟨x0, x1, -⟩ := blk2 HBr.out.g; have k0 := cell_regrown x0; have k1 := cell_regrown x1; have k2 := cell_regrown c0; have cA := fun d os => Calls.regrown_of (posted_any ds ae ne ce (.slice ac2 nc cc) s (grow (redrawn wr d) os) (HBr.out.d.step (below_regrown wr d os)))
    have cB := fun d os => Calls.regrown_of (postedR_any ds ae ne ce (.slice ac2 nc cc) s (grow (redrawn wr d) os) (HBr.out.d.step (below_regrown wr d os)))
    generalize postedC ds s = z at cA cB; clear x0 x1 c0
    go_upto_region 9 with (fail)
    refine QW.region (by kernel_rfl) (by kernel_rfl) ?_
    (refine QW.yes (by kernel_rfl) (fun K hK => ?_)
     go_simp
     (with_reducible refine hK _ ?_)
     clear hK K)
    (refine QW.yes (by kernel_rfl) (fun K hK => ?_)
     go_simp
     (with_reducible refine hK _ ?_)
     clear hK K)
    (refine QW.yes (by kernel_rfl) (fun K hK => ?_)
     go_simp
     (with_reducible refine hK _ ?_)
     clear hK K)
    (refine QW.yes (by kernel_rfl) (fun K hK => ?_)
     go_simp
     (with_reducible refine hK _ ?_)
     clear hK K)
    (refine QW.yes (by kernel_rfl) (fun K hK => ?_)
     go_simp
     (with_reducible refine hK _ ?_)
     clear hK K)
    (refine QW.yes (by kernel_rfl) (fun K hK => ?_)
     go_simp
     (with_reducible refine hK _ ?_)
     clear hK K)
    (refine QW.yes (by kernel_rfl) (fun K hK => ?_)
     go_simp
     apply Exists.intro
     refine ⟨fun _ => ?_, hK _ ?_⟩
     (go_at_call 19; with_reducible exact cA _ _)
     clear hK K)
    (refine QW.yes (by kernel_rfl) (fun K hK => ?_)
     go_simp
     (with_reducible refine hK _ ?_)
     clear hK K)
    (refine QW.yes (by kernel_rfl) (fun K hK => ?_)
     go_simp
     (with_reducible refine hK _ ?_)
     clear hK K)
    (refine QW.yes (by kernel_rfl) (fun K hK => ?_)
     go_simp
     (with_reducible refine hK _ ?_)
     clear hK K)
    (refine QW.yes (by kernel_rfl) (fun K hK => ?_)
     go_simp
     (with_reducible refine hK _ ?_)
     clear hK K)
    (refine QW.yes (by kernel_rfl) (fun K hK => ?_)
     go_simp
     (with_reducible refine hK _ ?_)
     clear hK K)
    (refine QW.yes (by kernel_rfl) (fun K hK => ?_)
     go_simp
     (with_reducible refine hK _ ?_)
     clear hK K)
    (refine QW.yes (by kernel_rfl) (fun K hK => ?_)
     go_simp
     apply Exists.intro
     refine ⟨fun _ => ?_, hK _ ?_⟩
     (go_at_call 20; with_reducible exact cB _ _)
     clear hK K)
    (refine QW.yes (by kernel_rfl) (fun K hK => ?_)
     go_simp
     (with_reducible refine hK _ ?_)
     clear hK K)
    refine QW.nil ?_; intro _ hw'; obtain ⟨⟨dq2, osq2⟩, hw''⟩ := hw'; subst hw''; have HBN := Lib.hid (bl_trans HBW.out (below_regrown wr dq2 osq2)); clear cA cB k0 k1 k2; go_wp2
    go_roundg (l.length - (k + 1))
    case measure => omega
    case rel => exact ⟨k + 1, by omega, by go_num, HBN⟩
  · have hkd : decide ((k : Int) < (l.length : Int)) = false := by simp; omega
    have HW := Lib.hid (bl_trans HB2.out.b HBW.out); have HAW := Lib.hid (awake_any _ (HF.out.step HW.out))
    go_wp2_with (fail)
    with_reducible refine HAW.out.mono ?_
    clear HAW; rintro r wz ⟨rfl, hbz⟩; have HBZ := Lib.hid (bl_trans HW.out hbz); clear hbz; go_wp2; go_ret; exact ⟨rfl, HBZ.out⟩
end Go.Proofs.YtifcelebfagjbaaGreatDoor
