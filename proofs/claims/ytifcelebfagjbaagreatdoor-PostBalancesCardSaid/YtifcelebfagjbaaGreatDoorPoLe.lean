import Derived.Test.YtifcelebfagjbaaGreatDoorPoLx
import Derived.Test.YtifcelebfagjbaaGreatDoorPoSu
namespace Go.Tw.Po
open Go.RowKit Go.Tw Go.Sort Go.Tw.Ord Go.Proofs.YtifcelebfagjbaaGreatDoor
def isP (k : ByteArray) : Bool := decide (3 ≤ k.size) && decide (k.extract 0 3 = sPay)
theorem isP_short {k : ByteArray} (h : k.size < 3) : isP k = false := by unfold isP; rw [decide_eq_false (by omega)]; rfl
theorem sPay_list : sPay.toList = [112, 97, 121] := by first | rfl | decide | simp [sPay]
theorem isP_long {k : ByteArray} (h : 3 ≤ k.size) : isP k = ((k.extract 0 3).toList == [112, 97, 121]) := by
 unfold isP; rw [decide_eq_true h, ← sPay_list, eq_str]; rfl
theorem not_pay {s : ByteArray} (h : isP s = false) (n : Int) : isPay (keyC s n) = false := by
 rw [Bool.eq_false_iff]; intro hp; unfold isPay at hp; rw [Bool.and_eq_true, decide_eq_true_eq, decide_eq_true_eq] at hp; have h1 := congrArg kb hp.2; rw [kb_ext] at h1; unfold keyC at h1; rw [kb_app, kb_app] at h1; have h35 : kb ⟨#[35]⟩ = [35] := rfl; have hpy : kb sPayH = [112, 97, 121, 35] := rfl; rw [h35, hpy] at h1; have hsz := kb_len s; obtain ⟨l, hl⟩ : ∃ l, kb s = l := ⟨_, rfl⟩; rw [hl] at h1 hsz
 match l with
 | [] => simp at h1
 | [a] => simp at h1
 | [a, b] => simp at h1
 | a :: b :: c :: r =>
  have h3 : 3 ≤ s.size := by rw [← hsz]; simp
  refine Bool.eq_false_iff.1 h ?_; unfold isP; rw [decide_eq_true h3, Bool.true_and, decide_eq_true_eq]
  apply kb_inj
  rw [kb_ext, hl]; have hp3 : kb sPay = [112, 97, 121] := rfl; rw [hp3]; simp only [List.cons_append, List.take_succ_cons, List.cons.injEq] at h1; obtain ⟨rfl, rfl, rfl, -⟩ := h1
  rfl
end Go.Tw.Po
namespace Go.Proofs.YtifcelebfagjbaaGreatDoor
open Go.RowKit Go.Tw Go.Tw.Ord Go.Tw.Po Go.Sort Go.ChangeShapes Go.WideShapes
set_option maxRecDepth 100000 in
set_option maxHeartbeats 8000000 in
theorem balances_walk : LawWalkL Tryz.prog laidL 7 Tryz.f7 := by
 intro H enc W base args ds ps hval hA hsz hL; rw [Tryz.params7] at hA hval; obtain ⟨v0, v1, v2, d0, d1, d2, p0, p1, p2, rfl, rfl, rfl, h0, h1, h2⟩ := trodAll_three hA; obtain ⟨A, ao, an, ac, c, e0, hA0, hc0, hplt⟩ := arg_cfg (hval 0 _ _ rfl rfl) h0 hsz (j := 0) rfl rfl; obtain ⟨l, hl0⟩ := arg_slice Tryz.underlying52 (opensChgs (e := 49)) (hval 1 _ _ rfl rfl) h1; obtain ⟨dl, hd0⟩ := arg_slice Tryz.underlying65 (opensDeeds (e := 86)) (hval 2 _ _ rfl rfl) h2; subst e0; have HF := Lib.hid (fmt_all hL); clear hA hval h0 h1 h2 hsz hL; have n0 := alloc1_0 W (.cells A 46); have HB0 := Lib.hid (bl_alloc (Below.refl W.heap.size W) (.cells A 46)); obtain ⟨al, cl, bl, ol, rfl, hl1, hl2, hlop⟩ := chg_open hl0; obtain ⟨ad, cd, bd, od, rfl, hd1, hd2, hdop⟩ := deed_open hd0; unfold maxLen at hl2 hd2; have HLO := Lib.hid hlop; have HDO := Lib.hid hdop; have HA := Lib.hid hA0; have HC := Lib.hid hc0; have HL := Lib.hid hl0; have HD := Lib.hid hd0; have HN0 := Lib.hid n0
 have HXO := Lib.hid (show ∀ x ∈ l, ChgOk x from fun x hx => by
  obtain ⟨k, hk, rfl⟩ := List.getElem_of_mem hx
  exact (hlop W (SameOn.refl _ _) k hk).2.2.2.1)
 have HRT := Lib.hid (right_any c A (.slice ao an ac) (W.alloc (.cells A 46)) hA0 (hc0.step HB0.out) hplt); have hld := load_blk n0 hA0.size Tryz.prog; clear hA0 hc0 hplt hl0 hd0 n0 hlop hdop
 go_enter Tryz.func7, Tryz.ntmps7
 go_wp2_with (first | (refine wpList_loadA _ rfl 46 rfl Tryz.isAgg46 Tryz.sizeOf46 rfl (by with_reducible assumption) ?_) | fail)
 with_reducible refine HRT.out.mono ?_
 clear HRT hld; rintro r w1 ⟨⟨b, rfl, hb⟩, hb1⟩; have HRB := Lib.hid hb; have HB1 := Lib.hid (bl_trans HB0.out hb1); have N0 := Lib.hid ((hb1.block _ (lt_of_heap HN0.out)).trans HN0.out); clear hb hb1 HN0 HB0
 cases b with
 | false =>
  have HAW := Lib.hid (awake_any _ (HF.out.step HB1.out))
  go_wp2_with (fail)
  with_reducible refine HAW.out.mono ?_
  clear HAW; rintro r wz ⟨rfl, hbz⟩; have HBZ := Lib.hid (bl_trans HB1.out hbz); clear hbz; go_wp2; go_ret; exact ⟨rfl, HBZ.out⟩
 | true =>
 have HRK := Lib.hid (HRB.out (by trivial)); have HSH := Lib.hid (short_any l (.slice al l.length cl) w1 (HL.out.step HB1.out)); clear HRB
 go_wp2_with (fail)
 with_reducible refine HSH.out.mono ?_
 clear HSH; rintro r w2 ⟨⟨b, rfl, hb⟩, hb2⟩; have HSB := Lib.hid hb; have HB2 := Lib.hid (bl_trans HB1.out hb2); have M0 := Lib.hid ((hb2.block _ (lt_of_heap N0.out)).trans N0.out); clear hb hb2 HB1 N0
 cases b with
 | false =>
  have HAW := Lib.hid (awake_any _ (HF.out.step HB2.out))
  go_wp2_with (fail)
  with_reducible refine HAW.out.mono ?_
  clear HAW; rintro r wz ⟨rfl, hbz⟩; have HBZ := Lib.hid (bl_trans HB2.out hbz); clear hbz; go_wp2; go_ret; exact ⟨rfl, HBZ.out⟩
 | true =>
 have HXC := Lib.hid ((HSB.out (by trivial)).2); have hl8 := (HSB.out (by trivial)).1; clear HSB
 go_wp2_with (fail)
 go_loopg [7] l.length (fun g' i wr => ∃ k : Nat, k + g' = l.length ∧ i = .int .i64 k ∧ wr = w2 ∧ Hid (∀ j (hj : j < l.length), j < k → isP l[j].key = false))
 case atStart => exact ⟨0, by omega, rfl, rfl, Lib.hid (fun j _ h => by omega)⟩
 case round =>
  obtain ⟨k, hk, rfl, rfl, HNP⟩ := hrel
  by_cases hlt : k < l.length
  · obtain ⟨rfl, -, hbi, hxo, -, -, c0, -⟩ := HLO.out wr (.of_below HB2.out) k hlt
    have j0 : (0 : Int) ≤ (k : Int) := by omega
    have j1 : (k : Int) < (l.length : Int) := by omega
    have hkz := hxo.key; unfold maxLen at hkz; have HG1 := Lib.hid (show ∀ j (hj : j < l.length), j = k → l[j].key = l[k].key by rintro j hj rfl; rfl); generalize l[k].key = s at *
    have HNX : isP s = false → Hid (∀ j (hj : j < l.length), j < k + 1 → isP l[j].key = false) := fun h => Lib.hid fun j hj hjk => by
     by_cases e : j = k
     · rw [HG1.out j hj e]; exact h
     · exact HNP.out j hj (by omega)
    have HNX' := Lib.hid HNX; clear HNX hxo
    by_cases h3 : s.size < 3
    · have q3 : decide ((3 : Int) ≤ (s.size : Int)) = false := by simp; omega
      have HN2 := HNX'.out (isP_short h3); clear h3; go_wp2
      go_roundg (l.length - (k + 1))
      case measure => omega
      case rel => exact ⟨k + 1, by omega, by go_num, rfl, HN2⟩
    · have q3 : (3 : Int) ≤ (s.size : Int) := by omega
      have HIP := Lib.hid (isP_long (k := s) (by omega)); obtain ⟨q, hq⟩ : ∃ q, ((s.extract 0 3).toList == [112, 97, 121]) = q := ⟨_, rfl⟩; rw [hq] at HIP
      cases q with
      | true =>
       have HAW := Lib.hid (awake_any _ (HF.out.step HB2.out))
       go_wp2_with (fail)
       with_reducible refine HAW.out.mono ?_
       clear HAW; rintro r wz ⟨rfl, hbz⟩; have HBZ := Lib.hid (bl_trans HB2.out hbz); clear hbz; go_wp2; go_ret; exact ⟨rfl, HBZ.out⟩
      | false =>
       have HN2 := HNX'.out HIP.out; go_wp2
       go_roundg (l.length - (k + 1))
       case measure => omega
       case rel => exact ⟨k + 1, by omega, by go_num, rfl, HN2⟩
  · have hkd : decide ((k : Int) < (l.length : Int)) = false := by simp; omega
    have HNA := Lib.hid (show ∀ x ∈ l, ∀ n, isPay (keyC x.key n) = false from fun x hx n => by
     obtain ⟨j, hj, rfl⟩ := List.getElem_of_mem hx
     exact not_pay (HNP.out j hj (by omega)) n)
    clear HNP; obtain ⟨w2, hw2⟩ : ∃ w2, w2 = wr := ⟨_, rfl⟩; subst hw2; have hldc := load_blk M0.out HA.out.size Tryz.prog; have HCG := Lib.hid (config_any A ao an ac w2 HA.out)
    go_wp2_with (first | (refine wpList_loadA _ rfl 46 rfl Tryz.isAgg46 Tryz.sizeOf46 rfl (by with_reducible assumption) ?_) | fail)
    with_reducible refine HCG.out.mono ?_
    clear HCG hldc; rintro r w3 ⟨rfl, hb3⟩; have HB3 := Lib.hid (bl_trans HB2.out hb3); have M3 := Lib.hid ((hb3.block _ (lt_of_heap M0.out)).trans M0.out); have HPY := Lib.hid (plays_any c (zCfg (.slice ao an ac)) (.slice ao an ac) (.slice al l.length cl) (.slice ad dl.length cd) l dl w3 (zCfgA _) (HC.out.step HB3.out) HRK.out.2 (HL.out.step HB3.out) hl8 HXC.out HXO.out (HD.out.step HB3.out) (HF.out.step HB3.out)); clear hb3 HB2 M0
    go_wp2_with (fail)
    with_reducible refine HPY.out.mono ?_
    clear HPY; rintro r w4 ⟨ve, vd, rfl, he, hd, hb4⟩; obtain ⟨ae, ne, ce, rfl⟩ := ent_sl he; obtain ⟨ac2, nc, cc, rfl⟩ := chg_sl hd; have HB := Lib.hid (CB.mk' ((hb4.block _ (lt_of_heap M3.out)).trans M3.out) he hd (plays_bok (c := c) (dl := dl) hl8 HXC.out) (bl_trans HB3.out hb4)); clear he hd hb4 HB3 M3
    go_upto_region 9 with (fail)
    generalize w4.alloc (.cells #[.slice ae ne ce, .slice ac2 nc cc] 70) = w5 at HB ⊢; generalize w4.heap.size = g at HB ⊢; have HBL := Lib.hid (show Bal c isPay (playsP c l ⟨[], []⟩ (dl.take 16)) from bal_plays HNA.out (bal_empty _ _) (BOk.empty hl8 HXC.out) (by have := List.length_take_le 16 dl; omega) fun d _ _ _ _ n => pay_is n); generalize playsP c l ⟨[], []⟩ (dl.take 16) = bk at *; obtain ⟨es, ds⟩ := bk; obtain ⟨x0, x1, -⟩ := blk2 HB.out.g; have k0 := cell_regrown x0; have k1 := cell_regrown x1; have LDC := fun d os => ldc_re HB.out.c HA.out.size d os
    have cC := fun d os => Calls.regrown_of (config_any A ao an ac (grow (redrawn w5 d) os) HA.out)
    have cS := fun d os => Calls.regrown_of (sums_any l c (zCfg (.slice ao an ac)) (.slice ao an ac) (.slice ae ne ce) (.slice ac2 nc cc) es ds (grow (redrawn w5 d) os) (zCfgA _) (HC.out.step (bl_trans HB.out.b (below_regrown w5 d os))) HRK.out.2 HB.out.k (HB.out.e.step (below_regrown w5 d os)) (HB.out.d.step (below_regrown w5 d os)) HBL.out)
    have cW := fun d os => awake_re (HF.out.step HB.out.b) d os
    clear x0 x1; refine QW.region (by kernel_rfl) (by kernel_rfl) ?_
    (refine QW.yes (by kernel_rfl) (fun K hK => ?_)
     go_simp
     (with_reducible refine hK _ ?_)
     clear hK K)
    (refine QW.yes (by kernel_rfl) (fun K hK => ?_)
     go_simp
     (with_reducible refine hK _ ?_)
     clear hK K)
    refine QW.yes (by kernel_rfl) (fun K hK => ?_); refine quiet_loadA (A := A) rfl Tryz.isAgg46 Tryz.sizeOf46 rfl (fun w' hw' => ?_) (hK _ ?_)
    · obtain ⟨⟨nq, osq⟩, rfl⟩ := hw'
      exact LDC nq osq
    clear hK K
    (refine QW.yes (by kernel_rfl) (fun K hK => ?_)
     go_simp
     apply Exists.intro
     refine ⟨fun _ => ?_, hK _ ?_⟩
     (go_at_call 13; with_reducible exact cC _ _)
     clear hK K)
    (refine QW.yes (by kernel_rfl) (fun K hK => ?_)
     go_simp
     (with_reducible refine hK _ ?_)
     clear hK K)
    (refine QW.yes (by kernel_rfl) (fun K hK => ?_)
     go_simp
     apply Exists.intro
     refine ⟨fun _ => ?_, hK _ ?_⟩
     (go_at_call 24; with_reducible exact cS _ _)
     clear hK K)
    (refine QW.yes (by kernel_rfl) (fun K hK => ?_)
     go_simp
     (with_reducible refine hK _ ?_)
     clear hK K)
    (refine QW.yes (by kernel_rfl) (fun K hK => ?_)
     go_simp
     (with_reducible refine hK _ ?_)
     clear hK K)
    (refine QW.yes (by kernel_rfl) (fun K hK => ?_)
     go_simp
     apply Exists.intro
     refine ⟨fun _ => ?_, hK _ ?_⟩
     (go_at_call 11; with_reducible exact cW _ _)
     clear hK K)
    (refine QW.yes (by kernel_rfl) (fun K hK => ?_)
     go_simp
     (with_reducible refine hK _ ?_)
     clear hK K)
    (refine QW.yes (by kernel_rfl) (fun K hK => ?_)
     go_simp
     (with_reducible refine hK _ ?_)
     clear hK K)
    refine QW.nil ?_; intro _ hw'; obtain ⟨⟨dq, osq⟩, hw''⟩ := hw'; subst hw''; have HGQ := Lib.hid (bl_trans HB.out.b (below_regrown w5 dq osq)); clear cC cS cW LDC k0 k1; go_wp2; go_ret; exact ⟨rfl, HGQ.out⟩
end Go.Proofs.YtifcelebfagjbaaGreatDoor
