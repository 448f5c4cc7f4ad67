import Derived.Test.YtifcelebfagjbaaGreatDoorPoLx
namespace Go.Proofs.YtifcelebfagjbaaGreatDoor
open Go.RowKit Go.Tw Go.Tw.Ord Go.Tw.Po Go.Sort Go.ChangeShapes Go.WideShapes
theorem kH {p : Prop} (h : p) : Hid p := Lib.hid h
theorem hyb1 (w : World) : Hid (BB w.heap.size (.slice none 0 0) (.slice none 0 0) (w.alloc (.cells #[.slice none 0 0, .slice none 0 0] 70))) := kH (heap_alloc_new _ _)
theorem hyb0 (w : World) : Hid (BB w.heap.size (.slice none 0 0) (.slice none 0 0) (w.alloc (.cells #[.slice none 0 0, .slice none 0 0] 70)).drew) := hyb1 w
theorem hv0 (w : World) : Hid (Below w.heap.size w (w.alloc (.cells #[.slice none 0 0, .slice none 0 0] 70)).drew) := kH (Below.drew (bl_alloc (Below.refl _ _) _))
theorem hys {w w' : World} {g : Nat} {a b : Value} (h : Below w.heap.size w w') (hg : Hid (BB g a b w)) : Hid (BB g a b w') := kH ((h.block _ (lt_of_heap hg.out)).trans hg.out)
theorem utl {α : Type} {T : Ty α} {p : Nat → Prop} {w : World} {v : Value} {l : List α} (h : SlIs T (fun k => p k ∧ k < w.heap.size) w v l) : Hid (SlIs T (· < w.heap.size) w v l) := kH (h.keep (fun _ h => h.2) (SameOn.refl _ _))
theorem bkE {W : World} {vb : Value} {x : Bk × Int} {e : Ending} {w : World} (h : BookE W vb x e w) : ∃ a1 n1 c1 a2 n2 c2, e = .returned (.tuple #[.agg #[.slice a1 n1 c1, .slice a2 n2 c2], .int .i64 x.2]) ∧ Hid (SlIs (tEnt 101) (· < w.heap.size) w (.slice a1 n1 c1) x.1.es) ∧ Hid (SlIs (tChg eL) (· < w.heap.size) w (.slice a2 n2 c2) x.1.ds) ∧ Below W.heap.size W w := by
 obtain ⟨u1, u2, rfl, h1, h2, hb, -⟩ := h
 obtain ⟨a1, n1, c1, rfl⟩ := ent_sl h1
 obtain ⟨a2, n2, c2, rfl⟩ := chg_sl h2
 exact ⟨_, _, _, _, _, _, rfl, utl h1, utl h2, hb⟩
theorem gk8 {P : Program} {ops : Array Oper} {Q : Exit → Act → World → Prop} {md : Region.Mode} {D : Nat → Nat} {S : World → Prop} (i j : Nat) {o o' : Oper} {fuel : Nat} {listed : Array Bool} {a : Act} {w : World} (ho : ops[i]? = some o) (ho' : ops[j]? = some o')
 (h : ∀ K' : Act → World → Prop, Shut (∀ a' w', ((D i = 0 → S w') ∧ (D i = 1 → w' = w)) → (((D i = 0 → S w') ∧ (D i = 1 → w' = w)) → wpD P md ops Q D S fuel (listed.setIfInBounds i true) a' w') → K' a' w') → Oper.wp P o a w K' Q)
 (h' : ∀ K' : Act → World → Prop, Shut (∀ a' w', ((D j = 0 → S w') ∧ (D j = 1 → w' = w)) → (((D j = 0 → S w') ∧ (D j = 1 → w' = w)) → wpD P md ops Q D S fuel (listed.setIfInBounds j true) a' w') → K' a' w') → Oper.wp P o' a w K' Q)
 (hr : Region.ready md ops listed = [i, j] := by kernel_rfl) (hw : Region.wanted o (yielded ops a.tmps) = true := by kernel_rfl) (hw' : Region.wanted o' (yielded ops a.tmps) = true := by kernel_rfl) : wpD P md ops Q D S (fuel + 1) listed a w :=
 wpD_ready (rs := [i, j]) hr rfl (AllReadyD.cons ho (fun K' hK => by rw [if_pos hw]; exact h K' hK) (AllReadyD.cons ho' (fun K' hK => by rw [if_pos hw']; exact h' K' hK) AllReadyD.nil))
theorem mks {wB w9 : World} {gy : Nat} {a1 a2 a3 a4 : Option Addr} {n1 n2 n3 n4 c1 c2 c3 c4 : Nat} {b : Bk} (hb : Hid (Below wB.heap.size wB w9)) (hlo : wB.heap.size ≤ gy) (he : Hid (SlIs (tEnt 101) (· < w9.heap.size) w9 (.slice a3 n3 c3) b.es)) (hd : Hid (SlIs (tChg eL) (· < w9.heap.size) w9 (.slice a4 n4 c4) b.ds)) (hg : Hid (BB gy (.slice a1 n1 c1) (.slice a2 n2 c2) w9)) : SR wB gy (.slice a3 n3 c3) (.slice a4 n4 c4) b ((w9.setCell ⟨gy, 0, none⟩ (.slice a3 n3 c3)).setCell ⟨gy, 1, none⟩ (.slice a4 n4 c4)) := SR.mk_set hb.out hlo ⟨_, _, _, rfl⟩ ⟨_, _, _, rfl⟩ he.out hd.out hg.out
theorem gkm {P : Program} {ops : Array Oper} {Q : Exit → Act → World → Prop} {md : Region.Mode} {D : Nat → Nat} {S : World → Prop} (i : Nat) {oi : Oper} {v : Value} {fuel : Nat} {listed : Array Bool} {a : Act} {w : World} (hi : ops[i]? = some oi)
 (h : wpD P md ops Q D S fuel (listed.setIfInBounds i true) (a.put oi.dst v) w) (hB : (Region.behind md ops D i && Region.noSelect ops && Region.free md ops listed i && (Region.ready md ops listed).contains i) = true := by kernel_rfl)
 (hQ : ∀ c a w, Q (.panic c) (a.put oi.dst v) w → Q (.panic c) a w := by exact fun _ _ _ h => h) (hw : Region.wanted oi (yielded ops a.tmps) = true := by kernel_rfl) (hS : S w := by assumption)
 (hy : ∀ w, S w → (execOp a.eval oi).run P w = .ok (.value v) w := by intro w9 hS9; clear hS9; go_simp; (try with_reducible rfl)) : wpD P md ops Q D S (fuel + 1) listed a w := gk1 i hi hy h hB hQ hw hS
set_option maxRecDepth 100000 in
set_option maxHeartbeats 8000000 in
theorem twice_walk : LawWalkL Tryz.prog laidL 6 Tryz.f6 := by
 intro H enc W base args ds ps hval hA hsz hL; rw [Tryz.params6] at hA hval; obtain ⟨v0, v1, v2, v3, d0, d1, d2, d3, p0, p1, p2, p3, rfl, rfl, rfl, h0, h1, h2, h3⟩ := trodAll_four hA; obtain ⟨A, ao, an, ac, c, e0, hA0, hc0, hplt⟩ := arg_cfg (hval 0 _ _ rfl rfl) h0 hsz (j := 0) rfl rfl; obtain ⟨l, hl0⟩ := arg_slice Tryz.underlying52 (opensChgs (e := 49)) (hval 1 _ _ rfl rfl) h1; obtain ⟨dl, hd0⟩ := arg_slice Tryz.underlying65 (opensDeeds (e := 86)) (hval 2 _ _ rfl rfl) h2; subst e0; have HF := kH (fmt_all hL); obtain ⟨t, e3, ht0, ht1⟩ := arg_u16 Tryz.underlying78 (hval 3 _ _ rfl rfl) h3; subst e3; clear hA hval h0 h1 h2 h3 hsz hL; have n0 := alloc1_0 W (.cells A 46); have HB0 := kH (bl_alloc (Below.refl W.heap.size W) (.cells A 46)); obtain ⟨al, cl, bl, ol, rfl, hl1, hl2, hlop⟩ := chg_open hl0; obtain ⟨ad, cd, bd, od, rfl, hd1, hd2, hdop⟩ := deed_open hd0; unfold maxLen at hl2 hd2; have HLO := kH hlop; have HDO := kH hdop; have HA := kH hA0; have HC := kH hc0; have HL := kH hl0; have HD := kH hd0; have HN0 := kH n0
 have HXO := kH (show ∀ x ∈ l, ChgOk x from fun x hx => by
  obtain ⟨k, hk, rfl⟩ := List.getElem_of_mem hx
  exact (hlop W (SameOn.refl _ _) k hk).2.2.2.1)
 have HRT := kH (right_any c A (.slice ao an ac) (W.alloc (.cells A 46)) hA0 (hc0.step HB0.out) hplt); have hld := load_blk n0 hA0.size Tryz.prog; clear hA0 hc0 hplt hl0 hd0 n0 hlop hdop
 go_enter Tryz.func6, Tryz.ntmps6
 go_wp2_with (first | (refine wpList_loadA _ rfl 46 rfl Tryz.isAgg46 Tryz.sizeOf46 rfl (by with_reducible assumption) ?_) | fail)
 with_reducible refine HRT.out.mono ?_
 clear HRT hld; rintro r w1 ⟨⟨b, rfl, hb⟩, hb1⟩; have HRB := kH hb; have HB1 := kH (bl_trans HB0.out hb1); have N0 := kH ((hb1.block _ (lt_of_heap HN0.out)).trans HN0.out); clear hb hb1 HN0 HB0
 cases b with
 | false =>
  have HAW := kH (awake_any _ (HF.out.step HB1.out))
  go_wp2_with (fail)
  with_reducible refine HAW.out.mono ?_
  clear HAW; rintro r wz ⟨rfl, hbz⟩; have HBZ := kH (bl_trans HB1.out hbz); clear hbz; go_wp2; go_ret; exact ⟨rfl, HBZ.out⟩
 | true =>
 have HRK := kH (HRB.out (by trivial)); have HSH := kH (short_any l (.slice al l.length cl) w1 (HL.out.step HB1.out)); clear HRB
 go_wp2_with (fail)
 with_reducible refine HSH.out.mono ?_
 clear HSH; rintro r w2 ⟨⟨b, rfl, hb⟩, hb2⟩; have HSB := kH hb; have HB2 := kH (bl_trans HB1.out hb2); have M0 := kH ((hb2.block _ (lt_of_heap N0.out)).trans N0.out); clear hb hb2 HB1 N0
 cases b with
 | false =>
  have HAW := kH (awake_any _ (HF.out.step HB2.out))
  go_wp2_with (fail)
  with_reducible refine HAW.out.mono ?_
  clear HAW; rintro r wz ⟨rfl, hbz⟩; have HBZ := kH (bl_trans HB2.out hbz); clear hbz; go_wp2; go_ret; exact ⟨rfl, HBZ.out⟩
 | true =>
 have HXC := kH ((HSB.out (by trivial)).2); have hl8 := (HSB.out (by trivial)).1; clear HSB; have hldc := load_blk M0.out HA.out.size Tryz.prog; have HCG := kH (config_any A ao an ac w2 HA.out)
 go_wp2_with (first | (refine wpList_loadA _ rfl 46 rfl Tryz.isAgg46 Tryz.sizeOf46 rfl (by with_reducible assumption) ?_) | fail)
 with_reducible refine HCG.out.mono ?_
 clear HCG hldc; rintro r w3 ⟨rfl, hb3⟩; have HB3 := kH (bl_trans HB2.out hb3); have M3 := kH ((hb3.block _ (lt_of_heap M0.out)).trans M0.out); have HPY := kH (plays_any c (zCfg (.slice ao an ac)) (.slice ao an ac) (.slice al l.length cl) (.slice ad dl.length cd) l dl w3 (zCfgA _) (HC.out.step HB3.out) HRK.out.2 (HL.out.step HB3.out) hl8 HXC.out HXO.out (HD.out.step HB3.out) (HF.out.step HB3.out)); clear hb3 HB2 M0
 go_wp2_with (fail)
 with_reducible refine HPY.out.mono ?_
 clear HPY; rintro r w4 ⟨ve, vd, rfl, he, hd, hb4⟩; obtain ⟨ae, ne, ce, rfl⟩ := ent_sl he; obtain ⟨ac2, nc, cc, rfl⟩ := chg_sl hd; have HB := kH (CB.mk' ((hb4.block _ (lt_of_heap M3.out)).trans M3.out) he hd (plays_bok (c := c) (dl := dl) hl8 HXC.out) (bl_trans HB3.out hb4)); clear he hd hb4 HB3 M3
 go_upto_region 4 with (fail)
 generalize w4.alloc (.cells #[.slice ae ne ce, .slice ac2 nc cc] 70) = w6 at HB ⊢; generalize w4.heap.size = g at HB ⊢; generalize playsP c l ⟨[], []⟩ (dl.take 16) = bk at *; obtain ⟨es, ds⟩ := bk
 go_wp2_with (fail)
 go_loopg [11] l.length (fun g' i wr => ∃ k : Nat, k + g' = l.length ∧ i = .int .i64 k ∧ Hid (Below w6.heap.size w6 wr))
 case atStart => exact ⟨0, by omega, rfl, kH (Below.refl _ _)⟩
 case round =>
  obtain ⟨k, hk, rfl, HBW⟩ := hrel
  by_cases hlt : k < l.length
  · have HBr := kH (HB.out.step HBW.out)
    obtain ⟨rfl, -, hbi, -, hv, hsl, q0, q1, q2, q3, q4, q5, q6⟩ := HLO.out wr (.of_below HBr.out.b) k hlt; have j0 : (0 : Int) ≤ (k : Int) := by omega
    have j1 : (k : Int) < (l.length : Int) := by omega
    obtain ⟨hva, hvn, hvc, hve⟩ : ∃ a n c, hv = .slice a n c := by
     obtain ⟨a, c, _, _, e, -⟩ := hsl; exact ⟨a, _, c, e⟩
    subst hve; have HSL := kH hsl; have HYL := kH (show COk l[k] ∧ ChgOk l[k] ∧ l[k] ∈ l from ⟨HXC.out _ (List.getElem_mem hlt), HXO.out _ (List.getElem_mem hlt), List.getElem_mem hlt⟩)
    have HLY := kH (show ∀ w', Below wr.heap.size wr w' → w'.cell? ⟨bl, ol + k * 7, none⟩ = some (.string l[k].key) ∧ w'.cell? ⟨bl, ol + k * 7 + 1, none⟩ = some (.string l[k].veh) ∧ w'.cell? ⟨bl, ol + k * 7 + 2, none⟩ = some (.string l[k].sys) ∧ w'.cell? ⟨bl, ol + k * 7 + 3, none⟩ = some (.int .i64 l[k].cls) ∧ w'.cell? ⟨bl, ol + k * 7 + 4, none⟩ = some (.int .i64 l[k].tm) ∧ w'.cell? ⟨bl, ol + k * 7 + 5, none⟩ = some (.slice hva hvn hvc) ∧ w'.cell? ⟨bl, ol + k * 7 + 6, none⟩ = some (.int .i64 l[k].c) from fun w' h =>
     have hbr := Nat.lt_of_lt_of_le hbi HBr.out.b.size
     ⟨(h.cell hbr).trans q0, (h.cell hbr).trans q1, (h.cell hbr).trans q2, (h.cell hbr).trans q3, (h.cell hbr).trans q4, (h.cell hbr).trans q5, (h.cell hbr).trans q6⟩)
    generalize l[k] = y at *; obtain ⟨⟨⟨e9, d9⟩, z⟩, hr⟩ : ∃ r, applyP c ⟨es, ds⟩ y = r := ⟨_, rfl⟩
    have HBY := kH (show BOk l 257 ⟨e9, d9⟩ from by
     have h := HBr.out.k.apply (c := c) (by omega) HYL.out.2.2; rw [hr] at h
     exact h)
    have HTW := kH (show z = 0 → applyP c ⟨e9, d9⟩ y = (⟨e9, d9⟩, 0) from fun hz => by
     have h := apply_twice (c := c) (x := y) HBr.out.k.sort (by rw [hr]; exact hz); rw [hr] at h
     exact h)
    have HEP := kH (show ∀ W', Below wr.heap.size wr W' → Calls Tryz.prog 21 #[.agg (zCfg (.slice ao an ac)), .agg #[.slice ae ne ce, .slice ac2 nc cc], .agg #[.string y.key, .string y.veh, .string y.sys, .int .i64 y.cls, .int .i64 y.tm, .slice hva hvn hvc, .int .i64 y.c]] W' (BookE W' (.agg #[.slice ae ne ce, .slice ac2 nc cc]) (⟨e9, d9⟩, z)) from fun W' h => by
     rw [← hr]; have hS := HBr.out.step h
     exact apply_any l 256 c _ (.slice ao an ac) _ _ _ es ds y W' (zCfgA _) (HC.out.step hS.b) HRK.out.2 HBr.out.k (by omega) HYL.out.1 hS.e hS.d HYL.out.2.1 (HSL.out.keep (fun q hq => Nat.lt_of_lt_of_le hq hS.b.size) (fun q hq => h.block q (Nat.lt_of_lt_of_le hq HBr.out.b.size))) (HF.out.step hS.b))
    have HLB := kH (show ∀ w', Below wr.heap.size wr w' → w'.cell? ⟨g, 0, none⟩ = some (.slice ae ne ce) ∧ w'.cell? ⟨g, 1, none⟩ = some (.slice ac2 nc cc) from fun w' h => ⟨(blk2 (HBr.out.step h).g).1, (blk2 (HBr.out.step h).g).2.1⟩); have HLC := kH (show ∀ w', Below wr.heap.size wr w' → Sem.run Tryz.prog (loadCellsFrom ⟨W.heap.size, 0, none⟩ 0 25 #[]) w' = .ok A w' from fun w' h => load_blk (HBr.out.step h).c HA.out.size _); have HCG := kH (fun W' => config_any A ao an ac W' HA.out); clear hsl q0 q1 q2 q3 q4 q5 q6 hr
    go_upto_region 9 with (fail)
    obtain ⟨wB, hwB⟩ : ∃ wB, wB = wr := ⟨_, rfl⟩; subst hwB; have HW := kH (Below.drew (Below.refl wB.heap.size wB))
    go_cut [12, 13] (fun yv fv wx => ∃ (gy : Nat) (a1 : Option Addr) (n1 c1 : Nat) (a2 : Option Addr) (n2 c2 : Nat), yv = .pointer (some ⟨gy, 0, none⟩) ∧ fv = .int .i64 z ∧ SR wB gy (.slice a1 n1 c1) (.slice a2 n2 c2) ⟨e9, d9⟩ wx)
    case first =>
     refine wp_region_D (fun j => if j < 14 then 0 else if j < 14 then 1 else 2) (fun w' => Below wB.heap.size wB w') (by kernel_rfl) (HW.out) (fun hHeld => ?_); refine gk1 0 (v := ?_) rfl ?_ ?_
     rotate_left; focus (intro w9 hS9; refine exec_loadA (t := 46) (x := Operand.tmp 4) (p := ⟨W.heap.size, 0, none⟩) (A := A) ?_ Tryz.isAgg46 Tryz.sizeOf46 ?_ (HLC.out w9 hS9); rfl; rfl); (try simp only [gkA, gkB, gkC, Act.put, gkD, gkE, gkF])
     refine gk1 2 (v := ?_) rfl ?_ ?_
     rotate_left; focus (intro w9 hS9; obtain ⟨z0, z1⟩ := HLB.out w9 hS9; clear hS9; go_simp; (try with_reducible rfl)); (try simp only [gkA, gkB, gkC, Act.put, gkD, gkE, gkF])
     refine gkm 3 rfl ?_; (try simp only [gkA, gkB, gkC, Act.put, gkD, gkE, gkF])
     refine gkm 4 rfl ?_; (try simp only [gkA, gkB, gkC, Act.put, gkD, gkE, gkF])
     refine gkm 5 rfl ?_; (try simp only [gkA, gkB, gkC, Act.put, gkD, gkE, gkF])
     refine gk1 6 (v := ?_) rfl ?_ ?_
     rotate_left; focus (intro w9 hS9; obtain ⟨q0, q1, q2, q3, q4, q5, q6⟩ := HLY.out w9 hS9; clear hS9; go_simp; (try with_reducible rfl)); (try simp only [gkA, gkB, gkC, Act.put, gkD, gkE, gkF])
     refine gk8 1 11 rfl rfl (fun K hK => ?_) (fun K hK => ?_)
     · go_simp
       with_reducible refine (HCG.out _).mono ?_
       rintro r w7 ⟨rfl, hbv⟩; have HV := kH (bl_trans HW.out hbv)
       skip
       clear hbv HW; have HW := HV; clear HV; refine gk5 hK.out rfl (HW.out) (fun hHeld => ?_); clear hK K; refine gk8 7 11 rfl rfl (fun K hK => ?_) (fun K hK => ?_)
       · go_simp
         with_reducible refine (HEP.out _ HW.out).mono ?_
         rintro r w9 h9; obtain ⟨a1, n1, c1, a2, n2, c2, rfl, HU1, HU2, hbe⟩ := bkE h9; have HV := kH (bl_trans HW.out hbe)
         skip
         clear hbe HW h9; have HW := HV; clear HV; refine gk5 hK.out rfl (HW.out) (fun hHeld => ?_); clear hK K; refine gkm 8 rfl ?_; (try simp only [gkA, gkB, gkC, Act.put, gkD, gkE, gkF])
         refine gkm 9 rfl ?_; (try simp only [gkA, gkB, gkC, Act.put, gkD, gkE, gkF])
         refine gkm 10 rfl ?_; (try simp only [gkA, gkB, gkC, Act.put, gkD, gkE, gkF])
         refine gk3 11 rfl (fun K hK => ?_); go_simp; refine gk5 hK.out rfl (bl_alloc HW.out _) (fun hHeld => ?_); clear hK K; refine gk3 12 rfl (fun K hK => ?_); go_simp; refine gk5 hK.out rfl (bl_alloc HW.out _) (fun hHeld => ?_); clear hK K; refine gk3 13 rfl (fun K hK => ?_); go_simp; refine gk5 hK.out rfl (bl_alloc HW.out _) (fun hHeld => ?_); clear hK K; refine wpD_done (by kernel_rfl) ?_
         go_wp2_with (fail)
         go_meet; exact ⟨_, _, _, _, _, _, _, rfl, rfl, SR.mk_alloc HW.out HU1.out HU2.out⟩
       · go_simp; refine gk5 hK.out rfl (bl_alloc HW.out _) (fun hHeld => ?_); clear hK K; have HYB := hyb1 w7; have HV := kH (bl_alloc HW.out (.cells #[.slice none 0 0, .slice none 0 0] 70)); have hgy : wB.heap.size ≤ (w7).heap.size := HW.out.size; clear HW; have HW := HV; clear HV; generalize (w7).alloc (.cells #[.slice none 0 0, .slice none 0 0] 70) = wy at HYB HW hHeld ⊢; generalize (w7).heap.size = gy at HYB hgy ⊢; refine gk3 7 rfl (fun K hK => ?_); go_simp
         with_reducible refine (HEP.out _ HW.out).mono ?_
         rintro r w9 h9; obtain ⟨a1, n1, c1, a2, n2, c2, rfl, HU1, HU2, hbe⟩ := bkE h9; have HV := kH (bl_trans HW.out hbe); replace HYB := hys hbe HYB; clear hbe HW h9; have HW := HV; clear HV; refine gk5 hK.out rfl (HW.out) (fun hHeld => ?_); clear hK K; refine gkm 8 rfl ?_; (try simp only [gkA, gkB, gkC, Act.put, gkD, gkE, gkF])
         refine gkm 9 rfl ?_; (try simp only [gkA, gkB, gkC, Act.put, gkD, gkE, gkF])
         refine gkm 10 rfl ?_; (try simp only [gkA, gkB, gkC, Act.put, gkD, gkE, gkF])
         obtain ⟨y0, y1, yf⟩ := blk2 HYB.out; have hgl := lt_of_heap HYB.out; refine gk3 12 rfl (fun K hK => ?_); go_simp; refine gk5 hK.out rfl (bl_set (bl_set HW.out _ hgy) _ hgy) (fun hHeld => ?_); clear hK K; refine gk3 13 rfl (fun K hK => ?_); go_simp; refine gk5 hK.out rfl (bl_set (bl_set HW.out _ hgy) _ hgy) (fun hHeld => ?_); clear hK K; refine wpD_done (by kernel_rfl) ?_
         go_wp2_with (fail)
         go_meet; exact ⟨_, _, _, _, _, _, _, rfl, rfl, mks HW hgy HU1 HU2 HYB⟩
     · go_simp; refine gk5 hK.out rfl (bl_alloc HW.out _) (fun hHeld => ?_); clear hK K; have HYB := hyb0 wB; have HV := hv0 wB; have hgy : wB.heap.size ≤ wB.heap.size := Nat.le_refl _; clear HW; have HW := HV; clear HV; have hHeld : Below wB.heap.size wB (wB.alloc (.cells #[.slice none 0 0, .slice none 0 0] 70)).drew := HW.out; generalize (wB.alloc (.cells #[.slice none 0 0, .slice none 0 0] 70)).drew = wy at HYB HW hHeld ⊢; refine gk3 1 rfl (fun K hK => ?_); go_simp
       with_reducible refine (HCG.out _).mono ?_
       rintro r w7 ⟨rfl, hbv⟩; have HV := kH (bl_trans HW.out hbv); replace HYB := hys hbv HYB; clear hbv HW; have HW := HV; clear HV; refine gk5 hK.out rfl (HW.out) (fun hHeld => ?_); clear hK K; refine gk3 7 rfl (fun K hK => ?_); go_simp
       with_reducible refine (HEP.out _ HW.out).mono ?_
       rintro r w9 h9; obtain ⟨a1, n1, c1, a2, n2, c2, rfl, HU1, HU2, hbe⟩ := bkE h9; have HV := kH (bl_trans HW.out hbe); replace HYB := hys hbe HYB; clear hbe HW h9; have HW := HV; clear HV; refine gk5 hK.out rfl (HW.out) (fun hHeld => ?_); clear hK K; refine gkm 8 rfl ?_; (try simp only [gkA, gkB, gkC, Act.put, gkD, gkE, gkF])
       refine gkm 9 rfl ?_; (try simp only [gkA, gkB, gkC, Act.put, gkD, gkE, gkF])
       refine gkm 10 rfl ?_; (try simp only [gkA, gkB, gkC, Act.put, gkD, gkE, gkF])
       obtain ⟨y0, y1, yf⟩ := blk2 HYB.out; have hgl := lt_of_heap HYB.out; refine gk3 12 rfl (fun K hK => ?_); go_simp; refine gk5 hK.out rfl (bl_set (bl_set HW.out _ hgy) _ hgy) (fun hHeld => ?_); clear hK K; refine gk3 13 rfl (fun K hK => ?_); go_simp; refine gk5 hK.out rfl (bl_set (bl_set HW.out _ hgy) _ hgy) (fun hHeld => ?_); clear hK K; refine wpD_done (by kernel_rfl) ?_
       go_wp2_with (fail)
       go_meet; exact ⟨_, _, _, _, _, _, _, rfl, rfl, mks HW hgy HU1 HU2 HYB⟩
    case rest =>
     obtain ⟨g1, a1, n1, c1, a2, n2, c2, rfl, rfl, hsr⟩ := hcut; have HQ := kH hsr; have HBX := kH (bl_trans HBW.out hsr.b); have HBc := kH (HBr.out.step hsr.b); have HLY2 := kH (fun w' (h : Below wc.heap.size wc w') => HLY.out w' (bl_trans HQ.out.b h)); clear hsr HLC HCG HEP HLB HLY HW
     by_cases hz : z = 0
     case neg =>
      have hz1 : (z != 0) = true := by simpa using hz
      clear hz; go_wp2
      go_roundg (l.length - (k + 1))
      case measure => omega
      case rel => exact ⟨k + 1, by omega, by go_num, HBX⟩
     subst hz; have hr := HTW.out (by trivial)
     have HEP := kH (show ∀ W', Below wc.heap.size wc W' → Calls Tryz.prog 21 #[.agg (zCfg (.slice ao an ac)), .agg #[.slice a1 n1 c1, .slice a2 n2 c2], .agg #[.string y.key, .string y.veh, .string y.sys, .int .i64 y.cls, .int .i64 y.tm, .slice hva hvn hvc, .int .i64 y.c]] W' (BookE W' (.agg #[.slice a1 n1 c1, .slice a2 n2 c2]) (⟨e9, d9⟩, 0)) from fun W' h => by
      rw [← hr]; have hS := HBc.out.step h; have hQ := HQ.out.step h
      exact apply_any l 257 c _ (.slice ao an ac) _ _ _ e9 d9 y W' (zCfgA _) (HC.out.step hS.b) HRK.out.2 HBY.out (by omega) HYL.out.1 hQ.se hQ.sd HYL.out.2.1 (HSL.out.keep (fun q hq => Nat.lt_of_lt_of_le hq hS.b.size) (fun q hq => (bl_trans HQ.out.b h).block q (Nat.lt_of_lt_of_le hq HBr.out.b.size))) (HF.out.step hS.b))
     have HLB := kH (show ∀ w', Below wc.heap.size wc w' → w'.cell? ⟨g1, 0, none⟩ = some (.slice a1 n1 c1) ∧ w'.cell? ⟨g1, 1, none⟩ = some (.slice a2 n2 c2) from fun w' h => ⟨(blk2 (HQ.out.step h).g).1, (blk2 (HQ.out.step h).g).2.1⟩); have HLC := kH (show ∀ w', Below wc.heap.size wc w' → Sem.run Tryz.prog (loadCellsFrom ⟨W.heap.size, 0, none⟩ 0 25 #[]) w' = .ok A w' from fun w' h => load_blk (HBc.out.step h).c HA.out.size _); have HCG := kH (fun W' => config_any A ao an ac W' HA.out); obtain ⟨z, hzz⟩ : ∃ z : Int, z = 0 := ⟨_, rfl⟩; rw [← hzz] at HEP; have HZZ := kH hzz; clear hr HTW hzz
     go_upto_region 11 with (fail)
     obtain ⟨wB, hwB⟩ : ∃ wB, wB = wc := ⟨_, rfl⟩; subst hwB; have HW := kH (Below.drew (Below.refl wB.heap.size wB))
     go_cut [14, 15] (fun yv fv wx => ∃ (gy : Nat) (a1 : Option Addr) (n1 c1 : Nat) (a2 : Option Addr) (n2 c2 : Nat), yv = .pointer (some ⟨gy, 0, none⟩) ∧ fv = .int .i64 z ∧ SR wB gy (.slice a1 n1 c1) (.slice a2 n2 c2) ⟨e9, d9⟩ wx)
     case first =>
      refine wp_region_D (fun j => if j < 14 then 0 else if j < 14 then 1 else 2) (fun w' => Below wB.heap.size wB w') (by kernel_rfl) (HW.out) (fun hHeld => ?_); refine gk1 0 (v := ?_) rfl ?_ ?_
      rotate_left; focus (intro w9 hS9; refine exec_loadA (t := 46) (x := Operand.tmp 4) (p := ⟨W.heap.size, 0, none⟩) (A := A) ?_ Tryz.isAgg46 Tryz.sizeOf46 ?_ (HLC.out w9 hS9); rfl; rfl); (try simp only [gkA, gkB, gkC, Act.put, gkD, gkE, gkF])
      refine gk1 2 (v := ?_) rfl ?_ ?_
      rotate_left; focus (intro w9 hS9; obtain ⟨z0, z1⟩ := HLB.out w9 hS9; clear hS9; go_simp; (try with_reducible rfl)); (try simp only [gkA, gkB, gkC, Act.put, gkD, gkE, gkF])
      refine gkm 3 rfl ?_; (try simp only [gkA, gkB, gkC, Act.put, gkD, gkE, gkF])
      refine gkm 4 rfl ?_; (try simp only [gkA, gkB, gkC, Act.put, gkD, gkE, gkF])
      refine gkm 5 rfl ?_; (try simp only [gkA, gkB, gkC, Act.put, gkD, gkE, gkF])
      refine gk1 6 (v := ?_) rfl ?_ ?_
      rotate_left; focus (intro w9 hS9; obtain ⟨q0, q1, q2, q3, q4, q5, q6⟩ := HLY2.out w9 hS9; clear hS9; go_simp; (try with_reducible rfl)); (try simp only [gkA, gkB, gkC, Act.put, gkD, gkE, gkF])
      refine gk8 1 11 rfl rfl (fun K hK => ?_) (fun K hK => ?_)
      · go_simp
        with_reducible refine (HCG.out _).mono ?_
        rintro r w7 ⟨rfl, hbv⟩; have HV := kH (bl_trans HW.out hbv)
        skip
        clear hbv HW; have HW := HV; clear HV; refine gk5 hK.out rfl (HW.out) (fun hHeld => ?_); clear hK K; refine gk8 7 11 rfl rfl (fun K hK => ?_) (fun K hK => ?_)
        · go_simp
          with_reducible refine (HEP.out _ HW.out).mono ?_
          rintro r w9 h9; obtain ⟨a1, n1, c1, a2, n2, c2, rfl, HU1, HU2, hbe⟩ := bkE h9; have HV := kH (bl_trans HW.out hbe)
          skip
          clear hbe HW h9; have HW := HV; clear HV; refine gk5 hK.out rfl (HW.out) (fun hHeld => ?_); clear hK K; refine gkm 8 rfl ?_; (try simp only [gkA, gkB, gkC, Act.put, gkD, gkE, gkF])
          refine gkm 9 rfl ?_; (try simp only [gkA, gkB, gkC, Act.put, gkD, gkE, gkF])
          refine gkm 10 rfl ?_; (try simp only [gkA, gkB, gkC, Act.put, gkD, gkE, gkF])
          refine gk3 11 rfl (fun K hK => ?_); go_simp; refine gk5 hK.out rfl (bl_alloc HW.out _) (fun hHeld => ?_); clear hK K; refine gk3 12 rfl (fun K hK => ?_); go_simp; refine gk5 hK.out rfl (bl_alloc HW.out _) (fun hHeld => ?_); clear hK K; refine gk3 13 rfl (fun K hK => ?_); go_simp; refine gk5 hK.out rfl (bl_alloc HW.out _) (fun hHeld => ?_); clear hK K; refine wpD_done (by kernel_rfl) ?_
          go_wp2_with (fail)
          go_meet; exact ⟨_, _, _, _, _, _, _, rfl, rfl, SR.mk_alloc HW.out HU1.out HU2.out⟩
        · go_simp; refine gk5 hK.out rfl (bl_alloc HW.out _) (fun hHeld => ?_); clear hK K; have HYB := hyb1 w7; have HV := kH (bl_alloc HW.out (.cells #[.slice none 0 0, .slice none 0 0] 70)); have hgy : wB.heap.size ≤ (w7).heap.size := HW.out.size; clear HW; have HW := HV; clear HV; generalize (w7).alloc (.cells #[.slice none 0 0, .slice none 0 0] 70) = wy at HYB HW hHeld ⊢; generalize (w7).heap.size = gy at HYB hgy ⊢; refine gk3 7 rfl (fun K hK => ?_); go_simp
          with_reducible refine (HEP.out _ HW.out).mono ?_
          rintro r w9 h9; obtain ⟨a1, n1, c1, a2, n2, c2, rfl, HU1, HU2, hbe⟩ := bkE h9; have HV := kH (bl_trans HW.out hbe); replace HYB := hys hbe HYB; clear hbe HW h9; have HW := HV; clear HV; refine gk5 hK.out rfl (HW.out) (fun hHeld => ?_); clear hK K; refine gkm 8 rfl ?_; (try simp only [gkA, gkB, gkC, Act.put, gkD, gkE, gkF])
          refine gkm 9 rfl ?_; (try simp only [gkA, gkB, gkC, Act.put, gkD, gkE, gkF])
          refine gkm 10 rfl ?_; (try simp only [gkA, gkB, gkC, Act.put, gkD, gkE, gkF])
          obtain ⟨y0, y1, yf⟩ := blk2 HYB.out; have hgl := lt_of_heap HYB.out; refine gk3 12 rfl (fun K hK => ?_); go_simp; refine gk5 hK.out rfl (bl_set (bl_set HW.out _ hgy) _ hgy) (fun hHeld => ?_); clear hK K; refine gk3 13 rfl (fun K hK => ?_); go_simp; refine gk5 hK.out rfl (bl_set (bl_set HW.out _ hgy) _ hgy) (fun hHeld => ?_); clear hK K; refine wpD_done (by kernel_rfl) ?_
          go_wp2_with (fail)
          go_meet; exact ⟨_, _, _, _, _, _, _, rfl, rfl, mks HW hgy HU1 HU2 HYB⟩
      · go_simp; refine gk5 hK.out rfl (bl_alloc HW.out _) (fun hHeld => ?_); clear hK K; have HYB := hyb0 wB; have HV := hv0 wB; have hgy : wB.heap.size ≤ wB.heap.size := Nat.le_refl _; clear HW; have HW := HV; clear HV; have hHeld : Below wB.heap.size wB (wB.alloc (.cells #[.slice none 0 0, .slice none 0 0] 70)).drew := HW.out; generalize (wB.alloc (.cells #[.slice none 0 0, .slice none 0 0] 70)).drew = wy at HYB HW hHeld ⊢; refine gk3 1 rfl (fun K hK => ?_); go_simp
        with_reducible refine (HCG.out _).mono ?_
        rintro r w7 ⟨rfl, hbv⟩; have HV := kH (bl_trans HW.out hbv); replace HYB := hys hbv HYB; clear hbv HW; have HW := HV; clear HV; refine gk5 hK.out rfl (HW.out) (fun hHeld => ?_); clear hK K; refine gk3 7 rfl (fun K hK => ?_); go_simp
        with_reducible refine (HEP.out _ HW.out).mono ?_
        rintro r w9 h9; obtain ⟨a1, n1, c1, a2, n2, c2, rfl, HU1, HU2, hbe⟩ := bkE h9; have HV := kH (bl_trans HW.out hbe); replace HYB := hys hbe HYB; clear hbe HW h9; have HW := HV; clear HV; refine gk5 hK.out rfl (HW.out) (fun hHeld => ?_); clear hK K; refine gkm 8 rfl ?_; (try simp only [gkA, gkB, gkC, Act.put, gkD, gkE, gkF])
        refine gkm 9 rfl ?_; (try simp only [gkA, gkB, gkC, Act.put, gkD, gkE, gkF])
        refine gkm 10 rfl ?_; (try simp only [gkA, gkB, gkC, Act.put, gkD, gkE, gkF])
        obtain ⟨y0, y1, yf⟩ := blk2 HYB.out; have hgl := lt_of_heap HYB.out; refine gk3 12 rfl (fun K hK => ?_); go_simp; refine gk5 hK.out rfl (bl_set (bl_set HW.out _ hgy) _ hgy) (fun hHeld => ?_); clear hK K; refine gk3 13 rfl (fun K hK => ?_); go_simp; refine gk5 hK.out rfl (bl_set (bl_set HW.out _ hgy) _ hgy) (fun hHeld => ?_); clear hK K; refine wpD_done (by kernel_rfl) ?_
        go_wp2_with (fail)
        go_meet; exact ⟨_, _, _, _, _, _, _, rfl, rfl, mks HW hgy HU1 HU2 HYB⟩
     case rest =>
      obtain ⟨g2, a3, n3, c3, a4, n4, c4, rfl, rfl, hsr⟩ := hcut; have HQ1 := kH (HQ.out.step hsr.b); have HQ2 := kH hsr; have HBX2 := kH (bl_trans HBX.out hsr.b); have HSM := kH (bsame_any e9 d9 _ _ _ _ wc HQ1.out.se HQ1.out.sd HQ2.out.se HQ2.out.sd); obtain ⟨y0, y1, -⟩ := blk2 HQ1.out.g; obtain ⟨x0, x1, -⟩ := blk2 HQ2.out.g; clear hsr HLC HCG HEP HLB HLY2 HW; have hzz := HZZ.out; subst hzz
      go_wp2_with (fail)
      with_reducible refine HSM.out.mono ?_
      clear HSM y0 y1 x0 x1; rintro r w8 ⟨rfl, hb8⟩; have HBX3 := kH (bl_trans HBX2.out hb8); clear hb8; go_wp2
      go_roundg (l.length - (k + 1))
      case measure => omega
      case rel => exact ⟨k + 1, by omega, by go_num, HBX3⟩
  · have hkd : decide ((k : Int) < (l.length : Int)) = false := by simp; omega
    have HBr := kH (HB.out.step HBW.out); have hti : i64ok t := by unfold i64ok; omega
    have htj : i64ok (t + 1) := by unfold i64ok; omega
    have hw1 : IntKind.i64.wrap t = t := wrap_in (by omega) (by omega); have hw2 : IntKind.i64.wrap (t + 1) = t + 1 := wrap_in (by omega) (by omega); obtain ⟨⟨⟨e9, d9⟩, z⟩, hr⟩ : ∃ r, syncP c ⟨es, ds⟩ l t = r := ⟨_, rfl⟩
    have HBY := kH (show BOk l 272 ⟨e9, d9⟩ from by
     have h := HBr.out.k.sync (c := c) (l := l) (t := t) (by omega) hl8 (fun x hx => hx); rw [hr] at h
     exact h)
    have HTW := kH (show z = 0 → syncP c ⟨e9, d9⟩ l (t + 1) = (⟨e9, d9⟩, 0) ∧ d9.length = l.length from fun hz => by
     have h := sync_twice (c := c) (l := l) (t := t) (by rw [hr]; exact hz) HBr.out.k.sort (t + 1); rw [hr] at h
     exact h)
    have HEP := kH (show ∀ W', Below wr.heap.size wr W' → Calls Tryz.prog 23 #[.agg (zCfg (.slice ao an ac)), .agg #[.slice ae ne ce, .slice ac2 nc cc], .slice al l.length cl, .int .i64 t] W' (BookE W' (.agg #[.slice ae ne ce, .slice ac2 nc cc]) (⟨e9, d9⟩, z)) from fun W' h => by
     rw [← hr]; have hS := HBr.out.step h
     exact sync_any l 256 c _ (.slice ao an ac) _ _ _ es ds l t W' (zCfgA _) (HC.out.step hS.b) HRK.out.2 HBr.out.k (by omega) hS.e hS.d (HL.out.step hS.b) (fun x hx => hx) hl8 HXO.out hti (HF.out.step hS.b))
    have HLB := kH (show ∀ w', Below wr.heap.size wr w' → w'.cell? ⟨g, 0, none⟩ = some (.slice ae ne ce) ∧ w'.cell? ⟨g, 1, none⟩ = some (.slice ac2 nc cc) from fun w' h => ⟨(blk2 (HBr.out.step h).g).1, (blk2 (HBr.out.step h).g).2.1⟩); have HLC := kH (show ∀ w', Below wr.heap.size wr w' → Sem.run Tryz.prog (loadCellsFrom ⟨W.heap.size, 0, none⟩ 0 25 #[]) w' = .ok A w' from fun w' h => load_blk (HBr.out.step h).c HA.out.size _); have HCG := kH (fun W' => config_any A ao an ac W' HA.out); clear hr
    go_upto_region 14 with (fail)
    obtain ⟨wB, hwB⟩ : ∃ wB, wB = wr := ⟨_, rfl⟩; subst hwB; have HW := kH (Below.drew (Below.refl wB.heap.size wB))
    go_cut [16, 17] (fun yv fv wx => ∃ (gy : Nat) (a1 : Option Addr) (n1 c1 : Nat) (a2 : Option Addr) (n2 c2 : Nat), yv = .pointer (some ⟨gy, 0, none⟩) ∧ fv = .int .i64 z ∧ SR wB gy (.slice a1 n1 c1) (.slice a2 n2 c2) ⟨e9, d9⟩ wx)
    case first =>
     refine wp_region_D (fun j => if j < 13 then 0 else if j < 13 then 1 else 2) (fun w' => Below wB.heap.size wB w') (by kernel_rfl) (HW.out) (fun hHeld => ?_); refine gk1 0 (v := ?_) rfl ?_ ?_
     rotate_left; focus (intro w9 hS9; refine exec_loadA (t := 46) (x := Operand.tmp 4) (p := ⟨W.heap.size, 0, none⟩) (A := A) ?_ Tryz.isAgg46 Tryz.sizeOf46 ?_ (HLC.out w9 hS9); rfl; rfl); (try simp only [gkA, gkB, gkC, Act.put, gkD, gkE, gkF])
     refine gk1 2 (v := ?_) rfl ?_ ?_
     rotate_left; focus (intro w9 hS9; obtain ⟨z0, z1⟩ := HLB.out w9 hS9; clear hS9; go_simp; (try with_reducible rfl)); (try simp only [gkA, gkB, gkC, Act.put, gkD, gkE, gkF])
     refine gkm 3 rfl ?_; (try simp only [gkA, gkB, gkC, Act.put, gkD, gkE, gkF])
     refine gkm 4 rfl ?_; (try simp only [gkA, gkB, gkC, Act.put, gkD, gkE, gkF])
     refine gkm 5 rfl ?_; (try simp only [gkA, gkB, gkC, Act.put, gkD, gkE, gkF])
     refine gk8 1 10 rfl rfl (fun K hK => ?_) (fun K hK => ?_)
     · go_simp
       with_reducible refine (HCG.out _).mono ?_
       rintro r w7 ⟨rfl, hbv⟩; have HV := kH (bl_trans HW.out hbv)
       skip
       clear hbv HW; have HW := HV; clear HV; refine gk5 hK.out rfl (HW.out) (fun hHeld => ?_); clear hK K; refine gk8 6 10 rfl rfl (fun K hK => ?_) (fun K hK => ?_)
       · go_simp
         with_reducible refine (HEP.out _ HW.out).mono ?_
         rintro r w9 h9; obtain ⟨a1, n1, c1, a2, n2, c2, rfl, HU1, HU2, hbe⟩ := bkE h9; have HV := kH (bl_trans HW.out hbe)
         skip
         clear hbe HW h9; have HW := HV; clear HV; refine gk5 hK.out rfl (HW.out) (fun hHeld => ?_); clear hK K; refine gkm 7 rfl ?_; (try simp only [gkA, gkB, gkC, Act.put, gkD, gkE, gkF])
         refine gkm 8 rfl ?_; (try simp only [gkA, gkB, gkC, Act.put, gkD, gkE, gkF])
         refine gkm 9 rfl ?_; (try simp only [gkA, gkB, gkC, Act.put, gkD, gkE, gkF])
         refine gk3 10 rfl (fun K hK => ?_); go_simp; refine gk5 hK.out rfl (bl_alloc HW.out _) (fun hHeld => ?_); clear hK K; refine gk3 11 rfl (fun K hK => ?_); go_simp; refine gk5 hK.out rfl (bl_alloc HW.out _) (fun hHeld => ?_); clear hK K; refine gk3 12 rfl (fun K hK => ?_); go_simp; refine gk5 hK.out rfl (bl_alloc HW.out _) (fun hHeld => ?_); clear hK K; refine wpD_done (by kernel_rfl) ?_
         go_wp2_with (fail)
         go_meet; exact ⟨_, _, _, _, _, _, _, rfl, rfl, SR.mk_alloc HW.out HU1.out HU2.out⟩
       · go_simp; refine gk5 hK.out rfl (bl_alloc HW.out _) (fun hHeld => ?_); clear hK K; have HYB := hyb1 w7; have HV := kH (bl_alloc HW.out (.cells #[.slice none 0 0, .slice none 0 0] 70)); have hgy : wB.heap.size ≤ (w7).heap.size := HW.out.size; clear HW; have HW := HV; clear HV; generalize (w7).alloc (.cells #[.slice none 0 0, .slice none 0 0] 70) = wy at HYB HW hHeld ⊢; generalize (w7).heap.size = gy at HYB hgy ⊢; refine gk3 6 rfl (fun K hK => ?_); go_simp
         with_reducible refine (HEP.out _ HW.out).mono ?_
         rintro r w9 h9; obtain ⟨a1, n1, c1, a2, n2, c2, rfl, HU1, HU2, hbe⟩ := bkE h9; have HV := kH (bl_trans HW.out hbe); replace HYB := hys hbe HYB; clear hbe HW h9; have HW := HV; clear HV; refine gk5 hK.out rfl (HW.out) (fun hHeld => ?_); clear hK K; refine gkm 7 rfl ?_; (try simp only [gkA, gkB, gkC, Act.put, gkD, gkE, gkF])
         refine gkm 8 rfl ?_; (try simp only [gkA, gkB, gkC, Act.put, gkD, gkE, gkF])
         refine gkm 9 rfl ?_; (try simp only [gkA, gkB, gkC, Act.put, gkD, gkE, gkF])
         obtain ⟨y0, y1, yf⟩ := blk2 HYB.out; have hgl := lt_of_heap HYB.out; refine gk3 11 rfl (fun K hK => ?_); go_simp; refine gk5 hK.out rfl (bl_set (bl_set HW.out _ hgy) _ hgy) (fun hHeld => ?_); clear hK K; refine gk3 12 rfl (fun K hK => ?_); go_simp; refine gk5 hK.out rfl (bl_set (bl_set HW.out _ hgy) _ hgy) (fun hHeld => ?_); clear hK K; refine wpD_done (by kernel_rfl) ?_
         go_wp2_with (fail)
         go_meet; exact ⟨_, _, _, _, _, _, _, rfl, rfl, mks HW hgy HU1 HU2 HYB⟩
     · go_simp; refine gk5 hK.out rfl (bl_alloc HW.out _) (fun hHeld => ?_); clear hK K; have HYB := hyb0 wB; have HV := hv0 wB; have hgy : wB.heap.size ≤ wB.heap.size := Nat.le_refl _; clear HW; have HW := HV; clear HV; have hHeld : Below wB.heap.size wB (wB.alloc (.cells #[.slice none 0 0, .slice none 0 0] 70)).drew := HW.out; generalize (wB.alloc (.cells #[.slice none 0 0, .slice none 0 0] 70)).drew = wy at HYB HW hHeld ⊢; refine gk3 1 rfl (fun K hK => ?_); go_simp
       with_reducible refine (HCG.out _).mono ?_
       rintro r w7 ⟨rfl, hbv⟩; have HV := kH (bl_trans HW.out hbv); replace HYB := hys hbv HYB; clear hbv HW; have HW := HV; clear HV; refine gk5 hK.out rfl (HW.out) (fun hHeld => ?_); clear hK K; refine gk3 6 rfl (fun K hK => ?_); go_simp
       with_reducible refine (HEP.out _ HW.out).mono ?_
       rintro r w9 h9; obtain ⟨a1, n1, c1, a2, n2, c2, rfl, HU1, HU2, hbe⟩ := bkE h9; have HV := kH (bl_trans HW.out hbe); replace HYB := hys hbe HYB; clear hbe HW h9; have HW := HV; clear HV; refine gk5 hK.out rfl (HW.out) (fun hHeld => ?_); clear hK K; refine gkm 7 rfl ?_; (try simp only [gkA, gkB, gkC, Act.put, gkD, gkE, gkF])
       refine gkm 8 rfl ?_; (try simp only [gkA, gkB, gkC, Act.put, gkD, gkE, gkF])
       refine gkm 9 rfl ?_; (try simp only [gkA, gkB, gkC, Act.put, gkD, gkE, gkF])
       obtain ⟨y0, y1, yf⟩ := blk2 HYB.out; have hgl := lt_of_heap HYB.out; refine gk3 11 rfl (fun K hK => ?_); go_simp; refine gk5 hK.out rfl (bl_set (bl_set HW.out _ hgy) _ hgy) (fun hHeld => ?_); clear hK K; refine gk3 12 rfl (fun K hK => ?_); go_simp; refine gk5 hK.out rfl (bl_set (bl_set HW.out _ hgy) _ hgy) (fun hHeld => ?_); clear hK K; refine wpD_done (by kernel_rfl) ?_
       go_wp2_with (fail)
       go_meet; exact ⟨_, _, _, _, _, _, _, rfl, rfl, mks HW hgy HU1 HU2 HYB⟩
    case rest =>
     obtain ⟨g1, a1, n1, c1, a2, n2, c2, rfl, rfl, hsr⟩ := hcut; have HQ := kH hsr; have HBc := kH (HBr.out.step hsr.b); clear hsr HLC HCG HEP HLB HW HBW
     by_cases hz : z = 0
     case neg =>
      have hz1 : (z != 0) = true := by simpa using hz
      clear hz; have HAW := kH (awake_any _ (HF.out.step HBc.out.b))
      go_wp2_with (fail)
      with_reducible refine HAW.out.mono ?_
      clear HAW; rintro r wz ⟨rfl, hbz⟩; have HBZ := kH (bl_trans HBc.out.b hbz); clear hbz; go_wp2; go_ret; exact ⟨rfl, HBZ.out⟩
     subst hz; obtain ⟨hr, hdl⟩ := HTW.out (by trivial); have HDL := kH hdl
     have HEP := kH (show ∀ W', Below wc.heap.size wc W' → Calls Tryz.prog 23 #[.agg (zCfg (.slice ao an ac)), .agg #[.slice a1 n1 c1, .slice a2 n2 c2], .slice al l.length cl, .int .i64 (t + 1)] W' (BookE W' (.agg #[.slice a1 n1 c1, .slice a2 n2 c2]) (⟨e9, d9⟩, 0)) from fun W' h => by
      rw [← hr]; have hS := HBc.out.step h; have hQ := HQ.out.step h
      exact sync_any l 272 c _ (.slice ao an ac) _ _ _ e9 d9 l (t + 1) W' (zCfgA _) (HC.out.step hS.b) HRK.out.2 HBY.out (by omega) hQ.se hQ.sd (HL.out.step hS.b) (fun x hx => hx) hl8 HXO.out htj (HF.out.step hS.b))
     have HLB := kH (show ∀ w', Below wc.heap.size wc w' → w'.cell? ⟨g1, 0, none⟩ = some (.slice a1 n1 c1) ∧ w'.cell? ⟨g1, 1, none⟩ = some (.slice a2 n2 c2) from fun w' h => ⟨(blk2 (HQ.out.step h).g).1, (blk2 (HQ.out.step h).g).2.1⟩); have HLC := kH (show ∀ w', Below wc.heap.size wc w' → Sem.run Tryz.prog (loadCellsFrom ⟨W.heap.size, 0, none⟩ 0 25 #[]) w' = .ok A w' from fun w' h => load_blk (HBc.out.step h).c HA.out.size _); have HCG := kH (fun W' => config_any A ao an ac W' HA.out); obtain ⟨z, hzz⟩ : ∃ z : Int, z = 0 := ⟨_, rfl⟩; rw [← hzz] at HEP; have HZZ := kH hzz; clear hr hdl HTW hzz
     go_upto_region 17 with (fail)
     obtain ⟨wB, hwB⟩ : ∃ wB, wB = wc := ⟨_, rfl⟩; subst hwB; have HW := kH (Below.drew (Below.refl wB.heap.size wB))
     go_cut [18, 19] (fun yv fv wx => ∃ (gy : Nat) (a1 : Option Addr) (n1 c1 : Nat) (a2 : Option Addr) (n2 c2 : Nat), yv = .pointer (some ⟨gy, 0, none⟩) ∧ fv = .int .i64 z ∧ SR wB gy (.slice a1 n1 c1) (.slice a2 n2 c2) ⟨e9, d9⟩ wx)
     case first =>
      refine wp_region_D (fun j => if j < 14 then 0 else if j < 14 then 1 else 2) (fun w' => Below wB.heap.size wB w') (by kernel_rfl) (HW.out) (fun hHeld => ?_); refine gk1 0 (v := ?_) rfl ?_ ?_
      rotate_left; focus (intro w9 hS9; refine exec_loadA (t := 46) (x := Operand.tmp 4) (p := ⟨W.heap.size, 0, none⟩) (A := A) ?_ Tryz.isAgg46 Tryz.sizeOf46 ?_ (HLC.out w9 hS9); rfl; rfl); (try simp only [gkA, gkB, gkC, Act.put, gkD, gkE, gkF])
      refine gk1 2 (v := ?_) rfl ?_ ?_
      rotate_left; focus (intro w9 hS9; obtain ⟨z0, z1⟩ := HLB.out w9 hS9; clear hS9; go_simp; (try with_reducible rfl)); (try simp only [gkA, gkB, gkC, Act.put, gkD, gkE, gkF])
      refine gkm 3 rfl ?_; (try simp only [gkA, gkB, gkC, Act.put, gkD, gkE, gkF])
      refine gkm 4 rfl ?_; (try simp only [gkA, gkB, gkC, Act.put, gkD, gkE, gkF])
      refine gkm 5 rfl ?_; (try simp only [gkA, gkB, gkC, Act.put, gkD, gkE, gkF])
      refine gkm 6 rfl ?_; (try simp only [gkA, gkB, gkC, Act.put, gkD, gkE, gkF])
      refine gk8 1 11 rfl rfl (fun K hK => ?_) (fun K hK => ?_)
      · go_simp
        with_reducible refine (HCG.out _).mono ?_
        rintro r w7 ⟨rfl, hbv⟩; have HV := kH (bl_trans HW.out hbv)
        skip
        clear hbv HW; have HW := HV; clear HV; refine gk5 hK.out rfl (HW.out) (fun hHeld => ?_); clear hK K; refine gk8 7 11 rfl rfl (fun K hK => ?_) (fun K hK => ?_)
        · go_simp
          with_reducible refine (HEP.out _ HW.out).mono ?_
          rintro r w9 h9; obtain ⟨a1, n1, c1, a2, n2, c2, rfl, HU1, HU2, hbe⟩ := bkE h9; have HV := kH (bl_trans HW.out hbe)
          skip
          clear hbe HW h9; have HW := HV; clear HV; refine gk5 hK.out rfl (HW.out) (fun hHeld => ?_); clear hK K; refine gkm 8 rfl ?_; (try simp only [gkA, gkB, gkC, Act.put, gkD, gkE, gkF])
          refine gkm 9 rfl ?_; (try simp only [gkA, gkB, gkC, Act.put, gkD, gkE, gkF])
          refine gkm 10 rfl ?_; (try simp only [gkA, gkB, gkC, Act.put, gkD, gkE, gkF])
          refine gk3 11 rfl (fun K hK => ?_); go_simp; refine gk5 hK.out rfl (bl_alloc HW.out _) (fun hHeld => ?_); clear hK K; refine gk3 12 rfl (fun K hK => ?_); go_simp; refine gk5 hK.out rfl (bl_alloc HW.out _) (fun hHeld => ?_); clear hK K; refine gk3 13 rfl (fun K hK => ?_); go_simp; refine gk5 hK.out rfl (bl_alloc HW.out _) (fun hHeld => ?_); clear hK K; refine wpD_done (by kernel_rfl) ?_
          go_wp2_with (fail)
          go_meet; exact ⟨_, _, _, _, _, _, _, rfl, rfl, SR.mk_alloc HW.out HU1.out HU2.out⟩
        · go_simp; refine gk5 hK.out rfl (bl_alloc HW.out _) (fun hHeld => ?_); clear hK K; have HYB := hyb1 w7; have HV := kH (bl_alloc HW.out (.cells #[.slice none 0 0, .slice none 0 0] 70)); have hgy : wB.heap.size ≤ (w7).heap.size := HW.out.size; clear HW; have HW := HV; clear HV; generalize (w7).alloc (.cells #[.slice none 0 0, .slice none 0 0] 70) = wy at HYB HW hHeld ⊢; generalize (w7).heap.size = gy at HYB hgy ⊢; refine gk3 7 rfl (fun K hK => ?_); go_simp
          with_reducible refine (HEP.out _ HW.out).mono ?_
          rintro r w9 h9; obtain ⟨a1, n1, c1, a2, n2, c2, rfl, HU1, HU2, hbe⟩ := bkE h9; have HV := kH (bl_trans HW.out hbe); replace HYB := hys hbe HYB; clear hbe HW h9; have HW := HV; clear HV; refine gk5 hK.out rfl (HW.out) (fun hHeld => ?_); clear hK K; refine gkm 8 rfl ?_; (try simp only [gkA, gkB, gkC, Act.put, gkD, gkE, gkF])
          refine gkm 9 rfl ?_; (try simp only [gkA, gkB, gkC, Act.put, gkD, gkE, gkF])
          refine gkm 10 rfl ?_; (try simp only [gkA, gkB, gkC, Act.put, gkD, gkE, gkF])
          obtain ⟨y0, y1, yf⟩ := blk2 HYB.out; have hgl := lt_of_heap HYB.out; refine gk3 12 rfl (fun K hK => ?_); go_simp; refine gk5 hK.out rfl (bl_set (bl_set HW.out _ hgy) _ hgy) (fun hHeld => ?_); clear hK K; refine gk3 13 rfl (fun K hK => ?_); go_simp; refine gk5 hK.out rfl (bl_set (bl_set HW.out _ hgy) _ hgy) (fun hHeld => ?_); clear hK K; refine wpD_done (by kernel_rfl) ?_
          go_wp2_with (fail)
          go_meet; exact ⟨_, _, _, _, _, _, _, rfl, rfl, mks HW hgy HU1 HU2 HYB⟩
      · go_simp; refine gk5 hK.out rfl (bl_alloc HW.out _) (fun hHeld => ?_); clear hK K; have HYB := hyb0 wB; have HV := hv0 wB; have hgy : wB.heap.size ≤ wB.heap.size := Nat.le_refl _; clear HW; have HW := HV; clear HV; have hHeld : Below wB.heap.size wB (wB.alloc (.cells #[.slice none 0 0, .slice none 0 0] 70)).drew := HW.out; generalize (wB.alloc (.cells #[.slice none 0 0, .slice none 0 0] 70)).drew = wy at HYB HW hHeld ⊢; refine gk3 1 rfl (fun K hK => ?_); go_simp
        with_reducible refine (HCG.out _).mono ?_
        rintro r w7 ⟨rfl, hbv⟩; have HV := kH (bl_trans HW.out hbv); replace HYB := hys hbv HYB; clear hbv HW; have HW := HV; clear HV; refine gk5 hK.out rfl (HW.out) (fun hHeld => ?_); clear hK K; refine gk3 7 rfl (fun K hK => ?_); go_simp
        with_reducible refine (HEP.out _ HW.out).mono ?_
        rintro r w9 h9; obtain ⟨a1, n1, c1, a2, n2, c2, rfl, HU1, HU2, hbe⟩ := bkE h9; have HV := kH (bl_trans HW.out hbe); replace HYB := hys hbe HYB; clear hbe HW h9; have HW := HV; clear HV; refine gk5 hK.out rfl (HW.out) (fun hHeld => ?_); clear hK K; refine gkm 8 rfl ?_; (try simp only [gkA, gkB, gkC, Act.put, gkD, gkE, gkF])
        refine gkm 9 rfl ?_; (try simp only [gkA, gkB, gkC, Act.put, gkD, gkE, gkF])
        refine gkm 10 rfl ?_; (try simp only [gkA, gkB, gkC, Act.put, gkD, gkE, gkF])
        obtain ⟨y0, y1, yf⟩ := blk2 HYB.out; have hgl := lt_of_heap HYB.out; refine gk3 12 rfl (fun K hK => ?_); go_simp; refine gk5 hK.out rfl (bl_set (bl_set HW.out _ hgy) _ hgy) (fun hHeld => ?_); clear hK K; refine gk3 13 rfl (fun K hK => ?_); go_simp; refine gk5 hK.out rfl (bl_set (bl_set HW.out _ hgy) _ hgy) (fun hHeld => ?_); clear hK K; refine wpD_done (by kernel_rfl) ?_
        go_wp2_with (fail)
        go_meet; exact ⟨_, _, _, _, _, _, _, rfl, rfl, mks HW hgy HU1 HU2 HYB⟩
     case rest =>
      obtain ⟨g2, a3, n3, c3, a4, n4, c4, rfl, rfl, hsr⟩ := hcut; have HQ1 := kH (HQ.out.step hsr.b); have HQ2 := kH hsr; have HBd := kH (HBc.out.step hsr.b); have HSM := kH (bsame_any e9 d9 _ _ _ _ wc HQ1.out.se HQ1.out.sd HQ2.out.se HQ2.out.sd); obtain ⟨y0, y1, -⟩ := blk2 HQ1.out.g; obtain ⟨x0, x1, -⟩ := blk2 HQ2.out.g; clear hsr HLC HCG HEP HLB HW; have hzz := HZZ.out; subst hzz
      go_wp2_with (fail)
      with_reducible refine HSM.out.mono ?_
      clear HSM y0 y1 x0 x1; rintro r w8 ⟨rfl, hb8⟩; have HBX3 := kH (bl_trans HBd.out.b hb8); have HQ3 := kH (HQ1.out.step hb8); obtain ⟨y0, y1, -⟩ := blk2 HQ3.out.g
      have hn2 : (n2 : Int) = (l.length : Int) := by
       obtain ⟨_, _, _, _, e, -⟩ := id HQ3.out.sd
       injection e with e1 e2 e3
       rw [e2, HDL.out]
      clear hb8; have HAW := kH (awake_any _ (HF.out.step HBX3.out))
      go_wp2_with (fail)
      with_reducible refine HAW.out.mono ?_
      clear HAW; rintro r wz ⟨rfl, hbz⟩; have HBZ := kH (bl_trans HBX3.out hbz); clear hbz; go_wp2; go_ret; exact ⟨rfl, HBZ.out⟩
end Go.Proofs.YtifcelebfagjbaaGreatDoor
