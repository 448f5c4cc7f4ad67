/-
  Layer proofs, merged: PoSn PoRu PoRv.
-/
import Derived.Test.YtifcelebfagjbaaGreatDoorMgM
import Derived.Test.YtifcelebfagjbaaGreatDoorMgO
import Derived.Test.YtifcelebfagjbaaGreatDoorMgQ
import Derived.Test.YtifcelebfagjbaaGreatDoorMgP
namespace Go.Proofs.YtifcelebfagjbaaGreatDoor
open Go.RowKit Go.Tw Go.Tw.Ord Go.Tw.Po Go.Sort
set_option maxRecDepth 100000 in
set_option maxHeartbeats 8000000 in
theorem syncR_any (L : List Chg) (N : Nat) (c : List Acc) (A : Array Value) (va ve vd vl : Value) (es : List Ent) (ds l : List Chg) (tm : Int) (w : World) (hA : CfgA A va) (hc : SlIs (tAcc 138) (· < w.heap.size) w va c) (hk : CfOk c) (hb : BOk L N ⟨es, ds⟩) (hN : N ≤ 880)
  (he : SlIs (tEnt 101) (· < w.heap.size) w ve es) (hd : SlIs (tChg eL) (· < w.heap.size) w vd ds) (hl : SlIs (tChg eL) (· < w.heap.size) w vl l) (hlL : ∀ x ∈ l, x ∈ L) (hl8 : l.length ≤ 8) (hlo : ∀ x ∈ l, ChgOk x) (htm : i64ok tm) :
  Calls Tryz.prog 43 #[.agg A, .agg #[ve, vd], vl, .int .i64 tm] w (BookR (fun _ => True) w (syncP c ⟨es, ds⟩ l tm)) := by
 have h0 := alloc3 w (.cells A 46) (.cells #[ve, vd] 70) (.cells #[.slice none 0 0, .slice none 0 0] 70); have HY := Lib.hid (show VW w.heap.size A ve vd _ from ⟨h0.1, h0.2.1, h0.2.2⟩); have HB0 := Lib.hid (bl_alloc (bl_alloc (bl_alloc (Below.refl w.heap.size w) (.cells A 46)) (.cells #[ve, vd] 70)) (.cells #[.slice none 0 0, .slice none 0 0] 70)); have HSO := Lib.hid (sort31_any l vl _ (hl.step HB0.out) (by omega) (fun x hx => by have := (hb.ok x (hlL x hx)).ls; omega)); obtain ⟨ae, ce, _, _, rfl, -⟩ := id he; obtain ⟨ad, cd, _, _, rfl, -⟩ := id hd; obtain ⟨al, cl, _, _, rfl, -⟩ := id hl; have HA := Lib.hid hA; have HC := Lib.hid hc; have HK := Lib.hid hk; have HE := Lib.hid (he.keep (S' := fun k => True ∧ k < w.heap.size) (fun _ h => ⟨trivial, h⟩) (SameOn.refl _ _)); have HD := Lib.hid (hd.keep (S' := fun k => True ∧ k < w.heap.size) (fun _ h => ⟨trivial, h⟩) (SameOn.refl _ _)); have HBK := Lib.hid hb; have HTM := Lib.hid htm; have HLL := Lib.hid hlL; have HLC := Lib.hid hlo; clear hA hc hk h0 he hd hb htm hl hlL hlo
 go_enter Tryz.func43, Tryz.ntmps43
 go_wp2_with (fail)
 with_reducible refine HSO.out.mono ?_
 clear HSO; rintro r w1 ⟨⟨v1, rfl, m, hp, hs, hsl⟩, hb1⟩; have HP := Lib.hid hp; have HSR := Lib.hid hs; have HM := Lib.hid hsl; have HY1 := Lib.hid (HY.out.step hb1 (lt_of_heap HY.out.b2)); have HB1 := Lib.hid (bl_trans HB0.out hb1); have HML := Lib.hid (show m.length = l.length from hp.length_eq); have hm8 : m.length ≤ 8 := by rw [hp.length_eq]; exact hl8
 obtain ⟨am, cm, bm, om, rfl, -, hcm, hom⟩ := chg_open hsl; have HOM := Lib.hid hom; unfold maxLen at hcm; clear hp hs hsl hb1 hom HY HB0; go_wp2
 go_loopg [11] m.length (fun g i wr => ∃ k : Nat, k + g = m.length ∧ i = .int .i64 k ∧ Hid ((keysC (m.take k)).Nodup) ∧ Hid (Below w1.heap.size w1 wr))
 case atStart => exact ⟨0, by omega, rfl, Lib.hid List.nodup_nil, Lib.hid (Below.refl _ _)⟩
 case round =>
  obtain ⟨k, hk, rfl, HNO, HBW⟩ := hrel
  by_cases hlt : k < m.length
  · have k0 : (0 : Int) ≤ (k : Int) := by omega
    have k1 : (k : Int) < (m.length : Int) := by omega
    have HKD := Lib.hid (keys_dup hlt); have HKN := Lib.hid (keys_new hlt HNO.out); obtain ⟨wk, rfl⟩ : ∃ wk : World, wk = wr := ⟨_, rfl⟩; go_wp2
    go_loopg [12] k (fun g i wr => ∃ j : Nat, j + g = k ∧ i = .int .i64 j ∧ Hid (hasS (keysC (m.take j)) m[k].key = false) ∧ Hid (Below wk.heap.size wk wr))
    case atStart => exact ⟨0, by omega, rfl, Lib.hid (by simp [hasS_no, keysC]), Lib.hid (Below.refl _ _)⟩
    case round =>
     obtain ⟨j, hj, rfl, HJ, HBV⟩ := hrel; have HWV := Lib.hid (bl_trans HBW.out HBV.out)
     by_cases hlt2 : j < k
     · have hje : j < m.length := by omega
       obtain ⟨-, -, -, -, -, -, f0, -⟩ := HOM.out wr (.of_below HWV.out) k hlt; obtain ⟨hao, -, hbi, -, -, -, e0, -⟩ := HOM.out wr (.of_below HWV.out) j hje; have HTJ := Lib.hid (keys_take hje)
       have HMJ := Lib.hid (show m[j].key = m[k].key → hasS (keysC (m.take k)) m[k].key = true from fun e => hasS_iff.2 (by
        rw [← e]; unfold keysC; refine List.mem_map.2 ⟨m[j], ?_, rfl⟩; rw [List.mem_take_iff_getElem]
        exact ⟨j, by omega, rfl⟩))
       subst hao; have j0 : (0 : Int) ≤ (j : Int) := by omega
       have j1 : (j : Int) < (m.length : Int) := by omega
       have j2 : (j : Int) < (k : Int) := by omega
       generalize m[j].key = kj at e0 HTJ HMJ; generalize m[k].key = kk at *; obtain ⟨q, hq⟩ : ∃ q, (kj.toList == kk.toList) = q := ⟨_, rfl⟩; have HQ := Lib.hid (show decide (kj = kk) = q by rw [← hq, eq_str])
       cases q with
       | true =>
        have HDU := HKD.out (HMJ.out (by simpa using HQ.out)); have HR := Lib.hid (sy_dup (c := c) (b := ⟨es, ds⟩) (t := tm) (l := l) fun hn => HDU ((HP.out.map Chg.key).nodup_iff.2 hn)); clear HDU
        go_upto_region 9 with (go_quiet (fail))
        have HYX := Lib.hid (HY1.out.step (bl_drewN HWV.out nq) (lt_of_heap HY1.out.b2)); have HBX := Lib.hid (bl_trans HB1.out (bl_drewN HWV.out nq)); generalize wr.drewN nq = wx at HYX HBX ⊢; obtain ⟨c0, c1, -⟩ := blk2 HYX.out.b1; obtain ⟨f0, f1, ff⟩ := blk2 HYX.out.b2; have f0' : wx.cell? ⟨w.heap.size + 1 + 1, 0, none⟩ = some (.slice none 0 0) := f0; have f1' : wx.cell? ⟨w.heap.size + 1 + 1, 1, none⟩ = some (.slice none 0 0) := f1; have ff' : ∀ j, wx.frozen? ⟨w.heap.size + 1 + 1, j, none⟩ = false := ff; have hlb := lt_of_heap HYX.out.b2; clear f0 f1 ff; go_wp2; have g5 : ((wx.setCell ⟨w.heap.size + 1 + 1, 0, none⟩ (.slice ae es.length ce)).setCell ⟨w.heap.size + 1 + 1, 1, none⟩ (.slice ad ds.length cd)).heap[w.heap.size + 1 + 1]? = some (.cells #[(.slice ae es.length ce), (.slice ad ds.length cd)] 70 (0, 0)) := heap_setCell_same _ _ _ _ _ _ (heap_setCell_same _ _ _ _ _ _ HYX.out.b2); have b5 : Below w.heap.size w ((wx.setCell ⟨w.heap.size + 1 + 1, 0, none⟩ (.slice ae es.length ce)).setCell ⟨w.heap.size + 1 + 1, 1, none⟩ (.slice ad ds.length cd)) := bl_set (bl_set HBX.out _ (by simp only; omega)) _ (by simp only; omega); obtain ⟨k0, k1, -⟩ := blk2 g5; generalize (wx.setCell ⟨w.heap.size + 1 + 1, 0, none⟩ (.slice ae es.length ce)).setCell ⟨w.heap.size + 1 + 1, 1, none⟩ (.slice ad ds.length cd) = w9 at *; refine bodyPost_ret (v := .tuple #[.agg #[(.slice ae es.length ce), (.slice ad ds.length cd)], .int .i64 9]) (by simp [results, Tryz.results43, go_sem, k0, k1]) rfl ?_; rw [HR.out]; exact BookR.old HE.out HD.out b5
       | false =>
        have HJ2 := Lib.hid (show hasS (keysC (m.take (j + 1))) kk = false from by
         rw [HTJ.out, hasS_no, List.mem_append, List.mem_singleton]; rintro (h | h)
         · exact (hasS_no.1 HJ.out) h
         · have := HQ.out; rw [h] at this; simp at this)
        go_wp2_with (go_quiet (fail))
        go_roundg (k - (j + 1))
        case measure => omega
        case rel => exact ⟨j + 1, by omega, by go_num, HJ2, Lib.hid (bl_drewN HBV.out _)⟩
     · have hjd : decide ((j : Int) < (k : Int)) = false := by simp; omega
       obtain rfl : j = k := by omega
       have HN2 := Lib.hid (HKN.out HJ.out); have HBO := Lib.hid (bl_trans HBW.out HBV.out); go_wp2
       go_roundg (m.length - (j + 1))
       case measure => omega
       case rel => exact ⟨j + 1, by omega, by go_num, HN2, HBO⟩
  · have hkd : decide ((k : Int) < (m.length : Int)) = false := by simp; omega
    rw [show m.take k = m from List.take_of_length_le (by omega)] at HNO; have HYW := Lib.hid (HY1.out.step HBW.out (lt_of_heap HY1.out.b2)); have HWW := Lib.hid (bl_trans HB1.out HBW.out); have HMW := Lib.hid (HM.out.step HBW.out); have HMs := Lib.hid (show m = sortC l from sort_uniq ((HP.out.map Chg.key).nodup_iff.1 HNO.out) HP.out HSR.out); have HNL := Lib.hid ((HP.out.map Chg.key).nodup_iff.1 HNO.out)
    have HMP := Lib.hid (show ∀ x ∈ m, x ∈ L ∧ ChgOk x from fun x hx => by
     have h1 : x ∈ l := HP.out.mem_iff.1 hx
     exact ⟨HLL.out x h1, HLC.out x h1⟩)
    have HRA := Lib.hid (show runA c ⟨es, ds⟩ (sortC l) = runA c ⟨es, ds⟩ m by rw [HMs.out]); clear HY1 HB1 HBW HNO HM HOM HSR HMs; obtain ⟨d0, d1, -⟩ := blk2 HYW.out.b1
    go_upto_region 11 with (fail)
    have HAl := bl_alloc (Below.refl wr.heap.size wr) (.cells #[.slice ae es.length ce, .slice ad ds.length cd] 70)
    have HSY := Lib.hid (show SnR w A (.slice ae es.length ce) (.slice ad ds.length cd) wr.heap.size (.slice ae es.length ce) (.slice ad ds.length cd) ⟨es, ds⟩ (wr.alloc (.cells #[.slice ae es.length ce, .slice ad ds.length cd] 70)) from by
     have hz := HWW.out.size; have hl2 := lt_of_heap HYW.out.b2; have hb := bl_alloc HWW.out (.cells #[.slice ae es.length ce, .slice ad ds.length cd] 70)
     exact ⟨HYW.out.step HAl hl2, heap_alloc_new _ _, HE.out.keep (fun q hq => ⟨Nat.lt_of_lt_of_le hq.2 hb.size, by have := hq.2; omega⟩) (fun q hq => hb.block q hq.2), HD.out.keep (fun q hq => ⟨Nat.lt_of_lt_of_le hq.2 hb.size, by have := hq.2; omega⟩) (fun q hq => hb.block q hq.2), hb, hl2⟩)
    have HMX := Lib.hid (HMW.out.step HAl); clear HAl HYW HWW HMW d0 d1; generalize wr.alloc (.cells #[.slice ae es.length ce, .slice ad ds.length cd] 70) = wy at HSY HMX ⊢; generalize wr.heap.size = bx at HSY ⊢; go_wp2
    go_loopg [14] m.length (fun g i wr => ∃ (j : Nat) (b : Bk) (vE vD : Value), j + g = m.length ∧ i = .int .i64 j ∧ Hid (runA c ⟨es, ds⟩ m = runA c b (m.drop j)) ∧ Hid (BOk L (N + j) b) ∧ Hid (SnR w A (.slice ae es.length ce) (.slice ad ds.length cd) bx vE vD b wr) ∧ Hid (SlIs (tChg eL) (· < wr.heap.size) wr (.slice am m.length cm) m))
    case atStart => exact ⟨0, _, _, _, by omega, rfl, Lib.hid rfl, HBK, HSY, HMX⟩
    case round =>
     obtain ⟨j, ⟨eb, db⟩, vE, vD, hj, rfl, HRU, HBO, HSW, HMV⟩ := hrel; obtain ⟨aE, nE, cE, rfl⟩ := ent_sl HSW.out.se; obtain ⟨aD, nD, cD, rfl⟩ := chg_sl HSW.out.sd
     by_cases hlt2 : j < m.length
     · obtain ⟨am2, cm2, bm2, om2, hvm, -, -, hom2⟩ := chg_open HMV.out
       injection hvm with q1 q2 q3
       subst q1 q3; have HOM2 := Lib.hid hom2; obtain ⟨rfl, -, hbi, hok, hv, hsl, d0, d1, d2, d3, d4, d5, d6⟩ := hom2 wr (SameOn.refl _ _) j hlt2; have j0 : (0 : Int) ≤ (j : Int) := by omega
       have j1 : (j : Int) < (m.length : Int) := by omega
       obtain ⟨hva, hvn, hvc, hve⟩ : ∃ a n c, hv = .slice a n c := by
        obtain ⟨a, c, _, _, e, -⟩ := hsl; exact ⟨a, _, c, e⟩
       subst hve; have HYL := Lib.hid (HMP.out _ (List.getElem_mem hlt2)); have HST := Lib.hid (runA_step (c := c) (b := ⟨eb, db⟩) hlt2)
       have HLY := Lib.hid (show ∀ w', Below wr.heap.size wr w' → w'.cell? ⟨bm2, om2 + j * 7, none⟩ = some (.string m[j].key) ∧ w'.cell? ⟨bm2, om2 + j * 7 + 1, none⟩ = some (.string m[j].veh) ∧ w'.cell? ⟨bm2, om2 + j * 7 + 2, none⟩ = some (.string m[j].sys) ∧ w'.cell? ⟨bm2, om2 + j * 7 + 3, none⟩ = some (.int .i64 m[j].cls) ∧ w'.cell? ⟨bm2, om2 + j * 7 + 4, none⟩ = some (.int .i64 m[j].tm) ∧ w'.cell? ⟨bm2, om2 + j * 7 + 5, none⟩ = some (.slice hva hvn hvc) ∧ w'.cell? ⟨bm2, om2 + j * 7 + 6, none⟩ = some (.int .i64 m[j].c) from fun w' h =>
        ⟨(h.cell hbi).trans d0, (h.cell hbi).trans d1, (h.cell hbi).trans d2, (h.cell hbi).trans d3, (h.cell hbi).trans d4, (h.cell hbi).trans d5, (h.cell hbi).trans d6⟩)
       generalize m[j] = y at *; have HBY := Lib.hid (HBO.out.apply (c := c) (by omega) HYL.out.1); obtain ⟨⟨⟨e9, d9⟩, z⟩, hr⟩ : ∃ r, applyP c ⟨eb, db⟩ y = r := ⟨_, rfl⟩; rw [hr] at HST HBY; have HSL := Lib.hid hsl
       have HAP := Lib.hid (show ∀ W', Below wr.heap.size wr W' → Calls Tryz.prog 41 #[.agg A, .agg #[.slice aE nE cE, .slice aD nD cD], .agg #[.string y.key, .string y.veh, .string y.sys, .int .i64 y.cls, .int .i64 y.tm, .slice hva hvn hvc, .int .i64 y.c]] W' (BookR (fun _ => True) W' (⟨e9, d9⟩, z)) from fun W' h => by
        rw [← hr]; have hS := HSW.out.step h
        exact applyR_any (fun _ => True) L (N + j) c A va _ _ _ eb db y W' (fun _ _ => trivial) HA.out (HC.out.step hS.bl) HK.out HBO.out (by omega) (HBO.out.ok _ HYL.out.1) (hS.se.keep (fun _ h => ⟨trivial, h.1⟩) (SameOn.refl _ _)) (hS.sd.keep (fun _ h => ⟨trivial, h.1⟩) (SameOn.refl _ _)) HYL.out.2 (HSL.out.keep (fun q hq => ⟨trivial, Nat.lt_of_lt_of_le hq h.size⟩) (fun q hq => h.block q hq)))
       have HLC := Lib.hid (show ∀ w', Below wr.heap.size wr w' → Sem.run Tryz.prog (loadCellsFrom ⟨w.heap.size, 0, none⟩ 0 25 #[]) w' = .ok A w' from fun w' h => load_blk (HSW.out.step h).y.b0 HA.out.size _); have HLB := Lib.hid (show ∀ w', Below wr.heap.size wr w' → w'.cell? ⟨bx, 0, none⟩ = some (.slice aE nE cE) ∧ w'.cell? ⟨bx, 1, none⟩ = some (.slice aD nD cD) from fun w' h => ⟨(blk2 (HSW.out.step h).bb).1, (blk2 (HSW.out.step h).bb).2.1⟩); clear hsl hok hom2 HOM2 d0 d1 d2 d3 d4 d5 d6 hr; obtain ⟨wB, hwB⟩ : ∃ wB, wB = wr := ⟨_, rfl⟩; subst hwB; have HW := Lib.hid (Below.drew (Below.refl wB.heap.size wB))
       go_upto_region 14 with (fail)
       go_cut [15, 16] (fun yv fv wx => ∃ (gy : Nat) (a1 : Option Addr) (n1 c1 : Nat) (a2 : Option Addr) (n2 c2 : Nat), yv = .pointer (some ⟨gy, 0, none⟩) ∧ fv = .int .i64 z ∧ SR wB gy (.slice a1 n1 c1) (.slice a2 n2 c2) ⟨e9, d9⟩ wx)
       case first =>
        refine wp_region_D (fun j => if j < 13 then 0 else if j < 13 then 1 else 2) (fun w' => Below wB.heap.size wB w') (by kernel_rfl) (HW.out) (fun hHeld => ?_); refine gk1 0 (v := ?_) rfl ?_ ?_
        rotate_left; focus (intro w9 hS9; refine exec_loadA (t := 46) (x := Operand.tmp 4) (p := ⟨w.heap.size, 0, none⟩) (A := A) ?_ Tryz.isAgg46 Tryz.sizeOf46 ?_ (HLC.out w9 hS9); rfl; rfl); (try simp only [gkA, gkB, gkC, Act.put, gkD, gkE, gkF])
        refine gk1 1 (v := ?_) rfl ?_ ?_
        rotate_left; focus (intro w9 hS9; obtain ⟨z0, z1⟩ := HLB.out w9 hS9; clear hS9; go_simp; (try with_reducible rfl)); (try simp only [gkA, gkB, gkC, Act.put, gkD, gkE, gkF])
        refine gk1 2 (v := ?_) rfl ?_ ?_
        rotate_left; focus (intro w9 hS9; clear hS9; go_simp; (try with_reducible rfl)); (try simp only [gkA, gkB, gkC, Act.put, gkD, gkE, gkF])
        refine gk1 3 (v := ?_) rfl ?_ ?_
        rotate_left; focus (intro w9 hS9; clear hS9; go_simp; (try with_reducible rfl)); (try simp only [gkA, gkB, gkC, Act.put, gkD, gkE, gkF])
        refine gk1 4 (v := ?_) rfl ?_ ?_
        rotate_left; focus (intro w9 hS9; clear hS9; go_simp; (try with_reducible rfl)); (try simp only [gkA, gkB, gkC, Act.put, gkD, gkE, gkF])
        refine gk1 5 (v := ?_) rfl ?_ ?_
        rotate_left; focus (intro w9 hS9; obtain ⟨q0, q1, q2, q3, q4, q5, q6⟩ := HLY.out w9 hS9; clear hS9; go_simp; (try with_reducible rfl)); (try simp only [gkA, gkB, gkC, Act.put, gkD, gkE, gkF])
        refine wpD_ready (rs := [6, 10]) (by kernel_rfl) (by kernel_rfl) ?_; refine AllReadyD.cons rfl (fun K hK => ?_) (AllReadyD.cons rfl (fun K hK => ?_) AllReadyD.nil)
        · rw [if_pos (show _ = true by kernel_rfl)]
          go_simp
          with_reducible refine (HAP.out _ HW.out).mono ?_
          rintro r w9 ⟨u1, u2, rfl, hu1, hu2, hbe⟩; obtain ⟨a1, n1, c1, rfl⟩ := ent_sl hu1; obtain ⟨a2, n2, c2, rfl⟩ := chg_sl hu2; have HU1 := Lib.hid (hu1.keep (S' := (· < w9.heap.size)) (fun _ h => h.2) (SameOn.refl _ _)); have HU2 := Lib.hid (hu2.keep (S' := (· < w9.heap.size)) (fun _ h => h.2) (SameOn.refl _ _)); have HV := Lib.hid (bl_trans HW.out hbe)
          skip
          clear hbe HW hu1 hu2; have HW := HV; clear HV; clear hHeld; refine gk5 hK.out rfl (HW.out) (fun hHeld => ?_); clear hK K; refine gk1 7 (v := ?_) rfl ?_ ?_
          rotate_left; focus (intro w9 hS9; clear hS9; go_simp; (try with_reducible rfl)); (try simp only [gkA, gkB, gkC, Act.put, gkD, gkE, gkF])
          refine gk1 8 (v := ?_) rfl ?_ ?_
          rotate_left; focus (intro w9 hS9; clear hS9; go_simp; (try with_reducible rfl)); (try simp only [gkA, gkB, gkC, Act.put, gkD, gkE, gkF])
          refine gk1 9 (v := ?_) rfl ?_ ?_
          rotate_left; focus (intro w9 hS9; clear hS9; go_simp; (try with_reducible rfl)); (try simp only [gkA, gkB, gkC, Act.put, gkD, gkE, gkF])
          refine gk3 10 rfl (fun K hK => ?_); go_simp; clear hHeld; refine gk5 hK.out rfl (bl_alloc HW.out _) (fun hHeld => ?_); clear hK K; refine gk3 11 rfl (fun K hK => ?_); go_simp; clear hHeld; refine gk5 hK.out rfl (bl_alloc HW.out _) (fun hHeld => ?_); clear hK K; refine gk3 12 rfl (fun K hK => ?_); go_simp; clear hHeld; refine gk5 hK.out rfl (bl_alloc HW.out _) (fun hHeld => ?_); clear hK K; refine wpD_done (by kernel_rfl) ?_
          go_wp2_with (fail)
          go_meet; exact ⟨_, _, _, _, _, _, _, rfl, rfl, SR.mk_alloc HW.out HU1.out HU2.out⟩
        · rw [if_pos (show _ = true by kernel_rfl)]
          go_simp; clear hHeld; refine gk5 hK.out rfl (bl_alloc HW.out _) (fun hHeld => ?_); clear hK K; have HYB := Lib.hid (show BB wB.heap.size (.slice none 0 0) (.slice none 0 0) (wB.alloc (.cells #[.slice none 0 0, .slice none 0 0] 70)).drew from heap_alloc_new wB (.cells #[.slice none 0 0, .slice none 0 0] 70)); have HV := Lib.hid (Below.drew (bl_alloc (Below.refl wB.heap.size wB) (.cells #[.slice none 0 0, .slice none 0 0] 70))); have hgy : wB.heap.size ≤ wB.heap.size := Nat.le_refl _; clear HW; have HW := HV; clear HV; have hHeld : Below wB.heap.size wB (wB.alloc (.cells #[.slice none 0 0, .slice none 0 0] 70)).drew := HW.out; generalize (wB.alloc (.cells #[.slice none 0 0, .slice none 0 0] 70)).drew = wy at HYB HW hHeld ⊢; refine gk3 6 rfl (fun K hK => ?_); go_simp
          with_reducible refine (HAP.out _ HW.out).mono ?_
          rintro r w9 ⟨u1, u2, rfl, hu1, hu2, hbe⟩; obtain ⟨a1, n1, c1, rfl⟩ := ent_sl hu1; obtain ⟨a2, n2, c2, rfl⟩ := chg_sl hu2; have HU1 := Lib.hid (hu1.keep (S' := (· < w9.heap.size)) (fun _ h => h.2) (SameOn.refl _ _)); have HU2 := Lib.hid (hu2.keep (S' := (· < w9.heap.size)) (fun _ h => h.2) (SameOn.refl _ _)); have HV := Lib.hid (bl_trans HW.out hbe); have hgq := lt_of_heap HYB.out; have HYC := Lib.hid ((hbe.block _ hgq).trans HYB.out); clear HYB; have HYB := HYC; clear HYC; clear hbe HW hu1 hu2; have HW := HV; clear HV; clear hHeld; refine gk5 hK.out rfl (HW.out) (fun hHeld => ?_); clear hK K; refine gk1 7 (v := ?_) rfl ?_ ?_
          rotate_left; focus (intro w9 hS9; clear hS9; go_simp; (try with_reducible rfl)); (try simp only [gkA, gkB, gkC, Act.put, gkD, gkE, gkF])
          refine gk1 8 (v := ?_) rfl ?_ ?_
          rotate_left; focus (intro w9 hS9; clear hS9; go_simp; (try with_reducible rfl)); (try simp only [gkA, gkB, gkC, Act.put, gkD, gkE, gkF])
          refine gk1 9 (v := ?_) rfl ?_ ?_
          rotate_left; focus (intro w9 hS9; clear hS9; go_simp; (try with_reducible rfl)); (try simp only [gkA, gkB, gkC, Act.put, gkD, gkE, gkF])
          obtain ⟨y0, y1, yf⟩ := blk2 HYB.out; have hgl := lt_of_heap HYB.out; refine gk3 11 rfl (fun K hK => ?_); go_simp; clear hHeld; refine gk5 hK.out rfl (bl_set (bl_set HW.out _ hgy) _ hgy) (fun hHeld => ?_); clear hK K; refine gk3 12 rfl (fun K hK => ?_); go_simp; clear hHeld; refine gk5 hK.out rfl (bl_set (bl_set HW.out _ hgy) _ hgy) (fun hHeld => ?_); clear hK K; refine wpD_done (by kernel_rfl) ?_
          go_wp2_with (fail)
          go_meet; exact ⟨_, _, _, _, _, _, _, rfl, rfl, SR.mk_set HW.out hgy ⟨_, _, _, rfl⟩ ⟨_, _, _, rfl⟩ HU1.out HU2.out HYB.out⟩
       case rest =>
        obtain ⟨g1, a1, n1, c1, a2, n2, c2, rfl, rfl, hsr⟩ := hcut; have HS2 := Lib.hid (HSW.out.step hsr.b); have HQ2 := Lib.hid hsr; have HMV2 := Lib.hid (HMV.out.step hsr.b); clear hsr HLC HLB HLY HAP HW HSL
        by_cases hz : z = 0
        case neg =>
         have hz1 : (z != 0) = true := by simpa using hz
         have hru := HRU.out.trans (HST.out.trans (if_pos hz))
         have HR := Lib.hid (show syncP c ⟨es, ds⟩ l tm = (⟨es, ds⟩, z) from by
          have h1 := HRA.out.trans hru
          rw [sy_a HNL.out (by rw [h1]; exact hz), h1])
         have hl9 := lt_of_heap HS2.out.y.b2; obtain ⟨q0, q1, -⟩ := blk2 HS2.out.y.b1; obtain ⟨f0, f1, ff⟩ := blk2 HS2.out.y.b2; have f0' : wc.cell? ⟨w.heap.size + 1 + 1, 0, none⟩ = some (.slice none 0 0) := f0; have f1' : wc.cell? ⟨w.heap.size + 1 + 1, 1, none⟩ = some (.slice none 0 0) := f1; have ff' : ∀ j, wc.frozen? ⟨w.heap.size + 1 + 1, j, none⟩ = false := ff; have HY9 := Lib.hid HS2.out.y; have HB9 := Lib.hid HS2.out.bl; clear f0 f1 ff hz hru; go_wp2; have g5 : ((wc.setCell ⟨w.heap.size + 1 + 1, 0, none⟩ (.slice ae es.length ce)).setCell ⟨w.heap.size + 1 + 1, 1, none⟩ (.slice ad ds.length cd)).heap[w.heap.size + 1 + 1]? = some (.cells #[(.slice ae es.length ce), (.slice ad ds.length cd)] 70 (0, 0)) := heap_setCell_same _ _ _ _ _ _ (heap_setCell_same _ _ _ _ _ _ HY9.out.b2); have b5 : Below w.heap.size w ((wc.setCell ⟨w.heap.size + 1 + 1, 0, none⟩ (.slice ae es.length ce)).setCell ⟨w.heap.size + 1 + 1, 1, none⟩ (.slice ad ds.length cd)) := bl_set (bl_set HB9.out _ (by simp only; omega)) _ (by simp only; omega); obtain ⟨k0, k1, -⟩ := blk2 g5; generalize (wc.setCell ⟨w.heap.size + 1 + 1, 0, none⟩ (.slice ae es.length ce)).setCell ⟨w.heap.size + 1 + 1, 1, none⟩ (.slice ad ds.length cd) = w9 at *; refine bodyPost_ret (v := .tuple #[.agg #[(.slice ae es.length ce), (.slice ad ds.length cd)], .int .i64 z]) (by simp [results, Tryz.results43, go_sem, k0, k1]) rfl ?_; rw [HR.out]; exact BookR.old HE.out HD.out b5
        subst hz; have HPT := Lib.hid (HS2.out.put HQ2.out.se HQ2.out.sd); have HMK := Lib.hid (chg_kept (u1 := .slice a1 n1 c1) (u2 := .slice a2 n2 c2) HS2.out HMV2.out); obtain ⟨q0, q1, qf⟩ := blk2 HS2.out.bb; obtain ⟨y0, y1, -⟩ := blk2 HQ2.out.g; have hlb := lt_of_heap HS2.out.bb; go_wp2
        go_roundg (m.length - (j + 1))
        case measure => omega
        case rel => exact ⟨j + 1, ⟨e9, d9⟩, _, _, by omega, by go_num, Lib.hid (HRU.out.trans (HST.out.trans (if_neg (by simp)))), HBY, HPT, HMK⟩
     · have hjd : decide ((j : Int) < (m.length : Int)) = false := by simp; omega
       have HRB := Lib.hid (show runA c ⟨es, ds⟩ (sortC l) = (⟨eb, db⟩, 0) from by rw [HRA.out, HRU.out, List.drop_eq_nil_of_le (by omega), runA]); have hd8 := HBO.out.ds; simp only at hd8
       go_upto_region 18 with (fail)
       have o0 : OwnSl (tChg eL) 49 wr.heap.size (wr.alloc (.cells #[] 49)) (.slice (some ⟨wr.heap.size, 0, none⟩) 0 0) [] := OwnSl.lit (css := []) rfl trivial (Nat.le_refl _) (by decide); have HA0 := Lib.hid (bl_alloc (Below.refl wr.heap.size wr) (.cells #[] 49)); have HO0 := Lib.hid o0; have HDN := Lib.hid (HSW.out.sd.keep (S' := (· < wr.heap.size)) (fun _ h => h.1) (fun q hq => HA0.out.block q hq.1)); have hb1 : (([] : List Chg).length + db.length) * 96 ≤ 140737488355328 := by simp; omega
       have hb2 : ([] : List Chg).length + db.length ≤ maxLen := by unfold maxLen; simp; omega
       obtain ⟨e0, e1, -⟩ := blk2 (HSW.out.step HA0.out).bb; have HRM := Lib.hid (show runV c tm ⟨eb, db⟩ (goneK db l) = runV c tm ⟨eb, db⟩ (goneK (db.drop 0) l) from rfl); clear o0
       go_upto_region 19 with (first
        | (at_builtin
           refine wpList_append_old (.tmp 70) (.tmp 72) rfl 52 rfl slChg rfl HO0.out rfl HDN.out hb1 hb2 HA0.out.size ?_; intro v5 w5 ho5 hg5 hb5; have HO5 := Lib.hid (show SlIs (tChg eL) (· < w5.heap.size) w5 v5 db from ho5.sl); have HB5 := Lib.hid (HA0.out.trans hb5)
           clear ho5 hg5 hb5 e0 e1)
        | fail)
       have HSV := Lib.hid (HSW.out.step HB5.out); have HMV5 := Lib.hid (HMV.out.step HB5.out); obtain ⟨a5, n5, c5, rfl⟩ := chg_sl HO5.out; obtain ⟨q1, q2, q3, q4, hv5, -⟩ := id HO5.out
       injection hv5 with r1 r2 r3
       subst r1 r2 r3; clear HA0 HO0 HDN hb1 hb2 HB5 HSW HMV HRU; go_wp2
       go_loopg [18] db.length (fun g i wr => ∃ (q : Nat) (b : Bk) (vE vD : Value), q + g = db.length ∧ i = .int .i64 q ∧ Hid (runV c tm ⟨eb, db⟩ (goneK db l) = runV c tm b (goneK (db.drop q) l)) ∧ Hid (BOk L (N + j + q) b) ∧ Hid (SnR w A (.slice ae es.length ce) (.slice ad ds.length cd) bx vE vD b wr) ∧ Hid (SlIs (tChg eL) (· < wr.heap.size) wr (.slice am m.length cm) m) ∧ Hid (SlIs (tChg eL) (· < wr.heap.size) wr (.slice a5 db.length c5) db))
       case atStart => exact ⟨0, _, _, _, by omega, rfl, HRM, HBO, HSV, HMV5, HO5⟩
       case round =>
        obtain ⟨q, ⟨ef, df⟩, vE2, vD2, hq, rfl, HRV, HBP, HSP, HMP2, HDP⟩ := hrel; obtain ⟨aE, nE, cE, rfl⟩ := ent_sl HSP.out.se; obtain ⟨aD, nD, cD, rfl⟩ := chg_sl HSP.out.sd
        by_cases hlt3 : q < db.length
        · obtain ⟨am2, cm2, bm2, om2, hvm, -, -, hom2⟩ := chg_open HMP2.out
          injection hvm with t1 t2 t3
          subst t1 t3; obtain ⟨ad2, cd2, bd2, od2, hvd, -, -, hod2⟩ := chg_open HDP.out
          injection hvd with t1 t2 t3
          subst t1 t3; have HOM2 := Lib.hid hom2; have HOD2 := Lib.hid hod2; clear hom2 hod2 t2; have j0 : (0 : Int) ≤ (q : Int) := by omega
          have j1 : (q : Int) < (db.length : Int) := by omega
          have HGD := Lib.hid (gone_drop (l := l) hlt3); have hsd := HOD2.out wr (SameOn.refl _ _) q hlt3; obtain ⟨rfl, -, hbi, hok, -, -, d0, -⟩ := hsd; have HD0 := Lib.hid (show ∀ w', Below wr.heap.size wr w' → w'.cell? ⟨bd2, od2 + q * 7, none⟩ = some (.string db[q].key) from fun w' h => (h.cell hbi).trans d0); clear d0 hok; generalize db[q].key = s at *; obtain ⟨wk, rfl⟩ : ∃ wk : World, wk = wr := ⟨_, rfl⟩; go_wp2
          go_loopg [19, 20] m.length (fun g tv i wr => ∃ k : Nat, k + g = m.length ∧ i = .int .i64 k ∧ tv = .bool (hasS (keysC (m.take k)) s) ∧ Hid (Below wk.heap.size wk wr))
          case atStart => exact ⟨0, by omega, rfl, rfl, Lib.hid (Below.refl _ _)⟩
          case round =>
           obtain ⟨k, hk2, rfl, rfl, HBW2⟩ := hrel
           by_cases hlt4 : k < m.length
           · obtain ⟨rfl, -, hbm, -, -, -, e0, -⟩ := HOM2.out wr (.of_below HBW2.out) k hlt4
             have d0 := HD0.out wr HBW2.out; have HTK := Lib.hid (hasS_take hlt4 s); have k0 : (0 : Int) ≤ (k : Int) := by omega
             have k1 : (k : Int) < (m.length : Int) := by omega
             generalize m[k].key = km at *; generalize hasS (keysC (m.take k)) s = th at *; obtain ⟨u, hu⟩ : ∃ u, (km.toList == s.toList) = u := ⟨_, rfl⟩; have HU := Lib.hid (show decide (km = s) = u by rw [← hu, eq_str])
             cases th with
             | true =>
              go_wp2_with (go_quiet (fail))
              go_roundg (m.length - (k + 1))
              case measure => omega
              case rel => exact ⟨k + 1, by omega, by go_num, by rw [HTK.out]; simp, Lib.hid (bl_drewN HBW2.out _)⟩
             | false =>
              go_wp2_with (go_quiet (fail))
              go_roundg (m.length - (k + 1))
              case measure => omega
              case rel => exact ⟨k + 1, by omega, by go_num, by rw [HTK.out, HU.out]; simp, Lib.hid (bl_drewN HBW2.out _)⟩
           · have hkd2 : decide ((k : Int) < (m.length : Int)) = false := by simp; omega
             have hks : m.take k = m := List.take_of_length_le (by omega); have HHS := Lib.hid (show hasS (keysC l) s = hasS (keysC (m.take k)) s by rw [hks, hasS_perm HP.out]); generalize hasS (keysC (m.take k)) s = th at HHS ⊢; have HGE := Lib.hid (HGD.out.trans (by rw [HHS.out])); have HSPk := Lib.hid (HSP.out.step HBW2.out); have HMPk := Lib.hid (HMP2.out.step HBW2.out); have HDPk := Lib.hid (HDP.out.step HBW2.out); have HD0k := Lib.hid (fun w' (h : Below wr.heap.size wr w') => HD0.out w' (bl_trans HBW2.out h)); clear HGD HSP HMP2 HDP HD0 HBW2 hks HHS HOM2 HOD2
             cases th with
             | true =>
              have HRV2 := Lib.hid (show runV c tm ⟨eb, db⟩ (goneK db l) = runV c tm ⟨ef, df⟩ (goneK (db.drop (q + 1)) l) from HRV.out.trans (by rw [HGE.out]; rfl)); go_wp2
              go_roundg (db.length - (q + 1))
              case measure => omega
              case rel => exact ⟨q + 1, ⟨ef, df⟩, _, _, by omega, by go_num, HRV2, Lib.hid (HBP.out.mono (by omega)), HSPk, HMPk, HDPk⟩
             | false =>
              obtain ⟨⟨⟨e9, d9⟩, z⟩, hr⟩ : ∃ r, voidP c ⟨ef, df⟩ s tm = r := ⟨_, rfl⟩; have HRV2 := Lib.hid (show runV c tm ⟨eb, db⟩ (goneK db l) = if z ≠ 0 then (⟨ef, df⟩, z) else runV c tm ⟨e9, d9⟩ (goneK (db.drop (q + 1)) l) from HRV.out.trans (by rw [HGE.out, if_neg (by simp), runV, hr])); have HBY := Lib.hid (HBP.out.void (c := c) (s := s) (t := tm) (by omega)); rw [hr] at HBY
              have HVO := Lib.hid (show ∀ W', Below wr.heap.size wr W' → Calls Tryz.prog 42 #[.agg A, .agg #[.slice aE nE cE, .slice aD nD cD], .string s, .int .i64 tm] W' (BookR (fun _ => True) W' (⟨e9, d9⟩, z)) from fun W' h => by
               rw [← hr]; have hS := HSPk.out.step h
               exact voidR_any (fun _ => True) L (N + j + q) c A va _ _ ef df s tm W' (fun _ _ => trivial) HA.out (HC.out.step hS.bl) HK.out HBP.out (by omega) (hS.se.keep (fun _ h => ⟨trivial, h.1⟩) (SameOn.refl _ _)) (hS.sd.keep (fun _ h => ⟨trivial, h.1⟩) (SameOn.refl _ _)) HTM.out)
              have HLC := Lib.hid (show ∀ w', Below wr.heap.size wr w' → Sem.run Tryz.prog (loadCellsFrom ⟨w.heap.size, 0, none⟩ 0 25 #[]) w' = .ok A w' from fun w' h => load_blk (HSPk.out.step h).y.b0 HA.out.size _); have HLB := Lib.hid (show ∀ w', Below wr.heap.size wr w' → w'.cell? ⟨bx, 0, none⟩ = some (.slice aE nE cE) ∧ w'.cell? ⟨bx, 1, none⟩ = some (.slice aD nD cD) from fun w' h => ⟨(blk2 (HSPk.out.step h).bb).1, (blk2 (HSPk.out.step h).bb).2.1⟩); clear hr HRV HGE HBP; obtain ⟨wB, hwB⟩ : ∃ wB, wB = wr := ⟨_, rfl⟩; subst hwB; have HW := Lib.hid (Below.drew (Below.refl wB.heap.size wB))
              go_upto_region 28 with (fail)
              go_cut [21, 22] (fun yv fv wx => ∃ (gy : Nat) (a1 : Option Addr) (n1 c1 : Nat) (a2 : Option Addr) (n2 c2 : Nat), yv = .pointer (some ⟨gy, 0, none⟩) ∧ fv = .int .i64 z ∧ SR wB gy (.slice a1 n1 c1) (.slice a2 n2 c2) ⟨e9, d9⟩ wx)
              case first =>
               refine wp_region_D (fun j => if j < 15 then 0 else if j < 15 then 1 else 2) (fun w' => Below wB.heap.size wB w') (by kernel_rfl) (HW.out) (fun hHeld => ?_); refine gk1 0 (v := ?_) rfl ?_ ?_
               rotate_left; focus (intro w9 hS9; refine exec_loadA (t := 46) (x := Operand.tmp 4) (p := ⟨w.heap.size, 0, none⟩) (A := A) ?_ Tryz.isAgg46 Tryz.sizeOf46 ?_ (HLC.out w9 hS9); rfl; rfl); (try simp only [gkA, gkB, gkC, Act.put, gkD, gkE, gkF])
               refine gk1 1 (v := ?_) rfl ?_ ?_
               rotate_left; focus (intro w9 hS9; obtain ⟨z0, z1⟩ := HLB.out w9 hS9; clear hS9; go_simp; (try with_reducible rfl)); (try simp only [gkA, gkB, gkC, Act.put, gkD, gkE, gkF])
               refine gk1 2 (v := ?_) rfl ?_ ?_
               rotate_left; focus (intro w9 hS9; clear hS9; go_simp; (try with_reducible rfl)); (try simp only [gkA, gkB, gkC, Act.put, gkD, gkE, gkF])
               refine gk1 3 (v := ?_) rfl ?_ ?_
               rotate_left; focus (intro w9 hS9; clear hS9; go_simp; (try with_reducible rfl)); (try simp only [gkA, gkB, gkC, Act.put, gkD, gkE, gkF])
               refine gk1 4 (v := ?_) rfl ?_ ?_
               rotate_left; focus (intro w9 hS9; clear hS9; go_simp; (try with_reducible rfl)); (try simp only [gkA, gkB, gkC, Act.put, gkD, gkE, gkF])
               refine gk1 5 (v := ?_) rfl ?_ ?_
               rotate_left; focus (intro w9 hS9; clear hS9; go_simp; (try with_reducible rfl)); (try simp only [gkA, gkB, gkC, Act.put, gkD, gkE, gkF])
               refine gk1 6 (v := ?_) rfl ?_ ?_
               rotate_left; focus (intro w9 hS9; have z0 := HD0k.out w9 hS9; clear hS9; go_simp; (try with_reducible rfl)); (try simp only [gkA, gkB, gkC, Act.put, gkD, gkE, gkF])
               refine gk1 7 (v := ?_) rfl ?_ ?_
               rotate_left; focus (intro w9 hS9; clear hS9; go_simp; (try with_reducible rfl)); (try simp only [gkA, gkB, gkC, Act.put, gkD, gkE, gkF])
               refine wpD_ready (rs := [8, 12]) (by kernel_rfl) (by kernel_rfl) ?_; refine AllReadyD.cons rfl (fun K hK => ?_) (AllReadyD.cons rfl (fun K hK => ?_) AllReadyD.nil)
               · rw [if_pos (show _ = true by kernel_rfl)]
                 go_simp
                 with_reducible refine (HVO.out _ HW.out).mono ?_
                 rintro r w9 ⟨u1, u2, rfl, hu1, hu2, hbe⟩; obtain ⟨a1, n1, c1, rfl⟩ := ent_sl hu1; obtain ⟨a2, n2, c2, rfl⟩ := chg_sl hu2; have HU1 := Lib.hid (hu1.keep (S' := (· < w9.heap.size)) (fun _ h => h.2) (SameOn.refl _ _)); have HU2 := Lib.hid (hu2.keep (S' := (· < w9.heap.size)) (fun _ h => h.2) (SameOn.refl _ _)); have HV := Lib.hid (bl_trans HW.out hbe)
                 skip
                 clear hbe HW hu1 hu2; have HW := HV; clear HV; clear hHeld; refine gk5 hK.out rfl (HW.out) (fun hHeld => ?_); clear hK K; refine gk1 9 (v := ?_) rfl ?_ ?_
                 rotate_left; focus (intro w9 hS9; clear hS9; go_simp; (try with_reducible rfl)); (try simp only [gkA, gkB, gkC, Act.put, gkD, gkE, gkF])
                 refine gk1 10 (v := ?_) rfl ?_ ?_
                 rotate_left; focus (intro w9 hS9; clear hS9; go_simp; (try with_reducible rfl)); (try simp only [gkA, gkB, gkC, Act.put, gkD, gkE, gkF])
                 refine gk1 11 (v := ?_) rfl ?_ ?_
                 rotate_left; focus (intro w9 hS9; clear hS9; go_simp; (try with_reducible rfl)); (try simp only [gkA, gkB, gkC, Act.put, gkD, gkE, gkF])
                 refine gk3 12 rfl (fun K hK => ?_); go_simp; clear hHeld; refine gk5 hK.out rfl (bl_alloc HW.out _) (fun hHeld => ?_); clear hK K; refine gk3 13 rfl (fun K hK => ?_); go_simp; clear hHeld; refine gk5 hK.out rfl (bl_alloc HW.out _) (fun hHeld => ?_); clear hK K; refine gk3 14 rfl (fun K hK => ?_); go_simp; clear hHeld; refine gk5 hK.out rfl (bl_alloc HW.out _) (fun hHeld => ?_); clear hK K; refine wpD_done (by kernel_rfl) ?_
                 go_wp2_with (fail)
                 go_meet; exact ⟨_, _, _, _, _, _, _, rfl, rfl, SR.mk_alloc HW.out HU1.out HU2.out⟩
               · rw [if_pos (show _ = true by kernel_rfl)]
                 go_simp; clear hHeld; refine gk5 hK.out rfl (bl_alloc HW.out _) (fun hHeld => ?_); clear hK K; have HYB := Lib.hid (show BB wB.heap.size (.slice none 0 0) (.slice none 0 0) (wB.alloc (.cells #[.slice none 0 0, .slice none 0 0] 70)).drew from heap_alloc_new wB (.cells #[.slice none 0 0, .slice none 0 0] 70)); have HV := Lib.hid (Below.drew (bl_alloc (Below.refl wB.heap.size wB) (.cells #[.slice none 0 0, .slice none 0 0] 70))); have hgy : wB.heap.size ≤ wB.heap.size := Nat.le_refl _; clear HW; have HW := HV; clear HV; have hHeld : Below wB.heap.size wB (wB.alloc (.cells #[.slice none 0 0, .slice none 0 0] 70)).drew := HW.out; generalize (wB.alloc (.cells #[.slice none 0 0, .slice none 0 0] 70)).drew = wy at HYB HW hHeld ⊢; refine gk3 8 rfl (fun K hK => ?_); go_simp
                 with_reducible refine (HVO.out _ HW.out).mono ?_
                 rintro r w9 ⟨u1, u2, rfl, hu1, hu2, hbe⟩; obtain ⟨a1, n1, c1, rfl⟩ := ent_sl hu1; obtain ⟨a2, n2, c2, rfl⟩ := chg_sl hu2; have HU1 := Lib.hid (hu1.keep (S' := (· < w9.heap.size)) (fun _ h => h.2) (SameOn.refl _ _)); have HU2 := Lib.hid (hu2.keep (S' := (· < w9.heap.size)) (fun _ h => h.2) (SameOn.refl _ _)); have HV := Lib.hid (bl_trans HW.out hbe); have hgq := lt_of_heap HYB.out; have HYC := Lib.hid ((hbe.block _ hgq).trans HYB.out); clear HYB; have HYB := HYC; clear HYC; clear hbe HW hu1 hu2; have HW := HV; clear HV; clear hHeld; refine gk5 hK.out rfl (HW.out) (fun hHeld => ?_); clear hK K; refine gk1 9 (v := ?_) rfl ?_ ?_
                 rotate_left; focus (intro w9 hS9; clear hS9; go_simp; (try with_reducible rfl)); (try simp only [gkA, gkB, gkC, Act.put, gkD, gkE, gkF])
                 refine gk1 10 (v := ?_) rfl ?_ ?_
                 rotate_left; focus (intro w9 hS9; clear hS9; go_simp; (try with_reducible rfl)); (try simp only [gkA, gkB, gkC, Act.put, gkD, gkE, gkF])
                 refine gk1 11 (v := ?_) rfl ?_ ?_
                 rotate_left; focus (intro w9 hS9; clear hS9; go_simp; (try with_reducible rfl)); (try simp only [gkA, gkB, gkC, Act.put, gkD, gkE, gkF])
                 obtain ⟨y0, y1, yf⟩ := blk2 HYB.out; have hgl := lt_of_heap HYB.out; refine gk3 13 rfl (fun K hK => ?_); go_simp; clear hHeld; refine gk5 hK.out rfl (bl_set (bl_set HW.out _ hgy) _ hgy) (fun hHeld => ?_); clear hK K; refine gk3 14 rfl (fun K hK => ?_); go_simp; clear hHeld; refine gk5 hK.out rfl (bl_set (bl_set HW.out _ hgy) _ hgy) (fun hHeld => ?_); clear hK K; refine wpD_done (by kernel_rfl) ?_
                 go_wp2_with (fail)
                 go_meet; exact ⟨_, _, _, _, _, _, _, rfl, rfl, SR.mk_set HW.out hgy ⟨_, _, _, rfl⟩ ⟨_, _, _, rfl⟩ HU1.out HU2.out HYB.out⟩
              case rest =>
               obtain ⟨g1, a1, n1, c1, a2, n2, c2, rfl, rfl, hsr⟩ := hcut; have HS2 := Lib.hid (HSPk.out.step hsr.b); have HQ2 := Lib.hid hsr; have HMV2 := Lib.hid (HMPk.out.step hsr.b); have HDV2 := Lib.hid (HDPk.out.step hsr.b); clear hsr HLC HLB HVO HW HD0k HMPk HDPk
               by_cases hz : z = 0
               case neg =>
                have hz1 : (z != 0) = true := by simpa using hz
                have HR := Lib.hid (show syncP c ⟨es, ds⟩ l tm = (⟨es, ds⟩, z) from sy_v HNL.out HRB.out hz (HRV2.out.trans (if_pos hz))); have hl9 := lt_of_heap HS2.out.y.b2; obtain ⟨q0, q1, -⟩ := blk2 HS2.out.y.b1; obtain ⟨f0, f1, ff⟩ := blk2 HS2.out.y.b2; have f0' : wc.cell? ⟨w.heap.size + 1 + 1, 0, none⟩ = some (.slice none 0 0) := f0; have f1' : wc.cell? ⟨w.heap.size + 1 + 1, 1, none⟩ = some (.slice none 0 0) := f1; have ff' : ∀ j, wc.frozen? ⟨w.heap.size + 1 + 1, j, none⟩ = false := ff; have HY9 := Lib.hid HS2.out.y; have HB9 := Lib.hid HS2.out.bl; clear f0 f1 ff hz; go_wp2; have g5 : ((wc.setCell ⟨w.heap.size + 1 + 1, 0, none⟩ (.slice ae es.length ce)).setCell ⟨w.heap.size + 1 + 1, 1, none⟩ (.slice ad ds.length cd)).heap[w.heap.size + 1 + 1]? = some (.cells #[(.slice ae es.length ce), (.slice ad ds.length cd)] 70 (0, 0)) := heap_setCell_same _ _ _ _ _ _ (heap_setCell_same _ _ _ _ _ _ HY9.out.b2); have b5 : Below w.heap.size w ((wc.setCell ⟨w.heap.size + 1 + 1, 0, none⟩ (.slice ae es.length ce)).setCell ⟨w.heap.size + 1 + 1, 1, none⟩ (.slice ad ds.length cd)) := bl_set (bl_set HB9.out _ (by simp only; omega)) _ (by simp only; omega); obtain ⟨k0, k1, -⟩ := blk2 g5; generalize (wc.setCell ⟨w.heap.size + 1 + 1, 0, none⟩ (.slice ae es.length ce)).setCell ⟨w.heap.size + 1 + 1, 1, none⟩ (.slice ad ds.length cd) = w9 at *; refine bodyPost_ret (v := .tuple #[.agg #[(.slice ae es.length ce), (.slice ad ds.length cd)], .int .i64 z]) (by simp [results, Tryz.results43, go_sem, k0, k1]) rfl ?_; rw [HR.out]; exact BookR.old HE.out HD.out b5
               subst hz; have HRV3 := Lib.hid (show runV c tm ⟨eb, db⟩ (goneK db l) = runV c tm ⟨e9, d9⟩ (goneK (db.drop (q + 1)) l) from HRV2.out.trans (if_neg (by simp))); have HPT := Lib.hid (HS2.out.put HQ2.out.se HQ2.out.sd); have HMK := Lib.hid (chg_kept (u1 := .slice a1 n1 c1) (u2 := .slice a2 n2 c2) HS2.out HMV2.out); have HDK := Lib.hid (chg_kept (u1 := .slice a1 n1 c1) (u2 := .slice a2 n2 c2) HS2.out HDV2.out); obtain ⟨q0, q1, qf⟩ := blk2 HS2.out.bb; obtain ⟨y0, y1, -⟩ := blk2 HQ2.out.g; have hlb := lt_of_heap HS2.out.bb; go_wp2
               go_roundg (db.length - (q + 1))
               case measure => omega
               case rel => exact ⟨q + 1, ⟨e9, d9⟩, _, _, by omega, by go_num, HRV3, HBY, HPT, HMK, HDK⟩
        · have hjd3 : decide ((q : Int) < (db.length : Int)) = false := by simp; omega
          have HR := Lib.hid (show syncP c ⟨es, ds⟩ l tm = (⟨ef, df⟩, 0) from sy_ok HNL.out HRB.out (HRV.out.trans (by rw [List.drop_eq_nil_of_le (by omega)]; rfl))); have HSE := Lib.hid (ent_bb HSP.out.se HSP.out.y.b2 ⟨_, _, _, rfl⟩ ⟨_, _, _, rfl⟩); have HSD := Lib.hid (chg_bb HSP.out.sd HSP.out.y.b2 ⟨_, _, _, rfl⟩ ⟨_, _, _, rfl⟩); have HYX := Lib.hid HSP.out.y; have HBX := Lib.hid HSP.out.bl; obtain ⟨e0, e1, -⟩ := blk2 HSP.out.bb; obtain ⟨f0, f1, ff⟩ := blk2 HSP.out.y.b2; have f0' : wr.cell? ⟨w.heap.size + 1 + 1, 0, none⟩ = some (.slice none 0 0) := f0; have f1' : wr.cell? ⟨w.heap.size + 1 + 1, 1, none⟩ = some (.slice none 0 0) := f1; have ff' : ∀ j, wr.frozen? ⟨w.heap.size + 1 + 1, j, none⟩ = false := ff; have hlb := lt_of_heap HYX.out.b2; clear f0 f1 ff HSP HMP2 HDP HRV; go_wp2; have hoth : ∀ q, q ≠ w.heap.size + 2 → ((wr.setCell ⟨w.heap.size + 1 + 1, 0, none⟩ (.slice aE nE cE)).setCell ⟨w.heap.size + 1 + 1, 1, none⟩ (.slice aD nD cD)).heap[q]? = wr.heap[q]? := fun q hq => bb_set_other q (by omega)
          have hz5 : wr.heap.size = ((wr.setCell ⟨w.heap.size + 1 + 1, 0, none⟩ (.slice aE nE cE)).setCell ⟨w.heap.size + 1 + 1, 1, none⟩ (.slice aD nD cD)).heap.size := by simp
          have g5 : ((wr.setCell ⟨w.heap.size + 1 + 1, 0, none⟩ (.slice aE nE cE)).setCell ⟨w.heap.size + 1 + 1, 1, none⟩ (.slice aD nD cD)).heap[w.heap.size + 1 + 1]? = some (.cells #[(.slice aE nE cE), (.slice aD nD cD)] 70 (0, 0)) := heap_setCell_same _ _ _ _ _ _ (heap_setCell_same _ _ _ _ _ _ HYX.out.b2); have b5 : Below w.heap.size w ((wr.setCell ⟨w.heap.size + 1 + 1, 0, none⟩ (.slice aE nE cE)).setCell ⟨w.heap.size + 1 + 1, 1, none⟩ (.slice aD nD cD)) := bl_set (bl_set HBX.out _ (by simp only; omega)) _ (by simp only; omega); obtain ⟨k0, k1, -⟩ := blk2 g5; generalize (wr.setCell ⟨w.heap.size + 1 + 1, 0, none⟩ (.slice aE nE cE)).setCell ⟨w.heap.size + 1 + 1, 1, none⟩ (.slice aD nD cD) = w9 at *; refine bodyPost_ret (v := .tuple #[.agg #[(.slice aE nE cE), (.slice aD nD cD)], .int .i64 0]) (by simp [results, Tryz.results43, go_sem, k0, k1]) rfl ?_; rw [HR.out]; exact ⟨_, _, rfl, HSE.out.keep (fun q hq => ⟨trivial, by have := hq.1.1; omega⟩) (fun q hq => hoth q hq.2), HSD.out.keep (fun q hq => ⟨trivial, by have := hq.1.1; omega⟩) (fun q hq => hoth q hq.2), b5⟩
end Go.Proofs.YtifcelebfagjbaaGreatDoor
namespace Go.Tw.Po
open Go.RowKit Go.Tw Go.Proofs.YtifcelebfagjbaaGreatDoor
end Go.Tw.Po
namespace Go.Proofs.YtifcelebfagjbaaGreatDoor
open Go.RowKit Go.Tw Go.Tw.Ord Go.Tw.Po Go.Sort
end Go.Proofs.YtifcelebfagjbaaGreatDoor
namespace Go.Tw.Po
open Go.RowKit Go.Tw Go.Proofs.YtifcelebfagjbaaGreatDoor
theorem pay_enter {es : List Ent} {k : ByteArray} {t : Int} {a b : ByteArray} {n : Int} (h : 1 ≤ n) : enterL es k t [⟨a, n⟩, ⟨b, -n⟩] = postL es ⟨k, t, [⟨a, n⟩, ⟨b, -n⟩]⟩ := by
 have h1 : cleanP [⟨a, n⟩, ⟨b, -n⟩] = [⟨a, n⟩, ⟨b, -n⟩] := by
  unfold cleanP; rw [List.filter_cons, if_pos (by simp; omega), List.filter_cons, if_pos (by simp; omega), List.filter_nil]
 unfold enterL; rw [h1, if_neg (by simp)]
theorem pre_four (k : ByteArray) : Lib.hasPrefix k.data.toList [112, 97, 121, 35] = decide (k.extract 0 4 = ⟨#[112, 97, 121, 35]⟩) := by
 have h1 : Lib.hasPrefix k.data.toList [112, 97, 121, 35] = decide (k.data.toList.take 4 = [112, 97, 121, 35]) := by
  show List.isPrefixOf [112, 97, 121, 35] k.data.toList = _
  rw [Bool.eq_iff_iff, List.isPrefixOf_iff_prefix, decide_eq_true_eq, List.prefix_iff_eq_take]; exact ⟨fun h => h.symm, fun h => h.symm⟩
 rw [h1]; refine decide_eq_decide.2 ⟨fun h => kb_inj ?_, fun h => ?_⟩
 · rw [kb_ext]; exact h
 · have := kb_ext k 4
   rw [h] at this; exact this.symm
theorem pre_short {k : ByteArray} (h : k.size < 4) : Lib.hasPrefix k.data.toList [112, 97, 121, 35] = false := by
 rw [pre_four, decide_eq_false]; intro e; have := congrArg ByteArray.size e; rw [ByteArray.size_extract] at this; have h4 : (⟨#[112, 97, 121, 35]⟩ : ByteArray).size = 4 := rfl
 omega
end Go.Tw.Po
namespace Go.Proofs.YtifcelebfagjbaaGreatDoor
open Go.RowKit Go.Tw Go.Tw.Ord Go.Tw.Po Go.Sort
set_option maxRecDepth 100000 in
set_option maxHeartbeats 8000000 in
theorem payR_any (R : Nat → Prop) (L : List Chg) (N : Nat) (ve vd : Value) (es : List Ent) (ds : List Chg) (s : ByteArray) (m tm : Int) (w : World) (hR : ∀ k, w.heap.size ≤ k → R k) (hb : BOk L N ⟨es, ds⟩) (hN : N ≤ 900)
  (he : SlIs (tEnt 101) (fun k => R k ∧ k < w.heap.size) w ve es) (hd : SlIs (tChg eL) (fun k => R k ∧ k < w.heap.size) w vd ds) (_hs : s.size ≤ maxLen) (hm : i64ok m) (htm : i64ok tm) :
  Calls Tryz.prog 44 #[.agg #[ve, vd], .string s, .int .i64 m, .int .i64 tm] w (BookR R w (payP ⟨es, ds⟩ s m tm)) := by
 have n0 := alloc2_0 w (.cells #[ve, vd] 70) (.cells #[.slice none 0 0, .slice none 0 0] 70); have n1 := alloc2_1 w (.cells #[ve, vd] 70) (.cells #[.slice none 0 0, .slice none 0 0] 70); have HY := Lib.hid (show YPW w.heap.size ve vd _ from ⟨n0, n1⟩); have HB0 := Lib.hid (bl_alloc (bl_alloc (Below.refl w.heap.size w) (.cells #[ve, vd] 70)) (.cells #[.slice none 0 0, .slice none 0 0] 70)); have HNM := Lib.hid (NameR_any s ((w.alloc (.cells #[ve, vd] 70)).alloc (.cells #[.slice none 0 0, .slice none 0 0] 70))); obtain ⟨ad, cd, _, _, rfl, -⟩ := id hd; obtain ⟨ae, ce, be, oe, rfl, he1, he2, ho⟩ := ent_open he; unfold maxLen at he2; have HO := Lib.hid ho; have HE := Lib.hid he; have HD := Lib.hid hd; have HBK := Lib.hid hb; have HRR := Lib.hid hR; have HTM := Lib.hid htm; unfold i64ok at hm htm; clear n0 n1 he hd hb hR ho; obtain ⟨q, hq⟩ : ∃ q, nameC s = q := ⟨_, rfl⟩; rw [hq] at HNM; have HNA := Lib.hid hq; clear hq
 go_enter Tryz.func44, Tryz.ntmps44
 go_wp2_with (fail)
 with_reducible refine HNM.out.mono ?_
 clear HNM; rintro r w7 ⟨rfl, hb7⟩; have HY7 := Lib.hid (HY.out.step hb7 (by simp)); have HB7 := Lib.hid (bl_trans HB0.out hb7); clear hb7 HY HB0; have hl7 := lt_of_heap HY7.out.b1
 cases q with
 | false =>
  have HR := Lib.hid (py_name (b := ⟨es, ds⟩) (n := m) (t := tm) HNA.out); obtain ⟨d0, d1, -⟩ := blk2 HY7.out.b0; obtain ⟨f0, f1, ff⟩ := blk2 HY7.out.b1; go_wp2; have g5 : ((w7.setCell ⟨w.heap.size + 1, 0, none⟩ (.slice ae es.length ce)).setCell ⟨w.heap.size + 1, 1, none⟩ (.slice ad ds.length cd)).heap[w.heap.size + 1]? = some (.cells #[.slice ae es.length ce, .slice ad ds.length cd] 70 (0, 0)) := heap_setCell_same _ _ _ _ _ _ (heap_setCell_same _ _ _ _ _ _ HY7.out.b1); have b5 : Below w.heap.size w ((w7.setCell ⟨w.heap.size + 1, 0, none⟩ (.slice ae es.length ce)).setCell ⟨w.heap.size + 1, 1, none⟩ (.slice ad ds.length cd)) := bl_set (bl_set HB7.out _ (by simp only; omega)) _ (by simp only; omega); obtain ⟨k0, k1, -⟩ := blk2 g5; generalize (w7.setCell ⟨w.heap.size + 1, 0, none⟩ (.slice ae es.length ce)).setCell ⟨w.heap.size + 1, 1, none⟩ (.slice ad ds.length cd) = w9 at *; refine bodyPost_ret (v := .tuple #[.agg #[.slice ae es.length ce, .slice ad ds.length cd], .int .i64 6]) (by simp [results, Tryz.results44, go_sem, k0, k1]) rfl ?_; rw [HR.out]; exact BookR.old HE.out HD.out b5
 | true =>
 have hm3 : m < 1 ∨ (1 ≤ m ∧ 1125899906842624 < m) ∨ (1 ≤ m ∧ m ≤ 1125899906842624) := by omega
 rcases hm3 with t1 | ⟨t1, t2⟩ | ⟨t1, t2⟩
 · have HR := Lib.hid (py_amt (b := ⟨es, ds⟩) (t := tm) HNA.out (.inl t1))
   obtain ⟨d0, d1, -⟩ := blk2 HY7.out.b0; obtain ⟨f0, f1, ff⟩ := blk2 HY7.out.b1; go_wp2; have g5 : ((w7.setCell ⟨w.heap.size + 1, 0, none⟩ (.slice ae es.length ce)).setCell ⟨w.heap.size + 1, 1, none⟩ (.slice ad ds.length cd)).heap[w.heap.size + 1]? = some (.cells #[.slice ae es.length ce, .slice ad ds.length cd] 70 (0, 0)) := heap_setCell_same _ _ _ _ _ _ (heap_setCell_same _ _ _ _ _ _ HY7.out.b1); have b5 : Below w.heap.size w ((w7.setCell ⟨w.heap.size + 1, 0, none⟩ (.slice ae es.length ce)).setCell ⟨w.heap.size + 1, 1, none⟩ (.slice ad ds.length cd)) := bl_set (bl_set HB7.out _ (by simp only; omega)) _ (by simp only; omega); obtain ⟨k0, k1, -⟩ := blk2 g5; generalize (w7.setCell ⟨w.heap.size + 1, 0, none⟩ (.slice ae es.length ce)).setCell ⟨w.heap.size + 1, 1, none⟩ (.slice ad ds.length cd) = w9 at *; refine bodyPost_ret (v := .tuple #[.agg #[.slice ae es.length ce, .slice ad ds.length cd], .int .i64 13]) (by simp [results, Tryz.results44, go_sem, k0, k1]) rfl ?_; rw [HR.out]; exact BookR.old HE.out HD.out b5
 · have HR := Lib.hid (py_amt (b := ⟨es, ds⟩) (t := tm) HNA.out (.inr t2))
   obtain ⟨d0, d1, -⟩ := blk2 HY7.out.b0; obtain ⟨f0, f1, ff⟩ := blk2 HY7.out.b1; go_wp2; have g5 : ((w7.setCell ⟨w.heap.size + 1, 0, none⟩ (.slice ae es.length ce)).setCell ⟨w.heap.size + 1, 1, none⟩ (.slice ad ds.length cd)).heap[w.heap.size + 1]? = some (.cells #[.slice ae es.length ce, .slice ad ds.length cd] 70 (0, 0)) := heap_setCell_same _ _ _ _ _ _ (heap_setCell_same _ _ _ _ _ _ HY7.out.b1); have b5 : Below w.heap.size w ((w7.setCell ⟨w.heap.size + 1, 0, none⟩ (.slice ae es.length ce)).setCell ⟨w.heap.size + 1, 1, none⟩ (.slice ad ds.length cd)) := bl_set (bl_set HB7.out _ (by simp only; omega)) _ (by simp only; omega); obtain ⟨k0, k1, -⟩ := blk2 g5; generalize (w7.setCell ⟨w.heap.size + 1, 0, none⟩ (.slice ae es.length ce)).setCell ⟨w.heap.size + 1, 1, none⟩ (.slice ad ds.length cd) = w9 at *; refine bodyPost_ret (v := .tuple #[.agg #[.slice ae es.length ce, .slice ad ds.length cd], .int .i64 13]) (by simp [results, Tryz.results44, go_sem, k0, k1]) rfl ?_; rw [HR.out]; exact BookR.old HE.out HD.out b5
 have HAM := Lib.hid (show ¬ (m < 1 ∨ 1125899906842624 < m) by omega); have ht3 : tm < 0 ∨ (0 ≤ tm ∧ 68719476736 < tm) ∨ (0 ≤ tm ∧ tm ≤ 68719476736) := by omega
 rcases ht3 with t3 | ⟨t3, t4⟩ | ⟨t3, t4⟩
 · have HR := Lib.hid (py_time (b := ⟨es, ds⟩) HNA.out HAM.out (show momC tm = false by unfold momC; rw [decide_eq_false (by omega)]; rfl))
   obtain ⟨d0, d1, -⟩ := blk2 HY7.out.b0; obtain ⟨f0, f1, ff⟩ := blk2 HY7.out.b1; go_wp2; have g5 : ((w7.setCell ⟨w.heap.size + 1, 0, none⟩ (.slice ae es.length ce)).setCell ⟨w.heap.size + 1, 1, none⟩ (.slice ad ds.length cd)).heap[w.heap.size + 1]? = some (.cells #[.slice ae es.length ce, .slice ad ds.length cd] 70 (0, 0)) := heap_setCell_same _ _ _ _ _ _ (heap_setCell_same _ _ _ _ _ _ HY7.out.b1); have b5 : Below w.heap.size w ((w7.setCell ⟨w.heap.size + 1, 0, none⟩ (.slice ae es.length ce)).setCell ⟨w.heap.size + 1, 1, none⟩ (.slice ad ds.length cd)) := bl_set (bl_set HB7.out _ (by simp only; omega)) _ (by simp only; omega); obtain ⟨k0, k1, -⟩ := blk2 g5; generalize (w7.setCell ⟨w.heap.size + 1, 0, none⟩ (.slice ae es.length ce)).setCell ⟨w.heap.size + 1, 1, none⟩ (.slice ad ds.length cd) = w9 at *; refine bodyPost_ret (v := .tuple #[.agg #[.slice ae es.length ce, .slice ad ds.length cd], .int .i64 12]) (by simp [results, Tryz.results44, go_sem, k0, k1]) rfl ?_; rw [HR.out]; exact BookR.old HE.out HD.out b5
 · have HR := Lib.hid (py_time (b := ⟨es, ds⟩) HNA.out HAM.out (show momC tm = false by unfold momC; rw [decide_eq_false (show ¬ tm ≤ 68719476736 by omega), Bool.and_false]))
   obtain ⟨d0, d1, -⟩ := blk2 HY7.out.b0; obtain ⟨f0, f1, ff⟩ := blk2 HY7.out.b1; go_wp2; have g5 : ((w7.setCell ⟨w.heap.size + 1, 0, none⟩ (.slice ae es.length ce)).setCell ⟨w.heap.size + 1, 1, none⟩ (.slice ad ds.length cd)).heap[w.heap.size + 1]? = some (.cells #[.slice ae es.length ce, .slice ad ds.length cd] 70 (0, 0)) := heap_setCell_same _ _ _ _ _ _ (heap_setCell_same _ _ _ _ _ _ HY7.out.b1); have b5 : Below w.heap.size w ((w7.setCell ⟨w.heap.size + 1, 0, none⟩ (.slice ae es.length ce)).setCell ⟨w.heap.size + 1, 1, none⟩ (.slice ad ds.length cd)) := bl_set (bl_set HB7.out _ (by simp only; omega)) _ (by simp only; omega); obtain ⟨k0, k1, -⟩ := blk2 g5; generalize (w7.setCell ⟨w.heap.size + 1, 0, none⟩ (.slice ae es.length ce)).setCell ⟨w.heap.size + 1, 1, none⟩ (.slice ad ds.length cd) = w9 at *; refine bodyPost_ret (v := .tuple #[.agg #[.slice ae es.length ce, .slice ad ds.length cd], .int .i64 12]) (by simp [results, Tryz.results44, go_sem, k0, k1]) rfl ?_; rw [HR.out]; exact BookR.old HE.out HD.out b5
 have HMO := Lib.hid (show momC tm = true by unfold momC; rw [decide_eq_true t3, decide_eq_true t4]; rfl); have hpl := pay_le (es := es); have hel := HBK.out.len; simp only at hel; obtain ⟨d0, d1, -⟩ := blk2 HY7.out.b0; go_wp2
 go_loopg [10, 11] es.length (fun gx cv i wr => ∃ k : Nat, k + gx = es.length ∧ i = .int .i64 k ∧ cv = .int .i64 (payN (es.take k) : Nat) ∧ wr = w7)
 case atStart => exact ⟨0, by omega, rfl, rfl, rfl⟩
 case round =>
  obtain ⟨k, hk, rfl, rfl, rfl⟩ := hrel
  by_cases hlt : k < es.length
  · obtain ⟨rfl, -, hbi, hok, hv, hsl, c0, c1, c2⟩ := HO.out wr (fun q hq => HB7.out.block q hq.2) k hlt
    have hps := Lib.hid (payN_succ hlt); have k0 : (0 : Int) ≤ (k : Int) := by omega
    have k1 : (k : Int) < (es.length : Int) := by omega
    have hpc : payN (es.take k) ≤ k := Nat.le_trans pay_le (by rw [List.length_take]; omega); generalize payN (es.take k) = pc at hps hpc; have hkz := hok.key; unfold maxLen at hkz; generalize es[k] = y at *; obtain ⟨ky, yt, yp⟩ := y; simp only at c0 hps hkz; clear hok hsl c1 c2
    by_cases h4 : ky.size < 4
    · have HPF := Lib.hid (pre_short h4)
      have q1 : ¬ (4 : Int) ≤ (ky.size : Int) := by omega
      go_wp2
      go_roundg (es.length - (k + 1))
      case measure => omega
      case rel => exact ⟨k + 1, by omega, by go_num, by rw [hps.out, HPF.out]; rfl, rfl⟩
    · have q1 : (4 : Int) ≤ (ky.size : Int) := by omega
      have HPF := Lib.hid (pre_four ky); obtain ⟨b, hbq⟩ : ∃ b, ((ky.extract 0 4).toList == [112, 97, 121, 35]) = b := ⟨_, rfl⟩; have hb2 : ((ky.extract 0 4).toList == (⟨#[112, 97, 121, 35]⟩ : ByteArray).toList) = b := by rw [← hbq, ByteArray.toList_eq ⟨#[112, 97, 121, 35]⟩]
      have HQ := Lib.hid ((eq_str _ _).symm.trans hb2); clear hb2
      cases b with
      | true =>
       go_wp2
       go_roundg (es.length - (k + 1))
       case measure => omega
       case rel => exact ⟨k + 1, by omega, by go_num, by rw [hps.out, HPF.out, HQ.out]; go_num, rfl⟩
      | false =>
       go_wp2
       go_roundg (es.length - (k + 1))
       case measure => omega
       case rel => exact ⟨k + 1, by omega, by go_num, by rw [hps.out, HPF.out, HQ.out]; rfl, rfl⟩
  · have hkd : decide ((k : Int) < (es.length : Int)) = false := by simp; omega
    rw [show es.take k = es from List.take_of_length_le (by omega)]; obtain ⟨wB, hwB⟩ : ∃ wB : World, wB = wr := ⟨_, rfl⟩; subst hwB
    go_upto_region 14 with (fail)
    obtain ⟨pc, hpc⟩ : ∃ pc, payN es = pc := ⟨_, rfl⟩; rw [hpc] at hpl ⊢; have HPC := Lib.hid hpc; have hvi : i64ok (pc : Int) := by unfold i64ok; omega
    have HFM := Lib.hid (FormatR_any (pc : Int) hvi); have hfz := fmt_size hvi; have HKS := Lib.hid (show (keyC sPay pc).size ≤ 81 from keyC_size (s := sPay) (by decide) hvi)
    have HKE := Lib.hid (show keyC sPay (pc : Int) = (⟨#[112, 97, 121, 35]⟩ : ByteArray) ++ fmtS (pc : Int) from by
     unfold keyC
     rw [show sPay ++ (⟨#[35]⟩ : ByteArray) = ⟨#[112, 97, 121, 35]⟩ from rfl])
    clear hvi hpc; generalize hvn : (pc : Int) = vn at *; generalize hkk : keyC sPay vn = kk at *; generalize fmtS vn = fm at *
    have hsz : s.size ≤ 12 := by
     by_cases hq : nameP s
     · exact hq.2.1
     · have := HNA.out; rw [name_no hq] at this; cases this
    have hacc : (sAcc ++ s).size ≤ maxLen := by rw [ByteArray.size_append]; show 8 + s.size ≤ _; unfold maxLen; omega
    have hneg : IntKind.i64.wrap (-m) = -m := wrap_in (by omega) (by omega); have z1 : ¬ (9223372036854775807 < 4 + fm.size) := by omega
    have z2 : ¬ (9223372036854775807 < 8 + s.size) := by omega
    have HPE := Lib.hid (pay_enter (es := es) (k := kk) (t := tm) (a := sCash) (b := sAcc ++ s) t1); obtain ⟨⟨es9, z9⟩, hen⟩ : ∃ r, enterL es kk tm [⟨sCash, m⟩, ⟨sAcc ++ s, -m⟩] = r := ⟨_, rfl⟩
    have HRR2 := Lib.hid (py_s (b := ⟨es, ds⟩) HNA.out HAM.out HMO.out (es' := es9) (z := z9) (by
     simp only; rw [HPC.out, hvn, hkk, ← HPE.out]
     exact hen))
    have hpost : ∀ (W : World), SlIs tSI (fun k => W.heap.size ≤ k ∧ k < (W.alloc (.cells #[.string sCash, .int .i64 m, .string (sAcc ++ s), .int .i64 (-m)] 101)).heap.size) (W.alloc (.cells #[.string sCash, .int .i64 m, .string (sAcc ++ s), .int .i64 (-m)] 101)) (.slice (some ⟨W.heap.size, 0, none⟩) 2 2) [⟨sCash, m⟩, ⟨sAcc ++ s, -m⟩] := fun W =>
     (NewL.ofOwn ownSI (OwnSl.lit (T := tSI) (l := [⟨sCash, m⟩, ⟨sAcc ++ s, -m⟩]) (css := [siCells ⟨sCash, m⟩, siCells ⟨sAcc ++ s, -m⟩]) rfl ⟨tSI_mk ⟨by show 4 ≤ maxLen; decide, by unfold i64ok; simp only; omega⟩, tSI_mk ⟨hacc, by unfold i64ok; simp only; omega⟩, trivial⟩ (Nat.le_refl _) (show 2 ≤ maxLen by decide)) (Nat.le_refl _)).sl
    have HPS := Lib.hid hpost
    have HEN := Lib.hid (show ∀ W (vp : Value), Below wB.heap.size wB W → SlIs tSI (· < W.heap.size) W vp [⟨sCash, m⟩, ⟨sAcc ++ s, -m⟩] → Calls Tryz.prog 75 #[.agg #[.slice ae es.length ce, .slice ad ds.length cd], .string (⟨#[112, 97, 121, 35]⟩ ++ fm), .int .i64 tm, vp] W (EntRE (fun k => (k < w.heap.size ∧ R k) ∨ W.heap.size ≤ k) W (.slice ad ds.length cd) es (es9, z9)) from fun W vp hW hvp => by
     rw [← hen, ← HKE.out]
     exact enterR_any _ es (.slice ae es.length ce) ad ds.length cd kk tm _ vp W (fun k hk => .inr hk) (HE.out.keep (fun q h => ⟨.inl ⟨h.2, h.1⟩, Nat.lt_of_lt_of_le h.2 (Nat.le_trans HB7.out.size hW.size)⟩) (fun q h => (bl_trans HB7.out hW).block q h.2)) hvp (Nat.le_trans HKS.out (by decide)) HTM.out HBK.out.es (by omega) (by simp))
    unfold EntRE at HEN; clear hen hpost; have HLB := Lib.hid (show ∀ w', Below wB.heap.size wB w' → w'.cell? ⟨w.heap.size, 0, none⟩ = some (.slice ae es.length ce) ∧ w'.cell? ⟨w.heap.size, 1, none⟩ = some (.slice ad ds.length cd) from fun w' h => ⟨(blk2 (HY7.out.step h hl7).b0).1, (blk2 (HY7.out.step h hl7).b0).2.1⟩); have HW := Lib.hid (Below.drew (Below.refl wB.heap.size wB)); clear d0 d1 hfz HKS HKE HPC HPE hkk hvn; refine wp_region_D (fun j => if j < 15 then 0 else if j < 16 then 1 else 2) (fun w' => Below wB.heap.size wB w') (by kernel_rfl) (HW.out) (fun hHeld => ?_); refine gk1 0 (v := ?_) rfl ?_ ?_
    rotate_left; focus (intro w9 hS9; obtain ⟨z0, z1⟩ := HLB.out w9 hS9; clear hS9; go_simp; (try with_reducible rfl)); (try simp only [gkA, gkB, gkC, Act.put, gkD, gkE, gkF])
    refine gk1 1 (v := ?_) rfl ?_ ?_
    rotate_left; focus (intro w9 hS9; clear hS9; go_simp; (try with_reducible rfl)); (try simp only [gkA, gkB, gkC, Act.put, gkD, gkE, gkF])
    refine gk1 4 (v := ?_) rfl ?_ ?_
    rotate_left; focus (intro w9 hS9; clear hS9; go_simp; (try with_reducible rfl)); (try simp only [gkA, gkB, gkC, Act.put, gkD, gkE, gkF])
    refine gk1 5 (v := ?_) rfl ?_ ?_
    rotate_left; focus (intro w9 hS9; clear hS9; go_simp; (try with_reducible rfl)); (try simp only [gkA, gkB, gkC, Act.put, gkD, gkE, gkF])
    refine gk1 6 (v := ?_) rfl ?_ ?_
    rotate_left; focus (intro w9 hS9; clear hS9; go_simp; (try with_reducible rfl)); (try simp only [gkA, gkB, gkC, Act.put, gkD, gkE, gkF])
    refine gk1 7 (v := ?_) rfl ?_ ?_
    rotate_left; focus (intro w9 hS9; clear hS9; go_simp; (try with_reducible rfl)); (try simp only [gkA, gkB, gkC, Act.put, gkD, gkE, gkF])
    refine gk1 8 (v := ?_) rfl ?_ ?_
    rotate_left; focus (intro w9 hS9; clear hS9; go_simp; (try with_reducible rfl)); (try simp only [gkA, gkB, gkC, Act.put, gkD, gkE, gkF])
    refine gk1 9 (v := ?_) rfl ?_ ?_
    rotate_left; focus (intro w9 hS9; clear hS9; go_simp; (try with_reducible rfl)); (try simp only [gkA, gkB, gkC, Act.put, gkD, gkE, gkF])
    refine gk1 10 (v := ?_) rfl ?_ ?_
    rotate_left; focus (intro w9 hS9; clear hS9; go_simp; (try with_reducible rfl)); (try simp only [gkA, gkB, gkC, Act.put, gkD, gkE, gkF])
    refine gk1 11 (v := ?_) rfl ?_ ?_
    rotate_left; focus (intro w9 hS9; clear hS9; go_simp; (try with_reducible rfl)); (try simp only [gkA, gkB, gkC, Act.put, gkD, gkE, gkF])
    refine wpD_ready (rs := [2, 12]) (by kernel_rfl) (by kernel_rfl) ?_; refine AllReadyD.cons rfl (fun K hK => ?_) (AllReadyD.cons rfl (fun K hK => ?_) AllReadyD.nil)
    · rw [if_pos (show _ = true by kernel_rfl)]
      go_simp
      with_reducible refine (HFM.out _).mono ?_
      rintro r w8 ⟨rfl, rfl⟩; clear hHeld; refine gk5 hK.out rfl (HW.out) (fun hHeld => ?_); clear hK K; refine gk1 3 (v := ?_) rfl ?_ ?_
      rotate_left; focus (intro w9 hS9; clear hS9; go_simp; (try with_reducible rfl)); (try simp only [gkA, gkB, gkC, Act.put, gkD, gkE, gkF])
      refine gk3 12 rfl (fun K hK => ?_); go_simp; clear hHeld; refine gk5 hK.out rfl (bl_alloc HW.out _) (fun hHeld => ?_); clear hK K; refine gk3 13 rfl (fun K hK => ?_); go_simp; have HWA := Lib.hid (show Below wB.heap.size wB (wB.alloc (.cells #[.string ⟨#[99, 97, 115, 104]⟩, .int .i64 m, .string (⟨#[97, 99, 99, 111, 117, 110, 116, 58]⟩ ++ s), .int .i64 (-m)] 101)).drew from Below.drew (bl_alloc (Below.refl _ _) _)); have HVP := Lib.hid (show SlIs tSI (· < (wB.alloc (.cells #[.string ⟨#[99, 97, 115, 104]⟩, .int .i64 m, .string (⟨#[97, 99, 99, 111, 117, 110, 116, 58]⟩ ++ s), .int .i64 (-m)] 101)).drew.heap.size) (wB.alloc (.cells #[.string ⟨#[99, 97, 115, 104]⟩, .int .i64 m, .string (⟨#[97, 99, 99, 111, 117, 110, 116, 58]⟩ ++ s), .int .i64 (-m)] 101)).drew (.slice (some ⟨wB.heap.size, 0, none⟩) 2 2) [⟨sCash, m⟩, ⟨sAcc ++ s, -m⟩] from (HPS.out wB).keep (fun _ h => h.2) (fun _ _ => rfl))
      with_reducible refine (HEN.out _ _ HWA.out HVP.out).mono ?_
      rintro r w9 ⟨⟨v9, rfl, hs9⟩, hbe⟩; have HS9 := Lib.hid hs9; have HW9 := Lib.hid (bl_trans HWA.out hbe); have hsz9 : wB.heap.size < (wB.alloc (.cells #[.string ⟨#[99, 97, 115, 104]⟩, .int .i64 m, .string (⟨#[97, 99, 99, 111, 117, 110, 116, 58]⟩ ++ s), .int .i64 (-m)] 101)).drew.heap.size := by show _ < (wB.heap.push _).size; simp
      have hwb : w.heap.size + 1 < wB.heap.size := hl7
      obtain ⟨a9, n9, c9, hv9⟩ : ∃ a n c, v9 = .slice a n c := by
       obtain ⟨a, c, _, _, e, -⟩ := hs9; exact ⟨a, _, c, e⟩
      subst hv9; have HSF := Lib.hid (show SlIs (tEnt 101) (fun k => ((k < w.heap.size ∧ R k) ∨ wB.heap.size ≤ k) ∧ k < w9.heap.size) w9 (.slice a9 n9 c9) (if z9 = 0 then es9 else es) from HS9.out.keep (fun q h => ⟨h.1.elim .inl (fun h => .inr (by omega)), h.2⟩) (SameOn.refl _ _)); clear hs9 HS9 HVP HWA hsz9 hbe; clear hHeld; refine gk5 hK.out rfl (HW9.out) (fun hHeld => ?_); clear hK K; refine gk1 14 (v := ?_) rfl ?_ ?_
      rotate_left; focus (intro w9 hS9; clear hS9; go_simp; (try with_reducible rfl)); (try simp only [gkA, gkB, gkC, Act.put, gkD, gkE, gkF])
      refine wpD_pure (i := 15) (v := ?_) rfl (by kernel_rfl) (fun _ _ _ h => h) (Or.inl ⟨by kernel_rfl, ?_⟩) ?_
      rotate_left; focus (intro w9 hS9; clear hS9; go_simp; (try with_reducible rfl)); (try simp only [gkA, gkB, gkC, Act.put, gkD, gkE, gkF])
      have HY9 := Lib.hid (HY7.out.step HW9.out hl7); have HB9 := Lib.hid (bl_trans HB7.out HW9.out); have hw9 := HW9.out.size; obtain ⟨f0, f1, ff⟩ := blk2 HY9.out.b1; have hl9 := lt_of_heap HY9.out.b1; refine gk3 16 rfl (fun K hK => ?_); go_simp; refine hK.out _ _ ⟨fun h => absurd h (by decide), fun h => absurd h (by decide)⟩ (fun _ => ?_); clear hK K; refine gk3 17 rfl (fun K hK => ?_); go_simp; refine hK.out _ _ ⟨fun h => absurd h (by decide), fun h => absurd h (by decide)⟩ (fun _ => ?_); clear hK K; refine wpD_done (by kernel_rfl) ?_; go_wp2; have g5 : ((w9.setCell ⟨w.heap.size + 1, 0, none⟩ (.slice a9 n9 c9)).setCell ⟨w.heap.size + 1, 1, none⟩ (.slice ad ds.length cd)).heap[w.heap.size + 1]? = some (.cells #[.slice a9 n9 c9, .slice ad ds.length cd] 70 (0, 0)) := heap_setCell_same _ _ _ _ _ _ (heap_setCell_same _ _ _ _ _ _ HY9.out.b1); have b5 : Below w.heap.size w ((w9.setCell ⟨w.heap.size + 1, 0, none⟩ (.slice a9 n9 c9)).setCell ⟨w.heap.size + 1, 1, none⟩ (.slice ad ds.length cd)) := bl_set (bl_set HB9.out _ (by simp only; omega)) _ (by simp only; omega); have hoth : ∀ q, q ≠ w.heap.size + 1 → ((w9.setCell ⟨w.heap.size + 1, 0, none⟩ (.slice a9 n9 c9)).setCell ⟨w.heap.size + 1, 1, none⟩ (.slice ad ds.length cd)).heap[q]? = w9.heap[q]? := fun q h => (Below.heap_setCell _ _ _ _ h).trans (Below.heap_setCell _ _ _ _ h)
      have hz5 : w9.heap.size = ((w9.setCell ⟨w.heap.size + 1, 0, none⟩ (.slice a9 n9 c9)).setCell ⟨w.heap.size + 1, 1, none⟩ (.slice ad ds.length cd)).heap.size := by simp
      obtain ⟨k0, k1, -⟩ := blk2 g5; clear f0 f1 ff; generalize (w9.setCell ⟨w.heap.size + 1, 0, none⟩ (.slice a9 n9 c9)).setCell ⟨w.heap.size + 1, 1, none⟩ (.slice ad ds.length cd) = wf at *; refine bodyPost_ret (v := .tuple #[.agg #[.slice a9 n9 c9, .slice ad ds.length cd], .int .i64 z9]) (by simp [results, Tryz.results44, go_sem, k0, k1]) rfl ?_
      have key : payP ⟨es, ds⟩ s m tm = (⟨if z9 = 0 then es9 else es, ds⟩, z9) := by
       rw [HRR2.out]
       by_cases hz : z9 = 0
       · subst hz; simp
       · rw [if_pos hz, if_neg hz]
      rw [key]; exact ⟨_, _, rfl, HSF.out.keep (fun q h => ⟨h.1.elim (fun h => h.2) (fun h => HRR.out q (by omega)), by omega⟩) (fun q h => hoth q (by rcases h.1 with h | h <;> omega)), keepR HD.out b5, b5⟩
    · rw [if_pos (show _ = true by kernel_rfl)]
      go_simp; clear hHeld; refine gk5 hK.out rfl (bl_alloc HW.out _) (fun hHeld => ?_); clear hK K; refine gk3 2 rfl (fun K hK => ?_); go_simp
      with_reducible refine (HFM.out _).mono ?_
      rintro r w8 ⟨rfl, rfl⟩; clear hHeld; refine gk5 hK.out rfl (bl_alloc HW.out _) (fun hHeld => ?_); clear hK K; refine gk1 3 (v := ?_) rfl ?_ ?_
      rotate_left; focus (intro w9 hS9; clear hS9; go_simp; (try with_reducible rfl)); (try simp only [gkA, gkB, gkC, Act.put, gkD, gkE, gkF])
      refine gk3 13 rfl (fun K hK => ?_); go_simp; have HWA := Lib.hid (show Below wB.heap.size wB (wB.alloc (.cells #[.string ⟨#[99, 97, 115, 104]⟩, .int .i64 m, .string (⟨#[97, 99, 99, 111, 117, 110, 116, 58]⟩ ++ s), .int .i64 (-m)] 101)).drew from Below.drew (bl_alloc (Below.refl _ _) _)); have HVP := Lib.hid (show SlIs tSI (· < (wB.alloc (.cells #[.string ⟨#[99, 97, 115, 104]⟩, .int .i64 m, .string (⟨#[97, 99, 99, 111, 117, 110, 116, 58]⟩ ++ s), .int .i64 (-m)] 101)).drew.heap.size) (wB.alloc (.cells #[.string ⟨#[99, 97, 115, 104]⟩, .int .i64 m, .string (⟨#[97, 99, 99, 111, 117, 110, 116, 58]⟩ ++ s), .int .i64 (-m)] 101)).drew (.slice (some ⟨wB.heap.size, 0, none⟩) 2 2) [⟨sCash, m⟩, ⟨sAcc ++ s, -m⟩] from (HPS.out wB).keep (fun _ h => h.2) (fun _ _ => rfl))
      with_reducible refine (HEN.out _ _ HWA.out HVP.out).mono ?_
      rintro r w9 ⟨⟨v9, rfl, hs9⟩, hbe⟩; have HS9 := Lib.hid hs9; have HW9 := Lib.hid (bl_trans HWA.out hbe); have hsz9 : wB.heap.size < (wB.alloc (.cells #[.string ⟨#[99, 97, 115, 104]⟩, .int .i64 m, .string (⟨#[97, 99, 99, 111, 117, 110, 116, 58]⟩ ++ s), .int .i64 (-m)] 101)).drew.heap.size := by show _ < (wB.heap.push _).size; simp
      have hwb : w.heap.size + 1 < wB.heap.size := hl7
      obtain ⟨a9, n9, c9, hv9⟩ : ∃ a n c, v9 = .slice a n c := by
       obtain ⟨a, c, _, _, e, -⟩ := hs9; exact ⟨a, _, c, e⟩
      subst hv9; have HSF := Lib.hid (show SlIs (tEnt 101) (fun k => ((k < w.heap.size ∧ R k) ∨ wB.heap.size ≤ k) ∧ k < w9.heap.size) w9 (.slice a9 n9 c9) (if z9 = 0 then es9 else es) from HS9.out.keep (fun q h => ⟨h.1.elim .inl (fun h => .inr (by omega)), h.2⟩) (SameOn.refl _ _)); clear hs9 HS9 HVP HWA hsz9 hbe; clear hHeld; refine gk5 hK.out rfl (HW9.out) (fun hHeld => ?_); clear hK K; refine gk1 14 (v := ?_) rfl ?_ ?_
      rotate_left; focus (intro w9 hS9; clear hS9; go_simp; (try with_reducible rfl)); (try simp only [gkA, gkB, gkC, Act.put, gkD, gkE, gkF])
      refine wpD_pure (i := 15) (v := ?_) rfl (by kernel_rfl) (fun _ _ _ h => h) (Or.inl ⟨by kernel_rfl, ?_⟩) ?_
      rotate_left; focus (intro w9 hS9; clear hS9; go_simp; (try with_reducible rfl)); (try simp only [gkA, gkB, gkC, Act.put, gkD, gkE, gkF])
      have HY9 := Lib.hid (HY7.out.step HW9.out hl7); have HB9 := Lib.hid (bl_trans HB7.out HW9.out); have hw9 := HW9.out.size; obtain ⟨f0, f1, ff⟩ := blk2 HY9.out.b1; have hl9 := lt_of_heap HY9.out.b1; refine gk3 16 rfl (fun K hK => ?_); go_simp; refine hK.out _ _ ⟨fun h => absurd h (by decide), fun h => absurd h (by decide)⟩ (fun _ => ?_); clear hK K; refine gk3 17 rfl (fun K hK => ?_); go_simp; refine hK.out _ _ ⟨fun h => absurd h (by decide), fun h => absurd h (by decide)⟩ (fun _ => ?_); clear hK K; refine wpD_done (by kernel_rfl) ?_; go_wp2; have g5 : ((w9.setCell ⟨w.heap.size + 1, 0, none⟩ (.slice a9 n9 c9)).setCell ⟨w.heap.size + 1, 1, none⟩ (.slice ad ds.length cd)).heap[w.heap.size + 1]? = some (.cells #[.slice a9 n9 c9, .slice ad ds.length cd] 70 (0, 0)) := heap_setCell_same _ _ _ _ _ _ (heap_setCell_same _ _ _ _ _ _ HY9.out.b1); have b5 : Below w.heap.size w ((w9.setCell ⟨w.heap.size + 1, 0, none⟩ (.slice a9 n9 c9)).setCell ⟨w.heap.size + 1, 1, none⟩ (.slice ad ds.length cd)) := bl_set (bl_set HB9.out _ (by simp only; omega)) _ (by simp only; omega); have hoth : ∀ q, q ≠ w.heap.size + 1 → ((w9.setCell ⟨w.heap.size + 1, 0, none⟩ (.slice a9 n9 c9)).setCell ⟨w.heap.size + 1, 1, none⟩ (.slice ad ds.length cd)).heap[q]? = w9.heap[q]? := fun q h => (Below.heap_setCell _ _ _ _ h).trans (Below.heap_setCell _ _ _ _ h)
      have hz5 : w9.heap.size = ((w9.setCell ⟨w.heap.size + 1, 0, none⟩ (.slice a9 n9 c9)).setCell ⟨w.heap.size + 1, 1, none⟩ (.slice ad ds.length cd)).heap.size := by simp
      obtain ⟨k0, k1, -⟩ := blk2 g5; clear f0 f1 ff; generalize (w9.setCell ⟨w.heap.size + 1, 0, none⟩ (.slice a9 n9 c9)).setCell ⟨w.heap.size + 1, 1, none⟩ (.slice ad ds.length cd) = wf at *; refine bodyPost_ret (v := .tuple #[.agg #[.slice a9 n9 c9, .slice ad ds.length cd], .int .i64 z9]) (by simp [results, Tryz.results44, go_sem, k0, k1]) rfl ?_
      have key : payP ⟨es, ds⟩ s m tm = (⟨if z9 = 0 then es9 else es, ds⟩, z9) := by
       rw [HRR2.out]
       by_cases hz : z9 = 0
       · subst hz; simp
       · rw [if_pos hz, if_neg hz]
      rw [key]; exact ⟨_, _, rfl, HSF.out.keep (fun q h => ⟨h.1.elim (fun h => h.2) (fun h => HRR.out q (by omega)), by omega⟩) (fun q h => hoth q (by rcases h.1 with h | h <;> omega)), keepR HD.out b5, b5⟩
end Go.Proofs.YtifcelebfagjbaaGreatDoor
