/-
  Layer proofs, merged: PoRs PoAd PoXc PoDd Laid PoS.
-/
import Derived.Test.YtifcelebfagjbaaGreatDoorMgL
import Derived.Test.YtifcelebfagjbaaGreatDoorMgB
import Derived.Test.YtifcelebfagjbaaGreatDoorMgC
import Derived.Test.YtifcelebfagjbaaGreatDoorShelf
import Derived.Test.YtifcelebfagjbaaGreatDoorLib
import Derived.LaidMore
import Derived.Lib.LaidTab
import Derived.Stop.Joined
import Derived.Test.YtifcelebfagjbaaGreatDoorMgF
namespace Go.Tw.Po
open Go.RowKit Go.Tw Go.Sort Go.Tw.Ord Go.Proofs.YtifcelebfagjbaaGreatDoor
def delK (s : ByteArray) (l : List Chg) : List Chg := l.filter fun x => !decide (x.key = s)
theorem delK_take {s : ByteArray} {l : List Chg} {k : Nat} (hk : k < l.length) : delK s (l.take (k + 1)) = if l[k].key = s then delK s (l.take k) else delK s (l.take k) ++ [l[k]] := by
 unfold delK; rw [List.take_succ_eq_append_getElem hk, List.filter_append, List.filter_cons, List.filter_nil]
 by_cases h : l[k].key = s <;> simp [h]
theorem delK_len (s : ByteArray) (l : List Chg) : (delK s l).length ≤ l.length := List.length_filter_le _ _
end Go.Tw.Po
namespace Go.Proofs.YtifcelebfagjbaaGreatDoor
open Go.RowKit Go.Tw Go.Tw.Ord Go.Tw.Po Go.Sort
structure RV (w : World) (A : Array Value) (ve vd : Value) (l : List SI) (v : Value) (wr : World) : Prop where
 y : VW w.heap.size A ve vd wr
 b : Below w.heap.size w wr
 s : SlIs tSI (· < wr.heap.size) wr v l
theorem RV.lt {w : World} {A : Array Value} {ve vd : Value} {l : List SI} {v : Value} {wr : World} (h : RV w A ve vd l v wr) : w.heap.size + 2 < wr.heap.size := lt_of_heap h.y.b2
theorem RV.step {w : World} {A : Array Value} {ve vd : Value} {l : List SI} {v : Value} {wr w' : World} (h : RV w A ve vd l v wr) (hb : Below wr.heap.size wr w') : RV w A ve vd l v w' :=
 ⟨h.y.step hb h.lt, bl_trans h.b hb, h.s.step hb⟩
theorem RV.put {w : World} {A : Array Value} {ve vd : Value} {l l' : List SI} {v v' : Value} {wr w' : World} (h : RV w A ve vd l v wr) (hb : Below wr.heap.size wr w') (hs : SlIs tSI (· < w'.heap.size) w' v' l') : RV w A ve vd l' v' w' :=
 ⟨h.y.step hb h.lt, bl_trans h.b hb, hs⟩
set_option maxRecDepth 100000 in
set_option maxHeartbeats 8000000 in
theorem voidR_any (R : Nat → Prop) (L : List Chg) (N : Nat) (c : List Acc) (A : Array Value) (va ve vd : Value) (es : List Ent) (ds : List Chg) (s : ByteArray) (tm : Int) (w : World) (hR : ∀ k, w.heap.size ≤ k → R k) (hA : CfgA A va) (hc : SlIs (tAcc 138) (· < w.heap.size) w va c) (hk : CfOk c) (hb : BOk L N ⟨es, ds⟩) (hN : N ≤ 900)
  (he : SlIs (tEnt 101) (fun k => R k ∧ k < w.heap.size) w ve es) (hd : SlIs (tChg eL) (fun k => R k ∧ k < w.heap.size) w vd ds) (htm : i64ok tm) :
  Calls Tryz.prog 42 #[.agg A, .agg #[ve, vd], .string s, .int .i64 tm] w (BookR R w (voidP c ⟨es, ds⟩ s tm)) := by
 have h0 := alloc3 w (.cells A 46) (.cells #[ve, vd] 70) (.cells #[.slice none 0 0, .slice none 0 0] 70); have HB0 := Lib.hid (bl_alloc (bl_alloc (bl_alloc (Below.refl w.heap.size w) (.cells A 46)) (.cells #[ve, vd] 70)) (.cells #[.slice none 0 0, .slice none 0 0] 70)); have HS0 := Lib.hid (show RV w A ve vd [] (.slice none 0 0) _ from ⟨⟨h0.1, h0.2.1, h0.2.2⟩, HB0.out, SlIs.nil⟩); obtain ⟨ae, ce, _, _, rfl, -⟩ := id he; obtain ⟨ad, cd, bd, od, rfl, hd1, hd2, hdo⟩ := chg_open hd; unfold maxLen at hd2; have HDO := Lib.hid hdo; have HA := Lib.hid hA; have HC := Lib.hid hc; have HK := Lib.hid hk; have HE := Lib.hid he; have HD := Lib.hid hd; have HBK := Lib.hid hb; have HRR := Lib.hid hR; have HTM := Lib.hid htm; have HFD := Lib.hid (findR_any ds ae es.length ce (.slice ad ds.length cd) s _ ((ltR hd).step HB0.out)); obtain ⟨d0, d1, -⟩ := blk2 HS0.out.y.b1; clear hA hc hk h0 he hd hdo hb hR htm
 go_enter Tryz.func42, Tryz.ntmps42
 go_wp2_with (fail)
 with_reducible refine HFD.out.mono ?_
 clear HFD; rintro r w1 ⟨⟨vo, hso, rfl⟩, hb1⟩; have HS1 := Lib.hid (HS0.out.step hb1); clear hb1 d0 d1 HS0 HB0
 obtain ⟨oa, on, oc, rfl⟩ : ∃ a n c, vo = .slice a n c := by
  obtain ⟨a, c, _, _, e, -⟩ := hso; exact ⟨a, _, c, e⟩
 clear hso
 cases hf : fndC ds s with
 | none =>
  have HR := Lib.hid (vo_none (c := c) (b := ⟨es, ds⟩) (t := tm) hf); clear hf; simp only [Option.getD_none, Option.isSome_none]
  go_upto_region 2 with (fail)
  have HS5 := Lib.hid (HS1.out.step (bl_alloc (Below.refl w1.heap.size w1) (.cells #[.string zeroC.key, .string zeroC.veh, .string zeroC.sys, .int .i64 zeroC.cls, .int .i64 zeroC.tm, .slice oa on oc, .int .i64 zeroC.c] 49))); generalize w1.alloc (.cells #[.string zeroC.key, .string zeroC.veh, .string zeroC.sys, .int .i64 zeroC.cls, .int .i64 zeroC.tm, .slice oa on oc, .int .i64 zeroC.c] 49) = w5 at HS5 ⊢; obtain ⟨d0, d1, -⟩ := blk2 HS5.out.y.b1; obtain ⟨f0, f1, ff⟩ := blk2 HS5.out.y.b2; have f0' : w5.cell? ⟨w.heap.size + 1 + 1, 0, none⟩ = some (.slice none 0 0) := f0; have f1' : w5.cell? ⟨w.heap.size + 1 + 1, 1, none⟩ = some (.slice none 0 0) := f1; have ff' : ∀ j, w5.frozen? ⟨w.heap.size + 1 + 1, j, none⟩ = false := ff; have hl2 : w.heap.size + 1 + 1 < w5.heap.size := HS5.out.lt; have hl1 : w.heap.size + 1 < w5.heap.size := by omega
  have hl0 : w.heap.size < w5.heap.size := by omega
  have HYX := Lib.hid HS5.out.y; have HBX := Lib.hid HS5.out.b; clear f0 f1 ff; clear HS1; go_wp2; have g5 : ((w5.setCell ⟨w.heap.size + 1 + 1, 0, none⟩ (.slice ae es.length ce)).setCell ⟨w.heap.size + 1 + 1, 1, none⟩ (.slice ad ds.length cd)).heap[w.heap.size + 1 + 1]? = some (.cells #[(.slice ae es.length ce), (.slice ad ds.length cd)] 70 (0, 0)) := heap_setCell_same _ _ _ _ _ _ (heap_setCell_same _ _ _ _ _ _ HYX.out.b2); have b5 : Below w.heap.size w ((w5.setCell ⟨w.heap.size + 1 + 1, 0, none⟩ (.slice ae es.length ce)).setCell ⟨w.heap.size + 1 + 1, 1, none⟩ (.slice ad ds.length cd)) := bl_set (bl_set HBX.out _ (by simp only; omega)) _ (by simp only; omega); obtain ⟨k0, k1, -⟩ := blk2 g5; generalize (w5.setCell ⟨w.heap.size + 1 + 1, 0, none⟩ (.slice ae es.length ce)).setCell ⟨w.heap.size + 1 + 1, 1, none⟩ (.slice ad ds.length cd) = w9 at *; refine bodyPost_ret (v := .tuple #[.agg #[(.slice ae es.length ce), (.slice ad ds.length cd)], .int .i64 10]) (by simp [results, Tryz.results42, go_sem, k0, k1]) rfl ?_; rw [HR.out]; exact BookR.old HE.out HD.out b5
 | some o =>
 have HFO := Lib.hid (HBK.out.cok o (fnd_mem hf).1); have hcf := chk_facts (HBK.out.chk o (fnd_mem hf).1); have hoc : 0 ≤ o.c ∧ o.c ≤ 1125899906842624 := ⟨hcf.2.2.2.2.2.2.1, hcf.2.2.2.2.2.2.2.1⟩; have hon : IntKind.i64.wrap (-o.c) = -o.c := wrap_in (by omega) (by omega); have HSK := Lib.hid (show s.size ≤ 60 by have := HFO.out.key; rw [(fnd_mem hf).2] at this; exact this); have HF := Lib.hid hf; clear hf hcf; simp only [Option.getD_some, Option.isSome_some]
 go_upto_region 2 with (fail)
 have HS5 := Lib.hid (HS1.out.step (bl_alloc (Below.refl w1.heap.size w1) (.cells #[.string o.key, .string o.veh, .string o.sys, .int .i64 o.cls, .int .i64 o.tm, .slice oa on oc, .int .i64 o.c] 49))); have HG5 := Lib.hid (show XB w1.heap.size o (.slice oa on oc) _ from heap_alloc_new w1 (.cells #[.string o.key, .string o.veh, .string o.sys, .int .i64 o.cls, .int .i64 o.tm, .slice oa on oc, .int .i64 o.c] 49)); generalize w1.alloc (.cells #[.string o.key, .string o.veh, .string o.sys, .int .i64 o.cls, .int .i64 o.tm, .slice oa on oc, .int .i64 o.c] 49) = w5 at HS5 HG5 ⊢; generalize w1.heap.size = go at HG5 ⊢; clear HS1; have ht3 : tm < 0 ∨ (0 ≤ tm ∧ 68719476736 < tm) ∨ (0 ≤ tm ∧ tm ≤ 68719476736) := by omega
 rcases ht3 with t1 | ⟨t1, t2⟩ | ⟨t1, t2⟩
 · have HR := Lib.hid (vo_time (c := c) (b := ⟨es, ds⟩) HF.out (show momC tm = false by unfold momC; rw [decide_eq_false (by omega)]; rfl))
   obtain ⟨d0, d1, -⟩ := blk2 HS5.out.y.b1; obtain ⟨f0, f1, ff⟩ := blk2 HS5.out.y.b2; have f0' : w5.cell? ⟨w.heap.size + 1 + 1, 0, none⟩ = some (.slice none 0 0) := f0; have f1' : w5.cell? ⟨w.heap.size + 1 + 1, 1, none⟩ = some (.slice none 0 0) := f1; have ff' : ∀ j, w5.frozen? ⟨w.heap.size + 1 + 1, j, none⟩ = false := ff; have hl2 : w.heap.size + 1 + 1 < w5.heap.size := HS5.out.lt; have hl1 : w.heap.size + 1 < w5.heap.size := by omega
   have hl0 : w.heap.size < w5.heap.size := by omega
   have HYX := Lib.hid HS5.out.y; have HBX := Lib.hid HS5.out.b; clear f0 f1 ff; go_wp2; have g5 : ((w5.setCell ⟨w.heap.size + 1 + 1, 0, none⟩ (.slice ae es.length ce)).setCell ⟨w.heap.size + 1 + 1, 1, none⟩ (.slice ad ds.length cd)).heap[w.heap.size + 1 + 1]? = some (.cells #[(.slice ae es.length ce), (.slice ad ds.length cd)] 70 (0, 0)) := heap_setCell_same _ _ _ _ _ _ (heap_setCell_same _ _ _ _ _ _ HYX.out.b2); have b5 : Below w.heap.size w ((w5.setCell ⟨w.heap.size + 1 + 1, 0, none⟩ (.slice ae es.length ce)).setCell ⟨w.heap.size + 1 + 1, 1, none⟩ (.slice ad ds.length cd)) := bl_set (bl_set HBX.out _ (by simp only; omega)) _ (by simp only; omega); obtain ⟨k0, k1, -⟩ := blk2 g5; generalize (w5.setCell ⟨w.heap.size + 1 + 1, 0, none⟩ (.slice ae es.length ce)).setCell ⟨w.heap.size + 1 + 1, 1, none⟩ (.slice ad ds.length cd) = w9 at *; refine bodyPost_ret (v := .tuple #[.agg #[(.slice ae es.length ce), (.slice ad ds.length cd)], .int .i64 12]) (by simp [results, Tryz.results42, go_sem, k0, k1]) rfl ?_; rw [HR.out]; exact BookR.old HE.out HD.out b5
 · have HR := Lib.hid (vo_time (c := c) (b := ⟨es, ds⟩) HF.out (show momC tm = false by unfold momC; rw [decide_eq_false (show ¬ tm ≤ 68719476736 by omega), Bool.and_false]))
   obtain ⟨d0, d1, -⟩ := blk2 HS5.out.y.b1; obtain ⟨f0, f1, ff⟩ := blk2 HS5.out.y.b2; have f0' : w5.cell? ⟨w.heap.size + 1 + 1, 0, none⟩ = some (.slice none 0 0) := f0; have f1' : w5.cell? ⟨w.heap.size + 1 + 1, 1, none⟩ = some (.slice none 0 0) := f1; have ff' : ∀ j, w5.frozen? ⟨w.heap.size + 1 + 1, j, none⟩ = false := ff; have hl2 : w.heap.size + 1 + 1 < w5.heap.size := HS5.out.lt; have hl1 : w.heap.size + 1 < w5.heap.size := by omega
   have hl0 : w.heap.size < w5.heap.size := by omega
   have HYX := Lib.hid HS5.out.y; have HBX := Lib.hid HS5.out.b; clear f0 f1 ff; go_wp2; have g5 : ((w5.setCell ⟨w.heap.size + 1 + 1, 0, none⟩ (.slice ae es.length ce)).setCell ⟨w.heap.size + 1 + 1, 1, none⟩ (.slice ad ds.length cd)).heap[w.heap.size + 1 + 1]? = some (.cells #[(.slice ae es.length ce), (.slice ad ds.length cd)] 70 (0, 0)) := heap_setCell_same _ _ _ _ _ _ (heap_setCell_same _ _ _ _ _ _ HYX.out.b2); have b5 : Below w.heap.size w ((w5.setCell ⟨w.heap.size + 1 + 1, 0, none⟩ (.slice ae es.length ce)).setCell ⟨w.heap.size + 1 + 1, 1, none⟩ (.slice ad ds.length cd)) := bl_set (bl_set HBX.out _ (by simp only; omega)) _ (by simp only; omega); obtain ⟨k0, k1, -⟩ := blk2 g5; generalize (w5.setCell ⟨w.heap.size + 1 + 1, 0, none⟩ (.slice ae es.length ce)).setCell ⟨w.heap.size + 1 + 1, 1, none⟩ (.slice ad ds.length cd) = w9 at *; refine bodyPost_ret (v := .tuple #[.agg #[(.slice ae es.length ce), (.slice ad ds.length cd)], .int .i64 12]) (by simp [results, Tryz.results42, go_sem, k0, k1]) rfl ?_; rw [HR.out]; exact BookR.old HE.out HD.out b5
 have HMO := Lib.hid (show momC tm = true by unfold momC; rw [decide_eq_true t1, decide_eq_true t2]; rfl); have HM5 := Lib.hid PL.nil; have LDC := fun d os => ldc_re HS5.out.y.b0 HA.out.size d os
 have LDX := fun d os => ldx_re HG5.out d os
 have c6 := (blk7 HG5.out).2.2.2.2.2.2.1; have b6 := cell_regrown c6; clear c6; have cD := fun d os => Calls.regrown_of (debit_any c A va o oa on oc _ HA.out (HC.out.step (bl_trans HS5.out.b (below_regrown w5 d os))) HK.out HFO.out.veh)
 go_upto_region 6 with (fail)
 refine wp_region_below_tail 6 (by kernel_rfl) (by kernel_rfl) ?_; simp only [List.take_succ_cons, List.take_zero, List.drop_succ_cons, List.drop_zero]; refine wpQuiet_step (fun K hK => ?_); rw [if_pos (show _ = true by kernel_rfl)]; refine quiet_loadA (A := A) rfl Tryz.isAgg46 Tryz.sizeOf46 rfl (fun w' hw' => ?_) (hK _ ?_)
 · obtain ⟨⟨nq, osq⟩, rfl⟩ := hw'
   exact LDC nq osq
 clear hK K; refine wpQuiet_step (fun K hK => ?_); rw [if_pos (show _ = true by kernel_rfl)]; refine quiet_loadA (A := #[.string o.key, .string o.veh, .string o.sys, .int .i64 o.cls, .int .i64 o.tm, .slice oa on oc, .int .i64 o.c]) rfl Tryz.isAgg49 Tryz.sizeOf49 rfl (fun w' hw' => ?_) (hK _ ?_)
 · obtain ⟨⟨nq, osq⟩, rfl⟩ := hw'
   exact LDX nq osq
 clear hK K
 (repeat (quiet_step (first | (go_at_call 38; with_reducible exact cD _ _))))
 refine wpQuiet_nil ?_; intro wq6 hq6; have HQ6 := Lib.hid (HS5.out.step hq6); have HG6 := Lib.hid (HG5.out.step hq6); have HAD := Lib.hid (addR_any [] _ (debC c o) (-o.c) wq6 HQ6.out.s (Nat.le_trans HM5.out.2 (by decide)) (debC_size HK.out HFO.out.veh) (HM5.out.amt (by decide)) (by omega)); have HM6 := Lib.hid (HM5.out.add (a := (debC c o)) (n := (-o.c)) (by omega) (by omega)); clear hq6 cD b6 LDX
 go_wp2_with (fail)
 with_reducible refine HAD.out.mono ?_
 clear HAD; rintro r w6 ⟨⟨v6, rfl, hn6⟩, hb6⟩; have HS6 := Lib.hid (HQ6.out.put hb6 hn6.sl'); have HH6 := Lib.hid (HG6.out.step hb6); clear HG6; have HG6 := HH6; clear HH6; obtain ⟨a6, c6, rfl, -⟩ := hn6.form; clear hn6 hb6 HQ6; clear LDC; have LDC := fun d os => ldc_re HS6.out.y.b0 HA.out.size d os
 have LDX := fun d os => ldx_re HG6.out d os
 have c6 := (blk7 HG6.out).2.2.2.2.2.2.1; have b6 := cell_regrown c6; clear c6; have cD := fun d os => Calls.regrown_of (credit_any o (.slice oa on oc) (grow (redrawn w6 d) os) HFO.out.sys)
 go_upto_region 7 with (fail)
 refine wp_region_below_tail 5 (by kernel_rfl) (by kernel_rfl) ?_; simp only [List.take_succ_cons, List.take_zero, List.drop_succ_cons, List.drop_zero]
 quiet_step (fail)
 refine wpQuiet_step (fun K hK => ?_); rw [if_pos (show _ = true by kernel_rfl)]; refine quiet_loadA (A := #[.string o.key, .string o.veh, .string o.sys, .int .i64 o.cls, .int .i64 o.tm, .slice oa on oc, .int .i64 o.c]) rfl Tryz.isAgg49 Tryz.sizeOf49 rfl (fun w' hw' => ?_) (hK _ ?_)
 · obtain ⟨⟨nq, osq⟩, rfl⟩ := hw'
   exact LDX nq osq
 clear hK K
 (repeat (quiet_step (first | (go_at_call 39; with_reducible exact cD _ _))))
 refine wpQuiet_nil ?_; intro wqB hqB; have HQB := Lib.hid (HS6.out.step hqB); have HGB := Lib.hid (HG6.out.step hqB); have HAD := Lib.hid (addR_any (addP [] (debC c o) (-o.c)) _ (creC o) o.c wqB HQB.out.s (Nat.le_trans HM6.out.2 (by decide)) (creC_size HFO.out.sys) (HM6.out.amt (by decide)) (by omega)); have HMB := Lib.hid (HM6.out.add (a := (creC o)) (n := o.c) (by omega) (by omega)); clear hqB cD b6 LDX
 go_wp2_with (fail)
 with_reducible refine HAD.out.mono ?_
 clear HAD; rintro r wB ⟨⟨vB, rfl, hnB⟩, hbB⟩; have HSB := Lib.hid (HQB.out.put hbB hnB.sl'); have HHB := Lib.hid (HGB.out.step hbB); clear HGB; have HGB := HHB; clear HHB; obtain ⟨aB, cB, rfl, -⟩ := hnB.form; clear hnB hbB HQB; clear LDC HG5 HG6 HGB HS5 HS6 HM5 HM6; have HPO := Lib.hid (show moveP c [] o (-o.c) = addP (addP [] (debC c o) (-o.c)) (creC o) o.c by rw [move_eq, Int.neg_neg]); generalize addP (addP [] (debC c o) (-o.c)) (creC o) o.c = pl at HSB HMB HPO ⊢; have hvl : (verN es s : Int) ≤ 900 := by have h1 := HBK.out.len; have h2 := ver_le (l := es) (s := s); simp only at h1; omega
 have hv0 : 0 ≤ (verN es s : Int) := by omega
 have HVE := Lib.hid (show ∀ W, Below w.heap.size w W → Calls Tryz.prog 76 #[.agg #[.slice ae es.length ce], .string s] W fun e w' => e = .returned (.int .i64 (verN es s)) ∧ Below W.heap.size W w' from fun W hW => versionR_any es (.slice ae es.length ce) s W ((ltR HE.out).step hW) (by have := HSK.out; omega) (by have := HBK.out.len; simp only at this; omega)); have hke := HSK.out; have HAS := Lib.hid (fun es' z => @vo_s c ⟨es, ds⟩ s tm o HF.out HMO.out es' z); simp only at HAS; generalize (verN es s : Int) = vn at HVE hvl hv0 HAS; have hvi : i64ok vn := by unfold i64ok; omega
 have HFM := Lib.hid (FormatR_any vn hvi); have hfz := fmt_size hvi; have HKS := Lib.hid (keyC_size hke hvi); have HKE := Lib.hid (show keyC s vn = s ++ ⟨#[35]⟩ ++ fmtS vn from rfl); clear hvi; generalize keyC s vn = kk at HKS HKE HAS; generalize fmtS vn = fm at *; obtain ⟨⟨es9, z9⟩, hen⟩ : ∃ r, enterL es kk tm (moveP c [] o (-o.c)) = r := ⟨_, rfl⟩; rw [HPO.out] at hen; have HEQ := Lib.hid hen
 have HEN := Lib.hid (show ∀ W, Below wB.heap.size wB W → Calls Tryz.prog 75 #[.agg #[.slice ae es.length ce, .slice ad ds.length cd], .string (s ++ ⟨#[35]⟩ ++ fm), .int .i64 tm, .slice aB pl.length cB] W (EntRE (fun k => (k < w.heap.size ∧ R k) ∨ W.heap.size ≤ k) W (.slice ad ds.length cd) es (es9, z9)) from fun W hW => by
  rw [← hen, ← HKE.out]
  exact enterR_any _ es (.slice ae es.length ce) ad ds.length cd kk tm pl (.slice aB pl.length cB) W (fun k hk => .inr hk) (HE.out.keep (fun q h => ⟨.inl ⟨h.2, h.1⟩, Nat.lt_of_lt_of_le h.2 (Nat.le_trans HSB.out.b.size hW.size)⟩) (fun q h => (bl_trans HSB.out.b hW).block q h.2)) (HSB.out.s.step hW) (Nat.le_trans HKS.out (by decide)) HTM.out HBK.out.es (by have := HBK.out.len; simp only at this; omega) (Nat.le_trans HMB.out.2 (by decide)))
 unfold EntRE at HEN; clear hen; have hbz : w.heap.size ≤ wB.heap.size := HSB.out.b.size; have HDD := HDO; clear HDO; have HDO := Lib.hid (show ∀ (W W' : World), Below wB.heap.size wB W → Below W.heap.size W W' → SlIs (tChg eL) (fun k => ((k < w.heap.size ∧ R k) ∨ W.heap.size ≤ k) ∧ k < W'.heap.size) W' (.slice ad ds.length cd) ds from fun W W' h1 h2 => HD.out.keep (fun q h => ⟨.inl ⟨h.2, h.1⟩, Nat.lt_of_lt_of_le h.2 (Nat.le_trans hbz (Nat.le_trans h1.size h2.size))⟩) (fun q h => (bl_trans (bl_trans HSB.out.b h1) h2).block q h.2)); have HLB := Lib.hid (show ∀ w', Below wB.heap.size wB w' → w'.cell? ⟨w.heap.size + 1, 0, none⟩ = some (.slice ae es.length ce) ∧ w'.cell? ⟨w.heap.size + 1, 1, none⟩ = some (.slice ad ds.length cd) from fun w' h => ⟨(blk2 (HSB.out.step h).y.b1).1, (blk2 (HSB.out.step h).y.b1).2.1⟩); have HVB := Lib.hid (fun W (h : Below wB.heap.size wB W) => HVE.out W (bl_trans HSB.out.b h)); have z1 : ¬ (9223372036854775807 < s.size + 1) := by omega
 have z2 : ¬ (9223372036854775807 < s.size + 1 + fm.size) := by omega
 have hPB := Lib.hid (show ∀ k, (k < w.heap.size ∧ R k) → k < wB.heap.size from fun k h => by omega); clear HVE hfz hvl hv0; have HW := Lib.hid (Below.drew (Below.refl wB.heap.size wB))
 go_upto_region 8 with (fail)
 go_cut [13, 14] (fun yv fv wx => ∃ (gy : Nat) (v9 : Value), yv = .pointer (some ⟨gy, 0, none⟩) ∧ fv = .int .i64 z9 ∧ ER wB (fun k => k < w.heap.size ∧ R k) gy v9 (.slice ad ds.length cd) (if z9 = 0 then es9 else es) ds wx)
 case first =>
  refine wp_region_D (fun j => if j < 18 then 0 else if j < 18 then 1 else 2) (fun w' => Below wB.heap.size wB w') (by kernel_rfl) (HW.out) (fun hHeld => ?_); refine gk1 0 (v := ?_) rfl ?_ ?_
  rotate_left; focus (intro w9 hS9; obtain ⟨z0, z1⟩ := HLB.out w9 hS9; clear hS9; go_simp; (try with_reducible rfl)); (try simp only [gkA, gkB, gkC, Act.put, gkD, gkE, gkF])
  refine gk1 1 (v := ?_) rfl ?_ ?_
  rotate_left; focus (intro w9 hS9; clear hS9; go_simp; (try with_reducible rfl)); (try simp only [gkA, gkB, gkC, Act.put, gkD, gkE, gkF])
  refine gk1 2 (v := ?_) rfl ?_ ?_
  rotate_left; focus (intro w9 hS9; clear hS9; go_simp; (try with_reducible rfl)); (try simp only [gkA, gkB, gkC, Act.put, gkD, gkE, gkF])
  refine gk1 3 (v := ?_) rfl ?_ ?_
  rotate_left; focus (intro w9 hS9; clear hS9; go_simp; (try with_reducible rfl)); (try simp only [gkA, gkB, gkC, Act.put, gkD, gkE, gkF])
  refine gk1 4 (v := ?_) rfl ?_ ?_
  rotate_left; focus (intro w9 hS9; obtain ⟨z0, z1⟩ := HLB.out w9 hS9; clear hS9; go_simp; (try with_reducible rfl)); (try simp only [gkA, gkB, gkC, Act.put, gkD, gkE, gkF])
  refine gk1 5 (v := ?_) rfl ?_ ?_
  rotate_left; focus (intro w9 hS9; clear hS9; go_simp; (try with_reducible rfl)); (try simp only [gkA, gkB, gkC, Act.put, gkD, gkE, gkF])
  refine gk1 9 (v := ?_) rfl ?_ ?_
  rotate_left; focus (intro w9 hS9; clear hS9; go_simp; (try with_reducible rfl)); (try simp only [gkA, gkB, gkC, Act.put, gkD, gkE, gkF])
  refine gk1 10 (v := ?_) rfl ?_ ?_
  rotate_left; focus (intro w9 hS9; clear hS9; go_simp; (try with_reducible rfl)); (try simp only [gkA, gkB, gkC, Act.put, gkD, gkE, gkF])
  refine wpD_ready (rs := [6, 15]) (by kernel_rfl) (by kernel_rfl) ?_; refine AllReadyD.cons rfl (fun K hK => ?_) (AllReadyD.cons rfl (fun K hK => ?_) AllReadyD.nil)
  · rw [if_pos (show _ = true by kernel_rfl)]
    go_simp
    with_reducible refine (HVB.out _ HW.out).mono ?_
    rintro r w7 ⟨rfl, hbv⟩; have HV := Lib.hid (bl_trans HW.out hbv)
    skip
    clear hbv HW; have HW := HV; clear HV; clear hHeld; refine gk5 hK.out rfl (HW.out) (fun hHeld => ?_); clear hK K; refine wpD_ready (rs := [7, 15]) (by kernel_rfl) (by kernel_rfl) ?_; refine AllReadyD.cons rfl (fun K hK => ?_) (AllReadyD.cons rfl (fun K hK => ?_) AllReadyD.nil)
    · rw [if_pos (show _ = true by kernel_rfl)]
      go_simp
      with_reducible refine (HFM.out _).mono ?_
      rintro r w8 ⟨rfl, rfl⟩; clear hHeld; refine gk5 hK.out rfl (HW.out) (fun hHeld => ?_); clear hK K; refine gk1 8 (v := ?_) rfl ?_ ?_
      rotate_left; focus (intro w9 hS9; clear hS9; go_simp; (try with_reducible rfl)); (try simp only [gkA, gkB, gkC, Act.put, gkD, gkE, gkF])
      refine wpD_ready (rs := [11, 15]) (by kernel_rfl) (by kernel_rfl) ?_; refine AllReadyD.cons rfl (fun K hK => ?_) (AllReadyD.cons rfl (fun K hK => ?_) AllReadyD.nil)
      · rw [if_pos (show _ = true by kernel_rfl)]
        go_simp
        with_reducible refine (HEN.out _ HW.out).mono ?_
        rintro r w9 ⟨⟨v9, rfl, hs9⟩, hbe⟩; have HS9 := Lib.hid hs9; have HD9 := Lib.hid (HDO.out _ _ HW.out hbe); have HV := Lib.hid (bl_trans HW.out hbe); have HWQ := HW
        obtain ⟨a9, n9, c9, hv9⟩ : ∃ a n c, v9 = .slice a n c := by
         obtain ⟨a, c, _, _, e, -⟩ := hs9; exact ⟨a, _, c, e⟩
        subst hv9
        skip
        clear hbe HW hs9; have HW := HV; clear HV; clear hHeld; refine gk5 hK.out rfl (HW.out) (fun hHeld => ?_); clear hK K; refine gk1 12 (v := ?_) rfl ?_ ?_
        rotate_left; focus (intro w9 hS9; clear hS9; go_simp; (try with_reducible rfl)); (try simp only [gkA, gkB, gkC, Act.put, gkD, gkE, gkF])
        refine gk1 13 (v := ?_) rfl ?_ ?_
        rotate_left; focus (intro w9 hS9; clear hS9; go_simp; (try with_reducible rfl)); (try simp only [gkA, gkB, gkC, Act.put, gkD, gkE, gkF])
        refine gk1 14 (v := ?_) rfl ?_ ?_
        rotate_left; focus (intro w9 hS9; clear hS9; go_simp; (try with_reducible rfl)); (try simp only [gkA, gkB, gkC, Act.put, gkD, gkE, gkF])
        refine gk3 15 rfl (fun K hK => ?_); go_simp; clear hHeld; refine gk5 hK.out rfl (bl_alloc HW.out _) (fun hHeld => ?_); clear hK K; refine gk3 16 rfl (fun K hK => ?_); go_simp; clear hHeld; refine gk5 hK.out rfl (bl_alloc HW.out _) (fun hHeld => ?_); clear hK K; refine gk3 17 rfl (fun K hK => ?_); go_simp; clear hHeld; refine gk5 hK.out rfl (bl_alloc HW.out _) (fun hHeld => ?_); clear hK K; refine wpD_done (by kernel_rfl) ?_
        go_wp2_with (fail)
        go_meet; exact ⟨_, _, rfl, rfl, ER.mk_alloc hPB.out HW.out HWQ.out.size HS9.out HD9.out⟩
      · rw [if_pos (show _ = true by kernel_rfl)]
        go_simp; clear hHeld; refine gk5 hK.out rfl (bl_alloc HW.out _) (fun hHeld => ?_); clear hK K; have HYB := Lib.hid (show BB (w7).heap.size (.slice none 0 0) (.slice none 0 0) _ from heap_alloc_new (w7) (.cells #[.slice none 0 0, .slice none 0 0] 70)); have HV := Lib.hid (bl_alloc HW.out (.cells #[.slice none 0 0, .slice none 0 0] 70)); have hgy : wB.heap.size ≤ (w7).heap.size := HW.out.size; clear HW; have HW := HV; clear HV; generalize (w7).alloc (.cells #[.slice none 0 0, .slice none 0 0] 70) = wy at HYB HW hHeld ⊢; generalize (w7).heap.size = gy at HYB hgy ⊢; refine gk3 11 rfl (fun K hK => ?_); go_simp
        with_reducible refine (HEN.out _ HW.out).mono ?_
        rintro r w9 ⟨⟨v9, rfl, hs9⟩, hbe⟩; have HS9 := Lib.hid hs9; have HD9 := Lib.hid (HDO.out _ _ HW.out hbe); have HV := Lib.hid (bl_trans HW.out hbe); have HWQ := HW
        obtain ⟨a9, n9, c9, hv9⟩ : ∃ a n c, v9 = .slice a n c := by
         obtain ⟨a, c, _, _, e, -⟩ := hs9; exact ⟨a, _, c, e⟩
        subst hv9; have hgq := lt_of_heap HYB.out; have HYC := Lib.hid ((hbe.block _ hgq).trans HYB.out); clear HYB; have HYB := HYC; clear HYC; clear hbe HW hs9; have HW := HV; clear HV; clear hHeld; refine gk5 hK.out rfl (HW.out) (fun hHeld => ?_); clear hK K; refine gk1 12 (v := ?_) rfl ?_ ?_
        rotate_left; focus (intro w9 hS9; clear hS9; go_simp; (try with_reducible rfl)); (try simp only [gkA, gkB, gkC, Act.put, gkD, gkE, gkF])
        refine gk1 13 (v := ?_) rfl ?_ ?_
        rotate_left; focus (intro w9 hS9; clear hS9; go_simp; (try with_reducible rfl)); (try simp only [gkA, gkB, gkC, Act.put, gkD, gkE, gkF])
        refine gk1 14 (v := ?_) rfl ?_ ?_
        rotate_left; focus (intro w9 hS9; clear hS9; go_simp; (try with_reducible rfl)); (try simp only [gkA, gkB, gkC, Act.put, gkD, gkE, gkF])
        obtain ⟨y0, y1, yf⟩ := blk2 HYB.out; have hgl := lt_of_heap HYB.out; refine gk3 16 rfl (fun K hK => ?_); go_simp; clear hHeld; refine gk5 hK.out rfl (bl_set (bl_set HW.out _ hgy) _ hgy) (fun hHeld => ?_); clear hK K; refine gk3 17 rfl (fun K hK => ?_); go_simp; clear hHeld; refine gk5 hK.out rfl (bl_set (bl_set HW.out _ hgy) _ hgy) (fun hHeld => ?_); clear hK K; refine wpD_done (by kernel_rfl) ?_
        go_wp2_with (fail)
        go_meet; exact ⟨_, _, rfl, rfl, ER.mk_set hPB.out HW.out HWQ.out.size hgy hgq HS9.out HD9.out HYB.out⟩
    · rw [if_pos (show _ = true by kernel_rfl)]
      go_simp; clear hHeld; refine gk5 hK.out rfl (bl_alloc HW.out _) (fun hHeld => ?_); clear hK K; have HYB := Lib.hid (show BB (w7).heap.size (.slice none 0 0) (.slice none 0 0) _ from heap_alloc_new (w7) (.cells #[.slice none 0 0, .slice none 0 0] 70)); have HV := Lib.hid (bl_alloc HW.out (.cells #[.slice none 0 0, .slice none 0 0] 70)); have hgy : wB.heap.size ≤ (w7).heap.size := HW.out.size; clear HW; have HW := HV; clear HV; generalize (w7).alloc (.cells #[.slice none 0 0, .slice none 0 0] 70) = wy at HYB HW hHeld ⊢; generalize (w7).heap.size = gy at HYB hgy ⊢; refine gk3 7 rfl (fun K hK => ?_); go_simp
      with_reducible refine (HFM.out _).mono ?_
      rintro r w8 ⟨rfl, rfl⟩; clear hHeld; refine gk5 hK.out rfl (HW.out) (fun hHeld => ?_); clear hK K; refine gk1 8 (v := ?_) rfl ?_ ?_
      rotate_left; focus (intro w9 hS9; clear hS9; go_simp; (try with_reducible rfl)); (try simp only [gkA, gkB, gkC, Act.put, gkD, gkE, gkF])
      refine gk3 11 rfl (fun K hK => ?_); go_simp
      with_reducible refine (HEN.out _ HW.out).mono ?_
      rintro r w9 ⟨⟨v9, rfl, hs9⟩, hbe⟩; have HS9 := Lib.hid hs9; have HD9 := Lib.hid (HDO.out _ _ HW.out hbe); have HV := Lib.hid (bl_trans HW.out hbe); have HWQ := HW
      obtain ⟨a9, n9, c9, hv9⟩ : ∃ a n c, v9 = .slice a n c := by
       obtain ⟨a, c, _, _, e, -⟩ := hs9; exact ⟨a, _, c, e⟩
      subst hv9; have hgq := lt_of_heap HYB.out; have HYC := Lib.hid ((hbe.block _ hgq).trans HYB.out); clear HYB; have HYB := HYC; clear HYC; clear hbe HW hs9; have HW := HV; clear HV; clear hHeld; refine gk5 hK.out rfl (HW.out) (fun hHeld => ?_); clear hK K; refine gk1 12 (v := ?_) rfl ?_ ?_
      rotate_left; focus (intro w9 hS9; clear hS9; go_simp; (try with_reducible rfl)); (try simp only [gkA, gkB, gkC, Act.put, gkD, gkE, gkF])
      refine gk1 13 (v := ?_) rfl ?_ ?_
      rotate_left; focus (intro w9 hS9; clear hS9; go_simp; (try with_reducible rfl)); (try simp only [gkA, gkB, gkC, Act.put, gkD, gkE, gkF])
      refine gk1 14 (v := ?_) rfl ?_ ?_
      rotate_left; focus (intro w9 hS9; clear hS9; go_simp; (try with_reducible rfl)); (try simp only [gkA, gkB, gkC, Act.put, gkD, gkE, gkF])
      obtain ⟨y0, y1, yf⟩ := blk2 HYB.out; have hgl := lt_of_heap HYB.out; refine gk3 16 rfl (fun K hK => ?_); go_simp; clear hHeld; refine gk5 hK.out rfl (bl_set (bl_set HW.out _ hgy) _ hgy) (fun hHeld => ?_); clear hK K; refine gk3 17 rfl (fun K hK => ?_); go_simp; clear hHeld; refine gk5 hK.out rfl (bl_set (bl_set HW.out _ hgy) _ hgy) (fun hHeld => ?_); clear hK K; refine wpD_done (by kernel_rfl) ?_
      go_wp2_with (fail)
      go_meet; exact ⟨_, _, rfl, rfl, ER.mk_set hPB.out HW.out HWQ.out.size hgy hgq HS9.out HD9.out HYB.out⟩
  · rw [if_pos (show _ = true by kernel_rfl)]
    go_simp; clear hHeld; refine gk5 hK.out rfl (bl_alloc HW.out _) (fun hHeld => ?_); clear hK K; have HYB := Lib.hid (show BB wB.heap.size (.slice none 0 0) (.slice none 0 0) (wB.alloc (.cells #[.slice none 0 0, .slice none 0 0] 70)).drew from heap_alloc_new wB (.cells #[.slice none 0 0, .slice none 0 0] 70)); have HV := Lib.hid (Below.drew (bl_alloc (Below.refl wB.heap.size wB) (.cells #[.slice none 0 0, .slice none 0 0] 70))); have hgy : wB.heap.size ≤ wB.heap.size := Nat.le_refl _; clear HW; have HW := HV; clear HV; have hHeld : Below wB.heap.size wB (wB.alloc (.cells #[.slice none 0 0, .slice none 0 0] 70)).drew := HW.out; generalize (wB.alloc (.cells #[.slice none 0 0, .slice none 0 0] 70)).drew = wy at HYB HW hHeld ⊢; refine gk3 6 rfl (fun K hK => ?_); go_simp
    with_reducible refine (HVB.out _ HW.out).mono ?_
    rintro r w7 ⟨rfl, hbv⟩; have HV := Lib.hid (bl_trans HW.out hbv); have hgq := lt_of_heap HYB.out; have HYC := Lib.hid ((hbv.block _ hgq).trans HYB.out); clear HYB; have HYB := HYC; clear HYC; clear hbv HW; have HW := HV; clear HV; clear hHeld; refine gk5 hK.out rfl (HW.out) (fun hHeld => ?_); clear hK K; refine gk3 7 rfl (fun K hK => ?_); go_simp
    with_reducible refine (HFM.out _).mono ?_
    rintro r w8 ⟨rfl, rfl⟩; clear hHeld; refine gk5 hK.out rfl (HW.out) (fun hHeld => ?_); clear hK K; refine gk1 8 (v := ?_) rfl ?_ ?_
    rotate_left; focus (intro w9 hS9; clear hS9; go_simp; (try with_reducible rfl)); (try simp only [gkA, gkB, gkC, Act.put, gkD, gkE, gkF])
    refine gk3 11 rfl (fun K hK => ?_); go_simp
    with_reducible refine (HEN.out _ HW.out).mono ?_
    rintro r w9 ⟨⟨v9, rfl, hs9⟩, hbe⟩; have HS9 := Lib.hid hs9; have HD9 := Lib.hid (HDO.out _ _ HW.out hbe); have HV := Lib.hid (bl_trans HW.out hbe); have HWQ := HW
    obtain ⟨a9, n9, c9, hv9⟩ : ∃ a n c, v9 = .slice a n c := by
     obtain ⟨a, c, _, _, e, -⟩ := hs9; exact ⟨a, _, c, e⟩
    subst hv9; have hgq := lt_of_heap HYB.out; have HYC := Lib.hid ((hbe.block _ hgq).trans HYB.out); clear HYB; have HYB := HYC; clear HYC; clear hbe HW hs9; have HW := HV; clear HV; clear hHeld; refine gk5 hK.out rfl (HW.out) (fun hHeld => ?_); clear hK K; refine gk1 12 (v := ?_) rfl ?_ ?_
    rotate_left; focus (intro w9 hS9; clear hS9; go_simp; (try with_reducible rfl)); (try simp only [gkA, gkB, gkC, Act.put, gkD, gkE, gkF])
    refine gk1 13 (v := ?_) rfl ?_ ?_
    rotate_left; focus (intro w9 hS9; clear hS9; go_simp; (try with_reducible rfl)); (try simp only [gkA, gkB, gkC, Act.put, gkD, gkE, gkF])
    refine gk1 14 (v := ?_) rfl ?_ ?_
    rotate_left; focus (intro w9 hS9; clear hS9; go_simp; (try with_reducible rfl)); (try simp only [gkA, gkB, gkC, Act.put, gkD, gkE, gkF])
    obtain ⟨y0, y1, yf⟩ := blk2 HYB.out; have hgl := lt_of_heap HYB.out; refine gk3 16 rfl (fun K hK => ?_); go_simp; clear hHeld; refine gk5 hK.out rfl (bl_set (bl_set HW.out _ hgy) _ hgy) (fun hHeld => ?_); clear hK K; refine gk3 17 rfl (fun K hK => ?_); go_simp; clear hHeld; refine gk5 hK.out rfl (bl_set (bl_set HW.out _ hgy) _ hgy) (fun hHeld => ?_); clear hK K; refine wpD_done (by kernel_rfl) ?_
    go_wp2_with (fail)
    go_meet; exact ⟨_, _, rfl, rfl, ER.mk_set hPB.out HW.out HWQ.out.size hgy hgq HS9.out HD9.out HYB.out⟩
 case rest =>
  obtain ⟨gy, v9, rfl, rfl, her⟩ := hcut; have HS10 := Lib.hid (HSB.out.step her.b); have HR10 := Lib.hid her
  obtain ⟨a9, n9, c9, hv9⟩ : ∃ a n c, v9 = .slice a n c := by
   obtain ⟨a, c, _, _, e, -⟩ := her.se; exact ⟨a, _, c, e⟩
  subst hv9; have hgl := lt_of_heap her.g; have hgw := her.lo; have hltB := HSB.out.lt; obtain ⟨y0, y1, yf⟩ := blk2 her.g; clear her HVB HFM HEN HDO HLB HW hPB
  by_cases hz9 : z9 = 0
  case neg =>
   have HR := Lib.hid ((HAS.out es9 z9 (by rw [HPO.out]; exact HEQ.out)).trans (if_pos hz9)); have hz2 : (z9 != 0) = true := by simpa using hz9
   obtain ⟨wc', hwc⟩ : ∃ w', wc = w' := ⟨_, rfl⟩; have HYX := Lib.hid HS10.out.y; have HBX := Lib.hid HS10.out.b; obtain ⟨d0, d1, -⟩ := blk2 HYX.out.b1; obtain ⟨f0, f1, ff⟩ := blk2 HYX.out.b2; have f0' : wc.cell? ⟨w.heap.size + 1 + 1, 0, none⟩ = some (.slice none 0 0) := f0; have f1' : wc.cell? ⟨w.heap.size + 1 + 1, 1, none⟩ = some (.slice none 0 0) := f1; have ff' : ∀ j, wc.frozen? ⟨w.heap.size + 1 + 1, j, none⟩ = false := ff; have hl2 : w.heap.size + 1 + 1 < wc.heap.size := HS10.out.lt; clear hz9 hwc f0 f1 ff; go_wp2; have g5 : ((wc.setCell ⟨w.heap.size + 1 + 1, 0, none⟩ (.slice ae es.length ce)).setCell ⟨w.heap.size + 1 + 1, 1, none⟩ (.slice ad ds.length cd)).heap[w.heap.size + 1 + 1]? = some (.cells #[(.slice ae es.length ce), (.slice ad ds.length cd)] 70 (0, 0)) := heap_setCell_same _ _ _ _ _ _ (heap_setCell_same _ _ _ _ _ _ HYX.out.b2); have b5 : Below w.heap.size w ((wc.setCell ⟨w.heap.size + 1 + 1, 0, none⟩ (.slice ae es.length ce)).setCell ⟨w.heap.size + 1 + 1, 1, none⟩ (.slice ad ds.length cd)) := bl_set (bl_set HBX.out _ (by simp only; omega)) _ (by simp only; omega); obtain ⟨k0, k1, -⟩ := blk2 g5; generalize (wc.setCell ⟨w.heap.size + 1 + 1, 0, none⟩ (.slice ae es.length ce)).setCell ⟨w.heap.size + 1 + 1, 1, none⟩ (.slice ad ds.length cd) = w9 at *; refine bodyPost_ret (v := .tuple #[.agg #[(.slice ae es.length ce), (.slice ad ds.length cd)], .int .i64 z9]) (by simp [results, Tryz.results42, go_sem, k0, k1]) rfl ?_; rw [HR.out]; exact BookR.old HE.out HD.out b5
  subst hz9; have HR := Lib.hid ((HAS.out es9 0 (by rw [HPO.out]; exact HEQ.out)).trans (if_neg (by simp))); have hse := HR10.out.se; rw [if_pos (by trivial)] at hse; have HSE := Lib.hid hse; clear hse; have hw10 := HS10.out.b.size; have o0 : OwnSl (tChg eL) 49 wc.heap.size (wc.alloc (.cells #[] 49)) (.slice (some ⟨wc.heap.size, 0, none⟩) 0 0) [] := OwnSl.lit (css := []) rfl trivial (Nat.le_refl _) (by decide); have HP0 := Lib.hid (show OwnP (tChg eL) 49 wc.heap.size (fun k => (k < w.heap.size ∧ R k) ∨ wc.heap.size ≤ k) _ _ [] from OwnP.ofNil o0); have HAl := Lib.hid (bl_alloc (Below.refl wc.heap.size wc) (.cells #[] 49)); have HRW := Lib.hid (show ∀ q, wc.heap.size ≤ q → ((q < w.heap.size ∧ R q) ∨ wc.heap.size ≤ q) from fun q hq => .inr hq); clear o0 y0 y1 yf
  go_upto_region 12 with (fail)
  generalize wc.alloc (.cells #[] 49) = w11 at HP0 HAl ⊢; have hz11 := HAl.out.size; go_wp2
  go_loopg [15, 16] ds.length (fun g sv i wr => ∃ k : Nat, k + g = ds.length ∧ i = .int .i64 k ∧ OwnP (tChg eL) 49 wc.heap.size (fun k => (k < w.heap.size ∧ R k) ∨ wc.heap.size ≤ k) wr sv (delK s (ds.take k)) ∧ Hid (Below wc.heap.size wc wr))
  case atStart => exact ⟨0, by omega, rfl, HP0.out, HAl⟩
  case round =>
   obtain ⟨k, hk, rfl, hn, HBW⟩ := hrel; have HN := Lib.hid hn; obtain ⟨aO, cO, rfl, -⟩ := hn.form; have hol : (delK s (ds.take k)).length ≤ k := Nat.le_trans (delK_len _ _) (by rw [List.length_take]; omega); have HWW := Lib.hid (HS10.out.b.trans (HBW.out.mono hw10)); have hd8 := HBK.out.ds; simp only at hd8; have gx := (HBW.out.block _ hgl).trans HR10.out.g; obtain ⟨y0, y1, yf⟩ := blk2 gx; clear hn gx
   by_cases hlt : k < ds.length
   · obtain ⟨rfl, -, hbi, hok, hv, hsl, d0, d1, d2, d3, d4, d5, d6⟩ := HDD.out wr (fun q hq => HWW.out.block q hq.2) k hlt
     have k0 : (0 : Int) ≤ (k : Int) := by omega
     have k1 : (k : Int) < (ds.length : Int) := by omega
     have HT := Lib.hid (delK_take (s := s) hlt); generalize ds[k] = y at *
     obtain ⟨hva, hvn, hvc, hve⟩ : ∃ a n c, hv = .slice a n c := by
      obtain ⟨a, c, _, _, e, -⟩ := hsl; exact ⟨a, _, c, e⟩
     subst hve; have hwz : wc.heap.size ≤ wr.heap.size := HBW.out.size; obtain ⟨b, hbq⟩ : ∃ b, (y.key.toList == s.toList) = b := ⟨_, rfl⟩; have HKE := Lib.hid (show decide (y.key = s) = b by rw [← hbq, eq_str])
     cases b with
     | true =>
      clear hok hsl; go_wp2
      go_roundg (ds.length - (k + 1))
      case measure => omega
      case rel => exact ⟨k + 1, by omega, by go_num, by rw [HT.out, if_pos (by simpa using HKE.out)]; exact HN.out, HBW⟩
     | false =>
      have HR0 := HRW; have HDY := Lib.hid (show (tChg eL).is (fun q => ((q < w.heap.size ∧ R q) ∨ wc.heap.size ≤ q) ∧ q < wr.heap.size ∧ some q ≠ (Value.slice aO (delK s (ds.take k)).length cO).ownBlock) wr (cCells y (.slice hva hvn hvc)) y from tChg_mk hok (hsl.keep (fun q hq => ⟨.inl ⟨hq.2, hq.1⟩, by have := hq.2; omega, fun e => by have := (OwnS.own_lt HN.out q e.symm).1; have := hq.2; omega⟩) (fun q hq => rfl))); clear hok hsl
      go_wp2_with (at_builtin
                   refine wpList_append_P (.tmp 81) (.tmp 87) rfl 52 rfl slChg rfl HN.out HR0.out rfl HDY.out (by omega) (by unfold maxLen; omega) hwz ?_; intro v5 w5 hn5 hb5; obtain ⟨a5, c5, rfl, -⟩ := hn5.form; have HN5 := Lib.hid hn5; have HB5 := Lib.hid (HBW.out.trans hb5)
                   clear hn5 hb5)
      go_roundg (ds.length - (k + 1))
      case measure => omega
      case rel => exact ⟨k + 1, by omega, by go_num, by rw [HT.out, if_neg (by simpa using HKE.out)]; have h := HN5.out; rw [List.length_append] at h; exact h, HB5⟩
   · have hkd : decide ((k : Int) < (ds.length : Int)) = false := by simp; omega
     rw [show ds.take k = ds from List.take_of_length_le (by omega)] at HN hol ⊢; have HSA := Lib.hid (HS10.out.step HBW.out); have HG11 := Lib.hid (show BB gy (.slice a9 n9 c9) (.slice ad ds.length cd) wr from (HBW.out.block _ hgl).trans HR10.out.g); have HE11 := Lib.hid (HSE.out.keep (S' := fun k => ((k < w.heap.size ∧ R k) ∨ wB.heap.size ≤ k) ∧ k ≠ gy ∧ k < wr.heap.size) (fun q h => ⟨h.1, h.2.1, Nat.lt_of_lt_of_le h.2.2 HBW.out.size⟩) (fun q h => HBW.out.block q h.2.2)); have HS11 := Lib.hid (HN.out.sl HRW.out); have hgl11 := lt_of_heap HG11.out; have hzr : wc.heap.size ≤ wr.heap.size := HBW.out.size; have HDE := Lib.hid (show delK s ds = ds.filter fun x => !decide (x.key = s) from rfl); rw [← HDE.out] at HR; generalize delK s ds = dl at *
     go_upto_region 18 with (fail)
     have hne : w.heap.size + 2 ≠ gy := by omega
     have g12 : (wr.setCell ⟨gy, 1, none⟩ (.slice aO dl.length cO)).heap[gy]? = some (.cells #[.slice a9 n9 c9, .slice aO dl.length cO] 70 (0, 0)) := heap_setCell_same _ _ _ _ _ _ HG11.out; have e12 : BB (w.heap.size + 2) (.slice none 0 0) (.slice none 0 0) (wr.setCell ⟨gy, 1, none⟩ (.slice aO dl.length cO)) := (Below.heap_setCell _ _ _ _ hne).trans HSA.out.y.b2; have b12 : Below w.heap.size w (wr.setCell ⟨gy, 1, none⟩ (.slice aO dl.length cO)) := bl_set HSA.out.b _ (by simp only; omega); have h12 : ∀ q, q ≠ gy → (wr.setCell ⟨gy, 1, none⟩ (.slice aO dl.length cO)).heap[q]? = wr.heap[q]? := fun q hq => Below.heap_setCell _ _ _ _ hq
     have z12 : (wr.setCell ⟨gy, 1, none⟩ (.slice aO dl.length cO)).heap.size = wr.heap.size := by simp
     clear y0 y1 yf; generalize wr.setCell ⟨gy, 1, none⟩ (.slice aO dl.length cO) = w12 at g12 e12 b12 h12 z12 ⊢; obtain ⟨y0, y1, -⟩ := blk2 g12; obtain ⟨e0, e1, ef⟩ := blk2 e12; have e0' : w12.cell? ⟨w.heap.size + 1 + 1, 0, none⟩ = some (.slice none 0 0) := e0; have e1' : w12.cell? ⟨w.heap.size + 1 + 1, 1, none⟩ = some (.slice none 0 0) := e1; have ef' : ∀ j, w12.frozen? ⟨w.heap.size + 1 + 1, j, none⟩ = false := ef; have hl12 : w.heap.size + 1 + 1 < w12.heap.size := lt_of_heap e12; have H12 := Lib.hid h12; have Z12 := Lib.hid z12; have B12 := Lib.hid b12; have E12 := Lib.hid e12; clear e0 e1 ef h12 b12 z12 e12 g12; go_wp2; have g5 : ((w12.setCell ⟨w.heap.size + 1 + 1, 0, none⟩ (.slice a9 n9 c9)).setCell ⟨w.heap.size + 1 + 1, 1, none⟩ (.slice aO dl.length cO)).heap[w.heap.size + 1 + 1]? = some (.cells #[.slice a9 n9 c9, .slice aO dl.length cO] 70 (0, 0)) := heap_setCell_same _ _ _ _ _ _ (heap_setCell_same _ _ _ _ _ _ E12.out); have b5 : Below w.heap.size w ((w12.setCell ⟨w.heap.size + 1 + 1, 0, none⟩ (.slice a9 n9 c9)).setCell ⟨w.heap.size + 1 + 1, 1, none⟩ (.slice aO dl.length cO)) := bl_set (bl_set B12.out _ (by simp only; omega)) _ (by simp only; omega); have hoth : ∀ q, q ≠ gy → q ≠ w.heap.size + 2 → ((w12.setCell ⟨w.heap.size + 1 + 1, 0, none⟩ (.slice a9 n9 c9)).setCell ⟨w.heap.size + 1 + 1, 1, none⟩ (.slice aO dl.length cO)).heap[q]? = wr.heap[q]? := fun q h1 h2 => ((Below.heap_setCell _ _ _ _ h2).trans (Below.heap_setCell _ _ _ _ h2)).trans (H12.out q h1)
     have hz5 : wr.heap.size = ((w12.setCell ⟨w.heap.size + 1 + 1, 0, none⟩ (.slice a9 n9 c9)).setCell ⟨w.heap.size + 1 + 1, 1, none⟩ (.slice aO dl.length cO)).heap.size := by simp [Z12.out]
     obtain ⟨k0, k1, -⟩ := blk2 g5; clear y0 y1 e0' e1' ef'; generalize (w12.setCell ⟨w.heap.size + 1 + 1, 0, none⟩ (.slice a9 n9 c9)).setCell ⟨w.heap.size + 1 + 1, 1, none⟩ (.slice aO dl.length cO) = wf at *; refine bodyPost_ret (v := .tuple #[.agg #[.slice a9 n9 c9, .slice aO dl.length cO], .int .i64 0]) (by simp [results, Tryz.results42, go_sem, k0, k1]) rfl ?_; rw [HR.out]; exact ⟨_, _, rfl, HE11.out.keep (fun q h => ⟨h.1.elim (fun h => h.2) (fun h => HRR.out q (by omega)), by omega⟩) (fun q h => hoth q h.2.1 (by rcases h.1 with h | h <;> omega)), HS11.out.keep (fun q h => ⟨h.1.elim (fun h => h.2) (fun h => HRR.out q (by omega)), by omega⟩) (fun q h => hoth q (by rcases h.1 with h | h <;> omega) (by rcases h.1 with h | h <;> omega)), b5⟩
end Go.Proofs.YtifcelebfagjbaaGreatDoor
namespace Go.Tw.Po
open Go.RowKit Go.Tw Go.Sort Go.Tw.Ord Go.Proofs.YtifcelebfagjbaaGreatDoor
theorem bb_cell {w : World} {g a : Nat} {z0 z1 : Value} {s : ByteArray} (hg : BB g z0 z1 w) (h0 : ∃ a n c, z0 = .slice a n c) (h1 : ∃ a n c, z1 = .slice a n c) (hc : w.cell? ⟨g, a, none⟩ = some (.string s)) : False := by
 obtain ⟨a0, n0, c0, rfl⟩ := h0; obtain ⟨a1, n1, c1, rfl⟩ := h1; have e := cell_of_row w g a _ _ _ hg; rw [e] at hc
 match a with
 | 0 => simp at hc
 | 1 => simp at hc
 | n + 2 => simp at hc
theorem si_bb {S : Nat → Prop} {w : World} {v : Value} {l : List SI} {g : Nat} {z0 z1 : Value} (h : SlIs tSI S w v l) (hg : BB g z0 z1 w) (h0 : ∃ a n c, z0 = .slice a n c) (h1 : ∃ a n c, z1 = .slice a n c) : SlIs tSI (fun k => S k ∧ k ≠ g) w v l := by
 obtain ⟨ao, cap, b, off, hv, e1, e2, e3, e4⟩ := h; refine ⟨ao, cap, b, off, hv, e1, e2, e3, fun k hk => ?_⟩; obtain ⟨g1, g2, g3, cs, g4, g5⟩ := e4 k hk; obtain ⟨rfl, hok⟩ := tSI_is g5; refine ⟨g1, ⟨g2, ?_⟩, g3, _, g4, tSI_mk hok⟩; intro e; subst e; exact bb_cell hg h0 h1 (g4 0 (by decide))
theorem ent_bb {e : TypeId} {S : Nat → Prop} {w : World} {v : Value} {l : List Ent} {g : Nat} {z0 z1 : Value} (h : SlIs (tEnt e) S w v l) (hg : BB g z0 z1 w) (h0 : ∃ a n c, z0 = .slice a n c) (h1 : ∃ a n c, z1 = .slice a n c) : SlIs (tEnt e) (fun k => S k ∧ k ≠ g) w v l := by
 obtain ⟨ao, cap, b, off, hv, e1, e2, e3, e4⟩ := h; refine ⟨ao, cap, b, off, hv, e1, e2, e3, fun k hk => ?_⟩; obtain ⟨g1, g2, g3, cs, g4, g5⟩ := e4 k hk; obtain ⟨hv, rfl, hok, hs⟩ := tEnt_is g5; refine ⟨g1, ⟨g2, ?_⟩, g3, _, g4, tEnt_mk hok (si_bb hs hg h0 h1)⟩; intro e; subst e; exact bb_cell hg h0 h1 (g4 0 (show 0 < 3 by decide))
theorem chg_bb {e : TypeId} {S : Nat → Prop} {w : World} {v : Value} {l : List Chg} {g : Nat} {z0 z1 : Value} (h : SlIs (tChg e) S w v l) (hg : BB g z0 z1 w) (h0 : ∃ a n c, z0 = .slice a n c) (h1 : ∃ a n c, z1 = .slice a n c) : SlIs (tChg e) (fun k => S k ∧ k ≠ g) w v l := by
 obtain ⟨ao, cap, b, off, hv, e1, e2, e3, e4⟩ := h; refine ⟨ao, cap, b, off, hv, e1, e2, e3, fun k hk => ?_⟩; obtain ⟨g1, g2, g3, cs, g4, g5⟩ := e4 k hk; obtain ⟨hv, rfl, hok, hs⟩ := tChg_is g5; refine ⟨g1, ⟨g2, ?_⟩, g3, _, g4, tChg_mk hok (si_bb hs hg h0 h1)⟩; intro e; subst e; exact bb_cell hg h0 h1 (g4 0 (show 0 < 7 by decide))
theorem ent_sl {e : TypeId} {S : Nat → Prop} {w : World} {v : Value} {l : List Ent} (h : SlIs (tEnt e) S w v l) : ∃ a n c, v = .slice a n c := by
 obtain ⟨a, c, _, _, e, -⟩ := h; exact ⟨a, _, c, e⟩
theorem chg_sl {e : TypeId} {S : Nat → Prop} {w : World} {v : Value} {l : List Chg} (h : SlIs (tChg e) S w v l) : ∃ a n c, v = .slice a n c := by
 obtain ⟨a, c, _, _, e, -⟩ := h; exact ⟨a, _, c, e⟩
structure SnR (w : World) (A : Array Value) (ve vd : Value) (bx : Nat) (vE vD : Value) (b : Bk) (wr : World) : Prop where
 y : VW w.heap.size A ve vd wr
 bb : BB bx vE vD wr
 se : SlIs (tEnt 101) (fun q => q < wr.heap.size ∧ q ≠ bx) wr vE b.es
 sd : SlIs (tChg eL) (fun q => q < wr.heap.size ∧ q ≠ bx) wr vD b.ds
 bl : Below w.heap.size w wr
 l1 : w.heap.size + 2 < bx
theorem SnR.step {w wr w' : World} {A : Array Value} {ve vd vE vD : Value} {bx : Nat} {b : Bk} (h : SnR w A ve vd bx vE vD b wr) (hb : Below wr.heap.size wr w') : SnR w A ve vd bx vE vD b w' :=
 ⟨h.y.step hb (lt_of_heap h.y.b2), (hb.block _ (lt_of_heap h.bb)).trans h.bb, h.se.keep (fun _q hq => ⟨Nat.lt_of_lt_of_le hq.1 hb.size, hq.2⟩) (fun q hq => hb.block q hq.1), h.sd.keep (fun _q hq => ⟨Nat.lt_of_lt_of_le hq.1 hb.size, hq.2⟩) (fun q hq => hb.block q hq.1), bl_trans h.bl hb, h.l1⟩
theorem bb_set_other {wr : World} {bx : Nat} {u1 u2 : Value} : ∀ q, q ≠ bx → ((wr.setCell ⟨bx, 0, none⟩ u1).setCell ⟨bx, 1, none⟩ u2).heap[q]? = wr.heap[q]? :=
 fun _ hq => (Below.heap_setCell _ _ _ _ hq).trans (Below.heap_setCell _ _ _ _ hq)
theorem SnR.put {w wr : World} {A : Array Value} {ve vd vE vD u1 u2 : Value} {bx : Nat} {b b' : Bk} (h : SnR w A ve vd bx vE vD b wr) (he : SlIs (tEnt 101) (· < wr.heap.size) wr u1 b'.es) (hd : SlIs (tChg eL) (· < wr.heap.size) wr u2 b'.ds) :
  SnR w A ve vd bx u1 u2 b' ((wr.setCell ⟨bx, 0, none⟩ u1).setCell ⟨bx, 1, none⟩ u2) := by
 have h1 := h.l1; have key := @bb_set_other wr bx u1 u2; have hz : ((wr.setCell ⟨bx, 0, none⟩ u1).setCell ⟨bx, 1, none⟩ u2).heap.size = wr.heap.size := by simp
 exact ⟨h.y.same fun k _ hk => key k (by omega), heap_setCell_same _ _ _ _ _ _ (heap_setCell_same _ _ _ _ _ _ h.bb), (ent_bb he h.bb (ent_sl h.se) (chg_sl h.sd)).keep (fun _ hq => ⟨by rw [hz]; exact hq.1, hq.2⟩) (fun q hq => key q hq.2), (chg_bb hd h.bb (ent_sl h.se) (chg_sl h.sd)).keep (fun _ hq => ⟨by rw [hz]; exact hq.1, hq.2⟩) (fun q hq => key q hq.2),
  bl_set (bl_set h.bl _ (by simp only; omega)) _ (by simp only; omega), h1⟩
theorem chg_kept {w wr : World} {A : Array Value} {ve vd vE vD u1 u2 v : Value} {bx : Nat} {b : Bk} {l : List Chg} (h : SnR w A ve vd bx vE vD b wr) (hl : SlIs (tChg eL) (· < wr.heap.size) wr v l) : SlIs (tChg eL) (· < ((wr.setCell ⟨bx, 0, none⟩ u1).setCell ⟨bx, 1, none⟩ u2).heap.size) ((wr.setCell ⟨bx, 0, none⟩ u1).setCell ⟨bx, 1, none⟩ u2) v l :=
 (chg_bb hl h.bb (ent_sl h.se) (chg_sl h.sd)).keep (fun _ hq => by simpa using hq.1) (fun q hq => bb_set_other q hq.2)
structure SR (wB : World) (gy : Nat) (ve vd : Value) (bk : Bk) (wx : World) : Prop where
 b : Below wB.heap.size wB wx
 lo : wB.heap.size ≤ gy
 g : BB gy ve vd wx
 se : SlIs (tEnt 101) (· < wx.heap.size) wx ve bk.es
 sd : SlIs (tChg eL) (· < wx.heap.size) wx vd bk.ds
theorem SR.mk_alloc {wB w9 : World} {ve vd : Value} {b : Bk} (hb : Below wB.heap.size wB w9) (he : SlIs (tEnt 101) (· < w9.heap.size) w9 ve b.es) (hd : SlIs (tChg eL) (· < w9.heap.size) w9 vd b.ds) : SR wB w9.heap.size ve vd b (w9.alloc (.cells #[ve, vd] 70)) :=
 ⟨bl_alloc hb _, hb.size, heap_alloc_new _ _, he.step (bl_alloc (Below.refl _ _) _), hd.step (bl_alloc (Below.refl _ _) _)⟩
theorem SR.mk_set {wB w9 : World} {gy : Nat} {z0 z1 ve vd : Value} {b : Bk} (hb : Below wB.heap.size wB w9) (hlo : wB.heap.size ≤ gy) (h0 : ∃ a n c, z0 = .slice a n c) (h1 : ∃ a n c, z1 = .slice a n c) (he : SlIs (tEnt 101) (· < w9.heap.size) w9 ve b.es) (hd : SlIs (tChg eL) (· < w9.heap.size) w9 vd b.ds) (hg : BB gy z0 z1 w9) : SR wB gy ve vd b ((w9.setCell ⟨gy, 0, none⟩ ve).setCell ⟨gy, 1, none⟩ vd) :=
 ⟨bl_set (bl_set hb _ hlo) _ hlo, hlo, heap_setCell_same _ _ _ _ _ _ (heap_setCell_same _ _ _ _ _ _ hg), (ent_bb he hg h0 h1).keep (fun _ h => by simpa using h.1) (fun q h => bb_set_other q h.2), (chg_bb hd hg h0 h1).keep (fun _ h => by simpa using h.1) (fun q h => bb_set_other q h.2)⟩
theorem SR.step {wB wx w' : World} {gy : Nat} {ve vd : Value} {b : Bk} (h : SR wB gy ve vd b wx) (hb : Below wx.heap.size wx w') : SR wB gy ve vd b w' :=
 ⟨bl_trans h.b hb, h.lo, (hb.block _ (lt_of_heap h.g)).trans h.g, h.se.step hb, h.sd.step hb⟩
theorem gone_drop {ds l : List Chg} {k : Nat} (hk : k < ds.length) : goneK (ds.drop k) l = if hasS (keysC l) ds[k].key = true then goneK (ds.drop (k + 1)) l else ds[k].key :: goneK (ds.drop (k + 1)) l := by
 unfold goneK; rw [List.drop_eq_getElem_cons hk, show keysC (ds[k] :: ds.drop (k + 1)) = ds[k].key :: keysC (ds.drop (k + 1)) from rfl, List.filter_cons]
 cases h : hasS (keysC l) ds[k].key <;> simp
theorem hasS_perm {l m : List Chg} (h : m.Perm l) (s : ByteArray) : hasS (keysC m) s = hasS (keysC l) s := by
 rw [Bool.eq_iff_iff, hasS_iff, hasS_iff]; exact (h.map Chg.key).mem_iff
theorem hasS_take {l : List Chg} {k : Nat} (hk : k < l.length) (s : ByteArray) : hasS (keysC (l.take (k + 1))) s = (hasS (keysC (l.take k)) s || decide (l[k].key = s)) := by
 have h1 : keysC (l.take (k + 1)) = keysC (l.take k) ++ [l[k].key] := by unfold keysC; rw [List.take_succ_eq_append_getElem hk, List.map_append]; rfl
 rw [Bool.eq_iff_iff, h1, hasS_iff, List.mem_append, List.mem_singleton, Bool.or_eq_true, hasS_iff, decide_eq_true_eq]; exact ⟨fun h => h.imp id Eq.symm, fun h => h.imp id Eq.symm⟩
end Go.Tw.Po
namespace Go.Tw.Po
open Go.RowKit Go.Tw Go.Sort Go.Tw.Ord
theorem compareBytes_eq : ∀ (a b : List UInt8), Lib.compareBytes a b = if ltL (a.map fun x => (x.toNat : Int)) (b.map fun x => (x.toNat : Int)) = true then -1 else if a = b then 0 else 1
 | [], [] => by simp [Lib.compareBytes, ltL]
 | [], _ :: _ => by simp [Lib.compareBytes, ltL]
 | _ :: _, [] => by simp [Lib.compareBytes, ltL]
 | x :: a, y :: b => by
  have ih := compareBytes_eq a b; unfold Lib.compareBytes; rw [ih]; simp only [List.map_cons, ltL, UInt8.lt_iff_toNat_lt]
  by_cases h1 : x.toNat < y.toNat
  · have h1' : (x.toNat : Int) < (y.toNat : Int) := by omega
    have h3 : ¬ (x.toNat : Int) = (y.toNat : Int) := by omega
    simp only [h1, h1', h3, decide_true, if_true, if_false]
  · have h1' : ¬ (x.toNat : Int) < (y.toNat : Int) := by omega
    by_cases h2 : y.toNat < x.toNat
    · have h2' : (y.toNat : Int) < (x.toNat : Int) := by omega
      have hne : x ≠ y := fun e => by subst e; omega
      have h3 : ¬ (x.toNat : Int) = (y.toNat : Int) := by omega
      simp [h1, h2, h1', hne, h3]
    · have h2' : ¬ (y.toNat : Int) < (x.toNat : Int) := by omega
      have he : x = y := UInt8.toNat_inj.1 (by omega); subst he; simp
end Go.Tw.Po
namespace Go.Proofs.YtifcelebfagjbaaGreatDoor
open Go.RowKit Go.Tw Go.Tw.Ord Go.Tw.Po Go.Sort
theorem strings_Compare_any (a b : ByteArray) (w : World) :
  Calls Tryz.prog 96 #[.string a, .string b] w fun e w' => e = .returned (.int .i64 (cmpS a b)) ∧ w' = w := by
 have e : Lib.compareBytes a.data.toList b.data.toList = cmpS a b := by
  rw [compareBytes_eq]; unfold cmpS; have h1 : ∀ s : ByteArray, (s.data.toList.map fun x => (x.toNat : Int)) = codes s := fun s => rfl
  rw [h1, h1]
  have h2 : (a.data.toList = b.data.toList) = (a = b) := by
   obtain ⟨⟨la⟩⟩ := a; obtain ⟨⟨lb⟩⟩ := b; simp
  simp only [h2]
 rw [← e]; exact Tryz.strings_Compare a b w
theorem cmpI_eq (x y : Int) : Lib.compareInt x y = cmpI x y := by
 unfold Lib.compareInt cmpI
 rfl
theorem Compare_int_any (x y : Int) (w : World) :
  Calls Tryz.prog 95 #[.int .i64 x, .int .i64 y] w fun e w' => e = .returned (.int .i64 (cmpI x y)) ∧ w' = w := by
 rw [← cmpI_eq]; exact Tryz.cmp_Compare_int x y w
set_option maxHeartbeats 1000000 in
theorem Or_any (l : List Int) (g : Nat) (w : World) (h : Row 3 w g l) (hl : l.length ≤ 100) :
  Calls Tryz.prog 94 #[.slice (some ⟨g, 0, none⟩) l.length l.length] w fun e w' => e = .returned (.int .i64 (orL l)) ∧ w' = w := by
 have HC := Lib.hid h; clear h
 go_enter Tryz.func94, Tryz.ntmps94
 go_wp2
 go_loopg [8] l.length (fun gx i wr => ∃ k : Nat, k + gx = l.length ∧ i = .int .i64 k ∧ orL l = orL (l.drop k) ∧ wr = w)
 case atStart => exact ⟨0, by omega, rfl, rfl, rfl⟩
 case round =>
  obtain ⟨k, hk, rfl, he, rfl⟩ := hrel; have HE := Lib.hid he; clear he
  by_cases hlt : k < l.length
  · have k0 : (0 : Int) ≤ (k : Int) := by omega
    have k1 : (k : Int) < (l.length : Int) := by omega
    have c0 := HC.out.cell hlt; have HD := Lib.hid (show orL (l.drop k) = if l[k] = 0 then orL (l.drop (k + 1)) else l[k] by rw [List.drop_eq_getElem_cons hlt, orL]); obtain ⟨y, hy⟩ : ∃ y, l[k] = y := ⟨_, rfl⟩; rw [hy] at c0 HD; clear hy
    by_cases hz : y = 0
    · subst hz
      go_wp2
      go_roundg (l.length - (k + 1))
      case measure => omega
      case rel => exact ⟨k + 1, by omega, by go_num, by rw [HE.out, HD.out]; simp, rfl⟩
    · have hz' : (y != 0) = true := by simp [hz]
      have HZ := Lib.hid hz; clear hz; go_wp2; go_ret; exact ⟨ret_int (HE.out.trans (HD.out.trans (if_neg HZ.out))), rfl⟩
  · have hkl : ¬ (k : Int) < (l.length : Int) := by omega
    have HN := Lib.hid (show orL l = 0 by rw [HE.out, List.drop_eq_nil_of_le (by omega), orL]); go_wp2; go_ret; exact ⟨ret_int HN.out, rfl⟩
theorem grC {w : World} {b : Nat} {A : Array Value} {t : TypeId} (h : w.heap[b]? = some (.cells A t (0, 0))) (j : Nat) {v : Value} (hv : A[j]? = some v) (n : Nat) (os : Array Obj) : (grow (w.drewN n) os).cell? ⟨b, j, none⟩ = some v := by
 refine cell_grown (lt_of_heap h) ?_ n os; rw [cell_of_row _ _ _ _ _ _ h, hv]
theorem gr_same {a b : World} (h : b = a) : ∃ q os', b = grow (a.drewN q) os' := ⟨0, #[], by rw [h, grow_empty]; rfl⟩
set_option maxRecDepth 100000 in
set_option maxHeartbeats 4000000 in
theorem compare_any (x y : Chg) (vx vy : Value) (w : World) (h1 : SlIs tSI (· < w.heap.size) w vx x.ls) (h2 : SlIs tSI (· < w.heap.size) w vy y.ls) : Calls Tryz.prog 93 #[.agg (cCells x vx).toArray, .agg (cCells y vy).toArray] w fun e w' => e = .returned (.int .i64 (chgC x y)) ∧ GrB w w' := by
 obtain ⟨A, hA⟩ : ∃ A, (cCells x vx).toArray = A := ⟨_, rfl⟩; obtain ⟨B, hB⟩ : ∃ A, (cCells y vy).toArray = A := ⟨_, rfl⟩; rw [hA, hB]; have HA := Lib.hid hA; have HB' := Lib.hid hB; obtain ⟨av, cv, _, _, rfl, -⟩ := id h1; obtain ⟨au, cu, _, _, rfl, -⟩ := id h2; clear hA hB h1 h2
 go_enter Tryz.func93, Tryz.ntmps93
 go_upto_region 1 with (fail)
 have n0 := alloc2_0 w (.cells A 49) (.cells B 49); have n1 := alloc2_1 w (.cells A 49) (.cells B 49); have hb : GrB w ((w.alloc (.cells A 49)).alloc (.cells B 49)) := ((GrB.refl w).alloc _).alloc _; obtain ⟨wa, hwa⟩ : ∃ wa, (w.alloc (.cells A 49)).alloc (.cells B 49) = wa := ⟨_, rfl⟩; rw [hwa] at n0 n1 hb ⊢; clear hwa; have HB := Lib.hid hb; clear hb; have a0 := fun n os => grC n0 0 (v := .string x.key) (by rw [← HA.out]; rfl) n os
 have a4 := fun n os => grC n0 4 (v := .int .i64 x.tm) (by rw [← HA.out]; rfl) n os
 have b0 := fun n os => grC n1 0 (v := .string y.key) (by rw [← HB'.out]; rfl) n os
 have b4 := fun n os => grC n1 4 (v := .int .i64 y.tm) (by rw [← HB'.out]; rfl) n os
 clear n0 n1; refine wp_region_grown_tail 10 (by kernel_rfl) (by kernel_rfl) ?_; simp only [List.take_succ_cons, List.take_zero, List.drop_succ_cons, List.drop_zero]
 (repeat (quiet_step (first
                        | (go_at_call 95; with_reducible exact Calls.grown_of ((Compare_int_any _ _ _).mono (fun _ _ h => ⟨h.1, gr_same h.2⟩)))
                        | (go_at_call 96; with_reducible exact Calls.grown_of ((strings_Compare_any _ _ _).mono (fun _ _ h => ⟨h.1, gr_same h.2⟩))))))
 refine wpQuiet_nil ?_; intro wq hq; have HQ := Lib.hid (show GrB wa wq from by obtain ⟨⟨n, os⟩, rfl⟩ := hq; exact ⟨n, os, rfl⟩); clear hq a0 a4 b0 b4; have HR := Lib.hid (show chgC x y = orL [cmpI x.tm y.tm, cmpS x.key y.key] from rfl); generalize cmpI x.tm y.tm = z0 at *; generalize cmpS x.key y.key = z1 at *; have HOR := Lib.hid (show ∀ (g : Nat) (w : World), Row 3 w g [z0, z1] → Calls Tryz.prog 94 #[.slice (some ⟨g, 0, none⟩) 2 2] w fun e w' => e = .returned (.int .i64 (orL [z0, z1])) ∧ w' = w from fun g w h => Or_any [z0, z1] g w h (by simp))
 go_wp2_with (go_at_call 94; refine (HOR.out _ _ (by exact heap_alloc_new _ _)).mono ?_; rintro e w' ⟨rfl, rfl⟩)
 go_ret; exact ⟨ret_int HR.out, (HB.out.trans HQ.out).alloc _⟩
end Go.Proofs.YtifcelebfagjbaaGreatDoor
namespace Go.Tw.Po
open Go.RowKit Go.Tw Go.Sort Go.Tw.Ord Go.Proofs.YtifcelebfagjbaaGreatDoor
structure Deed where
 op : Int
 at' : Int
 t : Int
 c : Int
 name : ByteArray
def inD (l : List Chg) (d : Deed) : Prop := 0 ≤ d.at' ∧ d.at' < (l.length : Int)
instance (l : List Chg) (d : Deed) : Decidable (inD l d) := by unfold inD; infer_instance
def atD (l : List Chg) (d : Deed) : Nat := if inD l d then d.at'.toNat else 0
def chD (l : List Chg) (d : Deed) : Chg := if inD l d then (l[d.at'.toNat]?).getD zeroC else zeroC
noncomputable def deedP (c : List Acc) (l : List Chg) (b : Bk) (d : Deed) : Bk × Int :=
 if d.op = 0 then applyP c b (chD l d) else if d.op = 1 then voidP c b (chD l d).key d.t else if d.op = 2 then syncP c b (l.drop (atD l d)) d.t else payP b d.name d.c d.t
noncomputable def playsP (c : List Acc) (l : List Chg) : Bk → List Deed → Bk
 | b, [] => b
 | b, d :: r => playsP c l (deedP c l b d).1 r
theorem chD_mem {l : List Chg} {d : Deed} (h : inD l d) : ∃ hk : d.at'.toNat < l.length, chD l d = l[d.at'.toNat] := by
 have h1 := h.1; have h2 := h.2; refine ⟨by omega, ?_⟩; unfold chD; rw [if_pos h, List.getElem?_eq_getElem (by omega)]
 rfl
theorem chD_out {l : List Chg} {d : Deed} (h : ¬ inD l d) : chD l d = zeroC := if_neg h
theorem plays_step {c : List Acc} {l : List Chg} {b : Bk} {ds : List Deed} {k : Nat} (hk : k < ds.length) : playsP c l b (ds.drop k) = playsP c l (deedP c l b ds[k]).1 (ds.drop (k + 1)) := by rw [List.drop_eq_getElem_cons hk, playsP]
theorem chk_zero : chkC zeroC ≠ 0 := by
 intro h; have := (chk_facts h).1
 revert this
 decide
theorem BOk.deed {N : Nat} {b : Bk} {c : List Acc} {l : List Chg} {d : Deed} (h : BOk l N b) (hN : N + 16 ≤ 1000) : BOk l (N + 16) (deedP c l b d).1 := by
 unfold deedP
 split
 · by_cases hi : inD l d
   · obtain ⟨hk, e⟩ := chD_mem hi
     rw [e]; exact (h.apply (by omega) (List.getElem_mem hk)).mono (by omega)
   · rw [chD_out hi, ap_chk chk_zero]
     exact h.mono (by omega)
 split
 · exact (h.void (by omega)).mono (by omega)
 split
 · have := h.few
   exact h.sync (by omega) (by rw [List.length_drop]; omega) fun x hx => List.mem_of_mem_drop hx
 · exact (h.pay (by omega)).mono (by omega)
end Go.Tw.Po
namespace Go.Tw
open Go.RowKit Go.ChangeShapes Go.WideShapes
def LawWalkL (P : Program) (laid : List (String × DataW Unit)) (f : FuncId) (fn : Func) : Prop :=
 ∀ (H : Type) (enc : TypeId × Value → H) (W : World) (base : Nat) (args : Array Value) (ds : List (DataW H)) (ps : List MemPlace),
  (∀ (j : Nat) t v, fn.params[j]? = some t → args[j]? = some v → Value.okWide P W .any base t v) →
  DataW.TrodAll enc P W 0 (fun _ => true) true fn.params.toList args.toList ds ps →
  (DataW.weightsEach P fn.params.toList ds).all (· ≤ reachBytes) = true → laidMetH P laid W →
  Calls P f args W fun e W' => e = .returned (.bool true) ∧ Below W.heap.size W W'
theorem law_lift_laid {C : Checked} {os : Os} {f : FuncId} {fn : Func} {s : ChangeSpec} {tb : TypeId} {H : Type} {enc : TypeId × Value → H} {laid : List (String × DataW Unit)} (hs : LawSpec fn.params.size s) (hres : fn.resultTypes = #[tb]) (htb : C.prog.underlying tb = some .bool)
  (hread : (fn.params.toList.all fun t => C.prog.readableRec t && decide (t < C.prog.types.size)) = true) (hlaid : laidOutB C.prog = true)
  (own : ownKnob C.prog.godebug = none) (started : os.Started) (noInit : C.prog.inits.idxOf? f = none) (hfn : C.prog.funcs[f]? = some fn)
  (witness : ∃ (w : World) (tape : Tape) (i : Input), w.os = os ∧ (w.forCall tape i).Shaped C.prog ∧ i.vars = [] ∧ Input.okWide C.prog (w.forCall tape i) .any w.heap.size f i ∧
   ((s.pre enc C.prog fn [] false (w.forCall tape i).memory i.args ∧ laidMetH C.prog laid (w.forCall tape i).memory) ∧ sizedMet enc C.prog fn (OpenSpec.ofChange s) false (w.forCall tape i).memory i.args) ∧ ({} : Assume).holds C.prog (lone (Frame.enter C.prog f i.args .normal) [] (w.forCall tape i)))
  (hcall : LawWalkL C.prog laid f fn) :
  ReturnsInHanded {} C os f .any (fun w args => (s.pre enc C.prog fn [] false w args ∧ laidMetH C.prog laid w) ∧ sizedMet enc C.prog fn (OpenSpec.ofChange s) false w args) (s.post enc C.prog fn false true false false) := by
 refine returnsInHanded_of_change_and (X := fun w _ => laidMetH C.prog laid w) (fun _ _ _ hh h => h.of_heap hh) own started noInit hfn witness ?_; intro W base args ds gs before hval hW _ hsz hL _; have hW' := hW; obtain ⟨p, q, hA, hV, rfl, _, _⟩ := hW; rw [hs.1] at hV; obtain ⟨rfl, rfl⟩ := trodVars_none hV; have hvt : s.plain.varTypes C.prog = [] := by simp [ChangeSpec.plain, DataSpec.varTypes, hs.1]
 rw [hvt, List.append_nil, List.append_nil] at hsz; refine (hcall H enc W base args ds p hval hA hsz hL).mono fun e W' ⟨he, hb⟩ => ?_
 have hlen : ds.length = fn.params.size := by have := trodAll_len hA; simpa using this
 obtain ⟨e1, e2, e3⟩ := hs.2 H ds hlen; have hlt : ∀ x ∈ p, x.block < W.heap.size := fun x hx => hW'.lt x (by simpa using hx)
 refine ⟨_, he, ds, [], _, [], p, [], hW', ?_, ?_, ?_, hb.frame _, fun h => by cases h⟩
 · rw [e1, hres]
   exact trodAll_mk1 (shut_bool htb _)
 · rw [e2]
   exact trodAll_below hlaid hb hread hA hlt
 · rw [e3, hs.1]
   rfl
end Go.Tw
namespace Go.Tw.Po
open Go.RowKit Go.Tw Go.Sort Go.Tw.Ord Go.Proofs.YtifcelebfagjbaaGreatDoor
theorem fndC_cons (y : Chg) (l : List Chg) (s : ByteArray) : fndC (y :: l) s = if y.key = s then some y else fndC l s := by
 unfold fndC; rw [List.find?_cons]
 by_cases h : y.key = s
 · simp [h]
 · simp [h]
theorem fnd_nil (s : ByteArray) : fndC [] s = none := rfl
theorem fnd_put (l : List Chg) (x : Chg) (s : ByteArray) : fndC (putP l x) s = if s = x.key then some x else fndC l s := by
 induction l with
 | nil =>
  rw [putP, fndC_cons, fnd_nil]
  by_cases h : s = x.key
  · rw [if_pos h, if_pos h.symm]
  · rw [if_neg h, if_neg fun e => h e.symm]
 | cons y l ih =>
  rw [putP]
  by_cases h : s = x.key
  · rw [if_pos h] at ih ⊢
    split
    · rw [fndC_cons, if_pos h.symm]
    · rename_i hne
      split
      · rw [fndC_cons, if_pos h.symm]
      · rw [fndC_cons, if_neg (by rw [h]; exact hne), ih]
  · rw [if_neg h] at ih ⊢
    have h' : ¬ x.key = s := fun e => h e.symm
    split
    · rename_i he
      rw [fndC_cons, fndC_cons, if_neg h', if_neg (by rw [he]; exact h')]
    · split
      · rw [fndC_cons, if_neg h']
      · rw [fndC_cons, fndC_cons, ih]
theorem fnd_mem' {l : List Chg} (hn : (keysC l).Nodup) {x : Chg} (hx : x ∈ l) : fndC l x.key = some x := by
 induction l with
 | nil => cases hx
 | cons y l ih =>
  have hn' := List.nodup_cons.1 (show (y.key :: keysC l).Nodup from hn); rw [fndC_cons]
  rcases List.mem_cons.1 hx with rfl | hx
  · rw [if_pos rfl]
  · rw [if_neg, ih hn'.2 hx]
    intro e; exact hn'.1 (e ▸ List.mem_map.2 ⟨x, hx, rfl⟩)
theorem fnd_no {l : List Chg} {s : ByteArray} (h : s ∉ keysC l) : fndC l s = none := by
 unfold fndC; rw [List.find?_eq_none]; intro x hx e; exact h (List.mem_map.2 ⟨x, hx, by simpa using e⟩)
theorem put_idem {l : List Chg} {x : Chg} (hs : SortK l) (h : fndC l x.key = some x) : putP l x = l := by
 induction l with
 | nil => rw [fnd_nil] at h; cases h
 | cons y l ih =>
  have hs' := List.pairwise_cons.1 hs; rw [fndC_cons] at h; rw [putP]
  by_cases he : y.key = x.key
  · rw [if_pos he] at h ⊢
    rw [Option.some.inj h]
  · rw [if_neg he] at h ⊢
    have hm := (fnd_mem h).1; rw [if_neg (by rw [ltB_asymm (hs'.1 x hm)]; decide), ih hs'.2 h]
theorem kb_app (a b : ByteArray) : kb (a ++ b) = kb a ++ kb b := by unfold kb; simp
theorem deb_ne (c : List Acc) (x : Chg) : debC c x ≠ creC x := by
 intro h; have h1 := congrArg (fun s => (kb s).head?) h; have h2 : (kb (creC x)).head? = some 114 := by unfold creC; rw [kb_app]; rfl
 simp only [h2] at h1; unfold debC at h1
 split at h1
 · rw [kb_app, show (kb sAcc ++ kb _).head? = some 97 from rfl] at h1; cases h1
 · rw [kb_app, show (kb sCase ++ kb _).head? = some 99 from rfl] at h1; cases h1
theorem apply_noop {c : List Acc} {b : Bk} {x : Chg} (hs : SortK b.ds) (hf : fndC b.ds x.key = some x) (hc : chkC x = 0) : applyP c b x = (b, 0) := by
 have hne := deb_ne c x
 have hp : cleanP (postsA c b.ds x) = [] := by
  unfold postsA; rw [hf]; simp only [moveP, addP, if_true, if_neg hne, if_neg hne.symm]; unfold cleanP; simp
  omega
 unfold applyP; rw [if_neg (by omega)]; unfold enterL; rw [if_pos hp]; simp only [ne_eq, not_true_eq_false, if_false]; rw [put_idem hs hf]
theorem apply_twice {c : List Acc} {b : Bk} {x : Chg} (hs : SortK b.ds) (h : (applyP c b x).2 = 0) : applyP c (applyP c b x).1 x = ((applyP c b x).1, 0) := by
 have hw := apply_ways c b x; generalize applyP c b x = r at hw h
 cases hw with
 | chk hc => exact absurd h hc
 | bad _ hz _ => exact absurd h hz
 | ok hc he => exact apply_noop (put_sorted hs) (by rw [fnd_put, if_pos rfl]) hc
theorem apply_ds {c : List Acc} {b : Bk} {x : Chg} (h : (applyP c b x).2 = 0) : (applyP c b x).1.ds = putP b.ds x ∧ chkC x = 0 := by
 have hw := apply_ways c b x; generalize applyP c b x = r at hw h
 cases hw with
 | chk hc => exact absurd h hc
 | bad _ hz _ => exact absurd h hz
 | ok hc he => exact ⟨rfl, hc⟩
theorem void_ds {c : List Acc} {b : Bk} {s : ByteArray} {t : Int} (h : (voidP c b s t).2 = 0) : (voidP c b s t).1.ds = b.ds.filter fun x => !decide (x.key = s) := by
 have hw := void_ways c b s t; generalize voidP c b s t = r at hw h
 cases hw with
 | none _ => simp at h
 | time _ _ => simp at h
 | bad _ _ hz _ => exact absurd h hz
 | ok _ _ _ => rfl
theorem runA_fnd {c : List Acc} : ∀ {m : List Chg} {b : Bk}, (keysC m).Nodup → (runA c b m).2 = 0 → SortK b.ds → SortK (runA c b m).1.ds ∧ (∀ x ∈ m, chkC x = 0) ∧ ∀ s, fndC (runA c b m).1.ds s = (fndC m s).or (fndC b.ds s)
 | [], b, _, _, hs => by rw [runA]; exact ⟨hs, fun x hx => (by cases hx), fun s => rfl⟩
 | x :: m, b, hn, h, hs => by
  have hn' := List.nodup_cons.1 (show (x.key :: keysC m).Nodup from hn); rw [runA] at h ⊢
  by_cases he : (applyP c b x).2 ≠ 0
  · rw [if_pos he] at h; exact absurd h he
  rw [if_neg he] at h ⊢; obtain ⟨e1, e2⟩ := apply_ds (by simpa using he); obtain ⟨g1, g2, g3⟩ := runA_fnd hn'.2 h (by rw [e1]; exact put_sorted hs); refine ⟨g1, fun y hy => ?_, fun s => ?_⟩
  · rcases List.mem_cons.1 hy with rfl | hy
    · exact e2
    · exact g2 y hy
  · rw [g3 s, e1, fnd_put, fndC_cons]
    by_cases hk : x.key = s
    · rw [if_pos hk, if_pos hk.symm, fnd_no (by rw [← hk]; exact hn'.1)]; rfl
    · rw [if_neg hk, if_neg (fun e => hk e.symm)]
theorem runV_ds {c : List Acc} {t : Int} : ∀ {m : List ByteArray} {b : Bk}, (runV c t b m).2 = 0 → (runV c t b m).1.ds = b.ds.filter fun x => !hasS m x.key
 | [], b, _ => by
  rw [runV]; exact (List.filter_eq_self.2 fun x _ => rfl).symm
 | s :: m, b, h => by
  rw [runV] at h ⊢
  by_cases he : (voidP c b s t).2 ≠ 0
  · rw [if_pos he] at h; exact absurd h he
  rw [if_neg he] at h ⊢; rw [runV_ds h, void_ds (by simpa using he), List.filter_filter]
  congr 1
  funext x
  unfold hasS; rw [List.any_cons]; simp only [Bool.not_or]; exact Bool.and_comm _ _
theorem sort_eq : ∀ {a b : List Chg}, SortK a → SortK b → (∀ z, z ∈ a ↔ z ∈ b) → a = b
 | [], [], _, _, _ => rfl
 | [], y :: b, _, _, h => absurd ((h y).2 List.mem_cons_self) (by simp)
 | x :: a, [], _, _, h => absurd ((h x).1 List.mem_cons_self) (by simp)
 | x :: a, y :: b, ha, hb, h => by
  have ha' := List.pairwise_cons.1 ha; have hb' := List.pairwise_cons.1 hb
  have e : x = y := by
   rcases List.mem_cons.1 ((h x).1 List.mem_cons_self) with q | q
   · exact q
   · rcases List.mem_cons.1 ((h y).2 List.mem_cons_self) with p | p
     · exact p.symm
     · have := ltB_asymm (ha'.1 y p)
       rw [hb'.1 x q] at this; cases this
  subst e; rw [sort_eq ha'.2 hb'.2 fun z => ?_]
  constructor
  · intro hz
    rcases List.mem_cons.1 ((h z).1 (List.mem_cons_of_mem _ hz)) with q | q
    · exact absurd (congrArg Chg.key q.symm) (ltB_ne (ha'.1 z hz))
    · exact q
  · intro hz
    rcases List.mem_cons.1 ((h z).2 (List.mem_cons_of_mem _ hz)) with q | q
    · exact absurd (congrArg Chg.key q.symm) (ltB_ne (hb'.1 z hz))
    · exact q
theorem sync_facts {c : List Acc} {b : Bk} {l : List Chg} {t : Int} (h : (syncP c b l t).2 = 0) (hs : SortK b.ds) :
  (keysC l).Nodup ∧ SortK (syncP c b l t).1.ds ∧ (∀ z, z ∈ (syncP c b l t).1.ds ↔ z ∈ l) ∧ ∀ x ∈ l, chkC x = 0 := by
 unfold syncP at h ⊢
 by_cases hd : dupK l = true
 · rw [if_pos hd] at h; simp at h
 rw [if_neg hd] at h ⊢; have hn : (keysC l).Nodup := by simpa [dupK] using hd
 have hp : (sortC l).Perm l := sortL_perm l; have hn2 : (keysC (sortC l)).Nodup := (hp.map Chg.key).nodup_iff.2 hn; simp only at h ⊢
 by_cases e1 : (runA c b (sortC l)).2 ≠ 0
 · rw [if_pos e1] at h; exact absurd h e1
 rw [if_neg e1] at h ⊢; obtain ⟨g1, g2, g3⟩ := runA_fnd hn2 (by simpa using e1) hs
 by_cases e2 : (runV c t (runA c b (sortC l)).1 (goneK (runA c b (sortC l)).1.ds l)).2 ≠ 0
 · rw [if_pos e2] at h; exact absurd h e2
 rw [if_neg e2]; have hv := runV_ds (c := c) (t := t) (by simpa using e2); simp only; rw [hv]; generalize (runA c b (sortC l)).1.ds = D at *
 have hfl : ∀ x ∈ l, fndC D x.key = some x := fun x hx => by
  rw [g3, fnd_mem' hn2 (hp.mem_iff.2 hx)]; rfl
 refine ⟨hn, List.Pairwise.filter _ g1, fun z => ?_, fun x hx => g2 x (hp.mem_iff.2 hx)⟩; rw [List.mem_filter]
 constructor
 · rintro ⟨hz, hq⟩
   have hzk : z.key ∈ keysC l := by
    apply Classical.byContradiction
    intro hno
    have : hasS (goneK D l) z.key = true := hasS_iff.2 (List.mem_filter.2 ⟨List.mem_map.2 ⟨z, hz, rfl⟩, by
     rw [Bool.not_eq_true']
     cases hh : hasS (keysC l) z.key with
     | false => rfl
     | true => exact absurd (hasS_iff.1 hh) hno⟩)
    rw [this] at hq; cases hq
   obtain ⟨x, hx, hk⟩ := List.mem_map.1 hzk; have h1 := hfl x hx; rw [hk, fnd_mem' g1.nodup hz] at h1; rw [Option.some.inj h1]; exact hx
 · intro hz
   refine ⟨(fnd_mem (hfl z hz)).1, ?_⟩; rw [Bool.not_eq_true']
   cases hh : hasS (goneK D l) z.key with
   | false => rfl
   | true =>
    have := (List.mem_filter.1 (hasS_iff.1 hh)).2; rw [hasS_iff.2 (show z.key ∈ keysC l from List.mem_map.2 ⟨z, hz, rfl⟩)] at this; cases this
theorem runA_noop {c : List Acc} {b : Bk} (hs : SortK b.ds) : ∀ {m : List Chg}, (∀ x ∈ m, x ∈ b.ds ∧ chkC x = 0) → runA c b m = (b, 0)
 | [], _ => rfl
 | x :: m, h => by
  have hx := h x List.mem_cons_self; have e := apply_noop (c := c) hs (fnd_mem' hs.nodup hx.1) hx.2; rw [runA, e]; simp only [ne_eq, not_true_eq_false, if_false]; exact runA_noop hs fun y hy => h y (List.mem_cons_of_mem _ hy)
theorem sync_twice {c : List Acc} {b : Bk} {l : List Chg} {t : Int} (h : (syncP c b l t).2 = 0) (hs : SortK b.ds) (t' : Int) : syncP c (syncP c b l t).1 l t' = ((syncP c b l t).1, 0) ∧ (syncP c b l t).1.ds.length = l.length := by
 obtain ⟨hn, h1, h2, h3⟩ := sync_facts h hs; generalize (syncP c b l t).1 = b1 at *
 have hg : goneK b1.ds l = [] := by
  unfold goneK; rw [List.filter_eq_nil_iff]; intro s hs' hq; obtain ⟨z, hz, rfl⟩ := List.mem_map.1 hs'; rw [hasS_iff.2 (show z.key ∈ keysC l from List.mem_map.2 ⟨z, (h2 z).1 hz, rfl⟩)] at hq
  cases hq
 refine ⟨?_, ?_⟩
 · unfold syncP
   rw [if_neg (by simp [dupK, hn]), runA_noop h1 (m := sortC l) fun x hx => ⟨(h2 x).2 ((sortL_perm l).mem_iff.1 hx), h3 x ((sortL_perm l).mem_iff.1 hx)⟩]; simp only [ne_eq, not_true_eq_false, if_false, hg, runV]
 · have nd : ∀ {m : List Chg}, (keysC m).Nodup → m.Nodup := fun hm => (List.pairwise_map.1 hm).imp fun q e => q (by rw [e])
   have a := nodup_le (nd h1.nodup) fun x hx => (h2 x).1 hx
   have b := nodup_le (nd hn) fun x hx => (h2 x).2 hx
   omega
/-! ### Balances -/
def sumAt (a : ByteArray) (l : List SI) : Int := sumL (l.filter fun p => decide (p.s = a))
theorem sumAt_cons (a : ByteArray) (p : SI) (l : List SI) : sumAt a (p :: l) = (if p.s = a then p.n else 0) + sumAt a l := by
 unfold sumAt
 by_cases h : p.s = a
 · rw [List.filter_cons, if_pos (by simpa using h), if_pos h]; simp [sumL]
 · rw [List.filter_cons, if_neg (by simpa using h), if_neg h]; omega
theorem sumAt_add (a b : ByteArray) (n : Int) (l : List SI) : sumAt a (addP l b n) = sumAt a l + if b = a then n else 0 := by
 induction l with
 | nil => rw [addP, sumAt_cons]; show (if b = a then n else 0) + sumAt a [] = _; omega
 | cons p l ih =>
  rw [addP]
  split
  · rename_i h
    rw [sumAt_cons, sumAt_cons]; simp only; rw [← h]
    split <;> omega
  · rw [sumAt_cons, sumAt_cons, ih]; omega
theorem sumAt_clean (a : ByteArray) (l : List SI) : sumAt a (cleanP l) = sumAt a l := by
 induction l with
 | nil => rfl
 | cons p l ih =>
  unfold cleanP at ih ⊢; rw [List.filter_cons]
  by_cases h : p.n = 0
  · rw [if_neg (by simp [h]), ih, sumAt_cons, h]
    split <;> omega
  · rw [if_pos (by simp [h]), sumAt_cons, sumAt_cons, ih]
theorem sumAt_move (c : List Acc) (a : ByteArray) (x : Chg) (n : Int) (l : List SI) : sumAt a (moveP c l x n) = sumAt a l + ((if debC c x = a then n else 0) + (if creC x = a then -n else 0)) := by
 unfold moveP; rw [sumAt_add, sumAt_add]
 omega
def conC (c : List Acc) (a : ByteArray) (x : Chg) : Int := (if debC c x = a then x.c else 0) - (if creC x = a then x.c else 0)
def conL (c : List Acc) (a : ByteArray) (l : List Chg) : Int := (l.map (conC c a)).sum
theorem conL_cons (c : List Acc) (a : ByteArray) (x : Chg) (l : List Chg) : conL c a (x :: l) = conC c a x + conL c a l := by simp [conL]
def oldC (c : List Acc) (a : ByteArray) (o : Option Chg) : Int := match o with | some x => conC c a x | none => 0
theorem conL_put (c : List Acc) (a : ByteArray) {l : List Chg} (x : Chg) (hs : SortK l) : conL c a (putP l x) = conL c a l - oldC c a (fndC l x.key) + conC c a x := by
 induction l with
 | nil => rw [putP, conL_cons, fnd_nil]; simp only [oldC]; omega
 | cons y l ih =>
  have hs' := List.pairwise_cons.1 hs; rw [putP, fndC_cons]
  split
  · rw [conL_cons, conL_cons]; simp only [oldC]; omega
  · split
    · rename_i hlt
      rw [conL_cons, conL_cons, fnd_no]
      · simp only [oldC]; omega
      · intro hm
        obtain ⟨z, hz, e⟩ := List.mem_map.1 hm; have := ltB_trans hlt (hs'.1 z hz); rw [e, ltB_irrefl] at this; cases this
    · rw [conL_cons, conL_cons, ih hs'.2]; omega
theorem conL_del (c : List Acc) (a : ByteArray) {l : List Chg} {s : ByteArray} {o : Chg} (hs : SortK l) (h : fndC l s = some o) : conL c a (l.filter fun x => !decide (x.key = s)) = conL c a l - conC c a o := by
 induction l with
 | nil => rw [fnd_nil] at h; cases h
 | cons y l ih =>
  have hs' := List.pairwise_cons.1 hs; rw [fndC_cons] at h; rw [List.filter_cons]
  by_cases he : y.key = s
  · rw [if_pos he] at h
    obtain rfl := Option.some.inj h; rw [if_neg (by simp [he]), conL_cons, List.filter_eq_self.2]
    · omega
    · intro z hz
      have := ltB_ne (hs'.1 z hz); rw [he] at this
      simpa using fun e => this e.symm
  · rw [if_neg he] at h
    rw [if_pos (by simp [he]), conL_cons, conL_cons, ih hs'.2 h]; omega
def payB (p : ByteArray → Bool) (a : ByteArray) (es : List Ent) : Int := balL a (es.filter fun e => p e.key)
theorem balL_snocS (a : ByteArray) (es : List Ent) (e : Ent) : balL a (es ++ [e]) = balL a es + sumAt a e.ps := by
 unfold balL; rw [List.map_append, List.sum_append]; simp [balE, sumAt]
theorem payB_no {p : ByteArray → Bool} {e : Ent} (h : p e.key = false) (a : ByteArray) (es : List Ent) : payB p a (es ++ [e]) = payB p a es := by
 unfold payB; rw [List.filter_append, List.filter_cons, if_neg (by simp [h])]; simp
theorem payB_yes {p : ByteArray → Bool} {e : Ent} (h : p e.key = true) (a : ByteArray) (es : List Ent) : payB p a (es ++ [e]) = payB p a es + sumAt a e.ps := by
 unfold payB; rw [List.filter_append, List.filter_cons, if_pos h, List.filter_nil, balL_snocS]
def Bal (c : List Acc) (p : ByteArray → Bool) (b : Bk) : Prop := ∀ a, balL a b.es = conL c a b.ds + payB p a b.es
theorem enter_bal {es es' : List Ent} {k : ByteArray} {t : Int} {ps : List SI} {p : ByteArray → Bool} (h : enterL es k t ps = (es', 0)) (hk : p k = false) (a : ByteArray) : balL a es' = balL a es + sumAt a ps ∧ payB p a es' = payB p a es := by
 rcases enter_facts h with ⟨h1, rfl⟩ | ⟨rfl, -, -⟩
 · have := sumAt_clean a ps
   rw [h1] at this; refine ⟨?_, rfl⟩; rw [← this]; simp [sumAt, sumL]
 · exact ⟨by rw [balL_snocS, sumAt_clean], payB_no hk a es⟩
theorem sumAt_nil (a : ByteArray) : sumAt a [] = 0 := rfl
theorem bal_apply {c : List Acc} {p : ByteArray → Bool} {b : Bk} {x : Chg} (h : Bal c p b) (hs : SortK b.ds) (hp : ∀ n, p (keyC x.key n) = false) : Bal c p (applyP c b x).1 := by
 have hw := apply_ways c b x; generalize applyP c b x = r at hw
 cases hw with
 | chk _ => exact h
 | bad _ _ _ => exact h
 | ok hc he =>
  intro a; obtain ⟨e1, e2⟩ := enter_bal he (hp _) a; have := h a; simp only; rw [e1, e2, conL_put c a x hs, this]; unfold postsA
  cases hf : fndC b.ds x.key with
  | none =>
   simp only [oldC]; rw [sumAt_move, sumAt_nil]; unfold conC
   split <;> split <;> omega
  | some o =>
   simp only [oldC]; rw [sumAt_move, sumAt_move, sumAt_nil]; unfold conC
   repeat' split
   all_goals omega
theorem bal_void {c : List Acc} {p : ByteArray → Bool} {b : Bk} {s : ByteArray} {t : Int} (h : Bal c p b) (hs : SortK b.ds) (hp : ∀ n, s ∈ keysC b.ds → p (keyC s n) = false) : Bal c p (voidP c b s t).1 := by
 have hw := void_ways c b s t; generalize voidP c b s t = r at hw
 cases hw with
 | none _ => exact h
 | time _ _ => exact h
 | bad _ _ _ _ => exact h
 | @ok o es' hf ht he =>
  intro a; obtain ⟨om, ok⟩ := fnd_mem hf; obtain ⟨e1, e2⟩ := enter_bal he (hp _ (List.mem_map.2 ⟨o, om, ok⟩)) a; have := h a; simp only; rw [e1, e2, conL_del c a hs hf, this, sumAt_move, sumAt_nil]; unfold conC
  repeat' split
  all_goals omega
theorem bal_pay {c : List Acc} {p : ByteArray → Bool} {b : Bk} {nm : ByteArray} {n t : Int} (h : Bal c p b) (hp : ∀ n, p (keyC sPay n) = true) : Bal c p (payP b nm n t).1 := by
 have hw := pay_ways b nm n t; generalize payP b nm n t = r at hw
 cases hw with
 | bad _ => exact h
 | ok _ _ _ he =>
  obtain ⟨rfl, -, -⟩ := post_facts he; intro a; have := h a; simp only; rw [balL_snocS, payB_yes (hp _), this]
  omega
theorem bal_runA {c : List Acc} {p : ByteArray → Bool} : ∀ {m : List Chg} {b : Bk}, Bal c p b → SortK b.ds → (∀ x ∈ m, ∀ n, p (keyC x.key n) = false) → Bal c p (runA c b m).1 ∧ SortK (runA c b m).1.ds
 | [], b, h, hs, _ => by rw [runA]; exact ⟨h, hs⟩
 | x :: m, b, h, hs, hp => by
  rw [runA]
  by_cases he : (applyP c b x).2 ≠ 0
  · rw [if_pos he]; exact ⟨h, hs⟩
  rw [if_neg he]; exact bal_runA (bal_apply h hs (hp x List.mem_cons_self)) (by rw [(apply_ds (by simpa using he)).1]; exact put_sorted hs) fun y hy => hp y (List.mem_cons_of_mem _ hy)
theorem bal_runV {c : List Acc} {p : ByteArray → Bool} {t : Int} : ∀ {m : List ByteArray} {b : Bk}, Bal c p b → SortK b.ds → (∀ s ∈ keysC b.ds, ∀ n, p (keyC s n) = false) → Bal c p (runV c t b m).1
 | [], b, h, _, _ => by rw [runV]; exact h
 | s :: m, b, h, hs, hp => by
  rw [runV]
  by_cases he : (voidP c b s t).2 ≠ 0
  · rw [if_pos he]; exact h
  rw [if_neg he]; have hd := void_ds (c := c) (b := b) (s := s) (t := t) (by simpa using he); refine bal_runV (bal_void h hs fun n hm => hp s hm n) (by rw [hd]; exact List.Pairwise.filter _ hs) fun u hu => hp u ?_
  rw [hd] at hu; obtain ⟨z, hz, rfl⟩ := List.mem_map.1 hu; exact List.mem_map.2 ⟨z, (List.mem_filter.1 hz).1, rfl⟩
theorem bal_sync {c : List Acc} {p : ByteArray → Bool} {b : Bk} {l : List Chg} {t : Int} {L : List Chg} {N : Nat} (h : Bal c p b) (hb : BOk L N b) (hN : N + 16 ≤ 1000) (hm : ∀ x ∈ l, x ∈ L) (hl : l.length ≤ 8) (hp : ∀ x ∈ L, ∀ n, p (keyC x.key n) = false) : Bal c p (syncP c b l t).1 := by
 unfold syncP
 by_cases hd : dupK l = true
 · rw [if_pos hd]; exact h
 rw [if_neg hd]; have hs : (sortC l).length = l.length := sortL_len l; have hmm : ∀ x ∈ sortC l, x ∈ L := fun x hx => hm x ((sortL_perm l).mem_iff.1 hx)
 have h1 := BOk.runA (c := c) (m := sortC l) hb (by omega) hmm; obtain ⟨h2, h3⟩ := bal_runA (c := c) (m := sortC l) h hb.sort fun x hx => hp x (hmm x hx)
 simp only; generalize runA c b (sortC l) = r at *
 by_cases e1 : r.2 ≠ 0
 · rw [if_pos e1]; exact h
 rw [if_neg e1]
 have h4 := bal_runV (t := t) (m := goneK r.1.ds l) h2 h3 fun s hs n => by
  obtain ⟨z, hz, rfl⟩ := List.mem_map.1 hs; exact hp z (h1.mem z hz) n
 generalize runV c t r.1 (goneK r.1.ds l) = q at *
 by_cases e2 : q.2 ≠ 0
 · rw [if_pos e2]; exact h
 rw [if_neg e2]; exact h4
end Go.Tw.Po
