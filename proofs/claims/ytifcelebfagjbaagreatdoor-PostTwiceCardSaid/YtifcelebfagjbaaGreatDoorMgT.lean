/-
  Layer proofs, merged: PoPl PoBp.
-/
import Derived.Test.YtifcelebfagjbaaGreatDoorMgQ
import Derived.Test.YtifcelebfagjbaaGreatDoorMgR
import Derived.Test.YtifcelebfagjbaaGreatDoorMgM
namespace Go.Proofs.YtifcelebfagjbaaGreatDoor
open Go.RowKit Go.Tw Go.Tw.Ord Go.Tw.Po Go.Sort
structure PlW (w : World) (A : Array Value) (vE vD : Value) (b : Bk) (wr : World) : Prop where
 b0 : wr.heap[w.heap.size]? = some (.cells A 46 (0, 0))
 b1 : BB (w.heap.size + 1) (.slice none 0 0) (.slice none 0 0) wr
 b2 : BB (w.heap.size + 2) vE vD wr
 se : SlIs (tEnt 101) (· < wr.heap.size) wr vE b.es
 sd : SlIs (tChg eL) (· < wr.heap.size) wr vD b.ds
 bl : Below w.heap.size w wr
theorem PlW.step {w wr w' : World} {A : Array Value} {vE vD : Value} {b : Bk} (h : PlW w A vE vD b wr) (hb : Below wr.heap.size wr w') : PlW w A vE vD b w' :=
 ⟨(hb.block _ (lt_of_heap h.b0)).trans h.b0, (hb.block _ (lt_of_heap h.b1)).trans h.b1, (hb.block _ (lt_of_heap h.b2)).trans h.b2, h.se.step hb, h.sd.step hb, bl_trans h.bl hb⟩
theorem si_set {wr : World} {v : Value} {l : List SI} {g : Nat} {z0 z1 q1 q2 : Value} (h : SlIs tSI (· < wr.heap.size) wr v l) (hg : BB g z0 z1 wr) (h0 : ∃ a n c, z0 = .slice a n c) (h1 : ∃ a n c, z1 = .slice a n c) : SlIs tSI (· < ((wr.setCell ⟨g, 0, none⟩ q1).setCell ⟨g, 1, none⟩ q2).heap.size) ((wr.setCell ⟨g, 0, none⟩ q1).setCell ⟨g, 1, none⟩ q2) v l :=
 (si_bb h hg h0 h1).keep (fun _ hq => by simpa using hq.1) (fun q hq => bb_set_other q hq.2)
theorem ent_set {wr : World} {e : TypeId} {v : Value} {l : List Ent} {g : Nat} {z0 z1 q1 q2 : Value} (h : SlIs (tEnt e) (· < wr.heap.size) wr v l) (hg : BB g z0 z1 wr) (h0 : ∃ a n c, z0 = .slice a n c) (h1 : ∃ a n c, z1 = .slice a n c) : SlIs (tEnt e) (· < ((wr.setCell ⟨g, 0, none⟩ q1).setCell ⟨g, 1, none⟩ q2).heap.size) ((wr.setCell ⟨g, 0, none⟩ q1).setCell ⟨g, 1, none⟩ q2) v l :=
 (ent_bb h hg h0 h1).keep (fun _ hq => by simpa using hq.1) (fun q hq => bb_set_other q hq.2)
theorem chg_set {wr : World} {e : TypeId} {v : Value} {l : List Chg} {g : Nat} {z0 z1 q1 q2 : Value} (h : SlIs (tChg e) (· < wr.heap.size) wr v l) (hg : BB g z0 z1 wr) (h0 : ∃ a n c, z0 = .slice a n c) (h1 : ∃ a n c, z1 = .slice a n c) : SlIs (tChg e) (· < ((wr.setCell ⟨g, 0, none⟩ q1).setCell ⟨g, 1, none⟩ q2).heap.size) ((wr.setCell ⟨g, 0, none⟩ q1).setCell ⟨g, 1, none⟩ q2) v l :=
 (chg_bb h hg h0 h1).keep (fun _ hq => by simpa using hq.1) (fun q hq => bb_set_other q hq.2)
structure PlX (w : World) (A : Array Value) (vE vD : Value) (b : Bk) (X : World) (dd : Deed) (x : Chg) (vx : Value) (wr : World) : Prop where
 pw : PlW w A vE vD b wr
 gd : wr.heap[X.heap.size]? = some (.cells #[.int .i64 dd.op, .int .i64 dd.at', .int .i64 dd.t, .int .i64 dd.c, .string dd.name] 86 (0, 0))
 gx : wr.heap[X.heap.size + 1]? = some (.cells #[.string x.key, .string x.veh, .string x.sys, .int .i64 x.cls, .int .i64 x.tm, vx, .int .i64 x.c] 49 (0, 0))
 xs : SlIs tSI (· < wr.heap.size) wr vx x.ls
 bl : Below X.heap.size X wr
 l0 : w.heap.size + 2 < X.heap.size
theorem PlX.step {w X wr w' : World} {A : Array Value} {vE vD vx : Value} {b : Bk} {dd : Deed} {x : Chg} (h : PlX w A vE vD b X dd x vx wr) (hb : Below wr.heap.size wr w') : PlX w A vE vD b X dd x vx w' :=
 ⟨h.pw.step hb, (hb.block _ (lt_of_heap h.gd)).trans h.gd, (hb.block _ (lt_of_heap h.gx)).trans h.gx, h.xs.step hb, bl_trans h.bl hb, h.l0⟩
theorem set7_other {wr : World} {g q : Nat} {x0 x1 x2 x3 x4 x5 x6 : Value} (hq : q ≠ g) : (((((((wr.setCell ⟨g, 0, none⟩ x0).setCell ⟨g, 1, none⟩ x1).setCell ⟨g, 2, none⟩ x2).setCell ⟨g, 3, none⟩ x3).setCell ⟨g, 4, none⟩ x4).setCell ⟨g, 5, none⟩ x5).setCell ⟨g, 6, none⟩ x6).heap[q]? = wr.heap[q]? :=
 (Below.heap_setCell _ _ _ _ hq).trans ((Below.heap_setCell _ _ _ _ hq).trans ((Below.heap_setCell _ _ _ _ hq).trans ((Below.heap_setCell _ _ _ _ hq).trans ((Below.heap_setCell _ _ _ _ hq).trans ((Below.heap_setCell _ _ _ _ hq).trans (Below.heap_setCell _ _ _ _ hq))))))
theorem PlX.fill {w X wr : World} {A : Array Value} {vE vD vx : Value} {b : Bk} {dd : Deed} {x : Chg} (h : PlX w A vE vD b X dd zeroC (.slice none 0 0) wr) (hp : PlW w A vE vD b X) (hx : SlIs tSI (· < w.heap.size) wr vx x.ls) :
  PlX w A vE vD b X dd x vx (((((((wr.setCell ⟨X.heap.size + 1, 0, none⟩ (.string x.key)).setCell ⟨X.heap.size + 1, 1, none⟩ (.string x.veh)).setCell ⟨X.heap.size + 1, 2, none⟩ (.string x.sys)).setCell ⟨X.heap.size + 1, 3, none⟩ (.int .i64 x.cls)).setCell ⟨X.heap.size + 1, 4, none⟩ (.int .i64 x.tm)).setCell ⟨X.heap.size + 1, 5, none⟩ vx).setCell ⟨X.heap.size + 1, 6, none⟩ (.int .i64 x.c)) := by
 have hl : X.heap.size ≤ X.heap.size + 1 := Nat.le_succ _; have hB := bl_set (bl_set (bl_set (bl_set (bl_set (bl_set (bl_set h.bl (p := ⟨X.heap.size + 1, 0, none⟩) (.string x.key) hl) (p := ⟨X.heap.size + 1, 1, none⟩) (.string x.veh) hl) (p := ⟨X.heap.size + 1, 2, none⟩) (.string x.sys) hl) (p := ⟨X.heap.size + 1, 3, none⟩) (.int .i64 x.cls) hl) (p := ⟨X.heap.size + 1, 4, none⟩) (.int .i64 x.tm) hl) (p := ⟨X.heap.size + 1, 5, none⟩) vx hl) (p := ⟨X.heap.size + 1, 6, none⟩) (.int .i64 x.c) hl; have hw := hp.bl.size; have hb := hB.size; exact ⟨hp.step hB, (set7_other (by omega)).trans h.gd, heap_setCell_same _ _ _ _ _ _ (heap_setCell_same _ _ _ _ _ _ (heap_setCell_same _ _ _ _ _ _ (heap_setCell_same _ _ _ _ _ _ (heap_setCell_same _ _ _ _ _ _ (heap_setCell_same _ _ _ _ _ _ (heap_setCell_same _ _ _ _ _ _ h.gx)))))), hx.keep (fun q hq => by omega) (fun q hq => set7_other (by omega)), hB, h.l0⟩
structure PlG (w : World) (A : Array Value) (vE vD : Value) (b : Bk) (X : World) (dd : Deed) (x : Chg) (vx : Value) (m : Nat) (u1 u2 : Value) (yb : Bk) (z1 z2 : Value) (zb : Bk) (wr : World) : Prop where
 px : PlX w A vE vD b X dd x vx wr
 lm : X.heap.size + 1 < m
 gy : BB m u1 u2 wr
 gz : BB (m + 1) z1 z2 wr
 ye : SlIs (tEnt 101) (· < wr.heap.size) wr u1 yb.es
 yd : SlIs (tChg eL) (· < wr.heap.size) wr u2 yb.ds
 ze : SlIs (tEnt 101) (· < wr.heap.size) wr z1 zb.es
 zd : SlIs (tChg eL) (· < wr.heap.size) wr z2 zb.ds
theorem PlG.step {w X wr w' : World} {A : Array Value} {vE vD vx u1 u2 z1 z2 : Value} {m : Nat} {b yb zb : Bk} {dd : Deed} {x : Chg} (h : PlG w A vE vD b X dd x vx m u1 u2 yb z1 z2 zb wr) (hb : Below wr.heap.size wr w') : PlG w A vE vD b X dd x vx m u1 u2 yb z1 z2 zb w' :=
 ⟨h.px.step hb, h.lm, (hb.block _ (lt_of_heap h.gy)).trans h.gy, (hb.block _ (lt_of_heap h.gz)).trans h.gz, h.ye.step hb, h.yd.step hb, h.ze.step hb, h.zd.step hb⟩
theorem PlX.set {w X wr : World} {A : Array Value} {vE vD vx q1 q2 z0 z1 : Value} {b : Bk} {dd : Deed} {x : Chg} {g : Nat} (h : PlX w A vE vD b X dd x vx wr) (hg : X.heap.size + 1 < g) (hb : BB g z0 z1 wr) (h0 : ∃ a n c, z0 = .slice a n c) (h1 : ∃ a n c, z1 = .slice a n c) : PlX w A vE vD b X dd x vx ((wr.setCell ⟨g, 0, none⟩ q1).setCell ⟨g, 1, none⟩ q2) := by
 have hl := h.l0; have key := @bb_set_other wr g q1 q2
 exact ⟨⟨(key _ (by omega)).trans h.pw.b0, (key _ (by omega)).trans h.pw.b1, (key _ (by omega)).trans h.pw.b2, ent_set h.pw.se hb h0 h1, chg_set h.pw.sd hb h0 h1, bl_set (bl_set h.pw.bl _ (by simp only; omega)) _ (by simp only; omega)⟩,
  (key _ (by omega)).trans h.gd, (key _ (by omega)).trans h.gx, si_set h.xs hb h0 h1, bl_set (bl_set h.bl _ (by simp only; omega)) _ (by simp only; omega), hl⟩
theorem PlG.putY {w X wr : World} {A : Array Value} {vE vD vx u1 u2 z1 z2 v1 v2 : Value} {m : Nat} {b yb zb b' : Bk} {dd : Deed} {x : Chg} (h : PlG w A vE vD b X dd x vx m u1 u2 yb z1 z2 zb wr) (he : SlIs (tEnt 101) (· < wr.heap.size) wr v1 b'.es) (hd : SlIs (tChg eL) (· < wr.heap.size) wr v2 b'.ds) :
  PlG w A vE vD b X dd x vx m v1 v2 b' z1 z2 zb ((wr.setCell ⟨m, 0, none⟩ v1).setCell ⟨m, 1, none⟩ v2) :=
 have e0 := ent_sl h.ye; have e1 := chg_sl h.yd
 ⟨h.px.set h.lm h.gy e0 e1, h.lm, heap_setCell_same _ _ _ _ _ _ (heap_setCell_same _ _ _ _ _ _ h.gy), (bb_set_other _ (by omega)).trans h.gz, ent_set he h.gy e0 e1, chg_set hd h.gy e0 e1, ent_set h.ze h.gy e0 e1, chg_set h.zd h.gy e0 e1⟩
theorem PlG.putZ {w X wr : World} {A : Array Value} {vE vD vx u1 u2 z1 z2 v1 v2 : Value} {m : Nat} {b yb zb b' : Bk} {dd : Deed} {x : Chg} (h : PlG w A vE vD b X dd x vx m u1 u2 yb z1 z2 zb wr) (he : SlIs (tEnt 101) (· < wr.heap.size) wr v1 b'.es) (hd : SlIs (tChg eL) (· < wr.heap.size) wr v2 b'.ds) :
  PlG w A vE vD b X dd x vx m u1 u2 yb v1 v2 b' ((wr.setCell ⟨m + 1, 0, none⟩ v1).setCell ⟨m + 1, 1, none⟩ v2) :=
 have e0 := ent_sl h.ze; have e1 := chg_sl h.zd; have hl := h.lm
 ⟨h.px.set (by omega) h.gz e0 e1, h.lm, (bb_set_other _ (by omega)).trans h.gy, heap_setCell_same _ _ _ _ _ _ (heap_setCell_same _ _ _ _ _ _ h.gz), ent_set h.ye h.gz e0 e1, chg_set h.yd h.gz e0 e1, ent_set he h.gz e0 e1, chg_set hd h.gz e0 e1⟩
theorem PlG.putB {w X wr : World} {A : Array Value} {vE vD vx u1 u2 z1 z2 : Value} {m : Nat} {b yb zb : Bk} {dd : Deed} {x : Chg} (h : PlG w A vE vD b X dd x vx m u1 u2 yb z1 z2 zb wr) :
  PlW w A u1 u2 yb ((wr.setCell ⟨w.heap.size + 1 + 1, 0, none⟩ u1).setCell ⟨w.heap.size + 1 + 1, 1, none⟩ u2) :=
 have e0 := ent_sl h.px.pw.se; have e1 := chg_sl h.px.pw.sd
 ⟨(bb_set_other _ (by omega)).trans h.px.pw.b0, (bb_set_other _ (by omega)).trans h.px.pw.b1, heap_setCell_same _ _ _ _ _ _ (heap_setCell_same _ _ _ _ _ _ h.px.pw.b2), ent_set h.ye h.px.pw.b2 e0 e1, chg_set h.yd h.px.pw.b2 e0 e1, bl_set (bl_set h.px.pw.bl _ (by simp only; omega)) _ (by simp only; omega)⟩
theorem PlX.two {w X wr : World} {A : Array Value} {vE vD vx : Value} {b : Bk} {dd : Deed} {x : Chg} (h : PlX w A vE vD b X dd x vx wr) :
  PlG w A vE vD b X dd x vx wr.heap.size vE vD b vE vD b ((wr.alloc (.cells #[vE, vD] 70)).alloc (.cells #[vE, vD] 70)) := by
 have hb := bl_alloc (bl_alloc (Below.refl wr.heap.size wr) (.cells #[vE, vD] 70)) (.cells #[vE, vD] 70); exact ⟨h.step hb, lt_of_heap h.gx, alloc2_0 wr _ _, alloc2_1 wr _ _, h.pw.se.step hb, h.pw.sd.step hb, h.pw.se.step hb, h.pw.sd.step hb⟩
theorem cok_zero : COk zeroC := ⟨by decide, by decide, by decide, by decide⟩
theorem chgok_zero : ChgOk zeroC := by constructor <;> first | decide | (unfold i64ok; decide)
theorem chD_any {l : List Chg} {d : Deed} {p : Chg → Prop} (h : ∀ x ∈ l, p x) (h0 : p zeroC) : p (chD l d) := by
 by_cases hi : inD l d
 · obtain ⟨hk, e⟩ := chD_mem hi
   rw [e]; exact h _ (List.getElem_mem hk)
 · rw [chD_out hi]; exact h0
def PlayR (w : World) (b : Bk) (e : Ending) (w' : World) : Prop := ∃ ve vd, e = .returned (.tuple #[.agg #[ve, vd], .bool true]) ∧ SlIs (tEnt 101) (· < w'.heap.size) w' ve b.es ∧ SlIs (tChg eL) (· < w'.heap.size) w' vd b.ds ∧ Below w.heap.size w w'
set_option maxRecDepth 100000 in
set_option maxHeartbeats 8000000 in
theorem plays_any (c : List Acc) (A : Array Value) (va vl vds : Value) (l : List Chg) (dl : List Deed) (w : World) (hA : CfgA A va) (hc : SlIs (tAcc 138) (· < w.heap.size) w va c) (hk : CfOk c) (hl : SlIs (tChg eL) (· < w.heap.size) w vl l) (hl8 : l.length ≤ 8) (hlc : ∀ x ∈ l, COk x) (hlo : ∀ x ∈ l, ChgOk x)
  (hd : SlIs tDeed (· < w.heap.size) w vds dl) (hf : FmtAll w) :
  Calls Tryz.prog 16 #[.agg A, vl, vds] w (PlayR w (playsP c l ⟨[], []⟩ (dl.take 16))) := by
 have h0 := alloc3 w (.cells A 46) (.cells #[.slice none 0 0, .slice none 0 0] 70) (.cells #[.slice none 0 0, .slice none 0 0] 70); have HB0 := Lib.hid (bl_alloc (bl_alloc (bl_alloc (Below.refl w.heap.size w) (.cells A 46)) (.cells #[.slice none 0 0, .slice none 0 0] 70)) (.cells #[.slice none 0 0, .slice none 0 0] 70)); have HP0 := Lib.hid (show PlW w A (.slice none 0 0) (.slice none 0 0) ⟨[], []⟩ _ from ⟨h0.1, h0.2.1, h0.2.2, SlIs.nil, SlIs.nil, HB0.out⟩); obtain ⟨al, cl, bl, ol, rfl, hl1, hl2, hlop⟩ := chg_open hl; obtain ⟨ad, cd, bd, od, rfl, hd1, hd2, hdop⟩ := deed_open hd; have HLO := Lib.hid hlop; have HDO := Lib.hid hdop; have HL := Lib.hid hl; have HA := Lib.hid hA; have HC := Lib.hid hc; have HK := Lib.hid hk; have HF := Lib.hid hf; have HLC := Lib.hid hlc; have HLO2 := Lib.hid hlo; have HB00 : BOk l 0 ⟨[], []⟩ := ⟨hl8, Nat.le_refl _, (by intro e h; cases h), List.Pairwise.nil, (by intro e h; cases h), hlc, (by intro e h; cases h)⟩; have HBK := Lib.hid HB00; unfold maxLen at hl2 hd2; clear hA hc hk hf h0 hd hl hlop hdop hlc hlo HB00
 go_enter Tryz.func16, Tryz.ntmps16
 go_upto_region 2 with (fail)
 generalize ((w.alloc (.cells A 46)).alloc (.cells #[.slice none 0 0, .slice none 0 0] 70)).alloc (.cells #[.slice none 0 0, .slice none 0 0] 70) = w0 at HP0 HB0 ⊢; obtain ⟨D, hD⟩ : ∃ D, dl.take 16 = D := ⟨_, rfl⟩; have HDL := Lib.hid (show D.length = min 16 dl.length by rw [← hD, List.length_take]); have HDE := Lib.hid (show ∀ k (h1 : k < D.length) (h2 : k < dl.length), D[k] = dl[k] from fun k h1 h2 => by subst hD; simp); have HDD := Lib.hid hD; clear hD; go_wp2
 go_loopg [9] D.length (fun g i wr => ∃ (k : Nat) (b : Bk) (vE vD : Value), k + g = D.length ∧ i = .int .i64 k ∧ Hid (playsP c l ⟨[], []⟩ D = playsP c l b (D.drop k)) ∧ Hid (BOk l (16 * k) b) ∧ Hid (PlW w A vE vD b wr))
 case atStart => exact ⟨0, _, _, _, by omega, rfl, Lib.hid rfl, HBK, HP0⟩
 case round =>
  obtain ⟨k, ⟨eb, db⟩, vE, vD, hk2, rfl, HPL, HBO, HPW⟩ := hrel; obtain ⟨aE, nE, cE, rfl⟩ := ent_sl HPW.out.se; obtain ⟨aD, nD, cD, rfl⟩ := chg_sl HPW.out.sd; have hdl := HDL.out
  by_cases hlt : k < D.length
  · have hkl : k < dl.length := by omega
    have k0 : (0 : Int) ≤ (k : Int) := by omega
    have k1 : (k : Int) < (dl.length : Int) := by omega
    have k2 : (k : Int) < 16 := by omega
    obtain ⟨rfl, -, hbi, hdk, d0, d1, d2, d3, d4⟩ := HDO.out wr (.of_below HPW.out.bl) k hkl; have HST := Lib.hid (plays_step (c := c) (l := l) (b := ⟨eb, db⟩) hlt); rw [HDE.out k hlt hkl] at HST; have HDK := Lib.hid hdk; generalize dl[k] = dd at *
    go_upto_region 7 with (fail)
    have q := alloc2_0 wr (.cells #[.int .i64 dd.op, .int .i64 dd.at', .int .i64 dd.t, .int .i64 dd.c, .string dd.name] 86) (.cells #[.string ⟨#[]⟩, .string ⟨#[]⟩, .string ⟨#[]⟩, .int .i64 0, .int .i64 0, .slice none 0 0, .int .i64 0] 49); have q2 := alloc2_1 wr (.cells #[.int .i64 dd.op, .int .i64 dd.at', .int .i64 dd.t, .int .i64 dd.c, .string dd.name] 86) (.cells #[.string ⟨#[]⟩, .string ⟨#[]⟩, .string ⟨#[]⟩, .int .i64 0, .int .i64 0, .slice none 0 0, .int .i64 0] 49); have HGD := Lib.hid q; have HGX := Lib.hid q2; have HB5 := Lib.hid (bl_alloc (bl_alloc (Below.refl wr.heap.size wr) (.cells #[.int .i64 dd.op, .int .i64 dd.at', .int .i64 dd.t, .int .i64 dd.c, .string dd.name] 86)) (.cells #[.string ⟨#[]⟩, .string ⟨#[]⟩, .string ⟨#[]⟩, .int .i64 0, .int .i64 0, .slice none 0 0, .int .i64 0] 49)); have HPX := Lib.hid (HPW.out.step HB5.out); clear q q2 d0 d1 d2 d3 d4 hdk; have hsz0 : ((wr.alloc (.cells #[.int .i64 dd.op, .int .i64 dd.at', .int .i64 dd.t, .int .i64 dd.c, .string dd.name] 86)).alloc (.cells #[.string ⟨#[]⟩, .string ⟨#[]⟩, .string ⟨#[]⟩, .int .i64 0, .int .i64 0, .slice none 0 0, .int .i64 0] 49)).heap.size = wr.heap.size + 2 := by simp
    generalize (wr.alloc (.cells #[.int .i64 dd.op, .int .i64 dd.at', .int .i64 dd.t, .int .i64 dd.c, .string dd.name] 86)).alloc (.cells #[.string ⟨#[]⟩, .string ⟨#[]⟩, .string ⟨#[]⟩, .int .i64 0, .int .i64 0, .slice none 0 0, .int .i64 0] 49) = wx at HGD HGX HB5 HPX hsz0 ⊢; obtain ⟨dop, dat, dt, dc, dn⟩ := dd; have hl0 := lt_of_heap HPW.out.b2; have hsz : wx.heap.size = wr.heap.size + 2 := hsz0; obtain ⟨wA, hwA⟩ : ∃ wA, wA = wr := ⟨_, rfl⟩; subst hwA
    go_upto_region 8 with (fail)
    go_cut [42] (fun v wx' => v = .bool (decide (inD l ⟨dop, dat, dt, dc, dn⟩)) ∧ wx' = wx)
    case first =>
     obtain ⟨y0, y1, y2, y3, y4, yf⟩ := blk5 HGD.out
     by_cases i0 : 0 ≤ dat
     · by_cases i1 : dat < (l.length : Int)
       · have HI := Lib.hid (show decide (inD l ⟨dop, dat, dt, dc, dn⟩) = true from decide_eq_true ⟨i0, i1⟩)
         go_wp2; go_meet; exact ⟨by rw [HI.out], rfl⟩
       · have HI := Lib.hid (show decide (inD l ⟨dop, dat, dt, dc, dn⟩) = false from decide_eq_false fun h => i1 h.2)
         have i1' : decide (dat < (l.length : Int)) = false := by simpa using i1
         go_wp2; go_meet; exact ⟨by rw [HI.out], rfl⟩
     · have HI := Lib.hid (show decide (inD l ⟨dop, dat, dt, dc, dn⟩) = false from decide_eq_false fun h => i0 h.1)
       have i0' : decide (0 ≤ dat) = false := by simpa using i0
       go_wp2; go_meet; exact ⟨by rw [HI.out], rfl⟩
    case rest =>
     obtain ⟨rfl, rfl⟩ := hcut; have HPX0 := Lib.hid (show PlX w A (.slice aE nE cE) (.slice aD nD cD) ⟨eb, db⟩ wA ⟨dop, dat, dt, dc, dn⟩ zeroC (.slice none 0 0) wc from ⟨HPX.out, HGD.out, HGX.out, SlIs.nil, HB5.out, hl0⟩); have HSZ := Lib.hid (show wc.heap.size = wA.heap.size + 2 from hsz)
     go_upto_if 42 with (fail)
     go_cut [12] (fun v wx' => ∃ a n c, v = .int .i64 (atD l ⟨dop, dat, dt, dc, dn⟩ : Nat) ∧ wx'.heap.size = wA.heap.size + 2 ∧ PlX w A (.slice aE nE cE) (.slice aD nD cD) ⟨eb, db⟩ wA ⟨dop, dat, dt, dc, dn⟩ (chD l ⟨dop, dat, dt, dc, dn⟩) (.slice a n c) wx')
     case first =>
      obtain ⟨q, hq⟩ : ∃ q, decide (inD l ⟨dop, dat, dt, dc, dn⟩) = q := ⟨_, rfl⟩; rw [hq]
      cases q with
      | true =>
       have hi := of_decide_eq_true hq; clear hq; obtain ⟨hlt2, hx⟩ := chD_mem hi; have i0 : (0 : Int) ≤ dat := hi.1; have i1 : dat < (l.length : Int) := hi.2; have HAT := Lib.hid (show atD l ⟨dop, dat, dt, dc, dn⟩ = dat.toNat from if_pos hi); obtain ⟨n, rfl⟩ : ∃ n : Nat, dat = (n : Int) := ⟨dat.toNat, by omega⟩; have hnl : n < l.length := by omega
       obtain ⟨rfl, -, hbl, hxo, hv, hsl, c0, c1, c2, c3, c4, c5, c6⟩ := HLO.out wc (.of_below HPX.out.bl) n hnl; have HXE := Lib.hid (show chD l ⟨dop, n, dt, dc, dn⟩ = l[n] from hx.trans (by simp))
       obtain ⟨hva, hvn, hvc, hve⟩ : ∃ a n c, hv = .slice a n c := by
        obtain ⟨a, c, _, _, e, -⟩ := hsl; exact ⟨a, _, c, e⟩
       subst hve; have HSL := Lib.hid hsl; obtain ⟨y0, y1, y2, y3, y4, yf⟩ := blk5 HPX0.out.gd; obtain ⟨x0, x1, x2, x3, x4, x5, x6, xf⟩ := blk7 HPX0.out.gx; have hlx := lt_of_heap HPX0.out.gx; generalize l[n] = x at *; clear hx hi hlt2 hsl; go_wp2; go_meet; exact ⟨hva, hvn, hvc, by rw [HAT.out]; simp, by simp [HSZ.out], by rw [HXE.out]; exact HPX0.out.fill HPW.out HSL.out⟩
      | false =>
       have hi := of_decide_eq_false hq; clear hq; have HAT := Lib.hid (show atD l ⟨dop, dat, dt, dc, dn⟩ = 0 from if_neg hi); have HXE := Lib.hid (show chD l ⟨dop, dat, dt, dc, dn⟩ = zeroC from chD_out hi); clear hi; go_wp2; go_meet; exact ⟨_, _, _, by rw [HAT.out]; rfl, HSZ.out, by rw [HXE.out]; exact HPX0.out⟩
     case rest =>
      obtain ⟨xa, xn, xc, rfl, -, hpx⟩ := hcut; obtain ⟨x, hx⟩ : ∃ x, chD l ⟨dop, dat, dt, dc, dn⟩ = x := ⟨_, rfl⟩; have HXC := Lib.hid (show COk x from by rw [← hx]; exact chD_any HLC.out cok_zero); have HXO := Lib.hid (show ChgOk x from by rw [← hx]; exact chD_any HLO2.out chgok_zero); rw [hx] at hpx; have HCX := Lib.hid hx; have HPX1 := Lib.hid hpx; have HG := Lib.hid hpx.two; obtain ⟨e0, e1, -⟩ := blk2 hpx.pw.b2; have e0' : wc.cell? ⟨w.heap.size + 1 + 1, 0, none⟩ = some (.slice aE nE cE) := e0; have e1' : wc.cell? ⟨w.heap.size + 1 + 1, 1, none⟩ = some (.slice aD nD cD) := e1; have hb1 := bl_alloc (Below.refl wc.heap.size wc) (.cells #[.slice aE nE cE, .slice aD nD cD] 70); obtain ⟨f0, f1, -⟩ := blk2 (hpx.step hb1).pw.b2; have f0' : (wc.alloc (.cells #[.slice aE nE cE, .slice aD nD cD] 70)).cell? ⟨w.heap.size + 1 + 1, 0, none⟩ = some (.slice aE nE cE) := f0; have f1' : (wc.alloc (.cells #[.slice aE nE cE, .slice aD nD cD] 70)).cell? ⟨w.heap.size + 1 + 1, 1, none⟩ = some (.slice aD nD cD) := f1; clear e0 e1 f0 f1 hx hpx HPX0 HSZ HGD HGX HB5 HPX hsz hb1
      go_upto_region 12 with (fail)
      clear e0' e1'
      go_upto_region 13 with (fail)
      clear f0' f1'; generalize (wc.alloc (.cells #[.slice aE nE cE, .slice aD nD cD] 70)).alloc (.cells #[.slice aE nE cE, .slice aD nD cD] 70) = wv at HG ⊢; generalize wc.heap.size = m at HG ⊢
      by_cases q0 : dop = 0
      · subst q0
        obtain ⟨⟨⟨e9, d9⟩, z⟩, hr⟩ : ∃ r, applyP c ⟨eb, db⟩ x = r := ⟨_, rfl⟩; have HR := Lib.hid hr; have HDE2 := Lib.hid (show deedP c l ⟨eb, db⟩ ⟨0, dat, dt, dc, dn⟩ = (⟨e9, d9⟩, z) from by unfold deedP; rw [if_pos rfl, HCX.out, hr]); clear hr; have HAP := Lib.hid (apply_any l (16 * k) c A va _ _ _ eb db x wv HA.out (HC.out.step HG.out.px.pw.bl) HK.out HBO.out (by omega) HXC.out HG.out.px.pw.se HG.out.px.pw.sd HXO.out HG.out.px.xs (HF.out.step HG.out.px.pw.bl)); have hld := load_blk HG.out.px.pw.b0 HA.out.size Tryz.prog; obtain ⟨e0, e1, -⟩ := blk2 HG.out.px.pw.b2; have e0' : wv.cell? ⟨w.heap.size + 1 + 1, 0, none⟩ = some (.slice aE nE cE) := e0; have e1' : wv.cell? ⟨w.heap.size + 1 + 1, 1, none⟩ = some (.slice aD nD cD) := e1; obtain ⟨x0, x1, x2, x3, x4, x5, x6, -⟩ := blk7 HG.out.px.gx; obtain ⟨d0, d1, d2, d3, d4, -⟩ := blk5 HG.out.px.gd; clear e0 e1
        go_wp2_with (first | (refine wpList_loadA _ rfl 46 rfl Tryz.isAgg46 Tryz.sizeOf46 rfl (by with_reducible assumption) ?_) | fail)
        with_reducible refine HAP.out.mono ?_
        clear HAP hld e0' e1' x0 x1 x2 x3 x4 x5 x6 d0 d1 d2 d3 d4; rintro r wu ⟨u1, u2, rfl, hu1, hu2, hb5, -⟩; rw [HR.out] at hu1 hu2 ⊢; simp only at hu1 hu2 ⊢; obtain ⟨a1, n1, c1, rfl⟩ := ent_sl hu1; obtain ⟨a2, n2, c2, rfl⟩ := chg_sl hu2; have HG2 := Lib.hid (HG.out.step hb5); have HP2 := Lib.hid (HG2.out.putY (b' := ⟨e9, d9⟩) (v1 := .slice a1 n1 c1) (v2 := .slice a2 n2 c2) (hu1.keep (fun _ h => h.2) (SameOn.refl _ _)) (hu2.keep (fun _ h => h.2) (SameOn.refl _ _))); obtain ⟨y0, y1, yf⟩ := blk2 HG2.out.gy; have hlb := lt_of_heap HG2.out.gy; clear hu1 hu2 hb5 HG
        go_upto_region 18 with (fail)
        clear y0 y1 yf hlb HG2; generalize (wu.setCell ⟨m, 0, none⟩ (.slice a1 n1 c1)).setCell ⟨m, 1, none⟩ (.slice a2 n2 c2) = wy at HP2 ⊢; have HG := HP2; clear HP2; have HAP := Lib.hid (applyR_any (fun _ => True) l (16 * k) c A va _ _ _ eb db x wy (fun _ _ => trivial) HA.out (HC.out.step HG.out.px.pw.bl) HK.out HBO.out (by omega) HXC.out (HG.out.px.pw.se.keep (fun _ h => ⟨trivial, h⟩) (SameOn.refl _ _)) (HG.out.px.pw.sd.keep (fun _ h => ⟨trivial, h⟩) (SameOn.refl _ _)) HXO.out (HG.out.px.xs.keep (fun _ h => ⟨trivial, h⟩) (SameOn.refl _ _))); have hld := load_blk HG.out.px.pw.b0 HA.out.size Tryz.prog; obtain ⟨e0, e1, -⟩ := blk2 HG.out.px.pw.b2; have e0' : wy.cell? ⟨w.heap.size + 1 + 1, 0, none⟩ = some (.slice aE nE cE) := e0; have e1' : wy.cell? ⟨w.heap.size + 1 + 1, 1, none⟩ = some (.slice aD nD cD) := e1; obtain ⟨x0, x1, x2, x3, x4, x5, x6, -⟩ := blk7 HG.out.px.gx; obtain ⟨d0, d1, d2, d3, d4, -⟩ := blk5 HG.out.px.gd; clear e0 e1
        go_wp2_with (first | (refine wpList_loadA _ rfl 46 rfl Tryz.isAgg46 Tryz.sizeOf46 rfl (by with_reducible assumption) ?_) | fail)
        with_reducible refine HAP.out.mono ?_
        clear HAP hld e0' e1' x0 x1 x2 x3 x4 x5 x6 d0 d1 d2 d3 d4; rintro r wu ⟨u1, u2, rfl, hu1, hu2, hb5⟩; rw [HR.out] at hu1 hu2 ⊢; simp only at hu1 hu2 ⊢; obtain ⟨a1, n1, c1, rfl⟩ := ent_sl hu1; obtain ⟨a2, n2, c2, rfl⟩ := chg_sl hu2; have HG2 := Lib.hid (HG.out.step hb5); have HP2 := Lib.hid (HG2.out.putZ (b' := ⟨e9, d9⟩) (v1 := .slice a1 n1 c1) (v2 := .slice a2 n2 c2) (hu1.keep (fun _ h => h.2) (SameOn.refl _ _)) (hu2.keep (fun _ h => h.2) (SameOn.refl _ _))); obtain ⟨y0, y1, yf⟩ := blk2 HG2.out.gz; have hlb := lt_of_heap HG2.out.gz; clear hu1 hu2 hb5 HG
        go_upto_region 25 with (fail)
        clear y0 y1 yf hlb HG2; generalize (wu.setCell ⟨m + 1, 0, none⟩ (.slice a1 n1 c1)).setCell ⟨m + 1, 1, none⟩ (.slice a2 n2 c2) = wz at HP2 ⊢; have HG := HP2; clear HP2; have HSM := Lib.hid (bsame_any e9 d9 _ _ _ _ wz HG.out.ye HG.out.yd HG.out.ze HG.out.zd); obtain ⟨y0, y1, -⟩ := blk2 HG.out.gy; obtain ⟨z0, z1, -⟩ := blk2 HG.out.gz
        have HBY := Lib.hid (show BOk l (16 * (k + 1)) ⟨e9, d9⟩ from by
         have h := HBO.out.deed (c := c) (d := ⟨0, dat, dt, dc, dn⟩) (by omega); rw [HDE2.out] at h
         exact h.mono (by omega))
        have HPL2 := Lib.hid (show playsP c l ⟨[], []⟩ D = playsP c l ⟨e9, d9⟩ (D.drop (k + 1)) from HPL.out.trans (HST.out.trans (by rw [HDE2.out])))
        go_wp2_with (fail)
        with_reducible refine HSM.out.mono ?_
        clear HSM y0 y1 z0 z1; rintro r wq ⟨rfl, hb6⟩; have HG3 := Lib.hid (HG.out.step hb6); have HPB := Lib.hid HG3.out.putB; obtain ⟨y0, y1, -⟩ := blk2 HG3.out.gy; obtain ⟨e0, e1, ef⟩ := blk2 HG3.out.px.pw.b2; have e0' : wq.cell? ⟨w.heap.size + 1 + 1, 0, none⟩ = some (.slice aE nE cE) := e0; have e1' : wq.cell? ⟨w.heap.size + 1 + 1, 1, none⟩ = some (.slice aD nD cD) := e1; have ef' : ∀ j, wq.frozen? ⟨w.heap.size + 1 + 1, j, none⟩ = false := ef; have hlb := lt_of_heap HG3.out.px.pw.b2; clear e0 e1 ef hb6 HG; go_wp2
        go_roundg (D.length - (k + 1))
        case measure => omega
        case rel => exact ⟨k + 1, ⟨e9, d9⟩, _, _, by omega, by go_num, HPL2, HBY, HPB⟩
      by_cases q1 : dop = 1
      · subst q1
        obtain ⟨⟨⟨e9, d9⟩, z⟩, hr⟩ : ∃ r, voidP c ⟨eb, db⟩ x.key dt = r := ⟨_, rfl⟩; have HR := Lib.hid hr; have HDE2 := Lib.hid (show deedP c l ⟨eb, db⟩ ⟨1, dat, dt, dc, dn⟩ = (⟨e9, d9⟩, z) from by unfold deedP; rw [if_neg (show ¬ (1 : Int) = 0 by decide), if_pos rfl, HCX.out, hr]); clear hr; have HAP := Lib.hid (void_any l (16 * k) c A va _ _ eb db x.key dt wv HA.out (HC.out.step HG.out.px.pw.bl) HK.out HBO.out (by omega) HG.out.px.pw.se HG.out.px.pw.sd HDK.out.t (HF.out.step HG.out.px.pw.bl)); have hld := load_blk HG.out.px.pw.b0 HA.out.size Tryz.prog; obtain ⟨e0, e1, -⟩ := blk2 HG.out.px.pw.b2; have e0' : wv.cell? ⟨w.heap.size + 1 + 1, 0, none⟩ = some (.slice aE nE cE) := e0; have e1' : wv.cell? ⟨w.heap.size + 1 + 1, 1, none⟩ = some (.slice aD nD cD) := e1; obtain ⟨x0, x1, x2, x3, x4, x5, x6, -⟩ := blk7 HG.out.px.gx; obtain ⟨d0, d1, d2, d3, d4, -⟩ := blk5 HG.out.px.gd; clear e0 e1
        go_wp2_with (first | (refine wpList_loadA _ rfl 46 rfl Tryz.isAgg46 Tryz.sizeOf46 rfl (by with_reducible assumption) ?_) | fail)
        with_reducible refine HAP.out.mono ?_
        clear HAP hld e0' e1' x0 x1 x2 x3 x4 x5 x6 d0 d1 d2 d3 d4; rintro r wu ⟨u1, u2, rfl, hu1, hu2, hb5, -⟩; rw [HR.out] at hu1 hu2 ⊢; simp only at hu1 hu2 ⊢; obtain ⟨a1, n1, c1, rfl⟩ := ent_sl hu1; obtain ⟨a2, n2, c2, rfl⟩ := chg_sl hu2; have HG2 := Lib.hid (HG.out.step hb5); have HP2 := Lib.hid (HG2.out.putY (b' := ⟨e9, d9⟩) (v1 := .slice a1 n1 c1) (v2 := .slice a2 n2 c2) (hu1.keep (fun _ h => h.2) (SameOn.refl _ _)) (hu2.keep (fun _ h => h.2) (SameOn.refl _ _))); obtain ⟨y0, y1, yf⟩ := blk2 HG2.out.gy; have hlb := lt_of_heap HG2.out.gy; clear hu1 hu2 hb5 HG
        go_upto_region 21 with (fail)
        clear y0 y1 yf hlb HG2; generalize (wu.setCell ⟨m, 0, none⟩ (.slice a1 n1 c1)).setCell ⟨m, 1, none⟩ (.slice a2 n2 c2) = wy at HP2 ⊢; have HG := HP2; clear HP2; have HAP := Lib.hid (voidR_any (fun _ => True) l (16 * k) c A va _ _ eb db x.key dt wy (fun _ _ => trivial) HA.out (HC.out.step HG.out.px.pw.bl) HK.out HBO.out (by omega) (HG.out.px.pw.se.keep (fun _ h => ⟨trivial, h⟩) (SameOn.refl _ _)) (HG.out.px.pw.sd.keep (fun _ h => ⟨trivial, h⟩) (SameOn.refl _ _)) HDK.out.t); have hld := load_blk HG.out.px.pw.b0 HA.out.size Tryz.prog; obtain ⟨e0, e1, -⟩ := blk2 HG.out.px.pw.b2; have e0' : wy.cell? ⟨w.heap.size + 1 + 1, 0, none⟩ = some (.slice aE nE cE) := e0; have e1' : wy.cell? ⟨w.heap.size + 1 + 1, 1, none⟩ = some (.slice aD nD cD) := e1; obtain ⟨x0, x1, x2, x3, x4, x5, x6, -⟩ := blk7 HG.out.px.gx; obtain ⟨d0, d1, d2, d3, d4, -⟩ := blk5 HG.out.px.gd; clear e0 e1
        go_wp2_with (first | (refine wpList_loadA _ rfl 46 rfl Tryz.isAgg46 Tryz.sizeOf46 rfl (by with_reducible assumption) ?_) | fail)
        with_reducible refine HAP.out.mono ?_
        clear HAP hld e0' e1' x0 x1 x2 x3 x4 x5 x6 d0 d1 d2 d3 d4; rintro r wu ⟨u1, u2, rfl, hu1, hu2, hb5⟩; rw [HR.out] at hu1 hu2 ⊢; simp only at hu1 hu2 ⊢; obtain ⟨a1, n1, c1, rfl⟩ := ent_sl hu1; obtain ⟨a2, n2, c2, rfl⟩ := chg_sl hu2; have HG2 := Lib.hid (HG.out.step hb5); have HP2 := Lib.hid (HG2.out.putZ (b' := ⟨e9, d9⟩) (v1 := .slice a1 n1 c1) (v2 := .slice a2 n2 c2) (hu1.keep (fun _ h => h.2) (SameOn.refl _ _)) (hu2.keep (fun _ h => h.2) (SameOn.refl _ _))); obtain ⟨y0, y1, yf⟩ := blk2 HG2.out.gz; have hlb := lt_of_heap HG2.out.gz; clear hu1 hu2 hb5 HG
        go_upto_region 25 with (fail)
        clear y0 y1 yf hlb HG2; generalize (wu.setCell ⟨m + 1, 0, none⟩ (.slice a1 n1 c1)).setCell ⟨m + 1, 1, none⟩ (.slice a2 n2 c2) = wz at HP2 ⊢; have HG := HP2; clear HP2; have HSM := Lib.hid (bsame_any e9 d9 _ _ _ _ wz HG.out.ye HG.out.yd HG.out.ze HG.out.zd); obtain ⟨y0, y1, -⟩ := blk2 HG.out.gy; obtain ⟨z0, z1, -⟩ := blk2 HG.out.gz
        have HBY := Lib.hid (show BOk l (16 * (k + 1)) ⟨e9, d9⟩ from by
         have h := HBO.out.deed (c := c) (d := ⟨1, dat, dt, dc, dn⟩) (by omega); rw [HDE2.out] at h
         exact h.mono (by omega))
        have HPL2 := Lib.hid (show playsP c l ⟨[], []⟩ D = playsP c l ⟨e9, d9⟩ (D.drop (k + 1)) from HPL.out.trans (HST.out.trans (by rw [HDE2.out])))
        go_wp2_with (fail)
        with_reducible refine HSM.out.mono ?_
        clear HSM y0 y1 z0 z1; rintro r wq ⟨rfl, hb6⟩; have HG3 := Lib.hid (HG.out.step hb6); have HPB := Lib.hid HG3.out.putB; obtain ⟨y0, y1, -⟩ := blk2 HG3.out.gy; obtain ⟨e0, e1, ef⟩ := blk2 HG3.out.px.pw.b2; have e0' : wq.cell? ⟨w.heap.size + 1 + 1, 0, none⟩ = some (.slice aE nE cE) := e0; have e1' : wq.cell? ⟨w.heap.size + 1 + 1, 1, none⟩ = some (.slice aD nD cD) := e1; have ef' : ∀ j, wq.frozen? ⟨w.heap.size + 1 + 1, j, none⟩ = false := ef; have hlb := lt_of_heap HG3.out.px.pw.b2; clear e0 e1 ef hb6 HG; go_wp2
        go_roundg (D.length - (k + 1))
        case measure => omega
        case rel => exact ⟨k + 1, ⟨e9, d9⟩, _, _, by omega, by go_num, HPL2, HBY, HPB⟩
      by_cases q2 : dop = 2
      · subst q2
        obtain ⟨⟨⟨e9, d9⟩, z⟩, hr⟩ : ∃ r, syncP c ⟨eb, db⟩ (l.drop (atD l ⟨2, dat, dt, dc, dn⟩)) dt = r := ⟨_, rfl⟩; have HR := Lib.hid hr; have HDE2 := Lib.hid (show deedP c l ⟨eb, db⟩ ⟨2, dat, dt, dc, dn⟩ = (⟨e9, d9⟩, z) from by unfold deedP; rw [if_neg (show ¬ (2 : Int) = 0 by decide), if_neg (show ¬ (2 : Int) = 1 by decide), if_pos rfl, hr])
        have hat : atD l ⟨2, dat, dt, dc, dn⟩ ≤ l.length := by
         unfold atD
         split
         · rename_i h; have h1 := h.1; have h2 := h.2; simp only at h1 h2 ⊢; omega
         · omega
        clear hr; generalize atD l ⟨2, dat, dt, dc, dn⟩ = n at *; have HLW := Lib.hid (HL.out.step HG.out.px.pw.bl); have HCS := Lib.hid (show ∀ q ∈ l.drop n, q ∈ l from fun q hq => List.mem_of_mem_drop hq); have hdl8 : (l.drop n).length ≤ 8 := by rw [List.length_drop]; omega
        obtain ⟨d0, d1, d2, d3, d4, -⟩ := blk5 HG.out.px.gd
        go_upto_region 23 with (fail)
        clear d0 d1 d2 d3 d4; have HLR := Lib.hid (SlIs.drop (t := n) (k := n * 7) HLW.out hat rfl); have HLC := Lib.hid (show ∀ w', Below wv.heap.size wv w' → Sem.run Tryz.prog (loadCellsFrom ⟨w.heap.size, 0, none⟩ 0 25 #[]) w' = .ok A w' from fun w' h => load_blk (HG.out.step h).px.pw.b0 HA.out.size _); have HLB := Lib.hid (show ∀ w', Below wv.heap.size wv w' → w'.cell? ⟨w.heap.size + 1 + 1, 0, none⟩ = some (.slice aE nE cE) ∧ w'.cell? ⟨w.heap.size + 1 + 1, 1, none⟩ = some (.slice aD nD cD) from fun w' h => ⟨(blk2 (HG.out.step h).px.pw.b2).1, (blk2 (HG.out.step h).px.pw.b2).2.1⟩); have HLT := Lib.hid (show ∀ w', Below wv.heap.size wv w' → w'.cell? ⟨wA.heap.size, 2, none⟩ = some (.int .i64 dt) from fun w' h => (blk5 (HG.out.step h).px.gd).2.2.1); obtain ⟨wB, hwB⟩ : ∃ wB, wB = wv := ⟨_, rfl⟩; subst hwB; have HW := Lib.hid (Below.drew (Below.refl wB.heap.size wB)); refine wp_region_D (fun j => if j < 10 then 0 else if j < 11 then 1 else 2) (fun w' => Below wB.heap.size wB w') (by kernel_rfl) (HW.out) (fun hHeld => ?_); refine gk1 0 (v := ?_) rfl ?_ ?_
        rotate_left; focus (intro w9 hS9; refine exec_loadA (t := 46) (x := Operand.tmp 3) (p := ⟨w.heap.size, 0, none⟩) (A := A) ?_ Tryz.isAgg46 Tryz.sizeOf46 ?_ (HLC.out w9 hS9); rfl; rfl); (try simp only [gkA, gkB, gkC, Act.put, gkD, gkE, gkF])
        refine gk1 1 (v := ?_) rfl ?_ ?_
        rotate_left; focus (intro w9 hS9; obtain ⟨z0, z1⟩ := HLB.out w9 hS9; clear hS9; go_simp; (try with_reducible rfl)); (try simp only [gkA, gkB, gkC, Act.put, gkD, gkE, gkF])
        refine gk1 2 (v := ?_) rfl ?_ ?_
        rotate_left; focus (intro w9 hS9; clear hS9; go_simp; (try with_reducible rfl)); (try simp only [gkA, gkB, gkC, Act.put, gkD, gkE, gkF])
        refine gk1 3 (v := ?_) rfl ?_ ?_
        rotate_left; focus (intro w9 hS9; clear hS9; go_simp; (try with_reducible rfl)); (try simp only [gkA, gkB, gkC, Act.put, gkD, gkE, gkF])
        refine gk1 4 (v := ?_) rfl ?_ ?_
        rotate_left; focus (intro w9 hS9; clear hS9; go_simp; (try with_reducible rfl)); (try simp only [gkA, gkB, gkC, Act.put, gkD, gkE, gkF])
        generalize (if cl = n then al else Option.map (fun x => x.add (n * 7)) al) = av at HLR ⊢; generalize l.length - n = ln at HLR ⊢; generalize cl - n = cn at HLR ⊢; refine gk1 5 (v := ?_) rfl ?_ ?_
        rotate_left; focus (intro w9 hS9; clear hS9; go_simp; (try with_reducible rfl)); (try simp only [gkA, gkB, gkC, Act.put, gkD, gkE, gkF])
        refine gk1 6 (v := ?_) rfl ?_ ?_
        rotate_left; focus (intro w9 hS9; have z0 := HLT.out w9 hS9; clear hS9; go_simp; (try with_reducible rfl)); (try simp only [gkA, gkB, gkC, Act.put, gkD, gkE, gkF])
        refine gk3 7 rfl (fun K hK => ?_); go_simp
        have HCL := Lib.hid (show ∀ W', Below wB.heap.size wB W' → Calls Tryz.prog 23 #[.agg A, .agg #[.slice aE nE cE, .slice aD nD cD], .slice av ln cn, .int .i64 dt] W' (BookE W' (.agg #[.slice aE nE cE, .slice aD nD cD]) (⟨e9, d9⟩, z)) from fun W' h => by
         rw [← HR.out]; have hS := HG.out.step h
         exact sync_any l (16 * k) c A va _ _ _ eb db (l.drop n) dt W' HA.out (HC.out.step hS.px.pw.bl) HK.out HBO.out (by omega) hS.px.pw.se hS.px.pw.sd (HLR.out.step h) HCS.out hdl8 (fun q hq => HLO2.out q (HCS.out q hq)) HDK.out.t (HF.out.step hS.px.pw.bl))
        with_reducible refine (HCL.out _ HW.out).mono ?_
        rintro r wu ⟨u1, u2, rfl, hu1, hu2, hb5, -⟩; obtain ⟨a1, n1, c1, rfl⟩ := ent_sl hu1; obtain ⟨a2, n2, c2, rfl⟩ := chg_sl hu2; have HV := Lib.hid (bl_trans HW.out hb5); have HG2 := Lib.hid (HG.out.step HV.out); have HP2 := Lib.hid (HG2.out.putY (b' := ⟨e9, d9⟩) (v1 := .slice a1 n1 c1) (v2 := .slice a2 n2 c2) (hu1.keep (fun _ h => h.2) (SameOn.refl _ _)) (hu2.keep (fun _ h => h.2) (SameOn.refl _ _))); obtain ⟨y0, y1, yf⟩ := blk2 HG2.out.gy; have hlb := lt_of_heap HG2.out.gy; clear hu1 hu2 hb5 HG HLC HLB HLT HCL HLR; clear hHeld; refine gk5 hK.out rfl (HV.out) (fun hHeld => ?_); clear hK K; clear HV HW; refine gk1 8 (v := ?_) rfl ?_ ?_
        rotate_left; focus (intro w9 hS9; clear hS9; go_simp; (try with_reducible rfl)); (try simp only [gkA, gkB, gkC, Act.put, gkD, gkE, gkF])
        refine gk1 9 (v := ?_) rfl ?_ ?_
        rotate_left; focus (intro w9 hS9; clear hS9; go_simp; (try with_reducible rfl)); (try simp only [gkA, gkB, gkC, Act.put, gkD, gkE, gkF])
        refine wpD_pure (i := 10) (v := ?_) rfl (by kernel_rfl) (fun _ _ _ h => h) (Or.inl ⟨by kernel_rfl, ?_⟩) ?_
        rotate_left; focus (intro w9 hS9; clear hS9; go_simp; (try with_reducible rfl)); (try simp only [gkA, gkB, gkC, Act.put, gkD, gkE, gkF])
        refine gk3 11 rfl (fun K hK => ?_); go_simp; refine hK.out _ _ ⟨fun h => absurd h (by decide), fun h => absurd h (by decide)⟩ (fun _ => ?_); clear hK K; refine gk3 12 rfl (fun K hK => ?_); go_simp; refine hK.out _ _ ⟨fun h => absurd h (by decide), fun h => absurd h (by decide)⟩ (fun _ => ?_); clear hK K; refine wpD_done (by kernel_rfl) ?_
        go_upto_region 24 with (fail)
        clear y0 y1 yf hlb HG2; generalize (wu.setCell ⟨m, 0, none⟩ (.slice a1 n1 c1)).setCell ⟨m, 1, none⟩ (.slice a2 n2 c2) = wy at HP2 ⊢; have HG := HP2; clear HP2; obtain ⟨d0, d1, d2, d3, d4, -⟩ := blk5 HG.out.px.gd; have HLR := Lib.hid (SlIs.drop (t := n) (k := n * 7) (HL.out.step HG.out.px.pw.bl) hat rfl); clear d0 d1 d2 d3 d4; have HLC := Lib.hid (show ∀ w', Below wy.heap.size wy w' → Sem.run Tryz.prog (loadCellsFrom ⟨w.heap.size, 0, none⟩ 0 25 #[]) w' = .ok A w' from fun w' h => load_blk (HG.out.step h).px.pw.b0 HA.out.size _); have HLB := Lib.hid (show ∀ w', Below wy.heap.size wy w' → w'.cell? ⟨w.heap.size + 1 + 1, 0, none⟩ = some (.slice aE nE cE) ∧ w'.cell? ⟨w.heap.size + 1 + 1, 1, none⟩ = some (.slice aD nD cD) from fun w' h => ⟨(blk2 (HG.out.step h).px.pw.b2).1, (blk2 (HG.out.step h).px.pw.b2).2.1⟩); have HLT := Lib.hid (show ∀ w', Below wy.heap.size wy w' → w'.cell? ⟨wA.heap.size, 2, none⟩ = some (.int .i64 dt) from fun w' h => (blk5 (HG.out.step h).px.gd).2.2.1); obtain ⟨wB, hwB⟩ : ∃ wB, wB = wy := ⟨_, rfl⟩; subst hwB; have HW := Lib.hid (Below.drew (Below.refl wB.heap.size wB)); refine wp_region_D (fun j => if j < 10 then 0 else if j < 11 then 1 else 2) (fun w' => Below wB.heap.size wB w') (by kernel_rfl) (HW.out) (fun hHeld => ?_); refine gk1 0 (v := ?_) rfl ?_ ?_
        rotate_left; focus (intro w9 hS9; refine exec_loadA (t := 46) (x := Operand.tmp 3) (p := ⟨w.heap.size, 0, none⟩) (A := A) ?_ Tryz.isAgg46 Tryz.sizeOf46 ?_ (HLC.out w9 hS9); rfl; rfl); (try simp only [gkA, gkB, gkC, Act.put, gkD, gkE, gkF])
        refine gk1 1 (v := ?_) rfl ?_ ?_
        rotate_left; focus (intro w9 hS9; obtain ⟨z0, z1⟩ := HLB.out w9 hS9; clear hS9; go_simp; (try with_reducible rfl)); (try simp only [gkA, gkB, gkC, Act.put, gkD, gkE, gkF])
        refine gk1 2 (v := ?_) rfl ?_ ?_
        rotate_left; focus (intro w9 hS9; clear hS9; go_simp; (try with_reducible rfl)); (try simp only [gkA, gkB, gkC, Act.put, gkD, gkE, gkF])
        refine gk1 3 (v := ?_) rfl ?_ ?_
        rotate_left; focus (intro w9 hS9; clear hS9; go_simp; (try with_reducible rfl)); (try simp only [gkA, gkB, gkC, Act.put, gkD, gkE, gkF])
        refine gk1 4 (v := ?_) rfl ?_ ?_
        rotate_left; focus (intro w9 hS9; clear hS9; go_simp; (try with_reducible rfl)); (try simp only [gkA, gkB, gkC, Act.put, gkD, gkE, gkF])
        generalize (if cl = n then al else Option.map (fun x => x.add (n * 7)) al) = av at HLR ⊢; generalize l.length - n = ln at HLR ⊢; generalize cl - n = cn at HLR ⊢; refine gk1 5 (v := ?_) rfl ?_ ?_
        rotate_left; focus (intro w9 hS9; clear hS9; go_simp; (try with_reducible rfl)); (try simp only [gkA, gkB, gkC, Act.put, gkD, gkE, gkF])
        refine gk1 6 (v := ?_) rfl ?_ ?_
        rotate_left; focus (intro w9 hS9; have z0 := HLT.out w9 hS9; clear hS9; go_simp; (try with_reducible rfl)); (try simp only [gkA, gkB, gkC, Act.put, gkD, gkE, gkF])
        refine gk3 7 rfl (fun K hK => ?_); go_simp
        have HCL := Lib.hid (show ∀ W', Below wB.heap.size wB W' → Calls Tryz.prog 43 #[.agg A, .agg #[.slice aE nE cE, .slice aD nD cD], .slice av ln cn, .int .i64 dt] W' (BookR (fun _ => True) W' (⟨e9, d9⟩, z)) from fun W' h => by
         rw [← HR.out]; have hS := HG.out.step h
         exact syncR_any l (16 * k) c A va _ _ _ eb db (l.drop n) dt W' HA.out (HC.out.step hS.px.pw.bl) HK.out HBO.out (by omega) hS.px.pw.se hS.px.pw.sd (HLR.out.step h) HCS.out hdl8 (fun q hq => HLO2.out q (HCS.out q hq)) HDK.out.t)
        with_reducible refine (HCL.out _ HW.out).mono ?_
        rintro r wu ⟨u1, u2, rfl, hu1, hu2, hb5⟩; obtain ⟨a1, n1, c1, rfl⟩ := ent_sl hu1; obtain ⟨a2, n2, c2, rfl⟩ := chg_sl hu2; have HV := Lib.hid (bl_trans HW.out hb5); have HG2 := Lib.hid (HG.out.step HV.out); have HP2 := Lib.hid (HG2.out.putZ (b' := ⟨e9, d9⟩) (v1 := .slice a1 n1 c1) (v2 := .slice a2 n2 c2) (hu1.keep (fun _ h => h.2) (SameOn.refl _ _)) (hu2.keep (fun _ h => h.2) (SameOn.refl _ _))); obtain ⟨y0, y1, yf⟩ := blk2 HG2.out.gz; have hlb := lt_of_heap HG2.out.gz; clear hu1 hu2 hb5 HG HLC HLB HLT HCL HLR; clear hHeld; refine gk5 hK.out rfl (HV.out) (fun hHeld => ?_); clear hK K; clear HV HW; refine gk1 8 (v := ?_) rfl ?_ ?_
        rotate_left; focus (intro w9 hS9; clear hS9; go_simp; (try with_reducible rfl)); (try simp only [gkA, gkB, gkC, Act.put, gkD, gkE, gkF])
        refine gk1 9 (v := ?_) rfl ?_ ?_
        rotate_left; focus (intro w9 hS9; clear hS9; go_simp; (try with_reducible rfl)); (try simp only [gkA, gkB, gkC, Act.put, gkD, gkE, gkF])
        refine wpD_pure (i := 10) (v := ?_) rfl (by kernel_rfl) (fun _ _ _ h => h) (Or.inl ⟨by kernel_rfl, ?_⟩) ?_
        rotate_left; focus (intro w9 hS9; clear hS9; go_simp; (try with_reducible rfl)); (try simp only [gkA, gkB, gkC, Act.put, gkD, gkE, gkF])
        refine gk3 11 rfl (fun K hK => ?_); go_simp; refine hK.out _ _ ⟨fun h => absurd h (by decide), fun h => absurd h (by decide)⟩ (fun _ => ?_); clear hK K; refine gk3 12 rfl (fun K hK => ?_); go_simp; refine hK.out _ _ ⟨fun h => absurd h (by decide), fun h => absurd h (by decide)⟩ (fun _ => ?_); clear hK K; refine wpD_done (by kernel_rfl) ?_
        go_upto_region 25 with (fail)
        clear y0 y1 yf hlb HG2; generalize (wu.setCell ⟨m + 1, 0, none⟩ (.slice a1 n1 c1)).setCell ⟨m + 1, 1, none⟩ (.slice a2 n2 c2) = wz at HP2 ⊢; have HG := HP2; clear HP2; have HSM := Lib.hid (bsame_any e9 d9 _ _ _ _ wz HG.out.ye HG.out.yd HG.out.ze HG.out.zd); obtain ⟨y0, y1, -⟩ := blk2 HG.out.gy; obtain ⟨z0, z1, -⟩ := blk2 HG.out.gz
        have HBY := Lib.hid (show BOk l (16 * (k + 1)) ⟨e9, d9⟩ from by
         have h := HBO.out.deed (c := c) (d := ⟨2, dat, dt, dc, dn⟩) (by omega); rw [HDE2.out] at h
         exact h.mono (by omega))
        have HPL2 := Lib.hid (show playsP c l ⟨[], []⟩ D = playsP c l ⟨e9, d9⟩ (D.drop (k + 1)) from HPL.out.trans (HST.out.trans (by rw [HDE2.out])))
        go_wp2_with (fail)
        with_reducible refine HSM.out.mono ?_
        clear HSM y0 y1 z0 z1; rintro r wq ⟨rfl, hb6⟩; have HG3 := Lib.hid (HG.out.step hb6); have HPB := Lib.hid HG3.out.putB; obtain ⟨y0, y1, -⟩ := blk2 HG3.out.gy; obtain ⟨e0, e1, ef⟩ := blk2 HG3.out.px.pw.b2; have e0' : wq.cell? ⟨w.heap.size + 1 + 1, 0, none⟩ = some (.slice aE nE cE) := e0; have e1' : wq.cell? ⟨w.heap.size + 1 + 1, 1, none⟩ = some (.slice aD nD cD) := e1; have ef' : ∀ j, wq.frozen? ⟨w.heap.size + 1 + 1, j, none⟩ = false := ef; have hlb := lt_of_heap HG3.out.px.pw.b2; clear e0 e1 ef hb6 HG; go_wp2
        go_roundg (D.length - (k + 1))
        case measure => omega
        case rel => exact ⟨k + 1, ⟨e9, d9⟩, _, _, by omega, by go_num, HPL2, HBY, HPB⟩
      · obtain ⟨⟨⟨e9, d9⟩, z⟩, hr⟩ : ∃ r, payP ⟨eb, db⟩ dn dc dt = r := ⟨_, rfl⟩
        have HR := Lib.hid hr; have HDE2 := Lib.hid (show deedP c l ⟨eb, db⟩ ⟨dop, dat, dt, dc, dn⟩ = (⟨e9, d9⟩, z) from by unfold deedP; rw [if_neg q0, if_neg q1, if_neg q2, hr]); have q0' : (dop == 0) = false := by simpa using q0
        have q1' : (dop == 1) = false := by simpa using q1
        have q2' : (dop == 2) = false := by simpa using q2
        clear hr q0 q1 q2; have HAP := Lib.hid (pay_any l (16 * k) _ _ eb db dn dc dt wv HBO.out (by omega) HG.out.px.pw.se HG.out.px.pw.sd HDK.out.name HDK.out.c HDK.out.t (HF.out.step HG.out.px.pw.bl)); have hld := load_blk HG.out.px.pw.b0 HA.out.size Tryz.prog; obtain ⟨e0, e1, -⟩ := blk2 HG.out.px.pw.b2; have e0' : wv.cell? ⟨w.heap.size + 1 + 1, 0, none⟩ = some (.slice aE nE cE) := e0; have e1' : wv.cell? ⟨w.heap.size + 1 + 1, 1, none⟩ = some (.slice aD nD cD) := e1; obtain ⟨x0, x1, x2, x3, x4, x5, x6, -⟩ := blk7 HG.out.px.gx; obtain ⟨d0, d1, d2, d3, d4, -⟩ := blk5 HG.out.px.gd; clear e0 e1
        go_wp2_with (first | (refine wpList_loadA _ rfl 46 rfl Tryz.isAgg46 Tryz.sizeOf46 rfl (by with_reducible assumption) ?_) | fail)
        with_reducible refine HAP.out.mono ?_
        clear HAP hld e0' e1' x0 x1 x2 x3 x4 x5 x6 d0 d1 d2 d3 d4; rintro r wu ⟨u1, u2, rfl, hu1, hu2, hb5, -⟩; rw [HR.out] at hu1 hu2 ⊢; simp only at hu1 hu2 ⊢; obtain ⟨a1, n1, c1, rfl⟩ := ent_sl hu1; obtain ⟨a2, n2, c2, rfl⟩ := chg_sl hu2; have HG2 := Lib.hid (HG.out.step hb5); have HP2 := Lib.hid (HG2.out.putY (b' := ⟨e9, d9⟩) (v1 := .slice a1 n1 c1) (v2 := .slice a2 n2 c2) (hu1.keep (fun _ h => h.2) (SameOn.refl _ _)) (hu2.keep (fun _ h => h.2) (SameOn.refl _ _))); obtain ⟨y0, y1, yf⟩ := blk2 HG2.out.gy; have hlb := lt_of_heap HG2.out.gy; clear hu1 hu2 hb5 HG
        go_upto_region 15 with (fail)
        clear y0 y1 yf hlb HG2; generalize (wu.setCell ⟨m, 0, none⟩ (.slice a1 n1 c1)).setCell ⟨m, 1, none⟩ (.slice a2 n2 c2) = wy at HP2 ⊢; have HG := HP2; clear HP2; have HAP := Lib.hid (payR_any (fun _ => True) l (16 * k) _ _ eb db dn dc dt wy (fun _ _ => trivial) HBO.out (by omega) (HG.out.px.pw.se.keep (fun _ h => ⟨trivial, h⟩) (SameOn.refl _ _)) (HG.out.px.pw.sd.keep (fun _ h => ⟨trivial, h⟩) (SameOn.refl _ _)) HDK.out.name HDK.out.c HDK.out.t); have hld := load_blk HG.out.px.pw.b0 HA.out.size Tryz.prog; obtain ⟨e0, e1, -⟩ := blk2 HG.out.px.pw.b2; have e0' : wy.cell? ⟨w.heap.size + 1 + 1, 0, none⟩ = some (.slice aE nE cE) := e0; have e1' : wy.cell? ⟨w.heap.size + 1 + 1, 1, none⟩ = some (.slice aD nD cD) := e1; obtain ⟨x0, x1, x2, x3, x4, x5, x6, -⟩ := blk7 HG.out.px.gx; obtain ⟨d0, d1, d2, d3, d4, -⟩ := blk5 HG.out.px.gd; clear e0 e1
        go_wp2_with (first | (refine wpList_loadA _ rfl 46 rfl Tryz.isAgg46 Tryz.sizeOf46 rfl (by with_reducible assumption) ?_) | fail)
        with_reducible refine HAP.out.mono ?_
        clear HAP hld e0' e1' x0 x1 x2 x3 x4 x5 x6 d0 d1 d2 d3 d4; rintro r wu ⟨u1, u2, rfl, hu1, hu2, hb5⟩; rw [HR.out] at hu1 hu2 ⊢; simp only at hu1 hu2 ⊢; obtain ⟨a1, n1, c1, rfl⟩ := ent_sl hu1; obtain ⟨a2, n2, c2, rfl⟩ := chg_sl hu2; have HG2 := Lib.hid (HG.out.step hb5); have HP2 := Lib.hid (HG2.out.putZ (b' := ⟨e9, d9⟩) (v1 := .slice a1 n1 c1) (v2 := .slice a2 n2 c2) (hu1.keep (fun _ h => h.2) (SameOn.refl _ _)) (hu2.keep (fun _ h => h.2) (SameOn.refl _ _))); obtain ⟨y0, y1, yf⟩ := blk2 HG2.out.gz; have hlb := lt_of_heap HG2.out.gz; clear hu1 hu2 hb5 HG
        go_upto_region 25 with (fail)
        clear y0 y1 yf hlb HG2; generalize (wu.setCell ⟨m + 1, 0, none⟩ (.slice a1 n1 c1)).setCell ⟨m + 1, 1, none⟩ (.slice a2 n2 c2) = wz at HP2 ⊢; have HG := HP2; clear HP2; have HSM := Lib.hid (bsame_any e9 d9 _ _ _ _ wz HG.out.ye HG.out.yd HG.out.ze HG.out.zd); obtain ⟨y0, y1, -⟩ := blk2 HG.out.gy; obtain ⟨z0, z1, -⟩ := blk2 HG.out.gz
        have HBY := Lib.hid (show BOk l (16 * (k + 1)) ⟨e9, d9⟩ from by
         have h := HBO.out.deed (c := c) (d := ⟨dop, dat, dt, dc, dn⟩) (by omega); rw [HDE2.out] at h
         exact h.mono (by omega))
        have HPL2 := Lib.hid (show playsP c l ⟨[], []⟩ D = playsP c l ⟨e9, d9⟩ (D.drop (k + 1)) from HPL.out.trans (HST.out.trans (by rw [HDE2.out])))
        go_wp2_with (fail)
        with_reducible refine HSM.out.mono ?_
        clear HSM y0 y1 z0 z1; rintro r wq ⟨rfl, hb6⟩; have HG3 := Lib.hid (HG.out.step hb6); have HPB := Lib.hid HG3.out.putB; obtain ⟨y0, y1, -⟩ := blk2 HG3.out.gy; obtain ⟨e0, e1, ef⟩ := blk2 HG3.out.px.pw.b2; have e0' : wq.cell? ⟨w.heap.size + 1 + 1, 0, none⟩ = some (.slice aE nE cE) := e0; have e1' : wq.cell? ⟨w.heap.size + 1 + 1, 1, none⟩ = some (.slice aD nD cD) := e1; have ef' : ∀ j, wq.frozen? ⟨w.heap.size + 1 + 1, j, none⟩ = false := ef; have hlb := lt_of_heap HG3.out.px.pw.b2; clear e0 e1 ef hb6 HG; go_wp2
        go_roundg (D.length - (k + 1))
        case measure => omega
        case rel => exact ⟨k + 1, ⟨e9, d9⟩, _, _, by omega, by go_num, HPL2, HBY, HPB⟩
  · have hkl : k = D.length := by omega
    have HRE := Lib.hid (show playsP c l ⟨[], []⟩ (dl.take 16) = ⟨eb, db⟩ from by rw [HDD.out, HPL.out, List.drop_eq_nil_of_le (by omega), playsP]); have hlb := lt_of_heap HPW.out.b2; obtain ⟨e0, e1, -⟩ := blk2 HPW.out.b2; have e0' : wr.cell? ⟨w.heap.size + 1 + 1, 0, none⟩ = some (.slice aE nE cE) := e0; have e1' : wr.cell? ⟨w.heap.size + 1 + 1, 1, none⟩ = some (.slice aD nD cD) := e1; obtain ⟨f0, f1, ff⟩ := blk2 HPW.out.b1; clear e0 e1
    by_cases h : (k : Int) < (dl.length : Int)
    · have h16 : decide ((k : Int) < 16) = false := by simp; omega
      clear hkl; go_wp2
      all_goals
       have g5 : ((wr.setCell ⟨w.heap.size + 1, 0, none⟩ (.slice aE nE cE)).setCell ⟨w.heap.size + 1, 1, none⟩ (.slice aD nD cD)).heap[w.heap.size + 1]? = some (.cells #[.slice aE nE cE, .slice aD nD cD] 70 (0, 0)) := heap_setCell_same _ _ _ _ _ _ (heap_setCell_same _ _ _ _ _ _ HPW.out.b1); have b5 : Below w.heap.size w ((wr.setCell ⟨w.heap.size + 1, 0, none⟩ (.slice aE nE cE)).setCell ⟨w.heap.size + 1, 1, none⟩ (.slice aD nD cD)) := bl_set (bl_set HPW.out.bl _ (by simp only; omega)) _ (by simp only; omega); have HE5 := Lib.hid (ent_set (q1 := .slice aE nE cE) (q2 := .slice aD nD cD) HPW.out.se HPW.out.b1 ⟨_, _, _, rfl⟩ ⟨_, _, _, rfl⟩); have HD5 := Lib.hid (chg_set (q1 := .slice aE nE cE) (q2 := .slice aD nD cD) HPW.out.sd HPW.out.b1 ⟨_, _, _, rfl⟩ ⟨_, _, _, rfl⟩); obtain ⟨k0, k1, -⟩ := blk2 g5; generalize (wr.setCell ⟨w.heap.size + 1, 0, none⟩ (.slice aE nE cE)).setCell ⟨w.heap.size + 1, 1, none⟩ (.slice aD nD cD) = w9 at *; refine bodyPost_ret (v := .tuple #[.agg #[.slice aE nE cE, .slice aD nD cD], .bool true]) (by simp [results, Tryz.results16, go_sem, k0, k1]) rfl ?_; rw [HRE.out]; exact ⟨_, _, rfl, HE5.out, HD5.out, b5⟩
    · have h16 : decide ((k : Int) < (dl.length : Int)) = false := by simpa using h
      clear hkl h; go_wp2
      all_goals
       have g5 : ((wr.setCell ⟨w.heap.size + 1, 0, none⟩ (.slice aE nE cE)).setCell ⟨w.heap.size + 1, 1, none⟩ (.slice aD nD cD)).heap[w.heap.size + 1]? = some (.cells #[.slice aE nE cE, .slice aD nD cD] 70 (0, 0)) := heap_setCell_same _ _ _ _ _ _ (heap_setCell_same _ _ _ _ _ _ HPW.out.b1); have b5 : Below w.heap.size w ((wr.setCell ⟨w.heap.size + 1, 0, none⟩ (.slice aE nE cE)).setCell ⟨w.heap.size + 1, 1, none⟩ (.slice aD nD cD)) := bl_set (bl_set HPW.out.bl _ (by simp only; omega)) _ (by simp only; omega); have HE5 := Lib.hid (ent_set (q1 := .slice aE nE cE) (q2 := .slice aD nD cD) HPW.out.se HPW.out.b1 ⟨_, _, _, rfl⟩ ⟨_, _, _, rfl⟩); have HD5 := Lib.hid (chg_set (q1 := .slice aE nE cE) (q2 := .slice aD nD cD) HPW.out.sd HPW.out.b1 ⟨_, _, _, rfl⟩ ⟨_, _, _, rfl⟩); obtain ⟨k0, k1, -⟩ := blk2 g5; generalize (wr.setCell ⟨w.heap.size + 1, 0, none⟩ (.slice aE nE cE)).setCell ⟨w.heap.size + 1, 1, none⟩ (.slice aD nD cD) = w9 at *; refine bodyPost_ret (v := .tuple #[.agg #[.slice aE nE cE, .slice aD nD cD], .bool true]) (by simp [results, Tryz.results16, go_sem, k0, k1]) rfl ?_; rw [HRE.out]; exact ⟨_, _, rfl, HE5.out, HD5.out, b5⟩
end Go.Proofs.YtifcelebfagjbaaGreatDoor
namespace Go.Tw.Po
open Go.RowKit Go.Tw Go.Sort Go.Tw.Ord Go.Proofs.YtifcelebfagjbaaGreatDoor
theorem BOk.plays {c : List Acc} {l : List Chg} : ∀ {D : List Deed} {N : Nat} {b : Bk}, BOk l N b → N + 16 * D.length ≤ 1000 → BOk l (N + 16 * D.length) (playsP c l b D)
 | [], _, _, h, _ => by rw [playsP]; exact h
 | d :: D, N, b, h, hN => by
  rw [List.length_cons] at hN ⊢; rw [playsP]; exact (BOk.plays (c := c) (D := D) (h.deed (c := c) (d := d) (by omega)) (by omega)).mono (by omega)
theorem BOk.empty {l : List Chg} (h8 : l.length ≤ 8) (hc : ∀ x ∈ l, COk x) : BOk l 0 ⟨[], []⟩ :=
 ⟨h8, Nat.le_refl _, (by intro e h; cases h), List.Pairwise.nil, (by intro e h; cases h), hc, (by intro e h; cases h)⟩
/-! ### Payments -/
def sPayH : ByteArray := ⟨#[112, 97, 121, 35]⟩
def isPay (k : ByteArray) : Bool := decide (4 ≤ k.size) && decide (k.extract 0 4 = sPayH)
end Go.Tw.Po
