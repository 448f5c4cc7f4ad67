/-
  Layer proofs, merged: PoAp PoRh PoRi PoRj PoRl PoCz.
-/
import Derived.Test.YtifcelebfagjbaaGreatDoorMgI
import Derived.Test.YtifcelebfagjbaaGreatDoorMgJ
import Derived.Test.YtifcelebfagjbaaGreatDoorMgE
import Derived.Laws.Strings2
import Derived.Test.YtifcelebfagjbaaGreatDoorMgG
namespace Go.Tw
open Go.RowKit
theorem alloc4 (w : World) (o1 o2 o3 o4 : Obj) : ((((w.alloc o1).alloc o2).alloc o3).alloc o4).heap[w.heap.size]? = some o1 ∧ ((((w.alloc o1).alloc o2).alloc o3).alloc o4).heap[w.heap.size + 1]? = some o2 ∧ ((((w.alloc o1).alloc o2).alloc o3).alloc o4).heap[w.heap.size + 2]? = some o3 ∧ ((((w.alloc o1).alloc o2).alloc o3).alloc o4).heap[w.heap.size + 3]? = some o4 := by
 obtain ⟨h1, h2, h3⟩ := alloc3 w o1 o2 o3; refine ⟨(Below.heap_alloc _ _ _ (by simp; try omega)).trans h1, (Below.heap_alloc _ _ _ (by simp; try omega)).trans h2, (Below.heap_alloc _ _ _ (by simp)).trans h3, ?_⟩; have := heap_alloc_new (((w.alloc o1).alloc o2).alloc o3) o4
 simpa using this
end Go.Tw
namespace Go.Proofs.YtifcelebfagjbaaGreatDoor
open Go.RowKit Go.Tw Go.Tw.Ord Go.Tw.Po Go.Sort
def BB (n : Nat) (a b : Value) (wr : World) : Prop := wr.heap[n]? = some (.cells #[a, b] 70 (0, 0))
structure AW (n : Nat) (A : Array Value) (ve vd : Value) (x : Chg) (v : Value) (wr : World) : Prop where
 b0 : wr.heap[n]? = some (.cells A 46 (0, 0))
 b1 : BB (n + 1) ve vd wr
 b2 : XB (n + 2) x v wr
 b3 : BB (n + 3) (.slice none 0 0) (.slice none 0 0) wr
theorem AW.same {n : Nat} {A : Array Value} {ve vd v : Value} {x : Chg} {w w' : World} (h : AW n A ve vd x v w) (hs : ∀ k, n ≤ k → k ≤ n + 3 → w'.heap[k]? = w.heap[k]?) : AW n A ve vd x v w' :=
 ⟨(hs n (Nat.le_refl _) (by omega)).trans h.b0, (hs (n + 1) (by omega) (by omega)).trans h.b1, (hs (n + 2) (by omega) (by omega)).trans h.b2, (hs (n + 3) (by omega) (by omega)).trans h.b3⟩
theorem AW.step {n B : Nat} {A : Array Value} {ve vd v : Value} {x : Chg} {w w' : World} (h : AW n A ve vd x v w) (hb : Below B w w') (hB : n + 3 < B) : AW n A ve vd x v w' := h.same fun k _ hk => hb.block k (by omega)
theorem AW.put {n : Nat} {A : Array Value} {ve vd v : Value} {x : Chg} {w : World} (h : AW n A ve vd x v w) {q : Addr} (hq : n + 3 < q.block) (u : Value) : AW n A ve vd x v (w.setCell q u) := h.same fun k _ hk => Below.heap_setCell _ _ _ _ (by omega)
def BookE (w : World) (vb : Value) (r : Bk × Int) (e : Ending) (w' : World) : Prop := ∃ ve vd, e = .returned (.tuple #[.agg #[ve, vd], .int .i64 r.2]) ∧ SlIs (tEnt 101) (fun k => (r.2 = 0 → w.heap.size ≤ k) ∧ k < w'.heap.size) w' ve r.1.es ∧ SlIs (tChg eL) (fun k => (r.2 = 0 → w.heap.size ≤ k) ∧ k < w'.heap.size) w' vd r.1.ds ∧ Below w.heap.size w w' ∧ (r.2 ≠ 0 → Value.agg #[ve, vd] = vb)
theorem BookE.old {w w' : World} {b : Bk} {z : Int} {ve vd : Value} (hz : z ≠ 0) (he : SlIs (tEnt 101) (· < w.heap.size) w ve b.es) (hd : SlIs (tChg eL) (· < w.heap.size) w vd b.ds) (hb : Below w.heap.size w w') : BookE w (.agg #[ve, vd]) (b, z) (.returned (.tuple #[.agg #[ve, vd], .int .i64 z])) w' :=
 ⟨ve, vd, rfl, (he.step hb).keep (fun _ h => ⟨fun e => absurd e hz, h⟩) (SameOn.refl _ _), (hd.step hb).keep (fun _ h => ⟨fun e => absurd e hz, h⟩) (SameOn.refl _ _), hb, fun _ => rfl⟩
def XBB (n : Nat) (ve vd : Value) (x : Chg) (v : Value) (wr : World) : Prop := BB (n + 1) ve vd wr ∧ XB (n + 2) x v wr
theorem addP_pos (l : List SI) (a : ByteArray) (n : Int) : 0 < (addP l a n).length := by
 cases l with
 | nil => simp [addP]
 | cons p l => rw [addP]; split <;> simp
theorem moveP_pos (c : List Acc) (l : List SI) (x : Chg) (n : Int) : 0 < (moveP c l x n).length := addP_pos _ _ _
theorem NewL.ownS {α : Type} {T : Ty α} {e : TypeId} {m : Nat} {w : World} {v : Value} {l : List α} (h : NewL T e m w v l) : OwnS T e m (fun k => m ≤ k ∧ k < w.heap.size ∧ some k ≠ v.ownBlock) w v l := by
 obtain ⟨F, h1, nd, hB⟩ := h; have hlt := h1.lt; obtain ⟨css, Fs, h1, h2, rfl⟩ := h1; refine ⟨css, ⟨h1.1, ?_⟩, AllIs.widen h2.is (fun k hk => ⟨hB k (List.mem_append_right _ hk), hlt k (List.mem_append_right _ hk), fun e => ?_⟩)⟩
 · rcases h1.2 with h | ⟨g, cap, cur, rfl, hb, rest⟩
   · exact .inl h
   · exact .inr ⟨g, cap, cur, rfl, hB g (by simp [Value.ownBlock]), rest⟩
 · rw [List.nodup_append] at nd
   exact nd.2.2 k (by rw [← e]; simp) k hk rfl
theorem AllIs.setAt' {α : Type} {T : Ty α} {S : Nat → Prop} {w : World} : ∀ {css : List (List Value)} {l : List α} (i : Nat) {ci : List Value} {y : α}, AllIs T S w css l → T.is S w ci y → AllIs T S w (css.set i ci) (l.set i y)
 | [], [], _, _, _, _, _ => by simp [AllIs]
 | _ :: css, _ :: l, 0, _, _, h, hy => ⟨hy, h.2⟩
 | _ :: css, _ :: l, i + 1, _, _, h, hy => ⟨h.1, AllIs.setAt' i h.2 hy⟩
 | [], _ :: _, _, _, _, h, _ => h.elim
 | _ :: _, [], _, _, _, h, _ => h.elim
theorem OwnS.storeA {α : Type} {T : Ty α} {e : TypeId} {B : Nat} {S : Nat → Prop} {w : World} {v : Value} {l : List α} (h : OwnS T e B S w v l) (hS : ∀ k, S k → some k ≠ v.ownBlock) (hl : 0 < l.length) : ∃ g cap cur, v = .slice (some ⟨g, 0, none⟩) l.length cap ∧ B ≤ g ∧ g < w.heap.size ∧ w.heap[g]? = some (.cells cur e (0, 0)) ∧ l.length * T.sz ≤ cur.size ∧
  ∀ (i : Nat) (A : Array Value) (y : α), i < l.length → T.is S w A.toList y → OwnS T e B S (w.setRow g (cur.toList.take (i * T.sz) ++ A.toList ++ cur.toList.drop (i * T.sz + T.sz)).toArray) v (l.set i y) := by
 obtain ⟨css, h1, h2⟩ := h
 rcases h1.2 with ⟨_, h'⟩ | ⟨g, cap, cur, rfl, hB, hg, h3, h4, h5, h6⟩
 · omega
 have hlt := (Array.getElem?_eq_some_iff.1 hg).1; obtain ⟨l1, l2⟩ := h2.lens; refine ⟨g, cap, cur, rfl, hB, hlt, hg, by rw [h5]; exact Nat.mul_le_mul_right _ h3, fun i A y hi hy => ?_⟩; have hAl := T.len hy; have hfl := h2.flatten_len; have e1 : cur.toList = css.flatten ++ cur.toList.drop (l.length * T.sz) := by rw [← h6, List.take_append_drop]
 have e2 : cur.toList.take (i * T.sz) ++ A.toList ++ cur.toList.drop (i * T.sz + T.sz) = (css.set i A.toList).flatten ++ cur.toList.drop (l.length * T.sz) := by
  conv => lhs; rw [e1]
  exact flat_set_mid i l2 (by omega) hAl
 have hfl2 : (css.set i A.toList).flatten.length = l.length * T.sz := by
  have := congrArg List.length e2; have h7 := congrArg List.length e1; have h8 : (i + 1) * T.sz ≤ l.length * T.sz := Nat.mul_le_mul_right _ hi; have h9 : l.length * T.sz ≤ cap * T.sz := Nat.mul_le_mul_right _ h3; rw [Nat.succ_mul] at h8; simp only [List.length_append, List.length_take, List.length_drop, Array.length_toList, hAl] at this h7
  omega
 refine ⟨css.set i A.toList, ⟨by rw [hfl2, List.length_set], .inr ⟨g, cap, _, by rw [List.length_set], hB, setRow_heap _ _ cur _ e (0, 0) hg, by rw [List.length_set]; exact h3, h4, ?_, ?_⟩⟩, ?_⟩
 · rw [e2]
   have h8 : l.length * T.sz ≤ cap * T.sz := Nat.mul_le_mul_right _ h3; simp only [List.size_toArray, List.length_append, hfl2, List.length_drop, Array.length_toList]
   omega
 · rw [e2]
   simp only [List.length_set]; rw [← hfl2, List.take_left']
   rfl
 · exact (AllIs.setAt' i h2 hy).keep (fun k hk => hk) (fun k hk => setRow_other w g k _ (fun e => hS k hk (by rw [e]; rfl)))
theorem ap_chk {c : List Acc} {b : Bk} {x : Chg} (h : chkC x ≠ 0) : applyP c b x = (b, chkC x) := by unfold applyP; rw [if_pos h]
theorem ap_s {c : List Acc} {b : Bk} {x : Chg} (h : chkC x = 0) {es' : List Ent} {z : Int} (he : enterL b.es (keyC x.key (verN b.es x.key)) x.tm (postsA c b.ds x) = (es', z)) : applyP c b x = if z ≠ 0 then (b, z) else (⟨es', putP b.ds x⟩, 0) := by unfold applyP; rw [if_neg (by simp [h])]; simp only [he]
set_option maxRecDepth 100000 in
set_option maxHeartbeats 8000000 in
theorem apply_any (L : List Chg) (N : Nat) (c : List Acc) (A : Array Value) (va ve vd vx : Value) (es : List Ent) (ds : List Chg) (x : Chg) (w : World) (hA : CfgA A va) (hc : SlIs (tAcc 138) (· < w.heap.size) w va c) (hk : CfOk c) (hb : BOk L N ⟨es, ds⟩) (hN : N ≤ 900) (hxc : COk x)
  (he : SlIs (tEnt 101) (· < w.heap.size) w ve es) (hd : SlIs (tChg eL) (· < w.heap.size) w vd ds) (hx : ChgOk x) (hv : SlIs tSI (· < w.heap.size) w vx x.ls) (hf : FmtAll w) :
  Calls Tryz.prog 21 #[.agg A, .agg #[ve, vd], .agg #[.string x.key, .string x.veh, .string x.sys, .int .i64 x.cls, .int .i64 x.tm, vx, .int .i64 x.c]] w (BookE w (.agg #[ve, vd]) (applyP c ⟨es, ds⟩ x)) := by
 have h0 := alloc4 w (.cells A 46) (.cells #[ve, vd] 70) (.cells #[.string x.key, .string x.veh, .string x.sys, .int .i64 x.cls, .int .i64 x.tm, vx, .int .i64 x.c] 49) (.cells #[.slice none 0 0, .slice none 0 0] 70); have HY := Lib.hid (show AW w.heap.size A ve vd x vx _ from ⟨h0.1, h0.2.1, h0.2.2.1, h0.2.2.2⟩); have HB0 := Lib.hid (bl_alloc (bl_alloc (bl_alloc (bl_alloc (Below.refl w.heap.size w) (.cells A 46)) (.cells #[ve, vd] 70)) (.cells #[.string x.key, .string x.veh, .string x.sys, .int .i64 x.cls, .int .i64 x.tm, vx, .int .i64 x.c] 49)) (.cells #[.slice none 0 0, .slice none 0 0] 70)); have HCK := Lib.hid (pcheck_any x vx _ hx (hv.step HB0.out) (by have := hxc.ls; omega)); obtain ⟨xa, xc, _, _, rfl, -⟩ := id hv; obtain ⟨ae, ce, _, _, rfl, -⟩ := id he; obtain ⟨ad, cd, bd, od, rfl, hd1, hd2, hdo⟩ := chg_open hd; have HDO := Lib.hid hdo; have HA := Lib.hid hA; have HC := Lib.hid hc; have HK := Lib.hid hk; have HX := Lib.hid hx; have HXC := Lib.hid hxc; have HV := Lib.hid hv; have HF := Lib.hid hf; have HE := Lib.hid he; have HD := Lib.hid hd; have HBK := Lib.hid hb; clear hA hc hk hx hxc hv hf h0 he hd hdo hb; obtain ⟨z, hz⟩ : ∃ z, chkC x = z := ⟨_, rfl⟩; rw [hz] at HCK
 by_cases hz0 : z = 0
 case neg =>
  have HR := Lib.hid (ap_chk (c := c) (b := ⟨es, ds⟩) (x := x) (by rw [hz]; exact hz0)); rw [hz] at HR; have hz1 : (z != 0) = true := by simpa using hz0
  clear hz hz0
  go_enter Tryz.func21, Tryz.ntmps21
  go_wp2_with (fail)
  with_reducible refine HCK.out.mono ?_
  rintro r w2 ⟨rfl, hb⟩; have HY2 := Lib.hid (HY.out.step hb (by simp)); have HB2 := Lib.hid (bl_trans HB0.out hb); obtain ⟨e0, e1, ef⟩ := blk2 HY2.out.b3; obtain ⟨d0, d1, -⟩ := blk2 HY2.out.b1; have hlt := lt_of_heap HY2.out.b3; clear hb HCK HY; go_wp2; have g5 : ((w2.setCell ⟨w.heap.size + 1 + 1 + 1, 0, none⟩ (.slice ae es.length ce)).setCell ⟨w.heap.size + 1 + 1 + 1, 1, none⟩ (.slice ad ds.length cd)).heap[w.heap.size + 1 + 1 + 1]? = some (.cells #[(.slice ae es.length ce), (.slice ad ds.length cd)] 70 (0, 0)) := heap_setCell_same _ _ _ _ _ _ (heap_setCell_same _ _ _ _ _ _ HY2.out.b3); have b5 : Below w.heap.size w ((w2.setCell ⟨w.heap.size + 1 + 1 + 1, 0, none⟩ (.slice ae es.length ce)).setCell ⟨w.heap.size + 1 + 1 + 1, 1, none⟩ (.slice ad ds.length cd)) := bl_set (bl_set HB2.out _ (by simp only; omega)) _ (by simp only; omega); obtain ⟨k0, k1, -⟩ := blk2 g5; generalize (w2.setCell ⟨w.heap.size + 1 + 1 + 1, 0, none⟩ (.slice ae es.length ce)).setCell ⟨w.heap.size + 1 + 1 + 1, 1, none⟩ (.slice ad ds.length cd) = w9 at *; refine bodyPost_ret (v := .tuple #[.agg #[(.slice ae es.length ce), (.slice ad ds.length cd)], .int .i64 z]) (by simp [results, Tryz.results21, go_sem, k0, k1]) rfl ?_; rw [HR.out]; exact BookE.old (by simpa using hz1) HE.out HD.out b5
 subst hz0; have HCF := Lib.hid (chk_facts hz); have HZ := Lib.hid hz; have hz1 : ((0 : Int) != 0) = false := rfl; clear hz
 go_enter Tryz.func21, Tryz.ntmps21
 go_wp2_with (fail)
 with_reducible refine HCK.out.mono ?_
 rintro r w2 ⟨rfl, hb⟩; have HY2 := Lib.hid (HY.out.step hb (by simp)); have HB2 := Lib.hid (bl_trans HB0.out hb); have hlt := lt_of_heap HY2.out.b3; clear hb HCK HY
 go_upto_region 5 with (fail)
 have hA3 := bl_alloc (Below.refl w2.heap.size w2) (.cells #[.string ⟨#[]⟩, .int .i64 0, .slice none 0 0] 105); have g3 := heap_alloc_new w2 (.cells #[.string ⟨#[]⟩, .int .i64 0, .slice none 0 0] 105); generalize w2.alloc (.cells #[.string ⟨#[]⟩, .int .i64 0, .slice none 0 0] 105) = wb at hA3 g3 ⊢; have HY3 := Lib.hid (HY2.out.step hA3 hlt); have HB3 := Lib.hid (bl_trans HB2.out hA3); have HG3 := Lib.hid g3; have hxb : XBB w.heap.size (.slice ae es.length ce) (.slice ad ds.length cd) x (.slice xa x.ls.length xc) wb := ⟨HY3.out.b1, HY3.out.b2⟩; have HL0 := Lib.hid (show ∀ w', XBB w.heap.size (.slice ae es.length ce) (.slice ad ds.length cd) x (.slice xa x.ls.length xc) w' → w'.cell? ⟨w.heap.size + 1 + 1, 0, none⟩ = some (.string x.key) from fun w' h => (blk7 h.2).1); have HL4 := Lib.hid (show ∀ w', XBB w.heap.size (.slice ae es.length ce) (.slice ad ds.length cd) x (.slice xa x.ls.length xc) w' → w'.cell? ⟨w.heap.size + 1 + 1, 4, none⟩ = some (.int .i64 x.tm) from fun w' h => (blk7 h.2).2.2.2.2.1); have HLB := Lib.hid (show ∀ w', XBB w.heap.size (.slice ae es.length ce) (.slice ad ds.length cd) x (.slice xa x.ls.length xc) w' → w'.cell? ⟨w.heap.size + 1, 0, none⟩ = some (.slice ae es.length ce) from fun w' h => (blk2 h.1).1); have hvl : (verN es x.key : Int) ≤ 900 := by have h1 := HBK.out.len; have h2 := ver_le (l := es) (s := x.key); simp only at h1; omega
 have HVE := Lib.hid (show ∀ W, Below w.heap.size w W → Calls Tryz.prog 49 #[.agg #[.slice ae es.length ce], .string x.key] W fun e w' => e = .returned (.int .i64 (verN es x.key)) ∧ Below W.heap.size W w' from fun W hW => version_any es _ x.key W (HE.out.step hW) (by have := HXC.out.key; omega) (by have := HBK.out.len; simp only at this; omega)); have HKY := Lib.hid (show ∀ W, Below w.heap.size w W → Calls Tryz.prog 34 #[.string x.key, .int .i64 (verN es x.key)] W fun e w' => e = .returned (.string (keyC x.key (verN es x.key))) ∧ Below W.heap.size W w' from fun W hW => key_any x.key _ W (by have := HXC.out.key; omega) (by unfold i64ok; omega) ((HF.out _ (by unfold i64ok; omega)).step hW)); have HKS := Lib.hid (show (keyC x.key (verN es x.key)).size ≤ 81 from keyC_size HXC.out.key (by unfold i64ok; omega)); generalize hkk : keyC x.key (verN es x.key) = kk at HKY HKS; generalize (verN es x.key : Int) = vn at HVE HKY hvl; clear hA3 g3; refine wp_region_D (fun j => if j < 16 then 0 else if j < 16 then 1 else 2) (XBB w.heap.size (.slice ae es.length ce) (.slice ad ds.length cd) x (.slice xa x.ls.length xc)) (by kernel_rfl) (hxb) (fun hHeld => ?_); refine gk1 0 (v := ?_) rfl ?_ ?_
 rotate_left; focus (intro w9 hS9; clear hS9; go_simp; (try with_reducible rfl)); (try simp only [gkA, gkB, gkC, Act.put, gkD, gkE, gkF])
 refine gk1 1 (v := ?_) rfl ?_ ?_
 rotate_left; focus (intro w9 hS9; have z0 := HL0.out w9 hS9; clear hS9; go_simp; (try with_reducible rfl)); (try simp only [gkA, gkB, gkC, Act.put, gkD, gkE, gkF])
 refine gk1 2 (v := ?_) rfl ?_ ?_
 rotate_left; focus (intro w9 hS9; clear hS9; go_simp; (try with_reducible rfl)); (try simp only [gkA, gkB, gkC, Act.put, gkD, gkE, gkF])
 refine gk1 3 (v := ?_) rfl ?_ ?_
 rotate_left; focus (intro w9 hS9; have z0 := HLB.out w9 hS9; clear hS9; go_simp; (try with_reducible rfl)); (try simp only [gkA, gkB, gkC, Act.put, gkD, gkE, gkF])
 refine gk1 4 (v := ?_) rfl ?_ ?_
 rotate_left; focus (intro w9 hS9; clear hS9; go_simp; (try with_reducible rfl)); (try simp only [gkA, gkB, gkC, Act.put, gkD, gkE, gkF])
 refine gk1 5 (v := ?_) rfl ?_ ?_
 rotate_left; focus (intro w9 hS9; have z0 := HL0.out w9 hS9; clear hS9; go_simp; (try with_reducible rfl)); (try simp only [gkA, gkB, gkC, Act.put, gkD, gkE, gkF])
 refine gk1 8 (v := ?_) rfl ?_ ?_
 rotate_left; focus (intro w9 hS9; clear hS9; go_simp; (try with_reducible rfl)); (try simp only [gkA, gkB, gkC, Act.put, gkD, gkE, gkF])
 refine gk1 9 (v := ?_) rfl ?_ ?_
 rotate_left; focus (intro w9 hS9; have z0 := HL4.out w9 hS9; clear hS9; go_simp; (try with_reducible rfl)); (try simp only [gkA, gkB, gkC, Act.put, gkD, gkE, gkF])
 refine wpD_ready (rs := [6]) (by kernel_rfl) (by kernel_rfl) ?_; refine AllReadyD.cons rfl (fun K hK => ?_) AllReadyD.nil; go_simp
 with_reducible refine (HVE.out _ (Below.drew HB3.out)).mono ?_
 rintro r w4 ⟨rfl, hb4⟩; have HB34 := Lib.hid (show Below wb.heap.size wb w4 from bl_trans (Below.drew (Below.refl _ _)) hb4); clear hb4; clear hHeld; refine gk5 hK.out rfl (⟨(HB34.out.block _ (lt_of_heap HY3.out.b1)).trans HY3.out.b1, (HB34.out.block _ (lt_of_heap HY3.out.b2)).trans HY3.out.b2⟩) (fun hHeld => ?_); clear hK K; refine wpD_ready (rs := [7]) (by kernel_rfl) (by kernel_rfl) ?_; refine AllReadyD.cons rfl (fun K hK => ?_) AllReadyD.nil; go_simp
 with_reducible refine (HKY.out _ (bl_trans HB3.out HB34.out)).mono ?_
 rintro r w5 ⟨rfl, hb5⟩; have HB35 := Lib.hid (show Below wb.heap.size wb w5 from bl_trans HB34.out hb5); clear hb5; clear hHeld; refine gk5 hK.out rfl (⟨(HB35.out.block _ (lt_of_heap HY3.out.b1)).trans HY3.out.b1, (HB35.out.block _ (lt_of_heap HY3.out.b2)).trans HY3.out.b2⟩) (fun hHeld => ?_); clear hK K; have g5 := (HB35.out.block _ (lt_of_heap HG3.out)).trans HG3.out; obtain ⟨q0, q1, q2, qf⟩ := blk3 g5; have hl5 : w2.heap.size < w5.heap.size := lt_of_heap g5; have HG5 := Lib.hid g5; have hne1 : w.heap.size + 1 ≠ w2.heap.size := by omega
 have hne2 : w.heap.size + 2 ≠ w2.heap.size := by omega
 clear g5; refine gk1 10 (v := ?_) rfl ?_ ?_
 rotate_left; focus (intro w9 hS9; clear hS9; go_simp; (try with_reducible rfl)); (try simp only [gkA, gkB, gkC, Act.put, gkD, gkE, gkF])
 refine gk1 11 (v := ?_) rfl ?_ ?_
 rotate_left; focus (intro w9 hS9; clear hS9; go_simp; (try with_reducible rfl)); (try simp only [gkA, gkB, gkC, Act.put, gkD, gkE, gkF])
 refine gk3 12 rfl (fun K hK => ?_); go_simp; have HXB5 := Lib.hid (show XBB w.heap.size (.slice ae es.length ce) (.slice ad ds.length cd) x (.slice xa x.ls.length xc) w5 from hHeld); clear hHeld; refine gk5 hK.out rfl (⟨(Below.heap_setCell _ _ _ _ hne1).trans HXB5.out.1, (Below.heap_setCell _ _ _ _ hne2).trans HXB5.out.2⟩) (fun hHeld => ?_); clear hK K; refine gk1 13 (v := ?_) rfl ?_ ?_
 rotate_left; focus (intro w9 hS9; clear hS9; go_simp; (try with_reducible rfl)); (try simp only [gkA, gkB, gkC, Act.put, gkD, gkE, gkF])
 refine gk1 14 (v := ?_) rfl ?_ ?_
 rotate_left; focus (intro w9 hS9; clear hS9; go_simp; (try with_reducible rfl)); (try simp only [gkA, gkB, gkC, Act.put, gkD, gkE, gkF])
 refine gk3 15 rfl (fun K hK => ?_); go_simp; clear hHeld; refine gk5 hK.out rfl (⟨(Below.heap_setCell _ _ _ _ hne1).trans ((Below.heap_setCell _ _ _ _ hne1).trans HXB5.out.1), (Below.heap_setCell _ _ _ _ hne2).trans ((Below.heap_setCell _ _ _ _ hne2).trans HXB5.out.2)⟩) (fun hHeld => ?_); clear hK K; refine wpD_done (by kernel_rfl) ?_; have g6 : ((w5.setCell ⟨w2.heap.size, 0, none⟩ (.string kk)).setCell ⟨w2.heap.size, 1, none⟩ (.int .i64 x.tm)).heap[w2.heap.size]? = some (.cells #[.string kk, .int .i64 x.tm, .slice none 0 0] 105 (0, 0)) := heap_setCell_same _ _ _ _ _ _ (heap_setCell_same _ _ _ _ _ _ HG5.out); have b6 : Below w.heap.size w ((w5.setCell ⟨w2.heap.size, 0, none⟩ (.string kk)).setCell ⟨w2.heap.size, 1, none⟩ (.int .i64 x.tm)) := bl_set (bl_set (bl_trans HB3.out HB35.out) _ HB2.out.size) _ HB2.out.size; have y6 := ((HY3.out.step HB35.out (by have := lt_of_heap HY3.out.b3; omega)).put (q := ⟨w2.heap.size, 0, none⟩) (by simp only; omega) (.string kk)).put (q := ⟨w2.heap.size, 1, none⟩) (by simp only; omega) (.int .i64 x.tm); generalize (w5.setCell ⟨w2.heap.size, 0, none⟩ (.string kk)).setCell ⟨w2.heap.size, 1, none⟩ (.int .i64 x.tm) = w6 at g6 b6 y6 ⊢; have HY6 := Lib.hid y6; have HB6 := Lib.hid b6; have HG6 := Lib.hid g6; have hl6 : w2.heap.size < w6.heap.size := lt_of_heap g6; have hw02 : w.heap.size ≤ w2.heap.size := HB2.out.size; obtain ⟨gd, hgd⟩ : ∃ gd, w2.heap.size = gd := ⟨_, rfl⟩; rw [hgd] at HG6 hl6 hlt hw02 ⊢; have HFD := Lib.hid (find_any ds (.slice ae es.length ce) (.slice ad ds.length cd) x.key w6 (HD.out.step b6)); obtain ⟨d0, d1, -⟩ := blk2 y6.b1; obtain ⟨x0, x1, x2, x3, x4, x5, x6, -⟩ := blk7 y6.b2; have x0' : w6.cell? ⟨w.heap.size + 1 + 1, 0, none⟩ = some (.string x.key) := x0; clear g6 b6 y6 q0 q1 q2 qf hl5 HG5 HXB5 hHeld HY3 HB3 HG3 HL0 HL4 HLB HVE HKY HB34 HB35 hxb HY2 HB2 hne1 hne2 hgd x0 x1 x2 x3 x4 x5 x6
 go_wp2_with (fail)
 with_reducible refine HFD.out.mono ?_
 rintro r w7 ⟨rfl, hb7⟩; have HY7 := Lib.hid (HY6.out.step hb7 (by omega)); have HB7 := Lib.hid (bl_trans HB6.out hb7); have g7 := (hb7.block gd hl6).trans HG6.out; have HDW := Lib.hid (show DW w7.heap.size gd kk x.tm [] w7 (.slice none 0 0) from ⟨g7, NewL.nil, lt_of_heap g7⟩); clear hb7 g7 HFD d0 d1 x0' HY6 HB6 HG6 hl6
 rcases fnd_two ds x.key with ⟨f1, f2, f3⟩ | ⟨k, hk, f1, f2, f3, f4⟩
 · rw [f1]
   have HPS := Lib.hid (show postsA c ds x = moveP c [] x x.c by unfold postsA; rw [f2]); have HF3 := Lib.hid f3; have hcf := HCF.out; have HMV := Lib.hid (move_any c A va x xa x.ls.length xc w7.heap.size gd kk x.tm [] (.slice none 0 0) x.c 0 w7 HDW.out (Nat.le_refl _) (by simp) (nil_amt 0) (by omega) (by omega) (by omega) HA.out (HC.out.step HB7.out) HK.out HXC.out.veh HXC.out.sys); have hld := load_blk HY7.out.b0 HA.out.size Tryz.prog; obtain ⟨x0, x1, x2, x3, x4, x5, x6, -⟩ := blk7 HY7.out.b2; have x0' : w7.cell? ⟨w.heap.size + 1 + 1, 0, none⟩ = some (.string x.key) := x0; have x1' : w7.cell? ⟨w.heap.size + 1 + 1, 1, none⟩ = some (.string x.veh) := x1; have x2' : w7.cell? ⟨w.heap.size + 1 + 1, 2, none⟩ = some (.string x.sys) := x2; have x3' : w7.cell? ⟨w.heap.size + 1 + 1, 3, none⟩ = some (.int .i64 x.cls) := x3; have x4' : w7.cell? ⟨w.heap.size + 1 + 1, 4, none⟩ = some (.int .i64 x.tm) := x4; have x5' : w7.cell? ⟨w.heap.size + 1 + 1, 5, none⟩ = some (.slice xa x.ls.length xc) := x5; have x6' : w7.cell? ⟨w.heap.size + 1 + 1, 6, none⟩ = some (.int .i64 x.c) := x6; clear f1 f2 f3 hcf x0 x1 x2 x3 x4 x5 x6
   go_wp2_with (first | (refine wpList_loadA _ rfl 46 rfl Tryz.isAgg46 Tryz.sizeOf46 rfl (by with_reducible assumption) ?_) | fail)
   with_reducible refine HMV.out.mono ?_
   rintro r w8 ⟨rfl, ⟨v8, hd8⟩, hk8⟩; clear x0' x1' x2' x3' x4' x5' x6' hld HMV; obtain ⟨a8, c8, rfl, -⟩ := hd8.own.form; have hgB := hd8.lt; have HY8 := Lib.hid (HY7.out.same fun j h1 h2 => hk8.same j ⟨by omega, by omega⟩); have HB8 := Lib.hid (show Below w.heap.size w w8 from HB7.out.trans (hk8.bel.mono (by omega))); have HBK8 := Lib.hid (show Below w.heap.size w7 w8 from hk8.bel.mono (by omega)); have hs78 := hk8.bel.size; have hp4 : (postsA c ds x).length ≤ 4 := postsA_len c ds x; rw [HPS.out] at hp4; have HEN := Lib.hid (enter_any w7.heap.size es (.slice ae es.length ce) kk x.tm _ _ w8 hs78 (HE.out.keep (fun j (hj : j < w.heap.size) => Nat.lt_of_lt_of_le hj HB7.out.size) (.of_below HB8.out)) hd8.own (by have := HKS.out; unfold maxLen; omega) HX.out.tm HBK.out.es (by have := HBK.out.len; simp only at this; omega) hp4 (moveP_pos _ _ _ _)); obtain ⟨e0, e1, e2, -⟩ := blk3 hd8.box; obtain ⟨d0, d1, -⟩ := blk2 HY8.out.b1; clear hd8 hk8 hp4
   go_wp2_with (fail)
   with_reducible refine HEN.out.mono ?_
   clear HEN; rintro r w9 ⟨⟨ve9, rfl, hs9⟩, hb9⟩; have HY9 := Lib.hid (HY8.out.step hb9 (by have := HY7.out.b3; have := lt_of_heap this; omega)); have HB9 := Lib.hid (HB8.out.trans (hb9.mono HB7.out.size)); obtain ⟨⟨es9, z9⟩, hen⟩ : ∃ r, enterL es kk x.tm (moveP c [] x x.c) = r := ⟨_, rfl⟩; rw [hen] at hs9 ⊢; simp only at hs9 ⊢; obtain ⟨a9, c9, _, _, rfl, -⟩ := id hs9; have HS9 := Lib.hid hs9; have HEN := Lib.hid (show enterL es (keyC x.key (verN es x.key)) x.tm (postsA c ds x) = (es9, z9) by rw [hkk, HPS.out]; exact hen); have HRR := Lib.hid (ap_s (c := c) (b := ⟨es, ds⟩) HZ.out HEN.out); have hl9 := lt_of_heap HY9.out.b3; clear hs9 hb9 hen e0 e1 e2 d0 d1; have m0 : w.heap.size < w9.heap.size := by omega
   have m1 : w.heap.size + 1 < w9.heap.size := by omega
   have m2 : w.heap.size + 1 + 1 < w9.heap.size := by omega
   have m3 : w.heap.size + 1 + 1 + 1 < w9.heap.size := by omega
   obtain ⟨d0, d1, -⟩ := blk2 HY9.out.b1; obtain ⟨f0, f1, ff⟩ := blk2 HY9.out.b3; have f0' : w9.cell? ⟨w.heap.size + 1 + 1 + 1, 0, none⟩ = some (.slice none 0 0) := f0; have f1' : w9.cell? ⟨w.heap.size + 1 + 1 + 1, 1, none⟩ = some (.slice none 0 0) := f1; have ff' : ∀ j, w9.frozen? ⟨w.heap.size + 1 + 1 + 1, j, none⟩ = false := ff; clear f0 f1 ff
   by_cases hz9 : z9 = 0
   case neg =>
    have HR := Lib.hid (HRR.out.trans (if_pos hz9)); have hz1 : (z9 != 0) = true := by simpa using hz9
    clear hz9; go_wp2; have g5 := alloc1_old (.cells #[.slice a9 es9.length c9] 68) (show ((w9.setCell ⟨w.heap.size + 1 + 1 + 1, 0, none⟩ (.slice ae es.length ce)).setCell ⟨w.heap.size + 1 + 1 + 1, 1, none⟩ (.slice ad ds.length cd)).heap[w.heap.size + 1 + 1 + 1]? = some (.cells #[(.slice ae es.length ce), (.slice ad ds.length cd)] 70 (0, 0)) from heap_setCell_same _ _ _ _ _ _ (heap_setCell_same _ _ _ _ _ _ HY9.out.b3)); have b5 : Below w.heap.size w (((w9.setCell ⟨w.heap.size + 1 + 1 + 1, 0, none⟩ (.slice ae es.length ce)).setCell ⟨w.heap.size + 1 + 1 + 1, 1, none⟩ (.slice ad ds.length cd)).alloc (.cells #[.slice a9 es9.length c9] 68)) := bl_alloc (bl_set (bl_set HB9.out _ (by simp only; omega)) _ (by simp only; omega)) _; obtain ⟨k0, k1, -⟩ := blk2 g5; generalize ((w9.setCell ⟨w.heap.size + 1 + 1 + 1, 0, none⟩ (.slice ae es.length ce)).setCell ⟨w.heap.size + 1 + 1 + 1, 1, none⟩ (.slice ad ds.length cd)).alloc (.cells #[.slice a9 es9.length c9] 68) = wz at *; refine bodyPost_ret (v := .tuple #[.agg #[(.slice ae es.length ce), (.slice ad ds.length cd)], .int .i64 z9]) (by simp [results, Tryz.results21, go_sem, k0, k1]) rfl ?_; rw [HR.out]; exact BookE.old (by simpa using hz1) HE.out HD.out b5
   subst hz9; have HR := Lib.hid (HRR.out.trans (if_neg (by simp))); clear HRR; have hes9 := enter_es HEN.out HBK.out.len HBK.out.es (Nat.le_trans (keyC_size (s := x.key) HXC.out.key (n_ok (Nat.le_trans ver_le HBK.out.len) (by omega))) (by omega)) (postsA_len c ds x); have hds8 := HBK.out.ds; simp only at hds8; have hAl := bl_alloc (Below.refl w9.heap.size w9) (.cells #[.slice a9 es9.length c9] 68); have HCL := Lib.hid (bclone_any es9 ds (.slice a9 es9.length c9) (.slice ad ds.length cd) (w9.alloc (.cells #[.slice a9 es9.length c9] 68)) (HS9.out.step hAl) (HD.out.keep (fun j (hj : j < w.heap.size) => Nat.lt_of_lt_of_le hj (Nat.le_trans HB9.out.size hAl.size)) (.of_below (HB9.out.trans (hAl.mono HB9.out.size)))) (by omega) (by omega) (fun e he => by have := (hes9.2 e he).ps; omega) (fun y hy => by have := (HBK.out.cok y hy).ls; omega)); have HBA := Lib.hid (HB9.out.trans (hAl.mono HB9.out.size)); have HYA := Lib.hid (HY9.out.step hAl hl9); clear hes9 hAl hz1
   go_wp2_with (fail)
   with_reducible refine HCL.out.mono ?_
   clear HCL; rintro r w11 ⟨ve2, vd2, m, rfl, hm, hm11, hs2, hn2, hb11⟩; obtain ⟨ae2, ce2, _, _, rfl, -⟩ := id hs2; obtain ⟨ad2, cd2, rfl, hcd2, hcd3⟩ := hn2.form; have HY11 := Lib.hid (HYA.out.step hb11 (by have := lt_of_heap HYA.out.b3; omega)); have HB11 := Lib.hid (bl_trans HBA.out hb11); have HSE := Lib.hid (show SlIs (tEnt 101) (fun j => w.heap.size + 4 ≤ j ∧ j < w11.heap.size ∧ j < m) w11 (.slice ae2 es9.length ce2) es9 from hs2.keep (fun j hj => ⟨by have h1 := hj.1; simp only [World.size_alloc] at h1; omega, Nat.lt_of_lt_of_le hj.2 hm11, hj.2⟩) (SameOn.refl _ _)); have HND := Lib.hid hn2; have hm9 : w9.heap.size + 1 ≤ m := by simpa using hm
   clear hs2 hn2 hb11 hm d0 d1 f0' f1' ff' HBA HYA; have HSRT := Lib.hid HBK.out.sort; have hbB := bl_alloc (Below.refl w11.heap.size w11) (.cells #[.slice ae2 es9.length ce2, .slice ad2 ds.length cd2] 70); have gB := heap_alloc_new w11 (.cells #[.slice ae2 es9.length ce2, .slice ad2 ds.length cd2] 70); have h11 : w.heap.size + 3 < w11.heap.size := lt_of_heap HY11.out.b3
   go_upto_region 20 with (fail)
   generalize w11.alloc (.cells #[.slice ae2 es9.length ce2, .slice ad2 ds.length cd2] 70) = w12 at hbB gB ⊢; have HY12 := Lib.hid (HY11.out.step hbB h11); have HBO := Lib.hid hbB; have HB12 := Lib.hid (bl_trans HB11.out hbB); have HN12 := Lib.hid (HND.out.below hbB); have HND2 := Lib.hid (NewL.ownS HND.out); have HG12 := Lib.hid (show BB w11.heap.size (.slice ae2 es9.length ce2) (.slice ad2 ds.length cd2) w12 from gB); have HDR := Lib.hid (chg_open HN12.out.sl'); have h12 := hbB.size; have h12' := lt_of_heap gB; clear hbB gB HND HY11; go_wp2
   go_loopg [10] ds.length (fun g i wr => ∃ j : Nat, j + g = ds.length ∧ i = .int .i64 j ∧ Hid (∀ q (hq : q < ds.length), q < j → ltB ds[q].key x.key = true) ∧ Hid (Below w12.heap.size w12 wr))
   case atStart => exact ⟨0, by omega, rfl, Lib.hid (fun q _ h => by omega), Lib.hid (Below.refl _ _)⟩
   case round =>
    obtain ⟨j, hj, rfl, HT, HBW⟩ := hrel; obtain ⟨_, _, b9, o9, hvq, _, _, hdr⟩ := HDR.out; have gw := (HBW.out.block _ (lt_of_heap HG12.out)).trans HG12.out; obtain ⟨c0, c1, -⟩ := blk2 gw; have hxw := (HBW.out.block _ (lt_of_heap HY12.out.b2)).trans HY12.out.b2; obtain ⟨x0, -⟩ := blk7 hxw; have x0' : wr.cell? ⟨w.heap.size + 1 + 1, 0, none⟩ = some (.string x.key) := x0; clear gw hxw x0
    by_cases hlt2 : j < ds.length
    · obtain ⟨hao, -, -, -, hv9, -, k0, -⟩ := hdr wr (.of_below HBW.out) j hlt2
      injection hvq with q1 q2 q3
      rw [← q1] at hao; subst hao; have j0 : (0 : Int) ≤ (j : Int) := by omega
      have j1 : (j : Int) < (ds.length : Int) := by omega
      obtain ⟨q, hq⟩ : ∃ q, Op.bytesLess ds[j].key.toList x.key.toList = q := ⟨_, rfl⟩; have HQ := Lib.hid (show ltB ds[j].key x.key = q from (less_str _ _).symm.trans hq); clear q1 q2 q3 hdr
      cases q with
      | true =>
       go_wp2_with (go_quiet (fail))
       go_roundg (ds.length - (j + 1))
       case measure => omega
       case rel => exact ⟨j + 1, by omega, by go_num, Lib.hid (fun i hi h => by
        by_cases e : i = j
        · subst e; exact HQ.out
        · exact HT.out i hi (by omega)), Lib.hid (bl_drewN HBW.out _)⟩
      | false =>
       go_wp2_with (go_quiet (fail))
       have HBZ := Lib.hid (bl_drewN HBW.out nq)
       have HPUT := Lib.hid (put_none (l := ds) (x := x) (k := j) (by omega) (fun y hy e => by
        obtain ⟨q, hq, rfl⟩ := List.getElem_of_mem hy
        exact HF3.out q hq e) (fun q hq hlt => HT.out q hq hlt) (fun _ => HQ.out))
       generalize (wr.drewN nq) = wz at HBZ ⊢; have hBZ := HBZ.out; have gz : BB w11.heap.size (.slice ae2 es9.length ce2) (.slice (some ⟨b9, o9, none⟩) ds.length cd2) wz := (hBZ.block _ (lt_of_heap HG12.out)).trans HG12.out; have yz : AW w.heap.size A (.slice ae es.length ce) (.slice ad ds.length cd) x (.slice xa x.ls.length xc) wz := HY12.out.step hBZ (lt_of_heap HY12.out.b3); have HGZ := Lib.hid gz; have HYZ := Lib.hid yz; have hzz := hBZ.size; have HXK := Lib.hid (show ∀ w', Below wz.heap.size wz w' → w'.cell? ⟨w11.heap.size, 1, none⟩ = some (.slice (some ⟨b9, o9, none⟩) ds.length cd2) from fun w' hw' => (blk2 ((hw'.block _ (lt_of_heap HGZ.out)).trans HGZ.out)).2.1)
       have HX7 := Lib.hid (show ∀ w', Below wz.heap.size wz w' → w'.cell? ⟨w.heap.size + 1 + 1, 0, none⟩ = some (.string x.key) ∧ w'.cell? ⟨w.heap.size + 1 + 1, 1, none⟩ = some (.string x.veh) ∧ w'.cell? ⟨w.heap.size + 1 + 1, 2, none⟩ = some (.string x.sys) ∧ w'.cell? ⟨w.heap.size + 1 + 1, 3, none⟩ = some (.int .i64 x.cls) ∧ w'.cell? ⟨w.heap.size + 1 + 1, 4, none⟩ = some (.int .i64 x.tm) ∧ w'.cell? ⟨w.heap.size + 1 + 1, 5, none⟩ = some (.slice xa x.ls.length xc) ∧ w'.cell? ⟨w.heap.size + 1 + 1, 6, none⟩ = some (.int .i64 x.c) from fun w' hw' => by
        obtain ⟨z0, z1, z2, z3, z4, z5, z6, -⟩ := blk7 ((hw'.block _ (lt_of_heap HYZ.out.b2)).trans HYZ.out.b2)
        exact ⟨z0, z1, z2, z3, z4, z5, z6⟩)
       have HCC := Lib.hid (show ∀ W, Below wz.heap.size wz W → Calls Tryz.prog 52 #[.agg #[.string x.key, .string x.veh, .string x.sys, .int .i64 x.cls, .int .i64 x.tm, .slice xa x.ls.length xc, .int .i64 x.c]] W fun e w' => ∃ h', e = .returned (.agg #[.string x.key, .string x.veh, .string x.sys, .int .i64 x.cls, .int .i64 x.tm, h', .int .i64 x.c]) ∧ NewL tSI 140 W.heap.size w' h' x.ls ∧ Below W.heap.size W w' from fun W hW => cloneC_any x _ W (HV.out.step (bl_trans (bl_trans HB12.out HBZ.out) hW)) (by have := HXC.out.ls; omega)); clear gz yz c0 c1 x0' HT HDR; refine wp_region_E 6 (fun w' => Below wz.heap.size wz w') (by kernel_rfl) ((by (repeat (first | (with_reducible exact Below.refl _ _) | (with_reducible apply bl_drewN) | (with_reducible apply bl_alloc) | (with_reducible apply Below.drew))); done)) (fun hHeld => ?_); refine wpE_take (i := 0) (v := ?_) rfl (by kernel_rfl) (fun _ _ _ h => h) (Or.inl ⟨by kernel_rfl, ?_⟩) (by assumption) ?_
       rotate_left; focus (intro w9 hS9; (try dsimp only at hS9); go_simp; (try with_reducible rfl)); (try simp only [gkA, gkB, gkC, Act.put, gkD, gkE, gkF])
       refine wpE_take (i := 1) (v := ?_) rfl (by kernel_rfl) (fun _ _ _ h => h) (Or.inl ⟨by kernel_rfl, ?_⟩) (by assumption) ?_
       rotate_left; focus (intro w9 hS9; have z0 := HXK.out w9 hS9; clear hS9; go_simp; (try with_reducible rfl)); (try simp only [gkA, gkB, gkC, Act.put, gkD, gkE, gkF])
       refine wpE_take (i := 2) (v := ?_) rfl (by kernel_rfl) (fun _ _ _ h => h) (Or.inl ⟨by kernel_rfl, ?_⟩) (by assumption) ?_
       rotate_left; focus (intro w9 hS9; (try dsimp only at hS9); go_simp; (try with_reducible rfl)); (try simp only [gkA, gkB, gkC, Act.put, gkD, gkE, gkF])
       refine wpE_take (i := 3) (v := ?_) rfl (by kernel_rfl) (fun _ _ _ h => h) (Or.inl ⟨by kernel_rfl, ?_⟩) (by assumption) ?_
       rotate_left; focus (intro w9 hS9; obtain ⟨z0, z1, z2, z3, z4, z5, z6⟩ := HX7.out w9 hS9; clear hS9; go_simp; (try with_reducible rfl)); (try simp only [gkA, gkB, gkC, Act.put, gkD, gkE, gkF])
       refine wpE_ready (rs := [4]) (by kernel_rfl) (by kernel_rfl) ?_; refine AllReadyE.cons rfl (fun K hK => ?_) AllReadyE.nil; go_simp
       with_reducible refine (HCC.out _ (by (repeat (first | (with_reducible exact Below.refl _ _) | (with_reducible apply bl_drewN) | (with_reducible apply bl_alloc) | (with_reducible apply Below.drew))); done)).mono ?_
       rintro r w13 ⟨h', rfl, hn5, hb5⟩; obtain ⟨a5, c5, rfl, -⟩ := hn5.form; have HN5 := Lib.hid (show NewL tSI 140 wz.heap.size w13 (.slice a5 x.ls.length c5) x.ls from hn5); have HB5 := Lib.hid (show Below wz.heap.size wz w13 from bl_trans (by (repeat (first | (with_reducible exact Below.refl _ _) | (with_reducible apply bl_drewN) | (with_reducible apply bl_alloc) | (with_reducible apply Below.drew))); done) hb5); clear hn5 hb5 HCC; clear hHeld; refine hK.out _ _ (HB5.out) (fun hHeld => ?_); clear hK K; refine wpE_ready (rs := [5]) (by kernel_rfl) (by kernel_rfl) ?_; refine AllReadyE.cons rfl (fun K hK => ?_) AllReadyE.nil; go_simp; clear hHeld; refine hK.out _ _ (bl_trans HB5.out (by (repeat (first | (with_reducible exact Below.refl _ _) | (with_reducible apply bl_drewN) | (with_reducible apply bl_alloc) | (with_reducible apply Below.drew))); done)) (fun hHeld => ?_); clear hK K; clear hHeld; refine wpE_out (by kernel_rfl) ?_; refine wpAny_ready (rs := [6]) (by kernel_rfl) (by simp) ?_; refine AllReady.cons rfl (fun K hK => ?_) AllReady.nil; rw [if_pos (show _ = true by kernel_rfl)]; go_simp; have hW5 := bl_alloc HB5.out (.cells #[.string x.key, .string x.veh, .string x.sys, .int .i64 x.cls, .int .i64 x.tm, .slice a5 x.ls.length c5, .int .i64 x.c] 49); have g13 := heap_alloc_new w13 (.cells #[.string x.key, .string x.veh, .string x.sys, .int .i64 x.cls, .int .i64 x.tm, .slice a5 x.ls.length c5, .int .i64 x.c] 49); have hz13 : (w13.alloc (.cells #[.string x.key, .string x.veh, .string x.sys, .int .i64 x.cls, .int .i64 x.tm, .slice a5 x.ls.length c5, .int .i64 x.c] 49)).heap.size = w13.heap.size + 1 := by simp
       have HN14 := Lib.hid (HN5.out.below (bl_alloc (Below.refl w13.heap.size w13) (.cells #[.string x.key, .string x.veh, .string x.sys, .int .i64 x.cls, .int .i64 x.tm, .slice a5 x.ls.length c5, .int .i64 x.c] 49))); generalize w13.alloc (.cells #[.string x.key, .string x.veh, .string x.sys, .int .i64 x.cls, .int .i64 x.tm, .slice a5 x.ls.length c5, .int .i64 x.c] 49) = w14 at hW5 g13 hz13 HN14 ⊢; have HW5 := Lib.hid hW5; have hs5 := HB5.out.size; have HOW := Lib.hid (HND2.out.own_lt); have hb1114 : Below w11.heap.size w11 w14 := bl_trans (bl_trans HBO.out HBZ.out) hW5
       have HINS := Lib.hid (insert_any m (fun q => m ≤ q ∧ q ≠ w11.heap.size ∧ q < w14.heap.size ∧ some q ≠ (Value.slice (some ⟨b9, o9, none⟩) ds.length cd2).ownBlock) ds (.slice (some ⟨b9, o9, none⟩) ds.length cd2) x w13.heap.size j _ w14
        ((HND2.out.below (fun q hq => hq.2.1) hb1114).mono (fun q hq => ⟨hq.1, by omega, by omega, hq.2.2⟩)) (fun q hq => ⟨hq.2.2.1, hq.2.2.2⟩) g13 ⟨by omega, by omega, by omega, fun e => by have := (HOW.out _ e.symm).2; omega⟩
        (tChg_mk HX.out (HN14.out.sl.keep (fun q hq => ⟨by omega, by omega, hq.2, fun e => by have := (HOW.out _ e.symm).2; omega⟩) (SameOn.refl _ _))) (by omega) (by omega) (by omega))
       clear hW5 g13 hb1114
       with_reducible refine HINS.out.mono ?_
       clear HINS; rintro r w15 ⟨v15, rfl, hs15, hg15⟩; obtain ⟨a15, c15, _, _, rfl, -⟩ := id hs15; have hpl : (ds.take j ++ x :: ds.drop j).length = (putP ds x).length := by rw [HPUT.out]
       rw [HPUT.out] at hs15; rw [hpl]; have hown := HOW.out; have hz14 := HW5.out.size; have hz15 := hg15.size; have HGE := Lib.hid hg15; have hbl15 : Below w.heap.size w w15 := ((HB12.out.trans (HBZ.out.mono HB12.out.size)).trans (HW5.out.mono (bl_trans HB12.out HBZ.out).size)).grown hg15 (by have := (bl_trans (bl_trans HB12.out HBZ.out) HW5.out).size; exact this) (fun q hq => by have := (hown q hq).1; omega); have gB15 : BB w11.heap.size (.slice ae2 es9.length ce2) (.slice (some ⟨b9, o9, none⟩) ds.length cd2) w15 := (hg15.block _ (by omega) (fun e => by have := (hown _ e.symm).2; omega)).trans ((HW5.out.block _ (by omega)).trans HGZ.out); have g315 : BB (w.heap.size + 3) (.slice none 0 0) (.slice none 0 0) w15 := (hg15.block _ (by omega) (fun e => by have := (hown _ e.symm).1; omega)).trans ((HW5.out.block _ (by omega)).trans HYZ.out.b3); have hse : SlIs (tEnt 101) (fun q => w.heap.size + 4 ≤ q ∧ q < w11.heap.size ∧ q < m) w15 (.slice ae2 es9.length ce2) es9 := HSE.out.keep (fun _ h => h) (fun q hq => (hg15.block q (by omega) (fun e => by have := (hown _ e.symm).1; omega)).trans ((HW5.out.block q (by omega)).trans ((HBZ.out.block q (by omega)).trans (HBO.out.block q hq.2.1)))); have HSE15 := Lib.hid hse; have HSD15 := Lib.hid hs15; have HB15 := Lib.hid hbl15; have HG15 := Lib.hid gB15; have HT15 := Lib.hid g315; obtain ⟨r0, r1, rf⟩ := blk2 gB15; obtain ⟨s0, s1, sf⟩ := blk2 g315; have s0' : w15.cell? ⟨w.heap.size + 1 + 1 + 1, 0, none⟩ = some (.slice none 0 0) := s0; have s1' : w15.cell? ⟨w.heap.size + 1 + 1 + 1, 1, none⟩ = some (.slice none 0 0) := s1; have sf' : ∀ q, w15.frozen? ⟨w.heap.size + 1 + 1 + 1, q, none⟩ = false := sf; have hl15 : w11.heap.size < w15.heap.size := by omega
       have hl16 : w.heap.size + 1 + 1 + 1 < w15.heap.size := by omega
       have hl17 : w.heap.size + 1 + 1 + 1 ≠ w11.heap.size := by omega
       clear hs15 hg15 hbl15 gB15 g315 hse s0 s1 sf; refine hK _ _ ?_; clear hK K
       (try simp only [gkA, gkB, gkC, Act.put, gkD, gkE, gkF])
       refine wpAny_ready (rs := [7]) (by kernel_rfl) (by simp) ?_; refine AllReady.cons rfl (fun K hK => ?_) AllReady.nil; rw [if_pos (show _ = true by kernel_rfl)]; go_simp; refine hK _ _ ?_; clear hK K; refine wpAny_ready (rs := [8]) (by kernel_rfl) (by simp) ?_; refine AllReady.cons rfl (fun K hK => ?_) AllReady.nil; rw [if_pos (show _ = true by kernel_rfl)]; go_simp; refine hK _ _ ?_; clear hK K; refine wpAny_done (by kernel_rfl) ?_ _; go_wp2; have HT16 := Lib.hid (show BB (w.heap.size + 3) (.slice none 0 0) (.slice none 0 0) (w15.setCell ⟨w11.heap.size, 1, none⟩ (.slice a15 (putP ds x).length c15)) from (Below.heap_setCell _ _ _ _ (by simp only; omega)).trans HT15.out); have HB16 := Lib.hid (show Below w.heap.size w (w15.setCell ⟨w11.heap.size, 1, none⟩ (.slice a15 (putP ds x).length c15)) from bl_set HB15.out _ (by simp only; omega)); have HSE16 := Lib.hid (show SlIs (tEnt 101) (fun q => w.heap.size + 4 ≤ q ∧ q < w11.heap.size) (w15.setCell ⟨w11.heap.size, 1, none⟩ (.slice a15 (putP ds x).length c15)) (.slice ae2 es9.length ce2) es9 from HSE15.out.keep (fun q hq => ⟨hq.1, hq.2.1⟩) (fun q hq => Below.heap_setCell _ _ _ _ (by simp only; omega)))
       have HSD16 := Lib.hid (show SlIs (tChg eL) (fun q => w.heap.size + 4 ≤ q ∧ q < w15.heap.size) (w15.setCell ⟨w11.heap.size, 1, none⟩ (.slice a15 (putP ds x).length c15)) (.slice a15 (putP ds x).length c15) (putP ds x) from HSD15.out.keep (fun q hq => ⟨by rcases hq.1 with q1 | q1 | q1 <;> first | omega | (have := (hown _ q1.symm).1; omega), hq.2⟩) (fun q hq => Below.heap_setCell _ _ _ _ (by
        rcases hq.1 with q1 | q1 | q1
        · exact q1.2.1
        · simp only; omega
        · have := (hown _ q1.symm).2; simp only; omega)))
       have hz16 : w15.heap.size = (w15.setCell ⟨w11.heap.size, 1, none⟩ (.slice a15 (putP ds x).length c15)).heap.size := by simp
       clear r0 r1 rf s0' s1' sf' HSE15 HSD15 HB15 HG15 HT15 HGE; generalize w15.setCell ⟨w11.heap.size, 1, none⟩ (.slice a15 (putP ds x).length c15) = w16 at *; have g5 : ((w16.setCell ⟨w.heap.size + 1 + 1 + 1, 0, none⟩ (.slice ae2 es9.length ce2)).setCell ⟨w.heap.size + 1 + 1 + 1, 1, none⟩ (.slice a15 (putP ds x).length c15)).heap[w.heap.size + 1 + 1 + 1]? = some (.cells #[(.slice ae2 es9.length ce2), (.slice a15 (putP ds x).length c15)] 70 (0, 0)) := heap_setCell_same _ _ _ _ _ _ (heap_setCell_same _ _ _ _ _ _ HT16.out); have b5 : Below w.heap.size w ((w16.setCell ⟨w.heap.size + 1 + 1 + 1, 0, none⟩ (.slice ae2 es9.length ce2)).setCell ⟨w.heap.size + 1 + 1 + 1, 1, none⟩ (.slice a15 (putP ds x).length c15)) := bl_set (bl_set HB16.out _ (by simp only; omega)) _ (by simp only; omega); have hoth : ∀ q, w.heap.size + 4 ≤ q → ((w16.setCell ⟨w.heap.size + 1 + 1 + 1, 0, none⟩ (.slice ae2 es9.length ce2)).setCell ⟨w.heap.size + 1 + 1 + 1, 1, none⟩ (.slice a15 (putP ds x).length c15)).heap[q]? = w16.heap[q]? := fun q hq => (Below.heap_setCell _ _ _ _ (by simp only; omega)).trans (Below.heap_setCell _ _ _ _ (by simp only; omega))
       have hz17 : w16.heap.size = ((w16.setCell ⟨w.heap.size + 1 + 1 + 1, 0, none⟩ (.slice ae2 es9.length ce2)).setCell ⟨w.heap.size + 1 + 1 + 1, 1, none⟩ (.slice a15 (putP ds x).length c15)).heap.size := by simp
       obtain ⟨k0, k1, -⟩ := blk2 g5; generalize (w16.setCell ⟨w.heap.size + 1 + 1 + 1, 0, none⟩ (.slice ae2 es9.length ce2)).setCell ⟨w.heap.size + 1 + 1 + 1, 1, none⟩ (.slice a15 (putP ds x).length c15) = wf at *; refine bodyPost_ret (v := .tuple #[.agg #[(.slice ae2 es9.length ce2), (.slice a15 (putP ds x).length c15)], .int .i64 0]) (by simp [results, Tryz.results21, go_sem, k0, k1]) rfl ?_; rw [HR.out]; exact ⟨(.slice ae2 es9.length ce2), (.slice a15 (putP ds x).length c15), rfl, HSE16.out.keep (fun q hq => ⟨fun _ => by omega, by omega⟩) (fun q hq => hoth q hq.1), HSD16.out.keep (fun q hq => ⟨fun _ => by omega, by omega⟩) (fun q hq => hoth q hq.1), b5, fun h => absurd rfl h⟩
    · have hjd : decide ((j : Int) < (ds.length : Int)) = false := by simp; omega
      clear hdr hvq
      go_wp2_with (go_quiet (fail))
      have HBZ := Lib.hid (bl_drewN HBW.out nq)
      have HPUT := Lib.hid (put_none (l := ds) (x := x) (k := j) (by omega) (fun y hy e => by
       obtain ⟨q, hq, rfl⟩ := List.getElem_of_mem hy
       exact HF3.out q hq e) (fun q hq hlt => HT.out q hq hlt) (fun h => absurd h hlt2))
      generalize (wr.drewN nq) = wz at HBZ ⊢; have hBZ := HBZ.out; have gz : BB w11.heap.size (.slice ae2 es9.length ce2) (.slice ad2 ds.length cd2) wz := (hBZ.block _ (lt_of_heap HG12.out)).trans HG12.out; have yz : AW w.heap.size A (.slice ae es.length ce) (.slice ad ds.length cd) x (.slice xa x.ls.length xc) wz := HY12.out.step hBZ (lt_of_heap HY12.out.b3); have HGZ := Lib.hid gz; have HYZ := Lib.hid yz; have hzz := hBZ.size; have HXK := Lib.hid (show ∀ w', Below wz.heap.size wz w' → w'.cell? ⟨w11.heap.size, 1, none⟩ = some (.slice ad2 ds.length cd2) from fun w' hw' => (blk2 ((hw'.block _ (lt_of_heap HGZ.out)).trans HGZ.out)).2.1)
      have HX7 := Lib.hid (show ∀ w', Below wz.heap.size wz w' → w'.cell? ⟨w.heap.size + 1 + 1, 0, none⟩ = some (.string x.key) ∧ w'.cell? ⟨w.heap.size + 1 + 1, 1, none⟩ = some (.string x.veh) ∧ w'.cell? ⟨w.heap.size + 1 + 1, 2, none⟩ = some (.string x.sys) ∧ w'.cell? ⟨w.heap.size + 1 + 1, 3, none⟩ = some (.int .i64 x.cls) ∧ w'.cell? ⟨w.heap.size + 1 + 1, 4, none⟩ = some (.int .i64 x.tm) ∧ w'.cell? ⟨w.heap.size + 1 + 1, 5, none⟩ = some (.slice xa x.ls.length xc) ∧ w'.cell? ⟨w.heap.size + 1 + 1, 6, none⟩ = some (.int .i64 x.c) from fun w' hw' => by
       obtain ⟨z0, z1, z2, z3, z4, z5, z6, -⟩ := blk7 ((hw'.block _ (lt_of_heap HYZ.out.b2)).trans HYZ.out.b2)
       exact ⟨z0, z1, z2, z3, z4, z5, z6⟩)
      have HCC := Lib.hid (show ∀ W, Below wz.heap.size wz W → Calls Tryz.prog 52 #[.agg #[.string x.key, .string x.veh, .string x.sys, .int .i64 x.cls, .int .i64 x.tm, .slice xa x.ls.length xc, .int .i64 x.c]] W fun e w' => ∃ h', e = .returned (.agg #[.string x.key, .string x.veh, .string x.sys, .int .i64 x.cls, .int .i64 x.tm, h', .int .i64 x.c]) ∧ NewL tSI 140 W.heap.size w' h' x.ls ∧ Below W.heap.size W w' from fun W hW => cloneC_any x _ W (HV.out.step (bl_trans (bl_trans HB12.out HBZ.out) hW)) (by have := HXC.out.ls; omega)); clear gz yz c0 c1 x0' HT HDR; refine wp_region_E 6 (fun w' => Below wz.heap.size wz w') (by kernel_rfl) ((by (repeat (first | (with_reducible exact Below.refl _ _) | (with_reducible apply bl_drewN) | (with_reducible apply bl_alloc) | (with_reducible apply Below.drew))); done)) (fun hHeld => ?_); refine wpE_take (i := 0) (v := ?_) rfl (by kernel_rfl) (fun _ _ _ h => h) (Or.inl ⟨by kernel_rfl, ?_⟩) (by assumption) ?_
      rotate_left; focus (intro w9 hS9; (try dsimp only at hS9); go_simp; (try with_reducible rfl)); (try simp only [gkA, gkB, gkC, Act.put, gkD, gkE, gkF])
      refine wpE_take (i := 1) (v := ?_) rfl (by kernel_rfl) (fun _ _ _ h => h) (Or.inl ⟨by kernel_rfl, ?_⟩) (by assumption) ?_
      rotate_left; focus (intro w9 hS9; have z0 := HXK.out w9 hS9; clear hS9; go_simp; (try with_reducible rfl)); (try simp only [gkA, gkB, gkC, Act.put, gkD, gkE, gkF])
      refine wpE_take (i := 2) (v := ?_) rfl (by kernel_rfl) (fun _ _ _ h => h) (Or.inl ⟨by kernel_rfl, ?_⟩) (by assumption) ?_
      rotate_left; focus (intro w9 hS9; (try dsimp only at hS9); go_simp; (try with_reducible rfl)); (try simp only [gkA, gkB, gkC, Act.put, gkD, gkE, gkF])
      refine wpE_take (i := 3) (v := ?_) rfl (by kernel_rfl) (fun _ _ _ h => h) (Or.inl ⟨by kernel_rfl, ?_⟩) (by assumption) ?_
      rotate_left; focus (intro w9 hS9; obtain ⟨z0, z1, z2, z3, z4, z5, z6⟩ := HX7.out w9 hS9; clear hS9; go_simp; (try with_reducible rfl)); (try simp only [gkA, gkB, gkC, Act.put, gkD, gkE, gkF])
      refine wpE_ready (rs := [4]) (by kernel_rfl) (by kernel_rfl) ?_; refine AllReadyE.cons rfl (fun K hK => ?_) AllReadyE.nil; go_simp
      with_reducible refine (HCC.out _ (by (repeat (first | (with_reducible exact Below.refl _ _) | (with_reducible apply bl_drewN) | (with_reducible apply bl_alloc) | (with_reducible apply Below.drew))); done)).mono ?_
      rintro r w13 ⟨h', rfl, hn5, hb5⟩; obtain ⟨a5, c5, rfl, -⟩ := hn5.form; have HN5 := Lib.hid (show NewL tSI 140 wz.heap.size w13 (.slice a5 x.ls.length c5) x.ls from hn5); have HB5 := Lib.hid (show Below wz.heap.size wz w13 from bl_trans (by (repeat (first | (with_reducible exact Below.refl _ _) | (with_reducible apply bl_drewN) | (with_reducible apply bl_alloc) | (with_reducible apply Below.drew))); done) hb5); clear hn5 hb5 HCC; clear hHeld; refine hK.out _ _ (HB5.out) (fun hHeld => ?_); clear hK K; refine wpE_ready (rs := [5]) (by kernel_rfl) (by kernel_rfl) ?_; refine AllReadyE.cons rfl (fun K hK => ?_) AllReadyE.nil; go_simp; clear hHeld; refine hK.out _ _ (bl_trans HB5.out (by (repeat (first | (with_reducible exact Below.refl _ _) | (with_reducible apply bl_drewN) | (with_reducible apply bl_alloc) | (with_reducible apply Below.drew))); done)) (fun hHeld => ?_); clear hK K; clear hHeld; refine wpE_out (by kernel_rfl) ?_; refine wpAny_ready (rs := [6]) (by kernel_rfl) (by simp) ?_; refine AllReady.cons rfl (fun K hK => ?_) AllReady.nil; rw [if_pos (show _ = true by kernel_rfl)]; go_simp; have hW5 := bl_alloc HB5.out (.cells #[.string x.key, .string x.veh, .string x.sys, .int .i64 x.cls, .int .i64 x.tm, .slice a5 x.ls.length c5, .int .i64 x.c] 49); have g13 := heap_alloc_new w13 (.cells #[.string x.key, .string x.veh, .string x.sys, .int .i64 x.cls, .int .i64 x.tm, .slice a5 x.ls.length c5, .int .i64 x.c] 49); have hz13 : (w13.alloc (.cells #[.string x.key, .string x.veh, .string x.sys, .int .i64 x.cls, .int .i64 x.tm, .slice a5 x.ls.length c5, .int .i64 x.c] 49)).heap.size = w13.heap.size + 1 := by simp
      have HN14 := Lib.hid (HN5.out.below (bl_alloc (Below.refl w13.heap.size w13) (.cells #[.string x.key, .string x.veh, .string x.sys, .int .i64 x.cls, .int .i64 x.tm, .slice a5 x.ls.length c5, .int .i64 x.c] 49))); generalize w13.alloc (.cells #[.string x.key, .string x.veh, .string x.sys, .int .i64 x.cls, .int .i64 x.tm, .slice a5 x.ls.length c5, .int .i64 x.c] 49) = w14 at hW5 g13 hz13 HN14 ⊢; have HW5 := Lib.hid hW5; have hs5 := HB5.out.size; have HOW := Lib.hid (HND2.out.own_lt); have hb1114 : Below w11.heap.size w11 w14 := bl_trans (bl_trans HBO.out HBZ.out) hW5
      have HINS := Lib.hid (insert_any m (fun q => m ≤ q ∧ q ≠ w11.heap.size ∧ q < w14.heap.size ∧ some q ≠ (Value.slice ad2 ds.length cd2).ownBlock) ds (.slice ad2 ds.length cd2) x w13.heap.size j _ w14
       ((HND2.out.below (fun q hq => hq.2.1) hb1114).mono (fun q hq => ⟨hq.1, by omega, by omega, hq.2.2⟩)) (fun q hq => ⟨hq.2.2.1, hq.2.2.2⟩) g13 ⟨by omega, by omega, by omega, fun e => by have := (HOW.out _ e.symm).2; omega⟩
       (tChg_mk HX.out (HN14.out.sl.keep (fun q hq => ⟨by omega, by omega, hq.2, fun e => by have := (HOW.out _ e.symm).2; omega⟩) (SameOn.refl _ _))) (by omega) (by omega) (by omega))
      clear hW5 g13 hb1114
      with_reducible refine HINS.out.mono ?_
      clear HINS; rintro r w15 ⟨v15, rfl, hs15, hg15⟩; obtain ⟨a15, c15, _, _, rfl, -⟩ := id hs15; have hpl : (ds.take j ++ x :: ds.drop j).length = (putP ds x).length := by rw [HPUT.out]
      rw [HPUT.out] at hs15; rw [hpl]; have hown := HOW.out; have hz14 := HW5.out.size; have hz15 := hg15.size; have HGE := Lib.hid hg15; have hbl15 : Below w.heap.size w w15 := ((HB12.out.trans (HBZ.out.mono HB12.out.size)).trans (HW5.out.mono (bl_trans HB12.out HBZ.out).size)).grown hg15 (by have := (bl_trans (bl_trans HB12.out HBZ.out) HW5.out).size; exact this) (fun q hq => by have := (hown q hq).1; omega); have gB15 : BB w11.heap.size (.slice ae2 es9.length ce2) (.slice ad2 ds.length cd2) w15 := (hg15.block _ (by omega) (fun e => by have := (hown _ e.symm).2; omega)).trans ((HW5.out.block _ (by omega)).trans HGZ.out); have g315 : BB (w.heap.size + 3) (.slice none 0 0) (.slice none 0 0) w15 := (hg15.block _ (by omega) (fun e => by have := (hown _ e.symm).1; omega)).trans ((HW5.out.block _ (by omega)).trans HYZ.out.b3); have hse : SlIs (tEnt 101) (fun q => w.heap.size + 4 ≤ q ∧ q < w11.heap.size ∧ q < m) w15 (.slice ae2 es9.length ce2) es9 := HSE.out.keep (fun _ h => h) (fun q hq => (hg15.block q (by omega) (fun e => by have := (hown _ e.symm).1; omega)).trans ((HW5.out.block q (by omega)).trans ((HBZ.out.block q (by omega)).trans (HBO.out.block q hq.2.1)))); have HSE15 := Lib.hid hse; have HSD15 := Lib.hid hs15; have HB15 := Lib.hid hbl15; have HG15 := Lib.hid gB15; have HT15 := Lib.hid g315; obtain ⟨r0, r1, rf⟩ := blk2 gB15; obtain ⟨s0, s1, sf⟩ := blk2 g315; have s0' : w15.cell? ⟨w.heap.size + 1 + 1 + 1, 0, none⟩ = some (.slice none 0 0) := s0; have s1' : w15.cell? ⟨w.heap.size + 1 + 1 + 1, 1, none⟩ = some (.slice none 0 0) := s1; have sf' : ∀ q, w15.frozen? ⟨w.heap.size + 1 + 1 + 1, q, none⟩ = false := sf; have hl15 : w11.heap.size < w15.heap.size := by omega
      have hl16 : w.heap.size + 1 + 1 + 1 < w15.heap.size := by omega
      have hl17 : w.heap.size + 1 + 1 + 1 ≠ w11.heap.size := by omega
      clear hs15 hg15 hbl15 gB15 g315 hse s0 s1 sf; refine hK _ _ ?_; clear hK K
      (try simp only [gkA, gkB, gkC, Act.put, gkD, gkE, gkF])
      refine wpAny_ready (rs := [7]) (by kernel_rfl) (by simp) ?_; refine AllReady.cons rfl (fun K hK => ?_) AllReady.nil; rw [if_pos (show _ = true by kernel_rfl)]; go_simp; refine hK _ _ ?_; clear hK K; refine wpAny_ready (rs := [8]) (by kernel_rfl) (by simp) ?_; refine AllReady.cons rfl (fun K hK => ?_) AllReady.nil; rw [if_pos (show _ = true by kernel_rfl)]; go_simp; refine hK _ _ ?_; clear hK K; refine wpAny_done (by kernel_rfl) ?_ _; go_wp2; have HT16 := Lib.hid (show BB (w.heap.size + 3) (.slice none 0 0) (.slice none 0 0) (w15.setCell ⟨w11.heap.size, 1, none⟩ (.slice a15 (putP ds x).length c15)) from (Below.heap_setCell _ _ _ _ (by simp only; omega)).trans HT15.out); have HB16 := Lib.hid (show Below w.heap.size w (w15.setCell ⟨w11.heap.size, 1, none⟩ (.slice a15 (putP ds x).length c15)) from bl_set HB15.out _ (by simp only; omega)); have HSE16 := Lib.hid (show SlIs (tEnt 101) (fun q => w.heap.size + 4 ≤ q ∧ q < w11.heap.size) (w15.setCell ⟨w11.heap.size, 1, none⟩ (.slice a15 (putP ds x).length c15)) (.slice ae2 es9.length ce2) es9 from HSE15.out.keep (fun q hq => ⟨hq.1, hq.2.1⟩) (fun q hq => Below.heap_setCell _ _ _ _ (by simp only; omega)))
      have HSD16 := Lib.hid (show SlIs (tChg eL) (fun q => w.heap.size + 4 ≤ q ∧ q < w15.heap.size) (w15.setCell ⟨w11.heap.size, 1, none⟩ (.slice a15 (putP ds x).length c15)) (.slice a15 (putP ds x).length c15) (putP ds x) from HSD15.out.keep (fun q hq => ⟨by rcases hq.1 with q1 | q1 | q1 <;> first | omega | (have := (hown _ q1.symm).1; omega), hq.2⟩) (fun q hq => Below.heap_setCell _ _ _ _ (by
       rcases hq.1 with q1 | q1 | q1
       · exact q1.2.1
       · simp only; omega
       · have := (hown _ q1.symm).2; simp only; omega)))
      have hz16 : w15.heap.size = (w15.setCell ⟨w11.heap.size, 1, none⟩ (.slice a15 (putP ds x).length c15)).heap.size := by simp
      clear r0 r1 rf s0' s1' sf' HSE15 HSD15 HB15 HG15 HT15 HGE; generalize w15.setCell ⟨w11.heap.size, 1, none⟩ (.slice a15 (putP ds x).length c15) = w16 at *; have g5 : ((w16.setCell ⟨w.heap.size + 1 + 1 + 1, 0, none⟩ (.slice ae2 es9.length ce2)).setCell ⟨w.heap.size + 1 + 1 + 1, 1, none⟩ (.slice a15 (putP ds x).length c15)).heap[w.heap.size + 1 + 1 + 1]? = some (.cells #[(.slice ae2 es9.length ce2), (.slice a15 (putP ds x).length c15)] 70 (0, 0)) := heap_setCell_same _ _ _ _ _ _ (heap_setCell_same _ _ _ _ _ _ HT16.out); have b5 : Below w.heap.size w ((w16.setCell ⟨w.heap.size + 1 + 1 + 1, 0, none⟩ (.slice ae2 es9.length ce2)).setCell ⟨w.heap.size + 1 + 1 + 1, 1, none⟩ (.slice a15 (putP ds x).length c15)) := bl_set (bl_set HB16.out _ (by simp only; omega)) _ (by simp only; omega); have hoth : ∀ q, w.heap.size + 4 ≤ q → ((w16.setCell ⟨w.heap.size + 1 + 1 + 1, 0, none⟩ (.slice ae2 es9.length ce2)).setCell ⟨w.heap.size + 1 + 1 + 1, 1, none⟩ (.slice a15 (putP ds x).length c15)).heap[q]? = w16.heap[q]? := fun q hq => (Below.heap_setCell _ _ _ _ (by simp only; omega)).trans (Below.heap_setCell _ _ _ _ (by simp only; omega))
      have hz17 : w16.heap.size = ((w16.setCell ⟨w.heap.size + 1 + 1 + 1, 0, none⟩ (.slice ae2 es9.length ce2)).setCell ⟨w.heap.size + 1 + 1 + 1, 1, none⟩ (.slice a15 (putP ds x).length c15)).heap.size := by simp
      obtain ⟨k0, k1, -⟩ := blk2 g5; generalize (w16.setCell ⟨w.heap.size + 1 + 1 + 1, 0, none⟩ (.slice ae2 es9.length ce2)).setCell ⟨w.heap.size + 1 + 1 + 1, 1, none⟩ (.slice a15 (putP ds x).length c15) = wf at *; refine bodyPost_ret (v := .tuple #[.agg #[(.slice ae2 es9.length ce2), (.slice a15 (putP ds x).length c15)], .int .i64 0]) (by simp [results, Tryz.results21, go_sem, k0, k1]) rfl ?_; rw [HR.out]; exact ⟨(.slice ae2 es9.length ce2), (.slice a15 (putP ds x).length c15), rfl, HSE16.out.keep (fun q hq => ⟨fun _ => by omega, by omega⟩) (fun q hq => hoth q hq.1), HSD16.out.keep (fun q hq => ⟨fun _ => by omega, by omega⟩) (fun q hq => hoth q hq.1), b5, fun h => absurd rfl h⟩
 · have hkd1 : chkC ds[k] = 0 := HBK.out.chk _ (List.getElem_mem hk)
   have hyc : COk ds[k] := HBK.out.cok _ (List.getElem_mem hk); have hycf : 0 ≤ ds[k].c ∧ ds[k].c ≤ 1125899906842624 := ⟨(chk_facts hkd1).2.2.2.2.2.2.1, (chk_facts hkd1).2.2.2.2.2.2.2.1⟩; rw [f1]; have HPS := Lib.hid (show postsA c ds x = moveP c (moveP c [] ds[k] (-ds[k].c)) x x.c by unfold postsA; rw [f2]); have HKEY := Lib.hid f3; have hcf : 0 ≤ x.c ∧ x.c ≤ 1125899906842624 := ⟨HCF.out.2.2.2.2.2.2.1, HCF.out.2.2.2.2.2.2.2.1⟩; obtain ⟨hao, -, hbd, hyok, hv9, hsl9, k0, k1, k2, k3, k4, k5, k6⟩ := HDO.out w7 (.of_below HB7.out) k hk; subst hao; have HYK := Lib.hid (show ∃ y, ds[k] = y from ⟨_, rfl⟩); obtain ⟨y, hy⟩ := HYK.out; rw [hy] at k0 k1 k2 k3 k4 k6 hycf hyc HPS HKEY hsl9 hyok; have HY := Lib.hid hy; obtain ⟨ya, yc, _, _, rfl, -⟩ := id hsl9; have i0 : (0 : Int) ≤ (k : Int) := by omega
   have i1 : (k : Int) < (ds.length : Int) := by omega
   have hco : decide (y.c < 0) = false := by simp; omega
   have HX1 := Lib.hid (show ∀ W, Calls Tryz.prog 33 #[.int .i64 y.c] W fun e w' => e = .returned (.bool true) ∧ W = w' from fun W => by rw [← fitsM_yes (n := y.c) (by omega) (by omega)]; exact mFits_any _ W); obtain ⟨d0, d1, -⟩ := blk2 HY7.out.b1; clear hy HYK f1 f2 f3 f4 hkd1 hsl9
   go_upto_region 11 with (go_at_call 33; with_reducible refine (HX1.out _).mono ?_; rintro e w1 ⟨rfl, rfl⟩)
   have HLC := Lib.hid (show ∀ w', Below w7.heap.size w7 w' → Sem.run Tryz.prog (loadCellsFrom ⟨w.heap.size, 0, none⟩ 0 25 #[]) w' = .ok A w' from fun w' hw' => load_blk ((hw'.block _ (lt_of_heap HY7.out.b0)).trans HY7.out.b0) HA.out.size Tryz.prog); have HLD := Lib.hid (show ∀ w', Below w7.heap.size w7 w' → w'.cell? ⟨w.heap.size + 1, 1, none⟩ = some (.slice (some ⟨bd, od, none⟩) ds.length cd) from fun w' hw' => (blk2 ((hw'.block _ (lt_of_heap HY7.out.b1)).trans HY7.out.b1)).2.1); have hbd7 : bd < w7.heap.size := Nat.lt_of_lt_of_le hbd HB7.out.size
   have HL7 := Lib.hid (show ∀ w', Below w7.heap.size w7 w' → w'.cell? ⟨bd, od + k * 7, none⟩ = some (.string y.key) ∧ w'.cell? ⟨bd, od + k * 7 + 1, none⟩ = some (.string y.veh) ∧ w'.cell? ⟨bd, od + k * 7 + 2, none⟩ = some (.string y.sys) ∧ w'.cell? ⟨bd, od + k * 7 + 3, none⟩ = some (.int .i64 y.cls) ∧ w'.cell? ⟨bd, od + k * 7 + 4, none⟩ = some (.int .i64 y.tm) ∧ w'.cell? ⟨bd, od + k * 7 + 5, none⟩ = some (.slice ya y.ls.length yc) ∧ w'.cell? ⟨bd, od + k * 7 + 6, none⟩ = some (.int .i64 y.c) from fun w' hw' =>
    ⟨(hw'.cell (p := ⟨bd, od + k * 7, none⟩) hbd7).trans k0, (hw'.cell (p := ⟨bd, od + k * 7 + 1, none⟩) hbd7).trans k1, (hw'.cell (p := ⟨bd, od + k * 7 + 2, none⟩) hbd7).trans k2, (hw'.cell (p := ⟨bd, od + k * 7 + 3, none⟩) hbd7).trans k3, (hw'.cell (p := ⟨bd, od + k * 7 + 4, none⟩) hbd7).trans k4, (hw'.cell (p := ⟨bd, od + k * 7 + 5, none⟩) hbd7).trans k5, (hw'.cell (p := ⟨bd, od + k * 7 + 6, none⟩) hbd7).trans k6⟩)
   have HL6 := Lib.hid (show ∀ w', Below w7.heap.size w7 w' → w'.cell? ⟨bd, od + k * 7 + 6, none⟩ = some (.int .i64 y.c) from fun w' hw' => (HL7.out w' hw').2.2.2.2.2.2); have hneg : IntKind.i64.wrap (-y.c) = -y.c := wrap_in (by omega) (by omega); have HMV1 := Lib.hid (show ∀ W, Below w7.heap.size w7 W → _ from fun W hW => move_any c A va y ya y.ls.length yc w7.heap.size gd kk x.tm [] (.slice none 0 0) (-y.c) 0 W (HDW.out.below hW) hW.size (by simp) (nil_amt 0) (by omega) (by omega) (by omega) HA.out (HC.out.step (bl_trans HB7.out hW)) HK.out hyc.veh hyc.sys); clear k0 k1 k2 k3 k4 k5 k6 d0 d1; refine wp_region_E 13 (fun w' => Below w7.heap.size w7 w') (by kernel_rfl) ((by (repeat (first | (with_reducible exact Below.refl _ _) | (with_reducible apply bl_drewN) | (with_reducible apply bl_alloc) | (with_reducible apply Below.drew))); done)) (fun hHeld => ?_); refine wpE_take (i := 0) (v := ?_) rfl (by kernel_rfl) (fun _ _ _ h => h) (Or.inl ⟨by kernel_rfl, ?_⟩) (by assumption) ?_
   rotate_left; focus (intro w9 hS9; refine exec_loadA (t := 46) (x := Operand.tmp 3) (p := ⟨w.heap.size, 0, none⟩) (A := A) ?_ Tryz.isAgg46 Tryz.sizeOf46 ?_ (HLC.out w9 hS9); rfl; go_simp; (try rfl)); (try simp only [gkA, gkB, gkC, Act.put, gkD, gkE, gkF])
   refine wpE_take (i := 1) (v := ?_) rfl (by kernel_rfl) (fun _ _ _ h => h) (Or.inl ⟨by kernel_rfl, ?_⟩) (by assumption) ?_
   rotate_left; focus (intro w9 hS9; (try dsimp only at hS9); go_simp; (try with_reducible rfl)); (try simp only [gkA, gkB, gkC, Act.put, gkD, gkE, gkF])
   refine wpE_take (i := 2) (v := ?_) rfl (by kernel_rfl) (fun _ _ _ h => h) (Or.inl ⟨by kernel_rfl, ?_⟩) (by assumption) ?_
   rotate_left; focus (intro w9 hS9; have z0 := HLD.out w9 hS9; clear hS9; go_simp; (try with_reducible rfl)); (try simp only [gkA, gkB, gkC, Act.put, gkD, gkE, gkF])
   refine wpE_take (i := 3) (v := ?_) rfl (by kernel_rfl) (fun _ _ _ h => h) (Or.inl ⟨by kernel_rfl, ?_⟩) (by assumption) ?_
   rotate_left; focus (intro w9 hS9; (try dsimp only at hS9); go_simp; (try with_reducible rfl)); (try simp only [gkA, gkB, gkC, Act.put, gkD, gkE, gkF])
   refine wpE_take (i := 4) (v := ?_) rfl (by kernel_rfl) (fun _ _ _ h => h) (Or.inl ⟨by kernel_rfl, ?_⟩) (by assumption) ?_
   rotate_left; focus (intro w9 hS9; (try dsimp only at hS9); go_simp; (try with_reducible rfl)); (try simp only [gkA, gkB, gkC, Act.put, gkD, gkE, gkF])
   refine wpE_take (i := 5) (v := ?_) rfl (by kernel_rfl) (fun _ _ _ h => h) (Or.inl ⟨by kernel_rfl, ?_⟩) (by assumption) ?_
   rotate_left; focus (intro w9 hS9; obtain ⟨z0, z1, z2, z3, z4, z5, z6⟩ := HL7.out w9 hS9; clear hS9; go_simp; (try with_reducible rfl)); (try simp only [gkA, gkB, gkC, Act.put, gkD, gkE, gkF])
   refine wpE_take (i := 6) (v := ?_) rfl (by kernel_rfl) (fun _ _ _ h => h) (Or.inl ⟨by kernel_rfl, ?_⟩) (by assumption) ?_
   rotate_left; focus (intro w9 hS9; (try dsimp only at hS9); go_simp; (try with_reducible rfl)); (try simp only [gkA, gkB, gkC, Act.put, gkD, gkE, gkF])
   refine wpE_take (i := 7) (v := ?_) rfl (by kernel_rfl) (fun _ _ _ h => h) (Or.inl ⟨by kernel_rfl, ?_⟩) (by assumption) ?_
   rotate_left; focus (intro w9 hS9; have z0 := HLD.out w9 hS9; clear hS9; go_simp; (try with_reducible rfl)); (try simp only [gkA, gkB, gkC, Act.put, gkD, gkE, gkF])
   refine wpE_take (i := 8) (v := ?_) rfl (by kernel_rfl) (fun _ _ _ h => h) (Or.inl ⟨by kernel_rfl, ?_⟩) (by assumption) ?_
   rotate_left; focus (intro w9 hS9; (try dsimp only at hS9); go_simp; (try with_reducible rfl)); (try simp only [gkA, gkB, gkC, Act.put, gkD, gkE, gkF])
   refine wpE_take (i := 9) (v := ?_) rfl (by kernel_rfl) (fun _ _ _ h => h) (Or.inl ⟨by kernel_rfl, ?_⟩) (by assumption) ?_
   rotate_left; focus (intro w9 hS9; (try dsimp only at hS9); go_simp; (try with_reducible rfl)); (try simp only [gkA, gkB, gkC, Act.put, gkD, gkE, gkF])
   refine wpE_take (i := 10) (v := ?_) rfl (by kernel_rfl) (fun _ _ _ h => h) (Or.inl ⟨by kernel_rfl, ?_⟩) (by assumption) ?_
   rotate_left; focus (intro w9 hS9; (try dsimp only at hS9); go_simp; (try with_reducible rfl)); (try simp only [gkA, gkB, gkC, Act.put, gkD, gkE, gkF])
   refine wpE_take (i := 11) (v := ?_) rfl (by kernel_rfl) (fun _ _ _ h => h) (Or.inl ⟨by kernel_rfl, ?_⟩) (by assumption) ?_
   rotate_left; focus (intro w9 hS9; have z0 := HL6.out w9 hS9; clear hS9; go_simp; (try with_reducible rfl)); (try simp only [gkA, gkB, gkC, Act.put, gkD, gkE, gkF])
   refine wpE_take (i := 12) (v := ?_) rfl (by kernel_rfl) (fun _ _ _ h => h) (Or.inl ⟨by kernel_rfl, ?_⟩) (by assumption) ?_
   rotate_left; focus (intro w9 hS9; (try dsimp only at hS9); go_simp; (try with_reducible rfl)); (try simp only [gkA, gkB, gkC, Act.put, gkD, gkE, gkF])
   clear hHeld; refine wpE_out (by kernel_rfl) ?_; refine wpAny_ready (rs := [13]) (by kernel_rfl) (by simp) ?_; refine AllReady.cons rfl (fun K hK => ?_) AllReady.nil; rw [if_pos (show _ = true by kernel_rfl)]; go_simp
   with_reducible refine (HMV1.out _ (Below.drew (Below.refl _ _))).mono ?_
   rintro r wm ⟨rfl, ⟨vm, hdm⟩, hkm⟩; have HKM := Lib.hid (show DK w7.heap.size gd w7 wm from ⟨fun j hj => hkm.same j hj, (Below.drew (Below.refl _ _)).trans hkm.bel⟩); have HDM := Lib.hid hdm; clear hkm hdm HLC HLD HL7 HL6 HMV1; refine hK _ _ ?_; clear hK K
   (try simp only [gkA, gkB, gkC, Act.put, gkD, gkE, gkF])
   refine wpAny_done (by kernel_rfl) ?_ _; have hgB := HDM.out.lt; have HYM := Lib.hid (HY7.out.same fun j h1 h2 => HKM.out.same j ⟨by omega, by omega⟩); have HBM := Lib.hid (show Below w.heap.size w wm from HB7.out.trans (HKM.out.bel.mono (by omega))); have hs7m := HKM.out.bel.size; have hml := moveP_len c [] y (-y.c); have HMV2 := Lib.hid (move_any c A va x xa x.ls.length xc w7.heap.size gd kk x.tm (moveP c [] y (-y.c)) vm x.c 2251799813685248 wm HDM.out hs7m (by simp only [List.length_nil] at hml; omega) ((moveP_amt (nil_amt 0) (by omega) (by omega) (by omega)).mono (by omega)) (by omega) (by omega) (by omega) HA.out (HC.out.step HBM.out) HK.out HXC.out.veh HXC.out.sys); have hld := load_blk HYM.out.b0 HA.out.size Tryz.prog; obtain ⟨x0, x1, x2, x3, x4, x5, x6, -⟩ := blk7 HYM.out.b2; have x0' : wm.cell? ⟨w.heap.size + 1 + 1, 0, none⟩ = some (.string x.key) := x0; have x1' : wm.cell? ⟨w.heap.size + 1 + 1, 1, none⟩ = some (.string x.veh) := x1; have x2' : wm.cell? ⟨w.heap.size + 1 + 1, 2, none⟩ = some (.string x.sys) := x2; have x3' : wm.cell? ⟨w.heap.size + 1 + 1, 3, none⟩ = some (.int .i64 x.cls) := x3; have x4' : wm.cell? ⟨w.heap.size + 1 + 1, 4, none⟩ = some (.int .i64 x.tm) := x4; have x5' : wm.cell? ⟨w.heap.size + 1 + 1, 5, none⟩ = some (.slice xa x.ls.length xc) := x5; have x6' : wm.cell? ⟨w.heap.size + 1 + 1, 6, none⟩ = some (.int .i64 x.c) := x6; clear x0 x1 x2 x3 x4 x5 x6 hml
   go_wp2_with (first | (refine wpList_loadA _ rfl 46 rfl Tryz.isAgg46 Tryz.sizeOf46 rfl (by with_reducible assumption) ?_) | fail)
   with_reducible refine HMV2.out.mono ?_
   rintro r w8 ⟨rfl, ⟨v8, hd8⟩, hk8⟩; clear x0' x1' x2' x3' x4' x5' x6' hld HMV2; obtain ⟨a8, c8, rfl, -⟩ := hd8.own.form; have HY8 := Lib.hid (HYM.out.same fun j h1 h2 => hk8.same j ⟨by omega, by omega⟩); have HB8 := Lib.hid (show Below w.heap.size w w8 from HBM.out.trans (hk8.bel.mono (by omega))); have hs78 := Nat.le_trans hs7m hk8.bel.size; clear HYM HBM HDM HKM hs7m; have hp4 : (postsA c ds x).length ≤ 4 := postsA_len c ds x; rw [HPS.out] at hp4; have HEN := Lib.hid (enter_any w7.heap.size es (.slice ae es.length ce) kk x.tm _ _ w8 hs78 (HE.out.keep (fun j (hj : j < w.heap.size) => Nat.lt_of_lt_of_le hj HB7.out.size) (.of_below HB8.out)) hd8.own (by have := HKS.out; unfold maxLen; omega) HX.out.tm HBK.out.es (by have := HBK.out.len; simp only at this; omega) hp4 (moveP_pos _ _ _ _)); obtain ⟨e0, e1, e2, -⟩ := blk3 hd8.box; obtain ⟨d0, d1, -⟩ := blk2 HY8.out.b1; clear hd8 hk8 hp4
   go_wp2_with (fail)
   with_reducible refine HEN.out.mono ?_
   clear HEN; rintro r w9 ⟨⟨ve9, rfl, hs9⟩, hb9⟩; have HY9 := Lib.hid (HY8.out.step hb9 (by have := HY7.out.b3; have := lt_of_heap this; omega)); have HB9 := Lib.hid (HB8.out.trans (hb9.mono HB7.out.size)); obtain ⟨⟨es9, z9⟩, hen⟩ : ∃ r, enterL es kk x.tm (moveP c (moveP c [] y (-y.c)) x x.c) = r := ⟨_, rfl⟩; rw [hen] at hs9 ⊢; simp only at hs9 ⊢; obtain ⟨a9, c9, _, _, rfl, -⟩ := id hs9; have HS9 := Lib.hid hs9; have HEN := Lib.hid (show enterL es (keyC x.key (verN es x.key)) x.tm (postsA c ds x) = (es9, z9) by rw [hkk, HPS.out]; exact hen); have HRR := Lib.hid (ap_s (c := c) (b := ⟨es, ds⟩) HZ.out HEN.out); have hl9 := lt_of_heap HY9.out.b3; clear hs9 hb9 hen e0 e1 e2 d0 d1; have m0 : w.heap.size < w9.heap.size := by omega
   have m1 : w.heap.size + 1 < w9.heap.size := by omega
   have m2 : w.heap.size + 1 + 1 < w9.heap.size := by omega
   have m3 : w.heap.size + 1 + 1 + 1 < w9.heap.size := by omega
   obtain ⟨d0, d1, -⟩ := blk2 HY9.out.b1; obtain ⟨f0, f1, ff⟩ := blk2 HY9.out.b3; have f0' : w9.cell? ⟨w.heap.size + 1 + 1 + 1, 0, none⟩ = some (.slice none 0 0) := f0; have f1' : w9.cell? ⟨w.heap.size + 1 + 1 + 1, 1, none⟩ = some (.slice none 0 0) := f1; have ff' : ∀ j, w9.frozen? ⟨w.heap.size + 1 + 1 + 1, j, none⟩ = false := ff; clear f0 f1 ff
   by_cases hz9 : z9 = 0
   case neg =>
    have HR := Lib.hid (HRR.out.trans (if_pos hz9)); have hz1 : (z9 != 0) = true := by simpa using hz9
    clear hz9; go_wp2; have g5 := alloc1_old (.cells #[.slice a9 es9.length c9] 68) (show ((w9.setCell ⟨w.heap.size + 1 + 1 + 1, 0, none⟩ (.slice ae es.length ce)).setCell ⟨w.heap.size + 1 + 1 + 1, 1, none⟩ (.slice (some ⟨bd, od, none⟩) ds.length cd)).heap[w.heap.size + 1 + 1 + 1]? = some (.cells #[(.slice ae es.length ce), (.slice (some ⟨bd, od, none⟩) ds.length cd)] 70 (0, 0)) from heap_setCell_same _ _ _ _ _ _ (heap_setCell_same _ _ _ _ _ _ HY9.out.b3)); have b5 : Below w.heap.size w (((w9.setCell ⟨w.heap.size + 1 + 1 + 1, 0, none⟩ (.slice ae es.length ce)).setCell ⟨w.heap.size + 1 + 1 + 1, 1, none⟩ (.slice (some ⟨bd, od, none⟩) ds.length cd)).alloc (.cells #[.slice a9 es9.length c9] 68)) := bl_alloc (bl_set (bl_set HB9.out _ (by simp only; omega)) _ (by simp only; omega)) _; obtain ⟨k0, k1, -⟩ := blk2 g5; generalize ((w9.setCell ⟨w.heap.size + 1 + 1 + 1, 0, none⟩ (.slice ae es.length ce)).setCell ⟨w.heap.size + 1 + 1 + 1, 1, none⟩ (.slice (some ⟨bd, od, none⟩) ds.length cd)).alloc (.cells #[.slice a9 es9.length c9] 68) = wz at *; refine bodyPost_ret (v := .tuple #[.agg #[(.slice ae es.length ce), (.slice (some ⟨bd, od, none⟩) ds.length cd)], .int .i64 z9]) (by simp [results, Tryz.results21, go_sem, k0, k1]) rfl ?_; rw [HR.out]; exact BookE.old (by simpa using hz1) HE.out HD.out b5
   subst hz9; have HR := Lib.hid (HRR.out.trans (if_neg (by simp))); clear HRR; have hes9 := enter_es HEN.out HBK.out.len HBK.out.es (Nat.le_trans (keyC_size (s := x.key) HXC.out.key (n_ok (Nat.le_trans ver_le HBK.out.len) (by omega))) (by omega)) (postsA_len c ds x); have hds8 := HBK.out.ds; simp only at hds8; have hAl := bl_alloc (Below.refl w9.heap.size w9) (.cells #[.slice a9 es9.length c9] 68); have HCL := Lib.hid (bclone_any es9 ds (.slice a9 es9.length c9) (.slice (some ⟨bd, od, none⟩) ds.length cd) (w9.alloc (.cells #[.slice a9 es9.length c9] 68)) (HS9.out.step hAl) (HD.out.keep (fun j (hj : j < w.heap.size) => Nat.lt_of_lt_of_le hj (Nat.le_trans HB9.out.size hAl.size)) (.of_below (HB9.out.trans (hAl.mono HB9.out.size)))) (by omega) (by omega) (fun e he => by have := (hes9.2 e he).ps; omega) (fun y hy => by have := (HBK.out.cok y hy).ls; omega)); have HBA := Lib.hid (HB9.out.trans (hAl.mono HB9.out.size)); have HYA := Lib.hid (HY9.out.step hAl hl9); clear hes9 hAl hz1
   go_wp2_with (fail)
   with_reducible refine HCL.out.mono ?_
   clear HCL; rintro r w11 ⟨ve2, vd2, m, rfl, hm, hm11, hs2, hn2, hb11⟩; obtain ⟨ae2, ce2, _, _, rfl, -⟩ := id hs2; obtain ⟨ad2, cd2, rfl, hcd2, hcd3⟩ := hn2.form; have HY11 := Lib.hid (HYA.out.step hb11 (by have := lt_of_heap HYA.out.b3; omega)); have HB11 := Lib.hid (bl_trans HBA.out hb11); have HSE := Lib.hid (show SlIs (tEnt 101) (fun j => w.heap.size + 4 ≤ j ∧ j < w11.heap.size ∧ j < m) w11 (.slice ae2 es9.length ce2) es9 from hs2.keep (fun j hj => ⟨by have h1 := hj.1; simp only [World.size_alloc] at h1; omega, Nat.lt_of_lt_of_le hj.2 hm11, hj.2⟩) (SameOn.refl _ _)); have HND := Lib.hid hn2; have hm9 : w9.heap.size + 1 ≤ m := by simpa using hm
   clear hs2 hn2 hb11 hm d0 d1 f0' f1' ff' HBA HYA; have hbB := bl_alloc (Below.refl w11.heap.size w11) (.cells #[.slice ae2 es9.length ce2, .slice ad2 ds.length cd2] 70); have gB := heap_alloc_new w11 (.cells #[.slice ae2 es9.length ce2, .slice ad2 ds.length cd2] 70); have h11 : w.heap.size + 3 < w11.heap.size := lt_of_heap HY11.out.b3
   go_upto_region 18 with (fail)
   generalize w11.alloc (.cells #[.slice ae2 es9.length ce2, .slice ad2 ds.length cd2] 70) = w12 at hbB gB ⊢; have HY12 := Lib.hid (HY11.out.step hbB h11); have HBO := Lib.hid hbB; have HB12 := Lib.hid (bl_trans HB11.out hbB); have HND2 := Lib.hid (NewL.ownS HND.out); have HG12 := Lib.hid (show BB w11.heap.size (.slice ae2 es9.length ce2) (.slice ad2 ds.length cd2) w12 from gB); have h12 := hbB.size; have h12' := lt_of_heap gB; have HPUT := Lib.hid (put_some (l := ds) (x := x) (k := k) hk (by rw [HY.out]; exact HKEY.out) HBK.out.sort); clear hbB gB HND HY11; have HXK := Lib.hid (show ∀ w', Below w12.heap.size w12 w' → w'.cell? ⟨w11.heap.size, 1, none⟩ = some (.slice ad2 ds.length cd2) from fun w' hw' => (blk2 ((hw'.block _ (lt_of_heap HG12.out)).trans HG12.out)).2.1)
   have HX7 := Lib.hid (show ∀ w', Below w12.heap.size w12 w' → w'.cell? ⟨w.heap.size + 1 + 1, 0, none⟩ = some (.string x.key) ∧ w'.cell? ⟨w.heap.size + 1 + 1, 1, none⟩ = some (.string x.veh) ∧ w'.cell? ⟨w.heap.size + 1 + 1, 2, none⟩ = some (.string x.sys) ∧ w'.cell? ⟨w.heap.size + 1 + 1, 3, none⟩ = some (.int .i64 x.cls) ∧ w'.cell? ⟨w.heap.size + 1 + 1, 4, none⟩ = some (.int .i64 x.tm) ∧ w'.cell? ⟨w.heap.size + 1 + 1, 5, none⟩ = some (.slice xa x.ls.length xc) ∧ w'.cell? ⟨w.heap.size + 1 + 1, 6, none⟩ = some (.int .i64 x.c) from fun w' hw' => by
    obtain ⟨z0, z1, z2, z3, z4, z5, z6, -⟩ := blk7 ((hw'.block _ (lt_of_heap HY12.out.b2)).trans HY12.out.b2)
    exact ⟨z0, z1, z2, z3, z4, z5, z6⟩)
   have HCC := Lib.hid (show ∀ W, Below w12.heap.size w12 W → Calls Tryz.prog 52 #[.agg #[.string x.key, .string x.veh, .string x.sys, .int .i64 x.cls, .int .i64 x.tm, .slice xa x.ls.length xc, .int .i64 x.c]] W fun e w' => ∃ h', e = .returned (.agg #[.string x.key, .string x.veh, .string x.sys, .int .i64 x.cls, .int .i64 x.tm, h', .int .i64 x.c]) ∧ NewL tSI 140 W.heap.size w' h' x.ls ∧ Below W.heap.size W w' from fun W hW => cloneC_any x _ W (HV.out.step (bl_trans HB12.out hW)) (by have := HXC.out.ls; omega)); have hown := HND2.out.own_lt; have HST := Lib.hid (show ∀ w' h', Below w12.heap.size w12 w' → SlIs tSI (fun q => w12.heap.size ≤ q ∧ q < w'.heap.size) w' h' x.ls → _ from fun w' h' hw' hh' => OwnS.storeA ((HND2.out.below (fun q hq => hq.2.1) (bl_trans HBO.out hw')).mono (S' := fun q => m ≤ q ∧ q < w'.heap.size ∧ q ≠ w11.heap.size ∧ some q ≠ (Value.slice ad2 ds.length cd2).ownBlock) (fun q hq => ⟨hq.1, by have := (bl_trans HBO.out hw').size; omega, by omega, hq.2.2⟩)) (fun q hq => hq.2.2.2) (by omega)); refine wp_region_E 6 (fun w' => Below w12.heap.size w12 w') (by kernel_rfl) ((by (repeat (first | (with_reducible exact Below.refl _ _) | (with_reducible apply bl_drewN) | (with_reducible apply bl_alloc) | (with_reducible apply Below.drew))); done)) (fun hHeld => ?_); refine wpE_take (i := 0) (v := ?_) rfl (by kernel_rfl) (fun _ _ _ h => h) (Or.inl ⟨by kernel_rfl, ?_⟩) (by assumption) ?_
   rotate_left; focus (intro w9 hS9; (try dsimp only at hS9); go_simp; (try with_reducible rfl)); (try simp only [gkA, gkB, gkC, Act.put, gkD, gkE, gkF])
   refine wpE_take (i := 1) (v := ?_) rfl (by kernel_rfl) (fun _ _ _ h => h) (Or.inl ⟨by kernel_rfl, ?_⟩) (by assumption) ?_
   rotate_left; focus (intro w9 hS9; have z0 := HXK.out w9 hS9; clear hS9; go_simp; (try with_reducible rfl)); (try simp only [gkA, gkB, gkC, Act.put, gkD, gkE, gkF])
   refine wpE_take (i := 2) (v := ?_) rfl (by kernel_rfl) (fun _ _ _ h => h) (Or.inl ⟨by kernel_rfl, ?_⟩) (by assumption) ?_
   rotate_left; focus (intro w9 hS9; (try dsimp only at hS9); go_simp; (try with_reducible rfl)); (try simp only [gkA, gkB, gkC, Act.put, gkD, gkE, gkF])
   refine wpE_take (i := 3) (v := ?_) rfl (by kernel_rfl) (fun _ _ _ h => h) (Or.inl ⟨by kernel_rfl, ?_⟩) (by assumption) ?_
   rotate_left; focus (intro w9 hS9; obtain ⟨z0, z1, z2, z3, z4, z5, z6⟩ := HX7.out w9 hS9; clear hS9; go_simp; (try with_reducible rfl)); (try simp only [gkA, gkB, gkC, Act.put, gkD, gkE, gkF])
   refine wpE_ready (rs := [4]) (by kernel_rfl) (by kernel_rfl) ?_; refine AllReadyE.cons rfl (fun K hK => ?_) AllReadyE.nil; go_simp
   with_reducible refine (HCC.out _ (by (repeat (first | (with_reducible exact Below.refl _ _) | (with_reducible apply bl_drewN) | (with_reducible apply bl_alloc) | (with_reducible apply Below.drew))); done)).mono ?_
   rintro r w13 ⟨h', rfl, hn5, hb5⟩; obtain ⟨a5, c5, rfl, -⟩ := hn5.form; have HN5 := Lib.hid (show NewL tSI 140 w12.heap.size w13 (.slice a5 x.ls.length c5) x.ls from hn5); have HB5 := Lib.hid (show Below w12.heap.size w12 w13 from bl_trans (by (repeat (first | (with_reducible exact Below.refl _ _) | (with_reducible apply bl_drewN) | (with_reducible apply bl_alloc) | (with_reducible apply Below.drew))); done) hb5); clear hn5 hb5 HCC; clear hHeld; refine hK.out _ _ (HB5.out) (fun hHeld => ?_); clear hK K; obtain ⟨g, cap, cur, hv2, hgm, hgl, hcur, hcz, hset⟩ := HST.out w13 (.slice a5 x.ls.length c5) HB5.out HN5.out.sl
   injection hv2 with q1 q2 q3
   subst q1 q3; clear q2; refine wpE_ready (rs := [5]) (by kernel_rfl) (by kernel_rfl) ?_; refine AllReadyE.cons rfl (fun K hK => ?_) AllReadyE.nil; go_simp; clear hHeld; refine hK.out _ _ (HB5.out) (fun hHeld => ?_); clear hK K; clear hHeld; refine wpE_out (by kernel_rfl) ?_; refine wpAny_ready (rs := [6]) (by kernel_rfl) (by simp) ?_; refine AllReady.cons rfl (fun K hK => ?_) AllReady.nil; rw [if_pos (show _ = true by kernel_rfl)]; have hs5 := HB5.out.size; have hcz7 : ds.length * 7 ≤ cur.size := hcz; have hw14 := hset k #[.string x.key, .string x.veh, .string x.sys, .int .i64 x.cls, .int .i64 x.tm, .slice a5 x.ls.length c5, .int .i64 x.c] x hk (tChg_mk HX.out (HN5.out.sl.keep (fun q hq => ⟨by omega, hq.2, by omega, fun e => by have := (hown _ e.symm).2; omega⟩) (SameOn.refl _ _))); refine wp_storeA (.tmp 97) (.tmp 96) 49 rfl rfl (cur := cur) (n := 7) (g := g) (k := k * 7) (t2 := 49) Tryz.sizeOf49 rfl (by simp [Value.oneCell']) rfl rfl hcur (by omega) ?_; have hgne : g < w11.heap.size := (hown g rfl).2; generalize hW14 : w13.setRow g (cur.toList.take (k * 7) ++ (#[.string x.key, .string x.veh, .string x.sys, .int .i64 x.cls, .int .i64 x.tm, .slice a5 x.ls.length c5, .int .i64 x.c] : Array Value).toList ++ cur.toList.drop (k * 7 + 7)).toArray = w14; have hoth : ∀ q, q ≠ g → w14.heap[q]? = w13.heap[q]? := fun q hq => by rw [← hW14]; exact setRow_other _ _ _ _ hq
   have hsz14 : w14.heap.size = w13.heap.size := by rw [← hW14]; simp [World.setRow]
   have hl15 := lt_of_heap HY12.out.b3; have HT16 := Lib.hid (show BB (w.heap.size + 3) (.slice none 0 0) (.slice none 0 0) w14 from (hoth _ (by omega)).trans ((HB5.out.block _ hl15).trans HY12.out.b3)); have HB16 := Lib.hid (show Below w.heap.size w w14 from by rw [← hW14]; exact below_setRow (bl_trans HB12.out HB5.out) (bl_trans HB12.out HB5.out).size (by omega)); have HG16 := Lib.hid (show BB w11.heap.size (.slice ae2 es9.length ce2) (.slice (some ⟨g, 0, none⟩) ds.length cd2) w14 from (hoth _ (by omega)).trans ((HB5.out.block _ h12').trans HG12.out)); have HSE16 := Lib.hid (show SlIs (tEnt 101) (fun q => w.heap.size + 4 ≤ q ∧ q < w11.heap.size) w14 (.slice ae2 es9.length ce2) es9 from HSE.out.keep (fun q hq => ⟨hq.1, hq.2.1⟩) (fun q hq => (hoth q (by omega)).trans ((HB5.out.block q (by omega)).trans (HBO.out.block q hq.2.1)))); have hs16 : OwnS (tChg eL) 49 m (fun q => m ≤ q ∧ q < w13.heap.size ∧ q ≠ w11.heap.size ∧ some q ≠ (Value.slice (some ⟨g, 0, none⟩) ds.length cd2).ownBlock) w14 (.slice (some ⟨g, 0, none⟩) ds.length cd2) (ds.set k x) := by rw [← hW14]; exact hw14
   have HSD16 := Lib.hid (show SlIs (tChg eL) (fun q => w.heap.size + 4 ≤ q ∧ q < w14.heap.size) w14 (.slice (some ⟨g, 0, none⟩) ds.length cd2) (putP ds x) from by
    rw [← HPUT.out]
    exact hs16.sl.keep (fun q hq => by
     rcases hq with q1 | q1
     · exact ⟨by omega, by omega⟩
     · have q2 : g = q := by simpa [Value.ownBlock] using q1
       exact ⟨by omega, by omega⟩) (SameOn.refl _ _))
   clear hw14 hs16 hoth hset hcur hcz hcz7 hW14 HST; obtain ⟨r0, r1, rf⟩ := blk2 HG16.out; obtain ⟨s0, s1, sf⟩ := blk2 HT16.out; have s0' : w14.cell? ⟨w.heap.size + 1 + 1 + 1, 0, none⟩ = some (.slice none 0 0) := s0; have s1' : w14.cell? ⟨w.heap.size + 1 + 1 + 1, 1, none⟩ = some (.slice none 0 0) := s1; have sf' : ∀ q, w14.frozen? ⟨w.heap.size + 1 + 1 + 1, q, none⟩ = false := sf; have hl16 : w.heap.size + 1 + 1 + 1 < w14.heap.size := by omega
   have hl17 : w.heap.size + 1 + 1 + 1 ≠ w11.heap.size := by omega
   clear s0 s1 sf; refine hK _ _ ?_; clear hK K; refine wpAny_done (by kernel_rfl) ?_ _; go_wp2; have g5 : ((w14.setCell ⟨w.heap.size + 1 + 1 + 1, 0, none⟩ (.slice ae2 es9.length ce2)).setCell ⟨w.heap.size + 1 + 1 + 1, 1, none⟩ (.slice (some ⟨g, 0, none⟩) ds.length cd2)).heap[w.heap.size + 1 + 1 + 1]? = some (.cells #[(.slice ae2 es9.length ce2), (.slice (some ⟨g, 0, none⟩) ds.length cd2)] 70 (0, 0)) := heap_setCell_same _ _ _ _ _ _ (heap_setCell_same _ _ _ _ _ _ HT16.out); have b5 : Below w.heap.size w ((w14.setCell ⟨w.heap.size + 1 + 1 + 1, 0, none⟩ (.slice ae2 es9.length ce2)).setCell ⟨w.heap.size + 1 + 1 + 1, 1, none⟩ (.slice (some ⟨g, 0, none⟩) ds.length cd2)) := bl_set (bl_set HB16.out _ (by simp only; omega)) _ (by simp only; omega); have hoth : ∀ q, w.heap.size + 4 ≤ q → ((w14.setCell ⟨w.heap.size + 1 + 1 + 1, 0, none⟩ (.slice ae2 es9.length ce2)).setCell ⟨w.heap.size + 1 + 1 + 1, 1, none⟩ (.slice (some ⟨g, 0, none⟩) ds.length cd2)).heap[q]? = w14.heap[q]? := fun q hq => (Below.heap_setCell _ _ _ _ (by simp only; omega)).trans (Below.heap_setCell _ _ _ _ (by simp only; omega))
   have hz17 : w14.heap.size = ((w14.setCell ⟨w.heap.size + 1 + 1 + 1, 0, none⟩ (.slice ae2 es9.length ce2)).setCell ⟨w.heap.size + 1 + 1 + 1, 1, none⟩ (.slice (some ⟨g, 0, none⟩) ds.length cd2)).heap.size := by simp
   obtain ⟨k0, k1, -⟩ := blk2 g5; generalize (w14.setCell ⟨w.heap.size + 1 + 1 + 1, 0, none⟩ (.slice ae2 es9.length ce2)).setCell ⟨w.heap.size + 1 + 1 + 1, 1, none⟩ (.slice (some ⟨g, 0, none⟩) ds.length cd2) = wf at *; refine bodyPost_ret (v := .tuple #[.agg #[(.slice ae2 es9.length ce2), (.slice (some ⟨g, 0, none⟩) ds.length cd2)], .int .i64 0]) (by simp [results, Tryz.results21, go_sem, k0, k1]) rfl ?_; rw [HR.out]; exact ⟨(.slice ae2 es9.length ce2), (.slice (some ⟨g, 0, none⟩) ds.length cd2), rfl, HSE16.out.keep (fun q hq => ⟨fun _ => by omega, by omega⟩) (fun q hq => hoth q hq.1), HSD16.out.keep (fun q hq => ⟨fun _ => by omega, by omega⟩) (fun q hq => hoth q hq.1), b5, fun h => absurd rfl h⟩
end Go.Proofs.YtifcelebfagjbaaGreatDoor
namespace Go.Tw.Po
open Go.RowKit Go.Tw Go.Sort Go.Tw.Ord
theorem clean_take {l : List SI} {k : Nat} (hk : k < l.length) : cleanP (l.take (k + 1)) = if l[k].n = 0 then cleanP (l.take k) else cleanP (l.take k) ++ [l[k]] := by
 unfold cleanP; rw [List.take_succ_eq_append_getElem hk, List.filter_append, List.filter_cons, List.filter_nil]
 by_cases h : l[k].n = 0 <;> simp [h]
theorem ent_nil {es : List Ent} {k : ByteArray} {t : Int} {ps : List SI} (h : cleanP ps = []) : enterL es k t ps = (es, 0) := by unfold enterL; rw [if_pos h]
theorem ent_go {es : List Ent} {k : ByteArray} {t : Int} {ps : List SI} (h : cleanP ps ≠ []) : enterL es k t ps = postL es ⟨k, t, cleanP ps⟩ := by unfold enterL; rw [if_neg h]
end Go.Tw.Po
namespace Go.Proofs.YtifcelebfagjbaaGreatDoor
open Go.RowKit Go.Tw Go.Tw.Ord Go.Tw.Po Go.Sort
def EntRE (R : Nat → Prop) (w : World) (vd : Value) (es : List Ent) (r : List Ent × Int) (e : Ending) (w' : World) : Prop := (∃ ve, e = .returned (.tuple #[.agg #[ve, vd], .int .i64 r.2]) ∧ SlIs (tEnt 101) (fun k => R k ∧ k < w'.heap.size) w' ve (if r.2 = 0 then r.1 else es)) ∧ Below w.heap.size w w'
structure NW (n : Nat) (ve vd : Value) (wr : World) : Prop where
 b0 : BB n ve vd wr
 b1 : BB (n + 1) (.slice none 0 0) (.slice none 0 0) wr
theorem NW.same {n : Nat} {ve vd : Value} {w w' : World} (h : NW n ve vd w) (hs : ∀ k, n ≤ k → k ≤ n + 1 → w'.heap[k]? = w.heap[k]?) : NW n ve vd w' :=
 ⟨(hs n (Nat.le_refl _) (by omega)).trans h.b0, (hs (n + 1) (by omega) (by omega)).trans h.b1⟩
theorem NW.step {n B : Nat} {ve vd : Value} {w w' : World} (h : NW n ve vd w) (hb : Below B w w') (hB : n + 1 < B) : NW n ve vd w' := h.same fun k _ hk => hb.block k (by omega)
set_option maxRecDepth 100000 in
set_option maxHeartbeats 8000000 in
theorem enterR_any (R : Nat → Prop) (es : List Ent) (ve : Value) (ad : Option Addr) (nd cd : Nat) (key : ByteArray) (tm : Int) (ps : List SI) (vp : Value) (w : World) (hR : ∀ k, w.heap.size ≤ k → R k) (he : SlIs (tEnt 101) (fun k => R k ∧ k < w.heap.size) w ve es) (hp : SlIs tSI (· < w.heap.size) w vp ps) (hk : key.size ≤ maxLen) (ht : i64ok tm) (hes : ∀ x ∈ es, EOk x) (hl : es.length ≤ 1000) (hep : ps.length ≤ 4) :
  Calls Tryz.prog 75 #[.agg #[ve, .slice ad nd cd], .string key, .int .i64 tm, vp] w (EntRE R w (.slice ad nd cd) es (enterL es key tm ps)) := by
 have n0 := alloc2_0 w (.cells #[ve, .slice ad nd cd] 70) (.cells #[.slice none 0 0, .slice none 0 0] 70); have n1 := alloc2_1 w (.cells #[ve, .slice ad nd cd] 70) (.cells #[.slice none 0 0, .slice none 0 0] 70); have HY := Lib.hid (show NW w.heap.size ve (.slice ad nd cd) _ from ⟨n0, n1⟩); have HB0 := Lib.hid (bl_alloc (bl_alloc (Below.refl w.heap.size w) (.cells #[ve, .slice ad nd cd] 70)) (.cells #[.slice none 0 0, .slice none 0 0] 70)); obtain ⟨ae, ce, _, _, rfl, -⟩ := id he; obtain ⟨ap, cp, bp, op, rfl, hp1, hp2, hpo⟩ := si_open hp; have HPO := Lib.hid hpo; have HE := Lib.hid he; have HRR := Lib.hid hR; have HES := Lib.hid hes; have HKZ := Lib.hid hk; have HTM := Lib.hid ht; unfold maxLen at hp2; clear he hR hp hpo hes hk ht n0 n1
 go_enter Tryz.func75, Tryz.ntmps75
 go_upto_region 1 with (fail)
 generalize (w.alloc (.cells #[.slice ae es.length ce, .slice ad nd cd] 70)).alloc (.cells #[.slice none 0 0, .slice none 0 0] 70) = w0 at HY HB0 ⊢; have hl0 := lt_of_heap HY.out.b1; have o0 : OwnSl tSI 101 w0.heap.size (w0.alloc (.cells #[] 101)) (.slice (some ⟨w0.heap.size, 0, none⟩) 0 0) [] := OwnSl.lit (css := []) rfl trivial (Nat.le_refl _) (by decide); have HN0 := Lib.hid (NewL.ofOwn ownSI o0 (Nat.le_refl _)); have HA := Lib.hid (bl_alloc (Below.refl w0.heap.size w0) (.cells #[] 101)); clear o0
 go_upto_region 2 with (fail)
 generalize w0.alloc (.cells #[] 101) = w1 at HN0 HA ⊢; have HY1 := Lib.hid (HY.out.step HA.out hl0); have HB1 := Lib.hid (bl_trans HB0.out HA.out); have hz1 := HA.out.size; clear HY HB0; go_wp2
 go_loopg [10, 11] ps.length (fun g sv i wr => ∃ k : Nat, k + g = ps.length ∧ i = .int .i64 k ∧ NewL tSI 101 w0.heap.size wr sv (cleanP (ps.take k)) ∧ Hid (Below w0.heap.size w1 wr))
 case atStart => exact ⟨0, by omega, rfl, HN0.out, Lib.hid (Below.refl _ _)⟩
 case round =>
  obtain ⟨k, hk, rfl, hn, HBW⟩ := hrel; have HN := Lib.hid hn; obtain ⟨aO, cO, rfl, -⟩ := hn.form; have hcl : (cleanP (ps.take k)).length ≤ k := Nat.le_trans (clean_len _) (by rw [List.length_take]; omega); have HWW := Lib.hid (HB1.out.trans (HBW.out.mono (by omega))); clear hn
  by_cases hlt : k < ps.length
  · obtain ⟨rfl, -, hbi, hok, c0, c1⟩ := HPO.out wr (.of_below HWW.out) k hlt
    have k0 : (0 : Int) ≤ (k : Int) := by omega
    have k1 : (k : Int) < (ps.length : Int) := by omega
    have HCT := Lib.hid (clean_take hlt); generalize ps[k] = p at *; obtain ⟨xs, xn⟩ := p; simp only at c0 c1 HCT; have hwz : w0.heap.size ≤ wr.heap.size := Nat.le_trans hz1 HBW.out.size
    by_cases hz : xn = 0
    · subst hz
      clear hok; go_wp2
      go_roundg (ps.length - (k + 1))
      case measure => omega
      case rel => exact ⟨k + 1, by omega, by go_num, by rw [HCT.out, if_pos (by trivial)]; exact HN.out, HBW⟩
    · have hzn : (xn != 0) = true := by simpa using hz
      have HZ := Lib.hid hz; have HNX := Lib.hid (show New tSI wr.heap.size wr (siCells ⟨xs, xn⟩) ⟨xs, xn⟩ from ⟨[], tSI_own_mk hok, List.nodup_nil, fun b hb => by simp at hb⟩); clear hok hz
      go_wp2_with (at_builtin
                   refine wpList_append_new (.tmp 27) (.tmp 32) rfl 54 rfl slPst rfl HN.out (Below.refl _ _) rfl HNX.out (by omega) (by unfold maxLen; omega) hwz ?_; intro v' w5 hn5 hb5; have HN5 := Lib.hid hn5; have HB5 := Lib.hid (HBW.out.trans hb5)
                   clear hn5 hb5)
      go_roundg (ps.length - (k + 1))
      case measure => omega
      case rel => exact ⟨k + 1, by omega, by go_num, by rw [HCT.out, if_neg HZ.out]; exact HN5.out, HB5⟩
  · have hkd : decide ((k : Int) < (ps.length : Int)) = false := by simp; omega
    rw [show ps.take k = ps from List.take_of_length_le (by omega)] at HN hcl ⊢; have HYW := Lib.hid (HY1.out.step HBW.out (by omega)); obtain ⟨d0, d1, -⟩ := blk2 HYW.out.b0; obtain ⟨f0, f1, ff⟩ := blk2 HYW.out.b1; have hl1 := lt_of_heap HYW.out.b1
    by_cases hnil : cleanP ps = []
    · have hlz : (cleanP ps).length = 0 := by rw [hnil]; rfl
      have HR := Lib.hid (ent_nil (es := es) (k := key) (t := tm) hnil); rw [hlz] at HN ⊢; clear hnil hcl; go_wp2; have g5 : ((wr.setCell ⟨w.heap.size + 1, 0, none⟩ (.slice ae es.length ce)).setCell ⟨w.heap.size + 1, 1, none⟩ (.slice ad nd cd)).heap[w.heap.size + 1]? = some (.cells #[.slice ae es.length ce, .slice ad nd cd] 70 (0, 0)) := heap_setCell_same _ _ _ _ _ _ (heap_setCell_same _ _ _ _ _ _ HYW.out.b1); have b5 : Below w.heap.size w ((wr.setCell ⟨w.heap.size + 1, 0, none⟩ (.slice ae es.length ce)).setCell ⟨w.heap.size + 1, 1, none⟩ (.slice ad nd cd)) := bl_set (bl_set HWW.out _ (by simp only; omega)) _ (by simp only; omega); obtain ⟨k0, k1, -⟩ := blk2 g5; generalize (wr.setCell ⟨w.heap.size + 1, 0, none⟩ (.slice ae es.length ce)).setCell ⟨w.heap.size + 1, 1, none⟩ (.slice ad nd cd) = wq at *; refine bodyPost_ret (v := .tuple #[.agg #[.slice ae es.length ce, .slice ad nd cd], .int .i64 0]) (by simp [results, Tryz.results75, go_sem, k0, k1]) rfl ?_; rw [HR.out]; exact ⟨⟨_, rfl, (HE.out.keep (fun q hq => ⟨hq.1, Nat.lt_of_lt_of_le hq.2 b5.size⟩) (fun q hq => b5.block q hq.2))⟩, b5⟩
    · have hlz : (cleanP ps).length ≠ 0 := fun e => hnil (List.eq_nil_of_length_eq_zero e)
      have HGO := Lib.hid (ent_go (es := es) (k := key) (t := tm) hnil); have hlz' : (((cleanP ps).length : Int) == 0) = false := by rw [beq_eq_false_iff_ne]; omega
      have HPR := Lib.hid (postR_any es (.slice ae es.length ce) ⟨key, tm, cleanP ps⟩ (.slice aO (cleanP ps).length cO) wr (HE.out.keep (fun q hq => Nat.lt_of_lt_of_le hq.2 HWW.out.size) (fun q hq => HWW.out.block q hq.2)) HN.out.sl' ⟨HKZ.out, HTM.out⟩ HES.out hl (Nat.le_trans (clean_len _) hep)); unfold LedE at HPR; clear hnil f0 f1 ff
      go_wp2_with (fail)
      with_reducible refine HPR.out.mono ?_
      clear HPR; rintro r w2 ⟨⟨v2, rfl, hs2⟩, hb2⟩; obtain ⟨⟨e9, z⟩, hr⟩ : ∃ r, postL es ⟨key, tm, cleanP ps⟩ = r := ⟨_, rfl⟩; rw [hr] at hs2 HGO ⊢; simp only at hs2 ⊢; obtain ⟨a9, c9, _, _, rfl, -⟩ := id hs2; have HS2 := Lib.hid hs2; have HY2 := Lib.hid (HYW.out.step hb2 hl1); have HB2 := Lib.hid (bl_trans HWW.out hb2); have hwz2 := HWW.out.size; clear hs2 hb2 d0 d1 hr; have hl2 := lt_of_heap HY2.out.b1; obtain ⟨d0, d1, df⟩ := blk2 HY2.out.b0; obtain ⟨f0, f1, ff⟩ := blk2 HY2.out.b1; have hl3 : w.heap.size < w2.heap.size := by omega
      by_cases hz : z = 0
      case neg =>
       have hz1 : (z != 0) = true := by simpa using hz
       have HR := Lib.hid HGO.out; have HZ := Lib.hid hz; clear hz; go_wp2; have g5 := alloc1_old (.cells #[.slice a9 e9.length c9] 68) (show ((w2.setCell ⟨w.heap.size + 1, 0, none⟩ (.slice ae es.length ce)).setCell ⟨w.heap.size + 1, 1, none⟩ (.slice ad nd cd)).heap[w.heap.size + 1]? = some (.cells #[.slice ae es.length ce, .slice ad nd cd] 70 (0, 0)) from heap_setCell_same _ _ _ _ _ _ (heap_setCell_same _ _ _ _ _ _ HY2.out.b1)); have b5 : Below w.heap.size w (((w2.setCell ⟨w.heap.size + 1, 0, none⟩ (.slice ae es.length ce)).setCell ⟨w.heap.size + 1, 1, none⟩ (.slice ad nd cd)).alloc (.cells #[.slice a9 e9.length c9] 68)) := bl_alloc (bl_set (bl_set HB2.out _ (by simp only; omega)) _ (by simp only; omega)) _; obtain ⟨t0, t1, -⟩ := blk2 g5; clear f0 f1 ff d0 d1 df; generalize ((w2.setCell ⟨w.heap.size + 1, 0, none⟩ (.slice ae es.length ce)).setCell ⟨w.heap.size + 1, 1, none⟩ (.slice ad nd cd)).alloc (.cells #[.slice a9 e9.length c9] 68) = wq at *; refine bodyPost_ret (v := .tuple #[.agg #[.slice ae es.length ce, .slice ad nd cd], .int .i64 z]) (by simp [results, Tryz.results75, go_sem, t0, t1]) rfl ?_; rw [HR.out]; exact ⟨⟨_, rfl, by rw [if_neg HZ.out]; exact HE.out.keep (fun q hq => ⟨hq.1, Nat.lt_of_lt_of_le hq.2 b5.size⟩) (fun q hq => b5.block q hq.2)⟩, b5⟩
      subst hz; have HR := Lib.hid HGO.out; go_wp2; have g4 := (Below.heap_setCell w2 ⟨w.heap.size, 0, none⟩ (.slice a9 e9.length c9) (w.heap.size + 1) (by simp only; omega)).trans HY2.out.b1; have g5 := alloc1_old (.cells #[.slice a9 e9.length c9] 68) (show (((w2.setCell ⟨w.heap.size, 0, none⟩ (.slice a9 e9.length c9)).setCell ⟨w.heap.size + 1, 0, none⟩ (.slice a9 e9.length c9)).setCell ⟨w.heap.size + 1, 1, none⟩ (.slice ad nd cd)).heap[w.heap.size + 1]? = some (.cells #[.slice a9 e9.length c9, .slice ad nd cd] 70 (0, 0)) from heap_setCell_same _ _ _ _ _ _ (heap_setCell_same _ _ _ _ _ _ g4)); have b5 : Below w.heap.size w ((((w2.setCell ⟨w.heap.size, 0, none⟩ (.slice a9 e9.length c9)).setCell ⟨w.heap.size + 1, 0, none⟩ (.slice a9 e9.length c9)).setCell ⟨w.heap.size + 1, 1, none⟩ (.slice ad nd cd)).alloc (.cells #[.slice a9 e9.length c9] 68)) := bl_alloc (bl_set (bl_set (bl_set HB2.out _ (by simp only; omega)) _ (by simp only; omega)) _ (by simp only; omega)) _; have hoth : ∀ q, w.heap.size + 2 ≤ q → q < w2.heap.size → ((((w2.setCell ⟨w.heap.size, 0, none⟩ (.slice a9 e9.length c9)).setCell ⟨w.heap.size + 1, 0, none⟩ (.slice a9 e9.length c9)).setCell ⟨w.heap.size + 1, 1, none⟩ (.slice ad nd cd)).alloc (.cells #[.slice a9 e9.length c9] 68)).heap[q]? = w2.heap[q]? := fun q hq hq2 => (Below.heap_alloc _ _ _ (by simpa using hq2)).trans (((Below.heap_setCell _ _ _ _ (by simp only; omega)).trans (Below.heap_setCell _ _ _ _ (by simp only; omega))).trans (Below.heap_setCell _ _ _ _ (by simp only; omega)))
      have hz17 : w2.heap.size < ((((w2.setCell ⟨w.heap.size, 0, none⟩ (.slice a9 e9.length c9)).setCell ⟨w.heap.size + 1, 0, none⟩ (.slice a9 e9.length c9)).setCell ⟨w.heap.size + 1, 1, none⟩ (.slice ad nd cd)).alloc (.cells #[.slice a9 e9.length c9] 68)).heap.size := by simp
      obtain ⟨t0, t1, -⟩ := blk2 g5; clear f0 f1 ff d0 d1 df g4; generalize (((w2.setCell ⟨w.heap.size, 0, none⟩ (.slice a9 e9.length c9)).setCell ⟨w.heap.size + 1, 0, none⟩ (.slice a9 e9.length c9)).setCell ⟨w.heap.size + 1, 1, none⟩ (.slice ad nd cd)).alloc (.cells #[.slice a9 e9.length c9] 68) = wq at *; refine bodyPost_ret (v := .tuple #[.agg #[.slice a9 e9.length c9, .slice ad nd cd], .int .i64 0]) (by simp [results, Tryz.results75, go_sem, t0, t1]) rfl ?_; rw [HR.out]; exact ⟨⟨_, rfl, by rw [if_pos rfl]; exact HS2.out.keep (fun q hq => ⟨HRR.out q (by have := hq.1 (by trivial); omega), by omega⟩) (fun q hq => hoth q (by have := hq.1 (by trivial); omega) hq.2)⟩, b5⟩
end Go.Proofs.YtifcelebfagjbaaGreatDoor
namespace Go.Tw
open Go.RowKit
variable {α : Type} {T : Ty α} {e : TypeId} {B : Nat} {R : Nat → Prop} {w w' : World} {v : Value} {l : List α}
def OwnP {α : Type} (T : Ty α) (e : TypeId) (B : Nat) (R : Nat → Prop) (w : World) (v : Value) (l : List α) : Prop := OwnS T e B (fun k => R k ∧ k < w.heap.size ∧ some k ≠ v.ownBlock) w v l
theorem OwnP.below (h : OwnP T e B R w v l) (hb : Below w.heap.size w w') : OwnP T e B R w' v l :=
 (OwnS.below h (fun _k hk => hk.2.1) hb).mono fun _k hk => ⟨hk.1, Nat.lt_of_lt_of_le hk.2.1 hb.size, hk.2.2⟩
theorem OwnP.sl (h : OwnP T e B R w v l) (hR : ∀ k, B ≤ k → R k) : SlIs T (fun k => R k ∧ k < w.heap.size) w v l :=
 (OwnS.sl h).keep (fun k hk => by
  rcases hk with hk | hk
  · exact ⟨hk.1, hk.2.1⟩
  · have := OwnS.own_lt h k hk
    exact ⟨hR k this.1, this.2⟩) (SameOn.refl _ _)
theorem OwnP.form (h : OwnP T e B R w v l) : ∃ ao cap, v = .slice ao l.length cap ∧ l.length ≤ cap ∧ cap ≤ maxLen := OwnS.form h
section
variable {P : Program} {ops : Array Oper} {rest : List Oper} {o : Oper} {a : Act} {Q : Exit → Act → World → Prop}
theorem wpList_append_P (s x : Operand) (hgd : o.guard = none) (t : TypeId)
  (ho : o.op = .call { callee := .builtin .append, args := #[s, x], argTypes := #[t, t] }) {e' : TypeId} {bytes : Nat} (hT : SlT P t e T.sz bytes) {y : α} {cs : Array Value} (hs : a.eval s = v) (h : OwnP T e B R w v l) (hR : ∀ k, B ≤ k → R k)
  (hx : a.eval x = .slice (some ⟨w.heap.size, 0, none⟩) 1 1) (hy : T.is (fun k => R k ∧ k < w.heap.size ∧ some k ≠ v.ownBlock) w cs.toList y) (hbytes : (l.length + 1) * bytes ≤ 140737488355328) (h63 : l.length + 1 ≤ maxLen) (hB : B ≤ w.heap.size)
  (k : ∀ v' w', OwnP T e B R w' v' (l ++ [y]) → Below B w w' → wpList P ops Q rest (a.put o.dst v') w') : wpList P ops Q (o :: rest) a (w.alloc (.cells cs e')) := by
 have hv := OwnS.own_lt h; refine wpList_append_oneS s x hgd t ho hT hs h (fun k hk => ⟨hk.2.1, hk.2.2⟩) hx hy (fun k hk => ⟨hk.2.1, hk.2.2⟩) hbytes h63 hB fun v' w' g1 g2 g3 => k v' w' (OwnS.mono g1 fun q hq => ?_) ?_
 · have sz := g2.size
   simp at sz
   have key : R q ∧ q < w.heap.size + 1 ∧ some q ≠ v.ownBlock := by
    rcases hq with hq | hq | rfl
    · exact ⟨hq.1, by omega, hq.2.2⟩
    · exact ⟨hq.1, by omega, hq.2.2⟩
    · exact ⟨hR _ hB, by omega, fun e => by have := hv _ e.symm; omega⟩
   refine ⟨key.1, by omega, ?_⟩
   rcases g3 with g3 | g3
   · rw [g3]; exact key.2.2
   · rw [g3]; simp; omega
 · exact ((Below.refl _ _).alloc hB _).trans (Below.of_grown g2 (by simp; omega) (fun k hk => (hv k hk).1))
end
end Go.Tw
namespace Go.Tw.Po
open Go.RowKit Go.Tw Go.Sort Go.Tw.Ord Go.Proofs.YtifcelebfagjbaaGreatDoor
def loK (x : Chg) (l : List Chg) : List Chg := l.filter fun y => ltB y.key x.key
def hiK (x : Chg) (l : List Chg) : List Chg := l.filter fun y => ltB x.key y.key
def outK (x : Chg) (l : List Chg) : List Chg := loK x l ++ if hiK x l = [] then [] else x :: hiK x l
def inK (x : Chg) (l : List Chg) : Bool := !(hiK x l).isEmpty
theorem outK_len (x : Chg) (l : List Chg) : (outK x l).length ≤ 2 * l.length + 1 := by
 unfold outK loK hiK; have h1 := List.length_filter_le (fun y => ltB y.key x.key) l; have h2 := List.length_filter_le (fun y => ltB x.key y.key) l; rw [List.length_append]
 split
 · simp; omega
 · simp; omega
theorem loK_take {x : Chg} {l : List Chg} {k : Nat} (hk : k < l.length) : loK x (l.take (k + 1)) = if ltB l[k].key x.key = true then loK x (l.take k) ++ [l[k]] else loK x (l.take k) := by
 unfold loK; rw [List.take_succ_eq_append_getElem hk, List.filter_append, List.filter_cons, List.filter_nil]
 split <;> simp
theorem hiK_take {x : Chg} {l : List Chg} {k : Nat} (hk : k < l.length) : hiK x (l.take (k + 1)) = if ltB x.key l[k].key = true then hiK x (l.take k) ++ [l[k]] else hiK x (l.take k) := by
 unfold hiK; rw [List.take_succ_eq_append_getElem hk, List.filter_append, List.filter_cons, List.filter_nil]
 split <;> simp
theorem put_eq {x : Chg} {l : List Chg} {k : Nat} (hk : k < l.length) (h : l[k].key = x.key) : outK x (l.take (k + 1)) = outK x (l.take k) ∧ inK x (l.take (k + 1)) = inK x (l.take k) := by
 have h1 := loK_take (x := x) hk; have h2 := hiK_take (x := x) hk; rw [h, ltB_irrefl] at h1 h2; simp only [Bool.false_eq_true, if_false] at h1 h2; unfold outK inK; rw [h1, h2]; exact ⟨rfl, rfl⟩
theorem put_first {x : Chg} {l : List Chg} {k : Nat} (hk : k < l.length) (h : ltB x.key l[k].key = true) (hi : inK x (l.take k) = false) : outK x (l.take (k + 1)) = outK x (l.take k) ++ [x] ++ [l[k]] ∧ inK x (l.take (k + 1)) = true := by
 have h1 := loK_take (x := x) hk; have h2 := hiK_take (x := x) hk; rw [ltB_asymm h] at h1; rw [h] at h2; simp only [Bool.false_eq_true, if_false, if_true] at h1 h2; have h3 : hiK x (l.take k) = [] := by unfold inK at hi; simpa using hi
 unfold outK inK; rw [h1, h2, h3]; simp
theorem put_more {x : Chg} {l : List Chg} {k : Nat} (hk : k < l.length) (hs : SortK l) (hi : inK x (l.take k) = true) : ltB x.key l[k].key = true ∧ outK x (l.take (k + 1)) = outK x (l.take k) ++ [l[k]] ∧ inK x (l.take (k + 1)) = true := by
 have h3 : hiK x (l.take k) ≠ [] := by unfold inK at hi; simpa using hi
 obtain ⟨z, hz⟩ := List.exists_mem_of_ne_nil _ h3; obtain ⟨hz1, hz2⟩ := List.mem_filter.1 hz; obtain ⟨i, hi2, rfl⟩ := List.getElem_of_mem hz1; rw [List.getElem_take] at hz2; have hik : i < k := by rw [List.length_take] at hi2; omega
 have hlt := List.pairwise_iff_getElem.1 hs i k (by omega) hk hik; have h : ltB x.key l[k].key = true := ltB_trans hz2 hlt; have h1 := loK_take (x := x) hk; have h2 := hiK_take (x := x) hk; rw [ltB_asymm h] at h1; rw [h] at h2; simp only [Bool.false_eq_true, if_false, if_true] at h1 h2; refine ⟨h, ?_, ?_⟩
 · unfold outK
   rw [h1, h2, if_neg h3, if_neg (by simp)]; simp
 · unfold inK
   rw [h2]; simp
theorem put_less {x : Chg} {l : List Chg} {k : Nat} (hk : k < l.length) (hne : l[k].key ≠ x.key) (hn : ltB x.key l[k].key = false) (hi : inK x (l.take k) = false) : outK x (l.take (k + 1)) = outK x (l.take k) ++ [l[k]] ∧ inK x (l.take (k + 1)) = false := by
 have h : ltB l[k].key x.key = true := by
  cases hq : ltB l[k].key x.key with
  | true => rfl
  | false => exact absurd (ltB_total hq hn) hne
 have h1 := loK_take (x := x) hk; have h2 := hiK_take (x := x) hk; rw [h] at h1; rw [hn] at h2; simp only [Bool.false_eq_true, if_false, if_true] at h1 h2; have h3 : hiK x (l.take k) = [] := by unfold inK at hi; simpa using hi
 unfold outK inK; rw [h1, h2, h3]; simp
theorem put_last {x : Chg} {l : List Chg} (hs : SortK l) : putP l x = if inK x l = true then outK x l else outK x l ++ [x] := by
 rw [put_ref hs]; unfold outK inK
 show loK x l ++ x :: hiK x l = _
 by_cases h : hiK x l = []
 · rw [h]; simp
 · rw [if_neg h, if_pos (by simpa using h)]
end Go.Tw.Po
namespace Go.Tw
open Go.RowKit
theorem OwnP.ofNil {α : Type} {T : Ty α} {e : TypeId} {B : Nat} {R : Nat → Prop} {w : World} {v : Value} (h : OwnSl T e B w v ([] : List α)) : OwnP T e B R w v ([] : List α) := by
 obtain ⟨css, h1, h2⟩ := h
 cases css with
 | nil => exact ⟨[], h1, trivial⟩
 | cons _ _ => exact h2.elim
end Go.Tw
namespace Go.Proofs.YtifcelebfagjbaaGreatDoor
open Go.RowKit Go.Tw Go.Tw.Ord Go.Tw.Po Go.Sort
set_option maxRecDepth 100000 in
set_option maxHeartbeats 8000000 in
theorem putR_any (R : Nat → Prop) (l : List Chg) (v : Value) (x : Chg) (xa : Option Addr) (xc : Nat) (w : World) (hR : ∀ k, w.heap.size ≤ k → R k) (h : SlIs (tChg eL) (fun k => R k ∧ k < w.heap.size) w v l) (hv : SlIs tSI (fun k => R k ∧ k < w.heap.size) w (.slice xa x.ls.length xc) x.ls) (hx : ChgOk x) (hl : l.length ≤ 1000) (hs : SortK l) :
  Calls Tryz.prog 77 #[v, .agg #[.string x.key, .string x.veh, .string x.sys, .int .i64 x.cls, .int .i64 x.tm, .slice xa x.ls.length xc, .int .i64 x.c]] w fun e w' => (∃ v', e = .returned v' ∧ SlIs (tChg eL) (fun k => R k ∧ k < w'.heap.size) w' v' (putP l x)) ∧ Below w.heap.size w w' := by
 obtain ⟨ao, cap, bi, off, rfl, hl1, hm1, ho⟩ := chg_open h; unfold maxLen at hm1; have HO := Lib.hid ho; have HV := Lib.hid hv; have HX := Lib.hid hx; have HS := Lib.hid hs; have HRR := Lib.hid hR; have n0 := alloc1_0 w (.cells #[.string x.key, .string x.veh, .string x.sys, .int .i64 x.cls, .int .i64 x.tm, .slice xa x.ls.length xc, .int .i64 x.c] 49); have HB0 := Lib.hid (bl_alloc (Below.refl w.heap.size w) (.cells #[.string x.key, .string x.veh, .string x.sys, .int .i64 x.cls, .int .i64 x.tm, .slice xa x.ls.length xc, .int .i64 x.c] 49)); clear h hv hx hs ho hR
 go_enter Tryz.func77, Tryz.ntmps77
 go_upto_region 1 with (fail)
 generalize w.alloc (.cells #[.string x.key, .string x.veh, .string x.sys, .int .i64 x.cls, .int .i64 x.tm, .slice xa x.ls.length xc, .int .i64 x.c] 49) = w0 at n0 HB0 ⊢; have hl0 := lt_of_heap n0; have HN0 := Lib.hid n0; have o0 : OwnSl (tChg eL) 49 w0.heap.size (w0.alloc (.cells #[] 49)) (.slice (some ⟨w0.heap.size, 0, none⟩) 0 0) [] := OwnSl.lit (css := []) rfl trivial (Nat.le_refl _) (by decide); have HP0 := Lib.hid (show OwnP (tChg eL) 49 w0.heap.size R _ _ [] from OwnP.ofNil o0); have HA := Lib.hid (bl_alloc (Below.refl w0.heap.size w0) (.cells #[] 49)); clear o0 n0
 go_upto_region 2 with (fail)
 generalize w0.alloc (.cells #[] 49) = w1 at HP0 HA ⊢; have hz1 := HA.out.size; go_wp2
 go_loopg [5, 6, 7] l.length (fun g sv fv i wr => ∃ k : Nat, k + g = l.length ∧ i = .int .i64 k ∧ fv = .bool (inK x (l.take k)) ∧ OwnP (tChg eL) 49 w0.heap.size R wr sv (outK x (l.take k)) ∧ Hid (Below w0.heap.size w0 wr))
 case atStart => exact ⟨0, by omega, rfl, rfl, HP0.out, HA⟩
 case round =>
  obtain ⟨k, hk, rfl, rfl, hn, HBW⟩ := hrel; have HN := Lib.hid hn; obtain ⟨aO, cO, rfl, -⟩ := hn.form; have hol : (outK x (l.take k)).length ≤ 2 * k + 1 := Nat.le_trans (outK_len _ _) (by rw [List.length_take]; omega); have HWW := Lib.hid (bl_trans HB0.out HBW.out); have gx := (HBW.out.block _ hl0).trans HN0.out; obtain ⟨x0, x1, x2, x3, x4, x5, x6, -⟩ := blk7 gx; clear hn gx
  by_cases hlt : k < l.length
  · obtain ⟨rfl, -, hbi, hok, hv, hsl, d0, d1, d2, d3, d4, d5, d6⟩ := HO.out wr (fun q hq => HWW.out.block q hq.2) k hlt
    have k0 : (0 : Int) ≤ (k : Int) := by omega
    have k1 : (k : Int) < (l.length : Int) := by omega
    have HEQ := Lib.hid (put_eq (x := x) hlt); have HFI := Lib.hid (put_first (x := x) hlt); have HMO := Lib.hid (put_more (x := x) hlt HS.out); have HLE := Lib.hid (put_less (x := x) hlt); generalize l[k] = y at *
    obtain ⟨hva, hvn, hvc, hve⟩ : ∃ a n c, hv = .slice a n c := by
     obtain ⟨a, c, _, _, e, -⟩ := hsl; exact ⟨a, _, c, e⟩
    subst hve; have hbw : bi < wr.heap.size := Nat.lt_of_lt_of_le hbi HWW.out.size; have hwz := HBW.out.size; have HOY := Lib.hid hok; have HSL := Lib.hid hsl; have HR0 := Lib.hid (show ∀ q, w0.heap.size ≤ q → R q from fun q hq => HRR.out q (by omega)); have hbw0 : bi < w0.heap.size := by omega
    have HD7 := Lib.hid (show ∀ w', Below w0.heap.size wr w' → w'.cell? ⟨bi, off + k * 7, none⟩ = some (.string y.key) ∧ w'.cell? ⟨bi, off + k * 7 + 1, none⟩ = some (.string y.veh) ∧ w'.cell? ⟨bi, off + k * 7 + 2, none⟩ = some (.string y.sys) ∧ w'.cell? ⟨bi, off + k * 7 + 3, none⟩ = some (.int .i64 y.cls) ∧ w'.cell? ⟨bi, off + k * 7 + 4, none⟩ = some (.int .i64 y.tm) ∧ w'.cell? ⟨bi, off + k * 7 + 5, none⟩ = some (.slice hva hvn hvc) ∧ w'.cell? ⟨bi, off + k * 7 + 6, none⟩ = some (.int .i64 y.c) from fun w' hw' =>
     ⟨(hw'.cell (p := ⟨bi, off + k * 7, none⟩) hbw0).trans d0, (hw'.cell (p := ⟨bi, off + k * 7 + 1, none⟩) hbw0).trans d1, (hw'.cell (p := ⟨bi, off + k * 7 + 2, none⟩) hbw0).trans d2, (hw'.cell (p := ⟨bi, off + k * 7 + 3, none⟩) hbw0).trans d3, (hw'.cell (p := ⟨bi, off + k * 7 + 4, none⟩) hbw0).trans d4, (hw'.cell (p := ⟨bi, off + k * 7 + 5, none⟩) hbw0).trans d5, (hw'.cell (p := ⟨bi, off + k * 7 + 6, none⟩) hbw0).trans d6⟩)
    have HX7 := Lib.hid (show ∀ w', Below w0.heap.size wr w' → w'.cell? ⟨w.heap.size, 0, none⟩ = some (.string x.key) ∧ w'.cell? ⟨w.heap.size, 1, none⟩ = some (.string x.veh) ∧ w'.cell? ⟨w.heap.size, 2, none⟩ = some (.string x.sys) ∧ w'.cell? ⟨w.heap.size, 3, none⟩ = some (.int .i64 x.cls) ∧ w'.cell? ⟨w.heap.size, 4, none⟩ = some (.int .i64 x.tm) ∧ w'.cell? ⟨w.heap.size, 5, none⟩ = some (.slice xa x.ls.length xc) ∧ w'.cell? ⟨w.heap.size, 6, none⟩ = some (.int .i64 x.c) from fun w' hw' => by
     obtain ⟨z0, z1, z2, z3, z4, z5, z6, -⟩ := blk7 ((hw'.block _ (by omega)).trans ((HBW.out.block _ hl0).trans HN0.out))
     exact ⟨z0, z1, z2, z3, z4, z5, z6⟩)
    have HDO := Lib.hid (show ∀ w' u, Below w0.heap.size wr w' → OwnP (tChg eL) 49 w0.heap.size R w' u (outK x (l.take k)) → (tChg eL).is (fun q => R q ∧ q < w'.heap.size ∧ some q ≠ u.ownBlock) w' (cCells y (.slice hva hvn hvc)) y from fun w' u hw' hu => tChg_mk HOY.out (HSL.out.keep (fun q hq => ⟨hq.1, by have := hw'.size; omega, fun e => by have := (OwnS.own_lt hu q e.symm).1; omega⟩) (fun q hq => hw'.block q (by have := hq.2; omega)))); clear hok hsl; obtain ⟨b, hbq⟩ : ∃ b, (y.key.toList == x.key.toList) = b := ⟨_, rfl⟩; have HKE := Lib.hid (show decide (y.key = x.key) = b by rw [← hbq, eq_str])
    cases b with
    | true =>
     have HE2 := Lib.hid (HEQ.out (by simpa using HKE.out))
     go_wp2_with (go_quiet (fail))
     go_roundg (l.length - (k + 1))
     case measure => omega
     case rel => exact ⟨k + 1, by omega, by go_num, by rw [HE2.out.2], by rw [HE2.out.1]; exact HN.out.below (bl_drewN (Below.refl _ _) _), Lib.hid (bl_drewN HBW.out _)⟩
    | false =>
     obtain ⟨f, hf⟩ : ∃ f, inK x (l.take k) = f := ⟨_, rfl⟩; obtain ⟨q, hq⟩ : ∃ q, Op.bytesLess y.key.toList x.key.toList = q := ⟨_, rfl⟩
     have HQ := Lib.hid (show ltB x.key y.key = !q from by
      have h0 : ltB y.key x.key = q := (less_str _ _).symm.trans hq
      cases q with
      | true => exact ltB_asymm h0
      | false =>
       cases h1 : ltB x.key y.key with
       | true => rfl
       | false => exact absurd (ltB_total h0 h1) (by simpa using HKE.out))
     rw [hf] at HFI HMO HLE ⊢
     go_upto_region 7 with (go_quiet (fail))
     have hwa := bl_drewN (Below.refl wr.heap.size wr) nq; generalize wr.drewN nq = wa at hwa ⊢; clear d0 d1 d2 d3 d4 d5 d6 x0 x1 x2 x3 x4 x5 x6; obtain ⟨d0, -⟩ := HD7.out wa (hwa.mono hwz); obtain ⟨x0, -⟩ := HX7.out wa (hwa.mono hwz)
     cases f with
     | true =>
      obtain ⟨m1, m2, m3⟩ := HMO.out (by trivial); have HM2 := Lib.hid m2; have HM3 := Lib.hid m3; clear m1 m2 m3
      go_upto_region 10 with (go_quiet (fail))
      have hwb := bl_trans hwa (bl_drewN (Below.refl wa.heap.size wa) nq); generalize wa.drewN nq = wb at hwb ⊢; clear d0 x0; obtain ⟨d0, d1, d2, d3, d4, d5, d6⟩ := HD7.out wb (hwb.mono hwz); have HNB := Lib.hid (HN.out.below hwb); have HDY := Lib.hid (HDO.out wb _ (hwb.mono hwz) HNB.out); have hzb : w0.heap.size ≤ wb.heap.size := by have := hwb.size; omega
      have HBB := Lib.hid (bl_trans HBW.out hwb)
      go_wp2_with ((at_builtin
                    refine wpList_append_P (.tmp 39) (.tmp 44) rfl 52 rfl slChg rfl HNB.out HR0.out rfl HDY.out (by omega) (by unfold maxLen; omega) hzb ?_; intro v5 w5 hn5 hb5; obtain ⟨a5, c5, rfl, -⟩ := hn5.form; have HN5 := Lib.hid hn5; have HB5 := Lib.hid hb5
                    clear hn5 hb5))
      go_roundg (l.length - (k + 1))
      case measure => omega
      case rel => exact ⟨k + 1, by omega, by go_num, by rw [HM3.out], by rw [HM2.out]; have h := HN5.out; rw [List.length_append] at h; exact h, Lib.hid (HBB.out.trans HB5.out)⟩
     | false =>
      cases q with
      | false =>
       obtain ⟨m2, m3⟩ := HFI.out (by simpa using HQ.out) (by trivial); have HM2 := Lib.hid m2; have HM3 := Lib.hid m3; clear m2 m3; have HXO := Lib.hid (show ∀ w' u, Below w0.heap.size wr w' → OwnP (tChg eL) 49 w0.heap.size R w' u (outK x (l.take k)) → (tChg eL).is (fun q => R q ∧ q < w'.heap.size ∧ some q ≠ u.ownBlock) w' (cCells x (.slice xa x.ls.length xc)) x from fun w' u hw' hu => tChg_mk HX.out (HV.out.keep (fun q hq => ⟨hq.1, by have := hw'.size; omega, fun e => by have := (OwnS.own_lt hu q e.symm).1; omega⟩) (fun q hq => (hw'.block q (by have := hq.2; omega)).trans (HWW.out.block q hq.2)))); have HDZ := Lib.hid (show ∀ w' u, Below w0.heap.size wr w' → OwnP (tChg eL) 49 w0.heap.size R w' u (outK x (l.take k) ++ [x]) → (tChg eL).is (fun q => R q ∧ q < w'.heap.size ∧ some q ≠ u.ownBlock) w' (cCells y (.slice hva hvn hvc)) y from fun w' u hw' hu => tChg_mk HOY.out (HSL.out.keep (fun q hq => ⟨hq.1, by have := hw'.size; omega, fun e => by have := (OwnS.own_lt hu q e.symm).1; omega⟩) (fun q hq => hw'.block q (by have := hq.2; omega))))
       go_wp2_with (first
        | (go_quiet (fail)
           have hwb := bl_trans hwa (bl_drewN (Below.refl wa.heap.size wa) nq); generalize wa.drewN nq = wb at hwb ⊢; clear d0 x0; obtain ⟨d0, d1, d2, d3, d4, d5, d6⟩ := HD7.out wb (hwb.mono hwz); obtain ⟨x0, x1, x2, x3, x4, x5, x6⟩ := HX7.out wb (hwb.mono hwz); have HNB := Lib.hid (HN.out.below hwb); have HDY := Lib.hid (HDO.out wb _ (hwb.mono hwz) HNB.out); have hzb : w0.heap.size ≤ wb.heap.size := by have := hwb.size; omega
           have HBB := Lib.hid (bl_trans HBW.out hwb); have HWB := Lib.hid hwb
           clear hwb hwa)
        | (at_builtin
           have HXY := Lib.hid (HXO.out wb _ (HWB.out.mono hwz) HNB.out); refine wpList_append_P (.tmp 35) (.tmp 37) rfl 52 rfl slChg rfl HNB.out HR0.out rfl HXY.out (by omega) (by unfold maxLen; omega) hzb ?_; intro v5 w5 hn5 hb5; have hf5 := hn5.form; rw [show (outK x (l.take k) ++ [x]).length = (outK x (l.take k)).length + 1 by simp] at hf5; obtain ⟨a5, c5, rfl, -⟩ := hf5; have hw5 := (HWB.out.mono hwz).trans hb5; clear d0 d1 d2 d3 d4 d5 d6 x0 x1 x2 x3 x4 x5 x6; obtain ⟨d0, d1, d2, d3, d4, d5, d6⟩ := HD7.out w5 hw5; have HN5 := Lib.hid hn5; have HDY5 := Lib.hid (HDZ.out w5 _ hw5 hn5); have HBB5 := Lib.hid (HBB.out.trans hb5); have hzb5 : w0.heap.size ≤ w5.heap.size := Nat.le_trans hzb hb5.size; have hl5 : (outK x (l.take k) ++ [x]).length ≤ 2 * k + 2 := by rw [List.length_append]; show _ + 1 ≤ _; omega
           clear hn5 hb5 hw5)
        | (at_builtin
           refine wpList_append_P (.tmp 39) (.tmp 44) rfl 52 rfl slChg rfl HN5.out HR0.out rfl HDY5.out (by omega) (by unfold maxLen; omega) hzb5 ?_; intro v6 w6 hn6 hb6; obtain ⟨a6, c6, rfl, -⟩ := hn6.form; have HN6 := Lib.hid hn6; have HBB6 := Lib.hid (HBB5.out.trans hb6)
           clear hn6 hb6))
       go_roundg (l.length - (k + 1))
       case measure => omega
       case rel => exact ⟨k + 1, by omega, by go_num, by rw [HM3.out], by rw [HM2.out]; have h := HN6.out; simp only [List.length_append, List.length_cons, List.length_nil] at h ⊢; exact h, HBB6⟩
      | true =>
       obtain ⟨m2, m3⟩ := HLE.out (by simpa using HKE.out) (by simpa using HQ.out) (by trivial); have HM2 := Lib.hid m2; have HM3 := Lib.hid m3; clear m2 m3
       go_wp2_with (first
        | (go_quiet (fail)
           have hwb := bl_trans hwa (bl_drewN (Below.refl wa.heap.size wa) nq); generalize wa.drewN nq = wb at hwb ⊢; clear d0 x0; obtain ⟨d0, d1, d2, d3, d4, d5, d6⟩ := HD7.out wb (hwb.mono hwz); obtain ⟨x0, x1, x2, x3, x4, x5, x6⟩ := HX7.out wb (hwb.mono hwz); have HNB := Lib.hid (HN.out.below hwb); have HDY := Lib.hid (HDO.out wb _ (hwb.mono hwz) HNB.out); have hzb : w0.heap.size ≤ wb.heap.size := by have := hwb.size; omega
           have HBB := Lib.hid (bl_trans HBW.out hwb); have HWB := Lib.hid hwb
           clear hwb hwa)
        | (at_builtin
           refine wpList_append_P (.tmp 39) (.tmp 44) rfl 52 rfl slChg rfl HNB.out HR0.out rfl HDY.out (by omega) (by unfold maxLen; omega) hzb ?_; intro v5 w5 hn5 hb5; obtain ⟨a5, c5, rfl, -⟩ := hn5.form; have HN5 := Lib.hid hn5; have HB5 := Lib.hid hb5
           clear hn5 hb5))
       go_roundg (l.length - (k + 1))
       case measure => omega
       case rel => exact ⟨k + 1, by omega, by go_num, by rw [HM3.out], by rw [HM2.out]; have h := HN5.out; rw [List.length_append] at h; exact h, Lib.hid (HBB.out.trans HB5.out)⟩
  · have hkd : decide ((k : Int) < (l.length : Int)) = false := by simp; omega
    rw [show l.take k = l from List.take_of_length_le (by omega)] at HN hol ⊢; have HR0 := Lib.hid (show ∀ q, w0.heap.size ≤ q → R q from fun q hq => HRR.out q (by omega)); have HPL := Lib.hid (put_last (x := x) HS.out); have hzb : w0.heap.size ≤ wr.heap.size := HBW.out.size; obtain ⟨f, hf⟩ : ∃ f, inK x l = f := ⟨_, rfl⟩; rw [hf] at HPL ⊢
    cases f with
    | true =>
     go_wp2; go_ret; exact ⟨⟨_, rfl, by rw [HPL.out, if_pos (by trivial)]; exact HN.out.sl HR0.out⟩, HWW.out⟩
    | false =>
     have HXY := Lib.hid (show (tChg eL).is (fun q => R q ∧ q < wr.heap.size ∧ some q ≠ (Value.slice aO (outK x l).length cO).ownBlock) wr (cCells x (.slice xa x.ls.length xc)) x from tChg_mk HX.out (HV.out.keep (fun q hq => ⟨hq.1, by omega, fun e => by have := (OwnS.own_lt HN.out q e.symm).1; omega⟩) (fun q hq => HWW.out.block q hq.2)))
     go_wp2_with ((at_builtin
                   refine wpList_append_P (.tmp 48) (.tmp 50) rfl 52 rfl slChg rfl HN.out HR0.out rfl HXY.out (by omega) (by unfold maxLen; omega) hzb ?_; intro v5 w5 hn5 hb5; obtain ⟨a5, c5, rfl, -⟩ := hn5.form; have HN5 := Lib.hid hn5; have HB5 := Lib.hid hb5
                   clear hn5 hb5))
     go_ret; exact ⟨⟨_, rfl, by rw [HPL.out, if_neg (by simp)]; have h := HN5.out.sl HR0.out; rw [List.length_append] at h; exact h⟩, HWW.out.trans (HB5.out.mono (by omega))⟩
end Go.Proofs.YtifcelebfagjbaaGreatDoor
namespace Go.Tw.Po
open Go.RowKit Go.Tw
theorem kb_len (s : ByteArray) : (kb s).length = s.size := by show s.data.toList.length = s.data.size; simp
theorem kb_get (s : ByteArray) (i : Nat) (h : i < s.size) : (kb s)[i]? = some s[i] := by
 show s.data.toList[i]? = some (s.data[i]'h)
 simp [h]
theorem ver_short {k s : ByteArray} (h : k.size ≤ s.size + 1) : isVer k s = false := by
 unfold isVer; rw [List.drop_eq_nil_of_le (by rw [kb_len, kb_len]; exact h)]; simp
theorem kb_ext (k : ByteArray) (n : Nat) : kb (k.extract 0 n) = (kb k).take n := by unfold kb; simp [ByteArray.data_extract]
theorem ver_pre {k s : ByteArray} (h : s.size + 1 < k.size) : isVer k s = (decide (k.extract 0 s.size = s) && decide ((k[s.size]'(by omega)).toNat = 35) && !((kb k).drop (s.size + 1)).contains 35) := by
 unfold isVer; rw [pre_iff, kb_len, kb_get k s.size (by omega)]
 have h1 : decide ((kb k).take s.size = kb s) = decide (k.extract 0 s.size = s) := by
  rw [← kb_ext]; exact decide_eq_decide.2 ⟨kb_inj, fun e => by rw [e]⟩
 have h2 : decide (some (k[s.size]'(by omega)) = some 35) = decide ((k[s.size]'(by omega)).toNat = 35) := decide_eq_decide.2 ⟨fun e => by rw [Option.some.inj e]; rfl, fun e => by
  congr 1
  exact UInt8.toNat_inj.1 e⟩
 have h3 : ((kb k).drop (s.size + 1)).isEmpty = false := by
  rw [List.isEmpty_eq_false_iff]; intro e; have := congrArg List.length e; rw [List.length_drop, kb_len] at this; simp at this
  omega
 rw [h1, h2, h3]; simp
theorem ver_end {k : ByteArray} {n : Nat} {pl : Bool} (h : pl = true ↔ ∀ i, n ≤ i → (h : i < k.size) → k[i].toNat ≠ 35) : (!((kb k).drop n).contains 35) = pl := by
 rw [Bool.eq_iff_iff, h, Bool.not_eq_true', Bool.eq_false_iff, ne_eq, List.contains_iff_mem]
 constructor
 · intro hm i h1 h2 e
   refine hm ?_; refine List.mem_of_getElem? (i := i - n) ?_; rw [List.getElem?_drop, show n + (i - n) = i by omega, kb_get k i h2]
   congr 1
   exact UInt8.toNat_inj.1 e
 · intro hm hc
   obtain ⟨i, hi⟩ := List.getElem?_of_mem hc; rw [List.getElem?_drop] at hi
   by_cases hlt : n + i < k.size
   · rw [kb_get k _ hlt] at hi
     exact hm (n + i) (by omega) hlt (by rw [Option.some.inj hi]; rfl)
   · rw [List.getElem?_eq_none (by rw [kb_len]; omega)] at hi
     cases hi
end Go.Tw.Po
namespace Go.Proofs.YtifcelebfagjbaaGreatDoor
open Go.RowKit Go.Tw Go.Tw.Ord Go.Tw.Po Go.Sort
set_option maxRecDepth 100000 in
set_option maxHeartbeats 4000000 in
theorem versionR_any (l : List Ent) (v : Value) (s : ByteArray) (w : World) (h : SlIs (tEnt 101) (· < w.heap.size) w v l) (hs : s.size ≤ 100000) (hl : l.length ≤ 1000000) :
  Calls Tryz.prog 76 #[.agg #[v], .string s] w fun e w' => e = .returned (.int .i64 (verN l s)) ∧ Below w.heap.size w w' := by
 have HB := Lib.hid (bl_alloc (Below.refl w.heap.size w) (.cells #[v] 68)); have n0 := alloc1_0 w (.cells #[v] 68); obtain ⟨ao, cap, bi, off, rfl, h1, h2, ho⟩ := ent_open h; unfold maxLen at h2; have HO := Lib.hid ho; have d0 : (w.alloc (.cells #[.slice ao l.length cap] 68)).cell? ⟨w.heap.size, 0, none⟩ = some (.slice ao l.length cap) := cell_of_row _ _ 0 _ _ _ n0; clear h ho n0
 go_enter Tryz.func76, Tryz.ntmps76
 go_wp2; generalize w.alloc (.cells #[.slice ao l.length cap] 68) = w0 at HB d0 ⊢
 go_loopg [5, 6] l.length (fun g n i wr => ∃ k : Nat, k + g = l.length ∧ i = .int .i64 k ∧ n = .int .i64 (verN (l.take k) s : Nat) ∧ wr = w0)
 case atStart => exact ⟨0, by omega, rfl, rfl, rfl⟩
 case round =>
  obtain ⟨k, hk, rfl, rfl, rfl⟩ := hrel
  by_cases hlt : k < l.length
  · obtain ⟨rfl, -, hbi, hok, hv, hsl, c0, c1, c2⟩ := HO.out wr (.of_below HB.out) k hlt
    have k0 : (0 : Int) ≤ (k : Int) := by omega
    have k1 : (k : Int) < (l.length : Int) := by omega
    have HT := Lib.hid (ver_take (s := s) hlt); have hle : verN (l.take k) s ≤ k := Nat.le_trans ver_le (List.length_take_le _ _); obtain ⟨n, hn⟩ : ∃ n, verN (l.take k) s = n := ⟨_, rfl⟩; rw [hn] at hle HT ⊢; generalize l[k] = y at *; obtain ⟨ky, yt, yp⟩ := y; simp only at c0 HT; have hw1 : IntKind.i64.wrap ((n : Int) + 1) = (n : Int) + 1 := wrap_in (by omega) (by omega); have hkz := hok.key; unfold maxLen at hkz; simp only at hkz; clear hn hsl hok c1 c2
    by_cases hsh : ky.size ≤ s.size + 1
    · have HV := Lib.hid (ver_short hsh)
      have q1 : (ky.size : Int) ≤ (s.size : Int) + 1 := by omega
      go_wp2
      go_roundg (l.length - (k + 1))
      case measure => omega
      case rel => exact ⟨k + 1, by omega, by go_num, by rw [HT.out, HV.out]; rfl, rfl⟩
    · have q1 : ¬ (ky.size : Int) ≤ (s.size : Int) + 1 := by omega
      have q2 : (0 : Int) ≤ (s.size : Int) := by omega
      have q3 : (s.size : Int) ≤ (ky.size : Int) := by omega
      have q4 : (s.size : Int) < (ky.size : Int) := by omega
      have hlt2 : s.size < ky.size := by omega
      have HV := Lib.hid (ver_pre (k := ky) (s := s) (by omega)); obtain ⟨b, hb⟩ : ∃ b, ((ky.extract 0 s.size).toList == s.toList) = b := ⟨_, rfl⟩; have HBB := Lib.hid (show decide (ky.extract 0 s.size = s) = b by rw [← hb, eq_str])
      cases b with
      | false =>
       have HV2 := Lib.hid (show isVer ky s = false by rw [HV.out, HBB.out]; rfl); go_wp2
       go_roundg (l.length - (k + 1))
       case measure => omega
       case rel => exact ⟨k + 1, by omega, by go_num, by rw [HT.out, HV2.out]; rfl, rfl⟩
      | true =>
       by_cases h35 : (ky[s.size]'(by omega)).toNat = 35
       case neg =>
        have HV2 := Lib.hid (show isVer ky s = false by rw [HV.out, HBB.out, decide_eq_false h35]; rfl); have q5 : (((ky[s.size]'(by omega)).toNat : Int) != 35) = true := by simp; omega
        go_wp2
        go_roundg (l.length - (k + 1))
        case measure => omega
        case rel => exact ⟨k + 1, by omega, by go_num, by rw [HT.out, HV2.out]; rfl, rfl⟩
       have q5 : (((ky[s.size]'(by omega)).toNat : Int) != 35) = false := by simp; omega
       have HV2 := Lib.hid (show isVer ky s = (!((kb ky).drop (s.size + 1)).contains 35) by rw [HV.out, HBB.out, decide_eq_true h35]; simp); clear h35 HV; go_wp2
       go_loopg [8, 9] (ky.size - (s.size + 1)) (fun g pv i wr2 => ∃ (j : Nat) (pl : Bool), j + g = ky.size ∧ s.size + 1 ≤ j ∧ i = .int .i64 j ∧ pv = .bool pl ∧ Hid (pl = true ↔ ∀ i, s.size + 1 ≤ i → i < j → (h : i < ky.size) → ky[i].toNat ≠ 35) ∧ wr2 = wr)
       case atStart => exact ⟨s.size + 1, true, by omega, by omega, by go_num, rfl, Lib.hid ⟨fun _ i h1 h2 => by omega, fun _ => rfl⟩, rfl⟩
       case round =>
        obtain ⟨j, pl, hj, hj1, rfl, rfl, HP, rfl⟩ := hrel
        by_cases hlt2 : j < ky.size
        · have j0 : (0 : Int) ≤ (j : Int) := by omega
          have j1 : (j : Int) < (ky.size : Int) := by omega
          cases pl with
          | false =>
           go_wp2
           go_roundg (ky.size - (j + 1))
           case measure => omega
           case rel => exact ⟨j + 1, false, by omega, by omega, by go_num, rfl, Lib.hid ⟨fun h => (by cases h), fun h => HP.out.2 fun i h1 h2 h3 => h i h1 (by omega) h3⟩, rfl⟩
          | true =>
           by_cases h35 : ky[j].toNat = 35
           · have q6 : ((ky[j].toNat : Int) != 35) = false := by simp; omega
             have H35 := Lib.hid h35; clear h35; go_wp2
             go_roundg (ky.size - (j + 1))
             case measure => omega
             case rel => exact ⟨j + 1, false, by omega, by omega, by go_num, rfl, Lib.hid ⟨fun h => (by cases h), fun h => absurd H35.out (h j hj1 (by omega) hlt2)⟩, rfl⟩
           · have q6 : ((ky[j].toNat : Int) != 35) = true := by simp; omega
             have H35 := Lib.hid h35; clear h35; go_wp2
             go_roundg (ky.size - (j + 1))
             case measure => omega
             case rel => exact ⟨j + 1, true, by omega, by omega, by go_num, rfl, Lib.hid ⟨fun _ i h1 h2 h3 => by
              by_cases e : i = j
              · subst e; exact H35.out
              · exact HP.out.1 (by trivial) i h1 (by omega) h3, fun _ => (by trivial)⟩, rfl⟩
        · have hjd : decide ((j : Int) < (ky.size : Int)) = false := by simp; omega
          have HE := Lib.hid (HV2.out.trans (ver_end (k := ky) (n := s.size + 1) (pl := pl) (HP.out.trans ⟨fun h i h1 h3 => h i h1 (by omega) h3, fun h i h1 _ h3 => h i h1 h3⟩)))
          cases pl with
          | false =>
           go_wp2
           go_roundg (l.length - (k + 1))
           case measure => omega
           case rel => exact ⟨k + 1, by omega, by go_num, by rw [HT.out, HE.out]; rfl, rfl⟩
          | true =>
           go_wp2
           go_roundg (l.length - (k + 1))
           case measure => omega
           case rel => exact ⟨k + 1, by omega, by go_num, by rw [HT.out, HE.out]; go_num, rfl⟩
  · have hkd : decide ((k : Int) < (l.length : Int)) = false := by simp; omega
    rw [show l.take k = l from List.take_of_length_le (by omega)]; go_wp2; go_ret; exact ⟨rfl, HB.out⟩
end Go.Proofs.YtifcelebfagjbaaGreatDoor
namespace Go.Proofs.YtifcelebfagjbaaGreatDoor
open Go.RowKit Go.Tw Go.Tw.Ord Go.Tw.Po Go.Sort
theorem debC_size {c : List Acc} {x : Chg} (hk : CfOk c) (hx : x.veh.size ≤ 30) : (debC c x).size ≤ maxLen := by
 unfold debC maxLen
 split
 · rename_i nm he
   have := owner_short hk he; rw [ByteArray.size_append]
   show 8 + _ ≤ _
   omega
 · rw [ByteArray.size_append]
   show 5 + _ ≤ _
   omega
theorem creC_size {x : Chg} (hx : x.sys.size ≤ 30) : (creC x).size ≤ maxLen := by
 unfold creC maxLen; rw [ByteArray.size_append]
 show 8 + _ ≤ _
 unfold orS orS orS
 split
 · split
   · show 8 + 0 ≤ _; omega
   · show 8 + 1 ≤ _; omega
 · omega
end Go.Proofs.YtifcelebfagjbaaGreatDoor
