/-
  Layer proofs, merged: PoRo PoVo.
-/
import Derived.Test.YtifcelebfagjbaaGreatDoorMgK
import Derived.Lib.QuietBelow
import Derived.Deep.DeepCutAuto
namespace Go.Proofs.YtifcelebfagjbaaGreatDoor
open Go.RowKit Go.Tw Go.Tw.Ord Go.Tw.Po Go.Sort
def BookR (R : Nat → Prop) (w : World) (r : Bk × Int) (e : Ending) (w' : World) : Prop := ∃ ve vd, e = .returned (.tuple #[.agg #[ve, vd], .int .i64 r.2]) ∧ SlIs (tEnt 101) (fun k => R k ∧ k < w'.heap.size) w' ve r.1.es ∧ SlIs (tChg eL) (fun k => R k ∧ k < w'.heap.size) w' vd r.1.ds ∧ Below w.heap.size w w'
theorem keepR {α : Type} {T : Ty α} {R : Nat → Prop} {w w' : World} {v : Value} {l : List α} (h : SlIs T (fun k => R k ∧ k < w.heap.size) w v l) (hb : Below w.heap.size w w') : SlIs T (fun k => R k ∧ k < w'.heap.size) w' v l :=
 h.keep (fun _q hq => ⟨hq.1, Nat.lt_of_lt_of_le hq.2 hb.size⟩) (fun q hq => hb.block q hq.2)
theorem ltR {α : Type} {T : Ty α} {R : Nat → Prop} {w : World} {v : Value} {l : List α} (h : SlIs T (fun k => R k ∧ k < w.heap.size) w v l) : SlIs T (· < w.heap.size) w v l :=
 h.keep (fun _ hq => hq.2) (SameOn.refl _ _)
theorem BookR.old {R : Nat → Prop} {w w' : World} {b : Bk} {z : Int} {ve vd : Value} (he : SlIs (tEnt 101) (fun k => R k ∧ k < w.heap.size) w ve b.es) (hd : SlIs (tChg eL) (fun k => R k ∧ k < w.heap.size) w vd b.ds) (hb : Below w.heap.size w w') : BookR R w (b, z) (.returned (.tuple #[.agg #[ve, vd], .int .i64 z])) w' :=
 ⟨ve, vd, rfl, keepR he hb, keepR hd hb, hb⟩
structure RA (w : World) (A : Array Value) (ve vd : Value) (x : Chg) (vx : Value) (l : List SI) (v : Value) (wr : World) : Prop where
 y : AW w.heap.size A ve vd x vx wr
 b : Below w.heap.size w wr
 s : SlIs tSI (· < wr.heap.size) wr v l
theorem RA.lt {w : World} {A : Array Value} {ve vd : Value} {x : Chg} {vx : Value} {l : List SI} {v : Value} {wr : World} (h : RA w A ve vd x vx l v wr) : w.heap.size + 3 < wr.heap.size := lt_of_heap h.y.b3
theorem RA.step {w : World} {A : Array Value} {ve vd : Value} {x : Chg} {vx : Value} {l : List SI} {v : Value} {wr w' : World} (h : RA w A ve vd x vx l v wr) (hb : Below wr.heap.size wr w') : RA w A ve vd x vx l v w' :=
 ⟨h.y.step hb h.lt, bl_trans h.b hb, h.s.step hb⟩
theorem RA.put {w : World} {A : Array Value} {ve vd : Value} {x : Chg} {vx : Value} {l l' : List SI} {v v' : Value} {wr w' : World} (h : RA w A ve vd x vx l v wr) (hb : Below wr.heap.size wr w') (hs : SlIs tSI (· < w'.heap.size) w' v' l') : RA w A ve vd x vx l' v' w' :=
 ⟨h.y.step hb h.lt, bl_trans h.b hb, hs⟩
theorem XB.step {g : Nat} {x : Chg} {v : Value} {w w' : World} (h : XB g x v w) (hb : Below w.heap.size w w') : XB g x v w' := (hb.block _ (lt_of_heap h)).trans h
theorem ldc_re {n : Nat} {A : Array Value} {w : World} (h : w.heap[n]? = some (.cells A 46 (0, 0))) (hs : A.size = 25) (d : Nat) (os : Array Obj) : Sem.run Tryz.prog (loadCellsFrom ⟨n, 0, none⟩ 0 25 #[]) (grow (redrawn w d) os) = .ok A (grow (redrawn w d) os) :=
 load_blk (((below_regrown w d os).block _ (lt_of_heap h)).trans h) hs _
theorem ldx_re {g : Nat} {x : Chg} {v : Value} {w : World} (h : XB g x v w) (d : Nat) (os : Array Obj) : Sem.run Tryz.prog (loadCellsFrom ⟨g, 0, none⟩ 0 7 #[]) (grow (redrawn w d) os) = .ok #[.string x.key, .string x.veh, .string x.sys, .int .i64 x.cls, .int .i64 x.tm, v, .int .i64 x.c] (grow (redrawn w d) os) :=
 load_blk (((below_regrown w d os).block _ (lt_of_heap h)).trans h) rfl _
theorem move_eq (c : List Acc) (l : List SI) (x : Chg) (n : Int) : moveP c l x n = addP (addP l (debC c x) n) (creC x) (-n) := rfl
structure ER (wB : World) (P : Nat → Prop) (gy : Nat) (ve vd : Value) (es : List Ent) (ds : List Chg) (wx : World) : Prop where
 b : Below wB.heap.size wB wx
 lo : wB.heap.size ≤ gy
 g : BB gy ve vd wx
 se : SlIs (tEnt 101) (fun k => (P k ∨ wB.heap.size ≤ k) ∧ k ≠ gy ∧ k < wx.heap.size) wx ve es
 sd : SlIs (tChg eL) (fun k => (P k ∨ wB.heap.size ≤ k) ∧ k ≠ gy ∧ k < wx.heap.size) wx vd ds
theorem er_keep {α : Type} {T : Ty α} {wB wq w9 w' : World} {P : Nat → Prop} {gy : Nat} {v : Value} {l : List α} (hP : ∀ k, P k → k < wB.heap.size) (hq : wB.heap.size ≤ wq.heap.size) (hlo : wB.heap.size ≤ gy) (hg : gy < wq.heap.size ∨ w9.heap.size ≤ gy)
  (hs : SlIs T (fun k => (P k ∨ wq.heap.size ≤ k) ∧ k < w9.heap.size) w9 v l) (hsame : ∀ k, k ≠ gy → k < w9.heap.size → w'.heap[k]? = w9.heap[k]?) (hz : w9.heap.size ≤ w'.heap.size) : SlIs T (fun k => (P k ∨ wB.heap.size ≤ k) ∧ k ≠ gy ∧ k < w'.heap.size) w' v l :=
 have key : ∀ k, ((P k ∨ wq.heap.size ≤ k) ∧ k < w9.heap.size) → (P k ∨ wB.heap.size ≤ k) ∧ k ≠ gy ∧ k < w'.heap.size := fun k hk => by
  rcases hk.1 with h | h
  · have := hP k h
    exact ⟨.inl h, by omega, by omega⟩
  · exact ⟨.inr (by omega), by omega, by omega⟩
 hs.keep key (fun k hk => hsame k (key k hk).2.1 hk.2)
theorem ER.mk_set {wB wq w9 : World} {P : Nat → Prop} {gy : Nat} {z0 z1 ve vd : Value} {es : List Ent} {ds : List Chg} (hP : ∀ k, P k → k < wB.heap.size) (hb : Below wB.heap.size wB w9) (hq : wB.heap.size ≤ wq.heap.size) (hlo : wB.heap.size ≤ gy) (hg : gy < wq.heap.size)
  (hs : SlIs (tEnt 101) (fun k => (P k ∨ wq.heap.size ≤ k) ∧ k < w9.heap.size) w9 ve es) (hd : SlIs (tChg eL) (fun k => (P k ∨ wq.heap.size ≤ k) ∧ k < w9.heap.size) w9 vd ds) (h : BB gy z0 z1 w9) : ER wB P gy ve vd es ds ((w9.setCell ⟨gy, 0, none⟩ ve).setCell ⟨gy, 1, none⟩ vd) := by
 have hsame : ∀ k, k ≠ gy → k < w9.heap.size → ((w9.setCell ⟨gy, 0, none⟩ ve).setCell ⟨gy, 1, none⟩ vd).heap[k]? = w9.heap[k]? := fun k hk _ => (Below.heap_setCell _ _ _ _ hk).trans (Below.heap_setCell _ _ _ _ hk)
 have hz : w9.heap.size ≤ ((w9.setCell ⟨gy, 0, none⟩ ve).setCell ⟨gy, 1, none⟩ vd).heap.size := by simp
 exact ⟨bl_set (bl_set hb _ hlo) _ hlo, hlo, heap_setCell_same _ _ _ _ _ _ (heap_setCell_same _ _ _ _ _ _ h), er_keep hP hq hlo (.inl hg) hs hsame hz, er_keep hP hq hlo (.inl hg) hd hsame hz⟩
theorem ER.mk_alloc {wB wq w9 : World} {P : Nat → Prop} {ve vd : Value} {es : List Ent} {ds : List Chg} (hP : ∀ k, P k → k < wB.heap.size) (hb : Below wB.heap.size wB w9) (hq : wB.heap.size ≤ wq.heap.size)
  (hs : SlIs (tEnt 101) (fun k => (P k ∨ wq.heap.size ≤ k) ∧ k < w9.heap.size) w9 ve es) (hd : SlIs (tChg eL) (fun k => (P k ∨ wq.heap.size ≤ k) ∧ k < w9.heap.size) w9 vd ds) : ER wB P w9.heap.size ve vd es ds (w9.alloc (.cells #[ve, vd] 70)) := by
 have hsame : ∀ k, k ≠ w9.heap.size → k < w9.heap.size → (w9.alloc (.cells #[ve, vd] 70)).heap[k]? = w9.heap[k]? := fun k _ h => Below.heap_alloc _ _ _ h
 have hz : w9.heap.size ≤ (w9.alloc (.cells #[ve, vd] 70)).heap.size := by simp
 exact ⟨bl_alloc hb _, hb.size, heap_alloc_new _ _, er_keep hP hq hb.size (.inr (Nat.le_refl _)) hs hsame hz, er_keep hP hq hb.size (.inr (Nat.le_refl _)) hd hsame hz⟩
def PL (k : Nat) (l : List SI) : Prop := Amt (k * 1125899906842624) l ∧ l.length ≤ k
theorem PL.nil : PL 0 [] := ⟨nil_amt _, Nat.le_refl _⟩
theorem PL.add {k : Nat} {l : List SI} {a : ByteArray} {n : Int} (h : PL k l) (h1 : -1125899906842624 ≤ n) (h2 : n ≤ 1125899906842624) : PL (k + 1) (addP l a n) :=
 ⟨(addP_amt h.1 (by omega) h1 h2).mono (by push_cast; omega), Nat.le_trans (addP_len _ _ _) (Nat.succ_le_succ h.2)⟩
theorem PL.amt {k : Nat} {l : List SI} (h : PL k l) (hk : k ≤ 4) : Amt 4611686018427387904 l := by
 have h4 : (k : Int) ≤ 4 := by omega
 exact h.1.mono (by omega)
set_option maxRecDepth 100000 in
set_option maxHeartbeats 8000000 in
theorem applyR_any (R : Nat → Prop) (L : List Chg) (N : Nat) (c : List Acc) (A : Array Value) (va ve vd vx : Value) (es : List Ent) (ds : List Chg) (x : Chg) (w : World) (hR : ∀ k, w.heap.size ≤ k → R k) (hA : CfgA A va) (hc : SlIs (tAcc 138) (· < w.heap.size) w va c) (hk : CfOk c) (hb : BOk L N ⟨es, ds⟩) (hN : N ≤ 900) (hxc : COk x)
  (he : SlIs (tEnt 101) (fun k => R k ∧ k < w.heap.size) w ve es) (hd : SlIs (tChg eL) (fun k => R k ∧ k < w.heap.size) w vd ds) (hx : ChgOk x) (hv : SlIs tSI (fun k => R k ∧ k < w.heap.size) w vx x.ls) :
  Calls Tryz.prog 41 #[.agg A, .agg #[ve, vd], .agg #[.string x.key, .string x.veh, .string x.sys, .int .i64 x.cls, .int .i64 x.tm, vx, .int .i64 x.c]] w (BookR R w (applyP c ⟨es, ds⟩ x)) := by
 have h0 := alloc4 w (.cells A 46) (.cells #[ve, vd] 70) (.cells #[.string x.key, .string x.veh, .string x.sys, .int .i64 x.cls, .int .i64 x.tm, vx, .int .i64 x.c] 49) (.cells #[.slice none 0 0, .slice none 0 0] 70); have HY := Lib.hid (show AW w.heap.size A ve vd x vx _ from ⟨h0.1, h0.2.1, h0.2.2.1, h0.2.2.2⟩); have HB0 := Lib.hid (bl_alloc (bl_alloc (bl_alloc (bl_alloc (Below.refl w.heap.size w) (.cells A 46)) (.cells #[ve, vd] 70)) (.cells #[.string x.key, .string x.veh, .string x.sys, .int .i64 x.cls, .int .i64 x.tm, vx, .int .i64 x.c] 49)) (.cells #[.slice none 0 0, .slice none 0 0] 70)); have HCK := Lib.hid (pcheckR_any x vx _ hx ((ltR hv).step HB0.out) (by have := hxc.ls; omega)); obtain ⟨xa, xc, _, _, rfl, -⟩ := id hv; obtain ⟨ae, ce, _, _, rfl, -⟩ := id he; obtain ⟨ad, cd, bd, od, rfl, hd1, hd2, -⟩ := chg_open hd; have HA := Lib.hid hA; have HC := Lib.hid hc; have HK := Lib.hid hk; have HX := Lib.hid hx; have HXC := Lib.hid hxc; have HV := Lib.hid hv; have HE := Lib.hid he; have HD := Lib.hid hd; have HBK := Lib.hid hb; have HRR := Lib.hid hR; clear hA hc hk hx hxc hv h0 he hd hb hR; obtain ⟨z, hz⟩ : ∃ z, chkC x = z := ⟨_, rfl⟩; rw [hz] at HCK
 by_cases hz0 : z = 0
 case neg =>
  have HR := Lib.hid (ap_chk (c := c) (b := ⟨es, ds⟩) (x := x) (by rw [hz]; exact hz0)); rw [hz] at HR; have hz1 : (z != 0) = true := by simpa using hz0
  clear hz hz0
  go_enter Tryz.func41, Tryz.ntmps41
  go_wp2_with (fail)
  with_reducible refine HCK.out.mono ?_
  rintro r w2 ⟨rfl, hb⟩; have HY2 := Lib.hid (HY.out.step hb (by simp)); have HB2 := Lib.hid (bl_trans HB0.out hb); obtain ⟨e0, e1, ef⟩ := blk2 HY2.out.b3; obtain ⟨d0, d1, -⟩ := blk2 HY2.out.b1; have hlt := lt_of_heap HY2.out.b3; clear hb HCK HY; go_wp2; have g5 : ((w2.setCell ⟨w.heap.size + 1 + 1 + 1, 0, none⟩ (.slice ae es.length ce)).setCell ⟨w.heap.size + 1 + 1 + 1, 1, none⟩ (.slice ad ds.length cd)).heap[w.heap.size + 1 + 1 + 1]? = some (.cells #[(.slice ae es.length ce), (.slice ad ds.length cd)] 70 (0, 0)) := heap_setCell_same _ _ _ _ _ _ (heap_setCell_same _ _ _ _ _ _ HY2.out.b3); have b5 : Below w.heap.size w ((w2.setCell ⟨w.heap.size + 1 + 1 + 1, 0, none⟩ (.slice ae es.length ce)).setCell ⟨w.heap.size + 1 + 1 + 1, 1, none⟩ (.slice ad ds.length cd)) := bl_set (bl_set HB2.out _ (by simp only; omega)) _ (by simp only; omega); obtain ⟨k0, k1, -⟩ := blk2 g5; generalize (w2.setCell ⟨w.heap.size + 1 + 1 + 1, 0, none⟩ (.slice ae es.length ce)).setCell ⟨w.heap.size + 1 + 1 + 1, 1, none⟩ (.slice ad ds.length cd) = w9 at *; refine bodyPost_ret (v := .tuple #[.agg #[(.slice ae es.length ce), (.slice ad ds.length cd)], .int .i64 z]) (by simp [results, Tryz.results41, go_sem, k0, k1]) rfl ?_; rw [HR.out]; exact BookR.old HE.out HD.out b5
 subst hz0; have HCF := Lib.hid (chk_facts hz); have HZ := Lib.hid hz; have hz1 : ((0 : Int) != 0) = false := rfl; clear hz
 go_enter Tryz.func41, Tryz.ntmps41
 go_wp2_with (fail)
 with_reducible refine HCK.out.mono ?_
 rintro r w2 ⟨rfl, hb⟩; have HY2 := Lib.hid (HY.out.step hb (by simp)); have HB2 := Lib.hid (bl_trans HB0.out hb); clear hb HCK HY
 go_upto_region 5 with (fail)
 have o0 : OwnSl tSI 101 w2.heap.size (w2.alloc (.cells #[] 101)) (.slice (some ⟨w2.heap.size, 0, none⟩) 0 0) [] := OwnSl.lit (css := []) rfl trivial (Nat.le_refl _) (by decide); have hA3 := bl_alloc (Below.refl w2.heap.size w2) (.cells #[] 101); have HS3 := Lib.hid (show RA w A (.slice ae es.length ce) (.slice ad ds.length cd) x (.slice xa x.ls.length xc) [] _ _ from ⟨HY2.out.step hA3 (lt_of_heap HY2.out.b3), bl_trans HB2.out hA3, (NewL.ofOwn ownSI o0 (Nat.le_refl _)).sl'⟩); clear o0 hA3; generalize w2.alloc (.cells #[] 101) = w3 at HS3 ⊢; generalize w2.heap.size = g0 at HS3 ⊢; clear HY2 HB2; have HFD := Lib.hid (findR_any ds ae es.length ce (.slice ad ds.length cd) x.key w3 ((ltR HD.out).step HS3.out.b)); obtain ⟨d0, d1, -⟩ := blk2 HS3.out.y.b1; obtain ⟨x0, -⟩ := blk7 HS3.out.y.b2; have x0' : w3.cell? ⟨w.heap.size + 1 + 1, 0, none⟩ = some (.string x.key) := x0; clear x0
 go_wp2_with (fail)
 with_reducible refine HFD.out.mono ?_
 clear HFD; rintro r w4 ⟨⟨vo, hso, rfl⟩, hb4⟩; have HS4 := Lib.hid (HS3.out.step hb4); clear hb4 d0 d1 x0' HS3
 obtain ⟨oa, on, oc, rfl⟩ : ∃ a n c, vo = .slice a n c := by
  obtain ⟨a, c, _, _, e, -⟩ := hso; exact ⟨a, _, c, e⟩
 clear hso; have HPA := Lib.hid (show postsA c ds x = (match fndC ds x.key with | some o => moveP c (moveP c [] o (-o.c)) x x.c | none => moveP c [] x x.c) from rfl); have HFO := Lib.hid (fun o (h : fndC ds x.key = some o) => HBK.out.cok o (fnd_mem h).1); have HFC := Lib.hid (fun o (h : fndC ds x.key = some o) => HBK.out.chk o (fnd_mem h).1); have hxc : 0 ≤ x.c ∧ x.c ≤ 1125899906842624 := ⟨HCF.out.2.2.2.2.2.2.1, HCF.out.2.2.2.2.2.2.2.1⟩; have hxn : IntKind.i64.wrap (-x.c) = -x.c := wrap_in (by omega) (by omega); have HM0 := Lib.hid PL.nil
 cases hf : fndC ds x.key with
 | none =>
  rw [hf] at HPA; simp only at HPA; have HPO := Lib.hid (show postsA c ds x = addP (addP [] (debC c x) x.c) (creC x) (-x.c) from HPA.out); clear HPA HFO HFC hf; simp only [Option.getD_none, Option.isSome_none]
  go_upto_region 6 with (fail)
  have HS5 := Lib.hid (HS4.out.step (bl_alloc (Below.refl w4.heap.size w4) (.cells #[.string zeroC.key, .string zeroC.veh, .string zeroC.sys, .int .i64 zeroC.cls, .int .i64 zeroC.tm, .slice oa on oc, .int .i64 zeroC.c] 49))); generalize w4.alloc (.cells #[.string zeroC.key, .string zeroC.veh, .string zeroC.sys, .int .i64 zeroC.cls, .int .i64 zeroC.tm, .slice oa on oc, .int .i64 zeroC.c] 49) = w5 at HS5 ⊢; have HM5 := HM0; clear HM0 HS4; have HG5 := Lib.hid (show XB (w.heap.size + 1 + 1) x (.slice xa x.ls.length xc) w5 from HS5.out.y.b2); have LDC := fun d os => ldc_re HS5.out.y.b0 HA.out.size d os
  have LDX := fun d os => ldx_re HG5.out d os
  have c6 := (blk7 HG5.out).2.2.2.2.2.2.1; have b6 := cell_regrown c6; clear c6; have cD := fun d os => Calls.regrown_of (debit_any c A va x xa x.ls.length xc _ HA.out (HC.out.step (bl_trans HS5.out.b (below_regrown w5 d os))) HK.out HXC.out.veh)
  go_upto_region 9 with (fail)
  refine wp_region_below_tail 6 (by kernel_rfl) (by kernel_rfl) ?_; simp only [List.take_succ_cons, List.take_zero, List.drop_succ_cons, List.drop_zero]
  quiet_step (fail)
  refine wpQuiet_step (fun K hK => ?_); rw [if_pos (show _ = true by kernel_rfl)]; refine quiet_loadA (A := A) rfl Tryz.isAgg46 Tryz.sizeOf46 rfl (fun w' hw' => ?_) (hK _ ?_)
  · obtain ⟨⟨nq, osq⟩, rfl⟩ := hw'
    exact LDC nq osq
  clear hK K; refine wpQuiet_step (fun K hK => ?_); rw [if_pos (show _ = true by kernel_rfl)]; refine quiet_loadA (A := #[.string x.key, .string x.veh, .string x.sys, .int .i64 x.cls, .int .i64 x.tm, .slice xa x.ls.length xc, .int .i64 x.c]) rfl Tryz.isAgg49 Tryz.sizeOf49 rfl (fun w' hw' => ?_) (hK _ ?_)
  · obtain ⟨⟨nq, osq⟩, rfl⟩ := hw'
    exact LDX nq osq
  clear hK K
  (repeat (quiet_step (first | (go_at_call 38; with_reducible exact cD _ _))))
  refine wpQuiet_nil ?_; intro wqA hqA; have HQA := Lib.hid (HS5.out.step hqA); have HGA := Lib.hid (HG5.out.step hqA); have HAD := Lib.hid (addR_any [] _ (debC c x) x.c wqA HQA.out.s (Nat.le_trans HM5.out.2 (by decide)) (debC_size HK.out HXC.out.veh) (HM5.out.amt (by decide)) (by omega)); have HMA := Lib.hid (HM5.out.add (a := (debC c x)) (n := x.c) (by omega) (by omega)); clear hqA cD b6 LDX
  go_wp2_with (fail)
  with_reducible refine HAD.out.mono ?_
  clear HAD; rintro r wA ⟨⟨vA, rfl, hnA⟩, hbA⟩; have HSA := Lib.hid (HQA.out.put hbA hnA.sl'); have HHA := Lib.hid (HGA.out.step hbA); clear HGA; have HGA := HHA; clear HHA; obtain ⟨aA, cA, rfl, -⟩ := hnA.form; clear hnA hbA HQA; clear LDC; have LDC := fun d os => ldc_re HSA.out.y.b0 HA.out.size d os
  have LDX := fun d os => ldx_re HGA.out d os
  have c6 := (blk7 HGA.out).2.2.2.2.2.2.1; have b6 := cell_regrown c6; clear c6; have cD := fun d os => Calls.regrown_of (credit_any x (.slice xa x.ls.length xc) (grow (redrawn wA d) os) HXC.out.sys)
  go_upto_region 10 with (fail)
  refine wp_region_below_tail 6 (by kernel_rfl) (by kernel_rfl) ?_; simp only [List.take_succ_cons, List.take_zero, List.drop_succ_cons, List.drop_zero]
  quiet_step (fail)
  refine wpQuiet_step (fun K hK => ?_); rw [if_pos (show _ = true by kernel_rfl)]; refine quiet_loadA (A := #[.string x.key, .string x.veh, .string x.sys, .int .i64 x.cls, .int .i64 x.tm, .slice xa x.ls.length xc, .int .i64 x.c]) rfl Tryz.isAgg49 Tryz.sizeOf49 rfl (fun w' hw' => ?_) (hK _ ?_)
  · obtain ⟨⟨nq, osq⟩, rfl⟩ := hw'
    exact LDX nq osq
  clear hK K
  (repeat (quiet_step (first | (go_at_call 39; with_reducible exact cD _ _))))
  refine wpQuiet_nil ?_; intro wqB hqB; have HQB := Lib.hid (HSA.out.step hqB); have HGB := Lib.hid (HGA.out.step hqB); have HAD := Lib.hid (addR_any (addP [] (debC c x) x.c) _ (creC x) (-x.c) wqB HQB.out.s (Nat.le_trans HMA.out.2 (by decide)) (creC_size HXC.out.sys) (HMA.out.amt (by decide)) (by omega)); have HMB := Lib.hid (HMA.out.add (a := (creC x)) (n := (-x.c)) (by omega) (by omega)); clear hqB cD b6 LDX
  go_wp2_with (fail)
  with_reducible refine HAD.out.mono ?_
  clear HAD; rintro r wB ⟨⟨vB, rfl, hnB⟩, hbB⟩; have HSB := Lib.hid (HQB.out.put hbB hnB.sl'); have HHB := Lib.hid (HGB.out.step hbB); clear HGB; have HGB := HHB; clear HHB; obtain ⟨aB, cB, rfl, -⟩ := hnB.form; clear hnB hbB HQB; clear LDC HG5 HGA HGB HS5 HSA HM5 HMA; generalize addP (addP [] (debC c x) x.c) (creC x) (-x.c) = pl at HSB HMB HPO ⊢; have hvl : (verN es x.key : Int) ≤ 900 := by have h1 := HBK.out.len; have h2 := ver_le (l := es) (s := x.key); simp only at h1; omega
  have hv0 : 0 ≤ (verN es x.key : Int) := by omega
  have HVE := Lib.hid (show ∀ W, Below w.heap.size w W → Calls Tryz.prog 76 #[.agg #[.slice ae es.length ce], .string x.key] W fun e w' => e = .returned (.int .i64 (verN es x.key)) ∧ Below W.heap.size W w' from fun W hW => versionR_any es (.slice ae es.length ce) x.key W ((ltR HE.out).step hW) (by have := HXC.out.key; omega) (by have := HBK.out.len; simp only at this; omega)); have hke := HXC.out.key; have HAS := Lib.hid (fun es' z => @ap_s c ⟨es, ds⟩ x HZ.out es' z); simp only at HAS; generalize (verN es x.key : Int) = vn at HVE hvl hv0 HAS; have hvi : i64ok vn := by unfold i64ok; omega
  have HFM := Lib.hid (FormatR_any vn hvi); have hfz := fmt_size hvi; have HKS := Lib.hid (keyC_size hke hvi); have HKE := Lib.hid (show keyC x.key vn = x.key ++ ⟨#[35]⟩ ++ fmtS vn from rfl); clear hvi; generalize keyC x.key vn = kk at HKS HKE HAS; generalize fmtS vn = fm at *; obtain ⟨⟨es9, z9⟩, hen⟩ : ∃ r, enterL es kk x.tm (postsA c ds x) = r := ⟨_, rfl⟩; rw [HPO.out] at hen; have HEQ := Lib.hid hen
  have HEN := Lib.hid (show ∀ W, Below wB.heap.size wB W → Calls Tryz.prog 75 #[.agg #[.slice ae es.length ce, .slice ad ds.length cd], .string (x.key ++ ⟨#[35]⟩ ++ fm), .int .i64 x.tm, .slice aB pl.length cB] W (EntRE (fun k => (k < w.heap.size ∧ R k) ∨ W.heap.size ≤ k) W (.slice ad ds.length cd) es (es9, z9)) from fun W hW => by
   rw [← hen, ← HKE.out]
   exact enterR_any _ es (.slice ae es.length ce) ad ds.length cd kk x.tm pl (.slice aB pl.length cB) W (fun k hk => .inr hk) (HE.out.keep (fun q h => ⟨.inl ⟨h.2, h.1⟩, Nat.lt_of_lt_of_le h.2 (Nat.le_trans HSB.out.b.size hW.size)⟩) (fun q h => (bl_trans HSB.out.b hW).block q h.2)) (HSB.out.s.step hW) (Nat.le_trans HKS.out (by decide)) (by have := HCF.out; unfold i64ok; omega) HBK.out.es (by have := HBK.out.len; simp only at this; omega) (HPO.out ▸ postsA_len c ds x))
  unfold EntRE at HEN; clear hen; have hbz : w.heap.size ≤ wB.heap.size := HSB.out.b.size; have HDO := Lib.hid (show ∀ (W W' : World), Below wB.heap.size wB W → Below W.heap.size W W' → SlIs (tChg eL) (fun k => ((k < w.heap.size ∧ R k) ∨ W.heap.size ≤ k) ∧ k < W'.heap.size) W' (.slice ad ds.length cd) ds from fun W W' h1 h2 => HD.out.keep (fun q h => ⟨.inl ⟨h.2, h.1⟩, Nat.lt_of_lt_of_le h.2 (Nat.le_trans hbz (Nat.le_trans h1.size h2.size))⟩) (fun q h => (bl_trans (bl_trans HSB.out.b h1) h2).block q h.2)); have HL0 := Lib.hid (show ∀ w', Below wB.heap.size wB w' → w'.cell? ⟨w.heap.size + 1 + 1, 0, none⟩ = some (.string x.key) from fun w' h => (blk7 (HSB.out.step h).y.b2).1); have HL4 := Lib.hid (show ∀ w', Below wB.heap.size wB w' → w'.cell? ⟨w.heap.size + 1 + 1, 4, none⟩ = some (.int .i64 x.tm) from fun w' h => (blk7 (HSB.out.step h).y.b2).2.2.2.2.1); have HLB := Lib.hid (show ∀ w', Below wB.heap.size wB w' → w'.cell? ⟨w.heap.size + 1, 0, none⟩ = some (.slice ae es.length ce) ∧ w'.cell? ⟨w.heap.size + 1, 1, none⟩ = some (.slice ad ds.length cd) from fun w' h => ⟨(blk2 (HSB.out.step h).y.b1).1, (blk2 (HSB.out.step h).y.b1).2.1⟩); have HVB := Lib.hid (fun W (h : Below wB.heap.size wB W) => HVE.out W (bl_trans HSB.out.b h)); have z1 : ¬ (9223372036854775807 < x.key.size + 1) := by omega
  have z2 : ¬ (9223372036854775807 < x.key.size + 1 + fm.size) := by omega
  have hPB := Lib.hid (show ∀ k, (k < w.heap.size ∧ R k) → k < wB.heap.size from fun k h => by omega); clear HVE hfz hvl hv0; have HW := Lib.hid (Below.drew (Below.refl wB.heap.size wB))
  go_upto_region 11 with (fail)
  go_cut [12, 13] (fun yv fv wx => ∃ (gy : Nat) (v9 : Value), yv = .pointer (some ⟨gy, 0, none⟩) ∧ fv = .int .i64 z9 ∧ ER wB (fun k => k < w.heap.size ∧ R k) gy v9 (.slice ad ds.length cd) (if z9 = 0 then es9 else es) ds wx)
  case first =>
   refine wp_region_D (fun j => if j < 21 then 0 else if j < 21 then 1 else 2) (fun w' => Below wB.heap.size wB w') (by kernel_rfl) (HW.out) (fun hHeld => ?_); refine gk1 0 (v := ?_) rfl ?_ ?_
   rotate_left; focus (intro w9 hS9; obtain ⟨z0, z1⟩ := HLB.out w9 hS9; clear hS9; go_simp; (try with_reducible rfl)); (try simp only [gkA, gkB, gkC, Act.put, gkD, gkE, gkF])
   refine gk1 1 (v := ?_) rfl ?_ ?_
   rotate_left; focus (intro w9 hS9; clear hS9; go_simp; (try with_reducible rfl)); (try simp only [gkA, gkB, gkC, Act.put, gkD, gkE, gkF])
   refine gk1 2 (v := ?_) rfl ?_ ?_
   rotate_left; focus (intro w9 hS9; have z0 := HL0.out w9 hS9; clear hS9; go_simp; (try with_reducible rfl)); (try simp only [gkA, gkB, gkC, Act.put, gkD, gkE, gkF])
   refine gk1 3 (v := ?_) rfl ?_ ?_
   rotate_left; focus (intro w9 hS9; clear hS9; go_simp; (try with_reducible rfl)); (try simp only [gkA, gkB, gkC, Act.put, gkD, gkE, gkF])
   refine gk1 4 (v := ?_) rfl ?_ ?_
   rotate_left; focus (intro w9 hS9; clear hS9; go_simp; (try with_reducible rfl)); (try simp only [gkA, gkB, gkC, Act.put, gkD, gkE, gkF])
   refine gk1 5 (v := ?_) rfl ?_ ?_
   rotate_left; focus (intro w9 hS9; obtain ⟨z0, z1⟩ := HLB.out w9 hS9; clear hS9; go_simp; (try with_reducible rfl)); (try simp only [gkA, gkB, gkC, Act.put, gkD, gkE, gkF])
   refine gk1 6 (v := ?_) rfl ?_ ?_
   rotate_left; focus (intro w9 hS9; clear hS9; go_simp; (try with_reducible rfl)); (try simp only [gkA, gkB, gkC, Act.put, gkD, gkE, gkF])
   refine gk1 7 (v := ?_) rfl ?_ ?_
   rotate_left; focus (intro w9 hS9; have z0 := HL0.out w9 hS9; clear hS9; go_simp; (try with_reducible rfl)); (try simp only [gkA, gkB, gkC, Act.put, gkD, gkE, gkF])
   refine gk1 11 (v := ?_) rfl ?_ ?_
   rotate_left; focus (intro w9 hS9; clear hS9; go_simp; (try with_reducible rfl)); (try simp only [gkA, gkB, gkC, Act.put, gkD, gkE, gkF])
   refine gk1 12 (v := ?_) rfl ?_ ?_
   rotate_left; focus (intro w9 hS9; have z0 := HL4.out w9 hS9; clear hS9; go_simp; (try with_reducible rfl)); (try simp only [gkA, gkB, gkC, Act.put, gkD, gkE, gkF])
   refine gk1 13 (v := ?_) rfl ?_ ?_
   rotate_left; focus (intro w9 hS9; clear hS9; go_simp; (try with_reducible rfl)); (try simp only [gkA, gkB, gkC, Act.put, gkD, gkE, gkF])
   refine wpD_ready (rs := [8, 18]) (by kernel_rfl) (by kernel_rfl) ?_; refine AllReadyD.cons rfl (fun K hK => ?_) (AllReadyD.cons rfl (fun K hK => ?_) AllReadyD.nil)
   · rw [if_pos (show _ = true by kernel_rfl)]
     go_simp
     with_reducible refine (HVB.out _ HW.out).mono ?_
     rintro r w7 ⟨rfl, hbv⟩; have HV := Lib.hid (bl_trans HW.out hbv)
     skip
     clear hbv HW; have HW := HV; clear HV; clear hHeld; refine gk5 hK.out rfl (HW.out) (fun hHeld => ?_); clear hK K; refine wpD_ready (rs := [9, 18]) (by kernel_rfl) (by kernel_rfl) ?_; refine AllReadyD.cons rfl (fun K hK => ?_) (AllReadyD.cons rfl (fun K hK => ?_) AllReadyD.nil)
     · rw [if_pos (show _ = true by kernel_rfl)]
       go_simp
       with_reducible refine (HFM.out _).mono ?_
       rintro r w8 ⟨rfl, rfl⟩; clear hHeld; refine gk5 hK.out rfl (HW.out) (fun hHeld => ?_); clear hK K; refine gk1 10 (v := ?_) rfl ?_ ?_
       rotate_left; focus (intro w9 hS9; clear hS9; go_simp; (try with_reducible rfl)); (try simp only [gkA, gkB, gkC, Act.put, gkD, gkE, gkF])
       refine wpD_ready (rs := [14, 18]) (by kernel_rfl) (by kernel_rfl) ?_; refine AllReadyD.cons rfl (fun K hK => ?_) (AllReadyD.cons rfl (fun K hK => ?_) AllReadyD.nil)
       · rw [if_pos (show _ = true by kernel_rfl)]
         go_simp
         with_reducible refine (HEN.out _ HW.out).mono ?_
         rintro r w9 ⟨⟨v9, rfl, hs9⟩, hbe⟩; have HS9 := Lib.hid hs9; have HD9 := Lib.hid (HDO.out _ _ HW.out hbe); have HV := Lib.hid (bl_trans HW.out hbe); have HWQ := HW
         obtain ⟨a9, n9, c9, hv9⟩ : ∃ a n c, v9 = .slice a n c := by
          obtain ⟨a, c, _, _, e, -⟩ := hs9; exact ⟨a, _, c, e⟩
         subst hv9
         skip
         clear hbe HW hs9; have HW := HV; clear HV; clear hHeld; refine gk5 hK.out rfl (HW.out) (fun hHeld => ?_); clear hK K; refine gk1 15 (v := ?_) rfl ?_ ?_
         rotate_left; focus (intro w9 hS9; clear hS9; go_simp; (try with_reducible rfl)); (try simp only [gkA, gkB, gkC, Act.put, gkD, gkE, gkF])
         refine gk1 16 (v := ?_) rfl ?_ ?_
         rotate_left; focus (intro w9 hS9; clear hS9; go_simp; (try with_reducible rfl)); (try simp only [gkA, gkB, gkC, Act.put, gkD, gkE, gkF])
         refine gk1 17 (v := ?_) rfl ?_ ?_
         rotate_left; focus (intro w9 hS9; clear hS9; go_simp; (try with_reducible rfl)); (try simp only [gkA, gkB, gkC, Act.put, gkD, gkE, gkF])
         refine gk3 18 rfl (fun K hK => ?_); go_simp; clear hHeld; refine gk5 hK.out rfl (bl_alloc HW.out _) (fun hHeld => ?_); clear hK K; refine gk3 19 rfl (fun K hK => ?_); go_simp; clear hHeld; refine gk5 hK.out rfl (bl_alloc HW.out _) (fun hHeld => ?_); clear hK K; refine gk3 20 rfl (fun K hK => ?_); go_simp; clear hHeld; refine gk5 hK.out rfl (bl_alloc HW.out _) (fun hHeld => ?_); clear hK K; refine wpD_done (by kernel_rfl) ?_
         go_wp2_with (fail)
         go_meet; exact ⟨_, _, rfl, rfl, ER.mk_alloc hPB.out HW.out HWQ.out.size HS9.out HD9.out⟩
       · rw [if_pos (show _ = true by kernel_rfl)]
         go_simp; clear hHeld; refine gk5 hK.out rfl (bl_alloc HW.out _) (fun hHeld => ?_); clear hK K; have HYB := Lib.hid (show BB (w7).heap.size (.slice none 0 0) (.slice none 0 0) _ from heap_alloc_new (w7) (.cells #[.slice none 0 0, .slice none 0 0] 70)); have HV := Lib.hid (bl_alloc HW.out (.cells #[.slice none 0 0, .slice none 0 0] 70)); have hgy : wB.heap.size ≤ (w7).heap.size := HW.out.size; clear HW; have HW := HV; clear HV; generalize (w7).alloc (.cells #[.slice none 0 0, .slice none 0 0] 70) = wy at HYB HW hHeld ⊢; generalize (w7).heap.size = gy at HYB hgy ⊢; refine gk3 14 rfl (fun K hK => ?_); go_simp
         with_reducible refine (HEN.out _ HW.out).mono ?_
         rintro r w9 ⟨⟨v9, rfl, hs9⟩, hbe⟩; have HS9 := Lib.hid hs9; have HD9 := Lib.hid (HDO.out _ _ HW.out hbe); have HV := Lib.hid (bl_trans HW.out hbe); have HWQ := HW
         obtain ⟨a9, n9, c9, hv9⟩ : ∃ a n c, v9 = .slice a n c := by
          obtain ⟨a, c, _, _, e, -⟩ := hs9; exact ⟨a, _, c, e⟩
         subst hv9; have hgq := lt_of_heap HYB.out; have HYC := Lib.hid ((hbe.block _ hgq).trans HYB.out); clear HYB; have HYB := HYC; clear HYC; clear hbe HW hs9; have HW := HV; clear HV; clear hHeld; refine gk5 hK.out rfl (HW.out) (fun hHeld => ?_); clear hK K; refine gk1 15 (v := ?_) rfl ?_ ?_
         rotate_left; focus (intro w9 hS9; clear hS9; go_simp; (try with_reducible rfl)); (try simp only [gkA, gkB, gkC, Act.put, gkD, gkE, gkF])
         refine gk1 16 (v := ?_) rfl ?_ ?_
         rotate_left; focus (intro w9 hS9; clear hS9; go_simp; (try with_reducible rfl)); (try simp only [gkA, gkB, gkC, Act.put, gkD, gkE, gkF])
         refine gk1 17 (v := ?_) rfl ?_ ?_
         rotate_left; focus (intro w9 hS9; clear hS9; go_simp; (try with_reducible rfl)); (try simp only [gkA, gkB, gkC, Act.put, gkD, gkE, gkF])
         obtain ⟨y0, y1, yf⟩ := blk2 HYB.out; have hgl := lt_of_heap HYB.out; refine gk3 19 rfl (fun K hK => ?_); go_simp; clear hHeld; refine gk5 hK.out rfl (bl_set (bl_set HW.out _ hgy) _ hgy) (fun hHeld => ?_); clear hK K; refine gk3 20 rfl (fun K hK => ?_); go_simp; clear hHeld; refine gk5 hK.out rfl (bl_set (bl_set HW.out _ hgy) _ hgy) (fun hHeld => ?_); clear hK K; refine wpD_done (by kernel_rfl) ?_
         go_wp2_with (fail)
         go_meet; exact ⟨_, _, rfl, rfl, ER.mk_set hPB.out HW.out HWQ.out.size hgy hgq HS9.out HD9.out HYB.out⟩
     · rw [if_pos (show _ = true by kernel_rfl)]
       go_simp; clear hHeld; refine gk5 hK.out rfl (bl_alloc HW.out _) (fun hHeld => ?_); clear hK K; have HYB := Lib.hid (show BB (w7).heap.size (.slice none 0 0) (.slice none 0 0) _ from heap_alloc_new (w7) (.cells #[.slice none 0 0, .slice none 0 0] 70)); have HV := Lib.hid (bl_alloc HW.out (.cells #[.slice none 0 0, .slice none 0 0] 70)); have hgy : wB.heap.size ≤ (w7).heap.size := HW.out.size; clear HW; have HW := HV; clear HV; generalize (w7).alloc (.cells #[.slice none 0 0, .slice none 0 0] 70) = wy at HYB HW hHeld ⊢; generalize (w7).heap.size = gy at HYB hgy ⊢; refine gk3 9 rfl (fun K hK => ?_); go_simp
       with_reducible refine (HFM.out _).mono ?_
       rintro r w8 ⟨rfl, rfl⟩; clear hHeld; refine gk5 hK.out rfl (HW.out) (fun hHeld => ?_); clear hK K; refine gk1 10 (v := ?_) rfl ?_ ?_
       rotate_left; focus (intro w9 hS9; clear hS9; go_simp; (try with_reducible rfl)); (try simp only [gkA, gkB, gkC, Act.put, gkD, gkE, gkF])
       refine gk3 14 rfl (fun K hK => ?_); go_simp
       with_reducible refine (HEN.out _ HW.out).mono ?_
       rintro r w9 ⟨⟨v9, rfl, hs9⟩, hbe⟩; have HS9 := Lib.hid hs9; have HD9 := Lib.hid (HDO.out _ _ HW.out hbe); have HV := Lib.hid (bl_trans HW.out hbe); have HWQ := HW
       obtain ⟨a9, n9, c9, hv9⟩ : ∃ a n c, v9 = .slice a n c := by
        obtain ⟨a, c, _, _, e, -⟩ := hs9; exact ⟨a, _, c, e⟩
       subst hv9; have hgq := lt_of_heap HYB.out; have HYC := Lib.hid ((hbe.block _ hgq).trans HYB.out); clear HYB; have HYB := HYC; clear HYC; clear hbe HW hs9; have HW := HV; clear HV; clear hHeld; refine gk5 hK.out rfl (HW.out) (fun hHeld => ?_); clear hK K; refine gk1 15 (v := ?_) rfl ?_ ?_
       rotate_left; focus (intro w9 hS9; clear hS9; go_simp; (try with_reducible rfl)); (try simp only [gkA, gkB, gkC, Act.put, gkD, gkE, gkF])
       refine gk1 16 (v := ?_) rfl ?_ ?_
       rotate_left; focus (intro w9 hS9; clear hS9; go_simp; (try with_reducible rfl)); (try simp only [gkA, gkB, gkC, Act.put, gkD, gkE, gkF])
       refine gk1 17 (v := ?_) rfl ?_ ?_
       rotate_left; focus (intro w9 hS9; clear hS9; go_simp; (try with_reducible rfl)); (try simp only [gkA, gkB, gkC, Act.put, gkD, gkE, gkF])
       obtain ⟨y0, y1, yf⟩ := blk2 HYB.out; have hgl := lt_of_heap HYB.out; refine gk3 19 rfl (fun K hK => ?_); go_simp; clear hHeld; refine gk5 hK.out rfl (bl_set (bl_set HW.out _ hgy) _ hgy) (fun hHeld => ?_); clear hK K; refine gk3 20 rfl (fun K hK => ?_); go_simp; clear hHeld; refine gk5 hK.out rfl (bl_set (bl_set HW.out _ hgy) _ hgy) (fun hHeld => ?_); clear hK K; refine wpD_done (by kernel_rfl) ?_
       go_wp2_with (fail)
       go_meet; exact ⟨_, _, rfl, rfl, ER.mk_set hPB.out HW.out HWQ.out.size hgy hgq HS9.out HD9.out HYB.out⟩
   · rw [if_pos (show _ = true by kernel_rfl)]
     go_simp; clear hHeld; refine gk5 hK.out rfl (bl_alloc HW.out _) (fun hHeld => ?_); clear hK K; have HYB := Lib.hid (show BB wB.heap.size (.slice none 0 0) (.slice none 0 0) (wB.alloc (.cells #[.slice none 0 0, .slice none 0 0] 70)).drew from heap_alloc_new wB (.cells #[.slice none 0 0, .slice none 0 0] 70)); have HV := Lib.hid (Below.drew (bl_alloc (Below.refl wB.heap.size wB) (.cells #[.slice none 0 0, .slice none 0 0] 70))); have hgy : wB.heap.size ≤ wB.heap.size := Nat.le_refl _; clear HW; have HW := HV; clear HV; have hHeld : Below wB.heap.size wB (wB.alloc (.cells #[.slice none 0 0, .slice none 0 0] 70)).drew := HW.out; generalize (wB.alloc (.cells #[.slice none 0 0, .slice none 0 0] 70)).drew = wy at HYB HW hHeld ⊢; refine gk3 8 rfl (fun K hK => ?_); go_simp
     with_reducible refine (HVB.out _ HW.out).mono ?_
     rintro r w7 ⟨rfl, hbv⟩; have HV := Lib.hid (bl_trans HW.out hbv); have hgq := lt_of_heap HYB.out; have HYC := Lib.hid ((hbv.block _ hgq).trans HYB.out); clear HYB; have HYB := HYC; clear HYC; clear hbv HW; have HW := HV; clear HV; clear hHeld; refine gk5 hK.out rfl (HW.out) (fun hHeld => ?_); clear hK K; refine gk3 9 rfl (fun K hK => ?_); go_simp
     with_reducible refine (HFM.out _).mono ?_
     rintro r w8 ⟨rfl, rfl⟩; clear hHeld; refine gk5 hK.out rfl (HW.out) (fun hHeld => ?_); clear hK K; refine gk1 10 (v := ?_) rfl ?_ ?_
     rotate_left; focus (intro w9 hS9; clear hS9; go_simp; (try with_reducible rfl)); (try simp only [gkA, gkB, gkC, Act.put, gkD, gkE, gkF])
     refine gk3 14 rfl (fun K hK => ?_); go_simp
     with_reducible refine (HEN.out _ HW.out).mono ?_
     rintro r w9 ⟨⟨v9, rfl, hs9⟩, hbe⟩; have HS9 := Lib.hid hs9; have HD9 := Lib.hid (HDO.out _ _ HW.out hbe); have HV := Lib.hid (bl_trans HW.out hbe); have HWQ := HW
     obtain ⟨a9, n9, c9, hv9⟩ : ∃ a n c, v9 = .slice a n c := by
      obtain ⟨a, c, _, _, e, -⟩ := hs9; exact ⟨a, _, c, e⟩
     subst hv9; have hgq := lt_of_heap HYB.out; have HYC := Lib.hid ((hbe.block _ hgq).trans HYB.out); clear HYB; have HYB := HYC; clear HYC; clear hbe HW hs9; have HW := HV; clear HV; clear hHeld; refine gk5 hK.out rfl (HW.out) (fun hHeld => ?_); clear hK K; refine gk1 15 (v := ?_) rfl ?_ ?_
     rotate_left; focus (intro w9 hS9; clear hS9; go_simp; (try with_reducible rfl)); (try simp only [gkA, gkB, gkC, Act.put, gkD, gkE, gkF])
     refine gk1 16 (v := ?_) rfl ?_ ?_
     rotate_left; focus (intro w9 hS9; clear hS9; go_simp; (try with_reducible rfl)); (try simp only [gkA, gkB, gkC, Act.put, gkD, gkE, gkF])
     refine gk1 17 (v := ?_) rfl ?_ ?_
     rotate_left; focus (intro w9 hS9; clear hS9; go_simp; (try with_reducible rfl)); (try simp only [gkA, gkB, gkC, Act.put, gkD, gkE, gkF])
     obtain ⟨y0, y1, yf⟩ := blk2 HYB.out; have hgl := lt_of_heap HYB.out; refine gk3 19 rfl (fun K hK => ?_); go_simp; clear hHeld; refine gk5 hK.out rfl (bl_set (bl_set HW.out _ hgy) _ hgy) (fun hHeld => ?_); clear hK K; refine gk3 20 rfl (fun K hK => ?_); go_simp; clear hHeld; refine gk5 hK.out rfl (bl_set (bl_set HW.out _ hgy) _ hgy) (fun hHeld => ?_); clear hK K; refine wpD_done (by kernel_rfl) ?_
     go_wp2_with (fail)
     go_meet; exact ⟨_, _, rfl, rfl, ER.mk_set hPB.out HW.out HWQ.out.size hgy hgq HS9.out HD9.out HYB.out⟩
  case rest =>
   obtain ⟨gy, v9, rfl, rfl, her⟩ := hcut; have HS10 := Lib.hid (HSB.out.step her.b); have HR10 := Lib.hid her
   obtain ⟨a9, n9, c9, hv9⟩ : ∃ a n c, v9 = .slice a n c := by
    obtain ⟨a, c, _, _, e, -⟩ := her.se; exact ⟨a, _, c, e⟩
   subst hv9; have hlt := HS10.out.lt; have hgl := lt_of_heap her.g; have hgw := her.lo; have hltB := HSB.out.lt; obtain ⟨y0, y1, yf⟩ := blk2 her.g; clear her HVB HFM HEN HDO HL0 HL4 HLB HW hPB
   by_cases hz9 : z9 = 0
   case neg =>
    have HR := Lib.hid ((HAS.out es9 z9 (by rw [HPO.out]; exact HEQ.out)).trans (if_pos hz9)); have hz2 : (z9 != 0) = true := by simpa using hz9
    have HYX := Lib.hid HS10.out.y; have HBX := Lib.hid HS10.out.b; obtain ⟨d0, d1, -⟩ := blk2 HYX.out.b1; obtain ⟨e0, e1, ef⟩ := blk2 HYX.out.b3; clear hz9; go_wp2; have g5 : ((wc.setCell ⟨w.heap.size + 1 + 1 + 1, 0, none⟩ (.slice ae es.length ce)).setCell ⟨w.heap.size + 1 + 1 + 1, 1, none⟩ (.slice ad ds.length cd)).heap[w.heap.size + 1 + 1 + 1]? = some (.cells #[(.slice ae es.length ce), (.slice ad ds.length cd)] 70 (0, 0)) := heap_setCell_same _ _ _ _ _ _ (heap_setCell_same _ _ _ _ _ _ HYX.out.b3); have b5 : Below w.heap.size w ((wc.setCell ⟨w.heap.size + 1 + 1 + 1, 0, none⟩ (.slice ae es.length ce)).setCell ⟨w.heap.size + 1 + 1 + 1, 1, none⟩ (.slice ad ds.length cd)) := bl_set (bl_set HBX.out _ (by simp only; omega)) _ (by simp only; omega); obtain ⟨k0, k1, -⟩ := blk2 g5; generalize (wc.setCell ⟨w.heap.size + 1 + 1 + 1, 0, none⟩ (.slice ae es.length ce)).setCell ⟨w.heap.size + 1 + 1 + 1, 1, none⟩ (.slice ad ds.length cd) = w9 at *; refine bodyPost_ret (v := .tuple #[.agg #[(.slice ae es.length ce), (.slice ad ds.length cd)], .int .i64 z9]) (by simp [results, Tryz.results41, go_sem, k0, k1]) rfl ?_; rw [HR.out]; exact BookR.old HE.out HD.out b5
   subst hz9; have HR := Lib.hid ((HAS.out es9 0 (by rw [HPO.out]; exact HEQ.out)).trans (if_neg (by simp))); have hw10 := HS10.out.b.size; have HPU := Lib.hid (putR_any (fun k => (k < w.heap.size ∧ R k) ∨ wc.heap.size ≤ k) ds (.slice ad ds.length cd) x xa xc wc (fun k hk => .inr hk) (HD.out.keep (fun q h => ⟨.inl ⟨h.2, h.1⟩, Nat.lt_of_lt_of_le h.2 hw10⟩) (fun q h => HS10.out.b.block q h.2)) (HV.out.keep (fun q h => ⟨.inl ⟨h.2, h.1⟩, Nat.lt_of_lt_of_le h.2 hw10⟩) (fun q h => HS10.out.b.block q h.2)) HX.out (by have := HBK.out.ds; simp only at this; omega) HBK.out.sort); obtain ⟨x0, x1, x2, x3, x4, x5, x6, -⟩ := blk7 HS10.out.y.b2; have x0' : wc.cell? ⟨w.heap.size + 1 + 1, 0, none⟩ = some (.string x.key) := x0; have x1' : wc.cell? ⟨w.heap.size + 1 + 1, 1, none⟩ = some (.string x.veh) := x1; have x2' : wc.cell? ⟨w.heap.size + 1 + 1, 2, none⟩ = some (.string x.sys) := x2; have x3' : wc.cell? ⟨w.heap.size + 1 + 1, 3, none⟩ = some (.int .i64 x.cls) := x3; have x4' : wc.cell? ⟨w.heap.size + 1 + 1, 4, none⟩ = some (.int .i64 x.tm) := x4; have x5' : wc.cell? ⟨w.heap.size + 1 + 1, 5, none⟩ = some (.slice xa x.ls.length xc) := x5; have x6' : wc.cell? ⟨w.heap.size + 1 + 1, 6, none⟩ = some (.int .i64 x.c) := x6; clear x0 x1 x2 x3 x4 x5 x6
   go_wp2_with (fail)
   with_reducible refine HPU.out.mono ?_
   clear HPU; rintro r w11 ⟨⟨v11, rfl, hs11⟩, hb11⟩; have HS11 := Lib.hid hs11; obtain ⟨a11, c11, _, _, rfl, -⟩ := id hs11; have HSA := Lib.hid (HS10.out.step hb11); have HG11 := Lib.hid (show BB gy (.slice a9 n9 c9) (.slice ad ds.length cd) w11 from (hb11.block _ hgl).trans HR10.out.g); have hse := HR10.out.se; rw [if_pos (by trivial)] at hse; have HE11 := Lib.hid (hse.keep (S' := fun k => ((k < w.heap.size ∧ R k) ∨ wB.heap.size ≤ k) ∧ k ≠ gy ∧ k < w11.heap.size) (fun q h => ⟨h.1, h.2.1, Nat.lt_of_lt_of_le h.2.2 hb11.size⟩) (fun q h => hb11.block q h.2.2)); have hz11 := hb11.size; clear hs11 hb11 hse y0 y1 yf x0' x1' x2' x3' x4' x5' x6'; obtain ⟨y0, y1, yf⟩ := blk2 HG11.out; have hgl11 := lt_of_heap HG11.out
   go_upto_region 15 with (fail)
   have hne : w.heap.size + 3 ≠ gy := by omega
   have g12 : (w11.setCell ⟨gy, 1, none⟩ (.slice a11 (putP ds x).length c11)).heap[gy]? = some (.cells #[.slice a9 n9 c9, .slice a11 (putP ds x).length c11] 70 (0, 0)) := heap_setCell_same _ _ _ _ _ _ HG11.out; have e12 : BB (w.heap.size + 3) (.slice none 0 0) (.slice none 0 0) (w11.setCell ⟨gy, 1, none⟩ (.slice a11 (putP ds x).length c11)) := (Below.heap_setCell _ _ _ _ hne).trans HSA.out.y.b3; have b12 : Below w.heap.size w (w11.setCell ⟨gy, 1, none⟩ (.slice a11 (putP ds x).length c11)) := bl_set HSA.out.b _ (by simp only; omega); have h12 : ∀ q, q ≠ gy → (w11.setCell ⟨gy, 1, none⟩ (.slice a11 (putP ds x).length c11)).heap[q]? = w11.heap[q]? := fun q hq => Below.heap_setCell _ _ _ _ hq
   have z12 : (w11.setCell ⟨gy, 1, none⟩ (.slice a11 (putP ds x).length c11)).heap.size = w11.heap.size := by simp
   clear y0 y1 yf; generalize w11.setCell ⟨gy, 1, none⟩ (.slice a11 (putP ds x).length c11) = w12 at g12 e12 b12 h12 z12 ⊢; obtain ⟨y0, y1, -⟩ := blk2 g12; obtain ⟨e0, e1, ef⟩ := blk2 e12; have e0' : w12.cell? ⟨w.heap.size + 1 + 1 + 1, 0, none⟩ = some (.slice none 0 0) := e0; have e1' : w12.cell? ⟨w.heap.size + 1 + 1 + 1, 1, none⟩ = some (.slice none 0 0) := e1; have ef' : ∀ j, w12.frozen? ⟨w.heap.size + 1 + 1 + 1, j, none⟩ = false := ef; have hl12 : w.heap.size + 1 + 1 + 1 < w12.heap.size := lt_of_heap e12; have H12 := Lib.hid h12; have Z12 := Lib.hid z12; have B12 := Lib.hid b12; have E12 := Lib.hid e12; clear e0 e1 ef h12 b12 z12 e12 g12; go_wp2; have g5 : ((w12.setCell ⟨w.heap.size + 1 + 1 + 1, 0, none⟩ (.slice a9 n9 c9)).setCell ⟨w.heap.size + 1 + 1 + 1, 1, none⟩ (.slice a11 (putP ds x).length c11)).heap[w.heap.size + 1 + 1 + 1]? = some (.cells #[.slice a9 n9 c9, .slice a11 (putP ds x).length c11] 70 (0, 0)) := heap_setCell_same _ _ _ _ _ _ (heap_setCell_same _ _ _ _ _ _ E12.out); have b5 : Below w.heap.size w ((w12.setCell ⟨w.heap.size + 1 + 1 + 1, 0, none⟩ (.slice a9 n9 c9)).setCell ⟨w.heap.size + 1 + 1 + 1, 1, none⟩ (.slice a11 (putP ds x).length c11)) := bl_set (bl_set B12.out _ (by simp only; omega)) _ (by simp only; omega); have hoth : ∀ q, q ≠ gy → q ≠ w.heap.size + 3 → ((w12.setCell ⟨w.heap.size + 1 + 1 + 1, 0, none⟩ (.slice a9 n9 c9)).setCell ⟨w.heap.size + 1 + 1 + 1, 1, none⟩ (.slice a11 (putP ds x).length c11)).heap[q]? = w11.heap[q]? := fun q h1 h2 => ((Below.heap_setCell _ _ _ _ h2).trans (Below.heap_setCell _ _ _ _ h2)).trans (H12.out q h1)
   have hz5 : w11.heap.size = ((w12.setCell ⟨w.heap.size + 1 + 1 + 1, 0, none⟩ (.slice a9 n9 c9)).setCell ⟨w.heap.size + 1 + 1 + 1, 1, none⟩ (.slice a11 (putP ds x).length c11)).heap.size := by simp [Z12.out]
   obtain ⟨k0, k1, -⟩ := blk2 g5; clear y0 y1 e0' e1' ef'; generalize (w12.setCell ⟨w.heap.size + 1 + 1 + 1, 0, none⟩ (.slice a9 n9 c9)).setCell ⟨w.heap.size + 1 + 1 + 1, 1, none⟩ (.slice a11 (putP ds x).length c11) = wf at *; refine bodyPost_ret (v := .tuple #[.agg #[.slice a9 n9 c9, .slice a11 (putP ds x).length c11], .int .i64 0]) (by simp [results, Tryz.results41, go_sem, k0, k1]) rfl ?_; rw [HR.out]; exact ⟨_, _, rfl, HE11.out.keep (fun q h => ⟨h.1.elim (fun h => h.2) (fun h => HRR.out q (by omega)), by omega⟩) (fun q h => hoth q h.2.1 (by rcases h.1 with h | h <;> omega)), HS11.out.keep (fun q h => ⟨h.1.elim (fun h => h.2) (fun h => HRR.out q (by omega)), by omega⟩) (fun q h => hoth q (by rcases h.1 with h | h <;> omega) (by rcases h.1 with h | h <;> omega)), b5⟩
 | some o =>
  rw [hf] at HPA; simp only at HPA; have HPO := Lib.hid (show postsA c ds x = addP (addP (addP (addP [] (debC c o) (-o.c)) (creC o) (- -o.c)) (debC c x) x.c) (creC x) (-x.c) from HPA.out); rw [Int.neg_neg] at HPO; have HFO := Lib.hid (HFO.out o hf); have hcf := chk_facts (HFC.out o hf); have hoc : 0 ≤ o.c ∧ o.c ≤ 1125899906842624 := ⟨hcf.2.2.2.2.2.2.1, hcf.2.2.2.2.2.2.2.1⟩; have hon : IntKind.i64.wrap (-o.c) = -o.c := wrap_in (by omega) (by omega); clear HPA HFC hf hcf; simp only [Option.getD_some, Option.isSome_some]
  go_upto_region 6 with (fail)
  have HS5 := Lib.hid (HS4.out.step (bl_alloc (Below.refl w4.heap.size w4) (.cells #[.string o.key, .string o.veh, .string o.sys, .int .i64 o.cls, .int .i64 o.tm, .slice oa on oc, .int .i64 o.c] 49))); have HG5 := Lib.hid (show XB w4.heap.size o (.slice oa on oc) _ from heap_alloc_new w4 (.cells #[.string o.key, .string o.veh, .string o.sys, .int .i64 o.cls, .int .i64 o.tm, .slice oa on oc, .int .i64 o.c] 49)); generalize w4.alloc (.cells #[.string o.key, .string o.veh, .string o.sys, .int .i64 o.cls, .int .i64 o.tm, .slice oa on oc, .int .i64 o.c] 49) = w5 at HS5 HG5 ⊢; generalize w4.heap.size = go at HG5 ⊢; have HM5 := HM0; clear HM0 HS4; have LDC := fun d os => ldc_re HS5.out.y.b0 HA.out.size d os
  have LDX := fun d os => ldx_re HG5.out d os
  have c6 := (blk7 HG5.out).2.2.2.2.2.2.1; have b6 := cell_regrown c6; clear c6; have cD := fun d os => Calls.regrown_of (debit_any c A va o oa on oc _ HA.out (HC.out.step (bl_trans HS5.out.b (below_regrown w5 d os))) HK.out HFO.out.veh)
  go_upto_region 7 with (fail)
  refine wp_region_below_tail 7 (by kernel_rfl) (by kernel_rfl) ?_; simp only [List.take_succ_cons, List.take_zero, List.drop_succ_cons, List.drop_zero]
  quiet_step (fail)
  refine wpQuiet_step (fun K hK => ?_); rw [if_pos (show _ = true by kernel_rfl)]; refine quiet_loadA (A := A) rfl Tryz.isAgg46 Tryz.sizeOf46 rfl (fun w' hw' => ?_) (hK _ ?_)
  · obtain ⟨⟨nq, osq⟩, rfl⟩ := hw'
    exact LDC nq osq
  clear hK K; refine wpQuiet_step (fun K hK => ?_); rw [if_pos (show _ = true by kernel_rfl)]; refine quiet_loadA (A := #[.string o.key, .string o.veh, .string o.sys, .int .i64 o.cls, .int .i64 o.tm, .slice oa on oc, .int .i64 o.c]) rfl Tryz.isAgg49 Tryz.sizeOf49 rfl (fun w' hw' => ?_) (hK _ ?_)
  · obtain ⟨⟨nq, osq⟩, rfl⟩ := hw'
    exact LDX nq osq
  clear hK K
  (repeat (quiet_step (first | (go_at_call 38; with_reducible exact cD _ _))))
  refine wpQuiet_nil ?_; intro wq6 hq6; have HQ6 := Lib.hid (HS5.out.step hq6); have HG6 := Lib.hid (HG5.out.step hq6); have HAD := Lib.hid (addR_any [] _ (debC c o) (-o.c) wq6 HQ6.out.s (Nat.le_trans HM5.out.2 (by decide)) (debC_size HK.out HFO.out.veh) (HM5.out.amt (by decide)) (by omega)); have HM6 := Lib.hid (HM5.out.add (a := (debC c o)) (n := (-o.c)) (by omega) (by omega)); clear hq6 cD b6 LDX
  go_wp2_with (fail)
  with_reducible refine HAD.out.mono ?_
  clear HAD; rintro r w6 ⟨⟨v6, rfl, hn6⟩, hb6⟩; have HS6 := Lib.hid (HQ6.out.put hb6 hn6.sl'); have HH6 := Lib.hid (HG6.out.step hb6); clear HG6; have HG6 := HH6; clear HH6; obtain ⟨a6, c6, rfl, -⟩ := hn6.form; clear hn6 hb6 HQ6; clear LDC; have LDC := fun d os => ldc_re HS6.out.y.b0 HA.out.size d os
  have LDX := fun d os => ldx_re HG6.out d os
  have c6 := (blk7 HG6.out).2.2.2.2.2.2.1; have b6 := cell_regrown c6; clear c6; have cD := fun d os => Calls.regrown_of (credit_any o (.slice oa on oc) (grow (redrawn w6 d) os) HFO.out.sys)
  go_upto_region 8 with (fail)
  refine wp_region_below_tail 5 (by kernel_rfl) (by kernel_rfl) ?_; simp only [List.take_succ_cons, List.take_zero, List.drop_succ_cons, List.drop_zero]
  quiet_step (fail)
  refine wpQuiet_step (fun K hK => ?_); rw [if_pos (show _ = true by kernel_rfl)]; refine quiet_loadA (A := #[.string o.key, .string o.veh, .string o.sys, .int .i64 o.cls, .int .i64 o.tm, .slice oa on oc, .int .i64 o.c]) rfl Tryz.isAgg49 Tryz.sizeOf49 rfl (fun w' hw' => ?_) (hK _ ?_)
  · obtain ⟨⟨nq, osq⟩, rfl⟩ := hw'
    exact LDX nq osq
  clear hK K
  (repeat (quiet_step (first | (go_at_call 39; with_reducible exact cD _ _))))
  refine wpQuiet_nil ?_; intro wq7 hq7; have HQ7 := Lib.hid (HS6.out.step hq7); have HG7 := Lib.hid (HG6.out.step hq7); have HAD := Lib.hid (addR_any (addP [] (debC c o) (-o.c)) _ (creC o) o.c wq7 HQ7.out.s (Nat.le_trans HM6.out.2 (by decide)) (creC_size HFO.out.sys) (HM6.out.amt (by decide)) (by omega)); have HM7 := Lib.hid (HM6.out.add (a := (creC o)) (n := o.c) (by omega) (by omega)); clear hq7 cD b6 LDX
  go_wp2_with (fail)
  with_reducible refine HAD.out.mono ?_
  clear HAD; rintro r w7 ⟨⟨v7, rfl, hn7⟩, hb7⟩; have HS7 := Lib.hid (HQ7.out.put hb7 hn7.sl'); have HH7 := Lib.hid (HG7.out.step hb7); clear HG7; have HG7 := HH7; clear HH7; obtain ⟨a7, c7, rfl, -⟩ := hn7.form; clear hn7 hb7 HQ7; clear LDC HG5 HG6 HG7 HS5 HS6 HM5 HM6; have HG7 := Lib.hid (show XB (w.heap.size + 1 + 1) x (.slice xa x.ls.length xc) w7 from HS7.out.y.b2); have LDC := fun d os => ldc_re HS7.out.y.b0 HA.out.size d os
  have LDX := fun d os => ldx_re HG7.out d os
  have c6 := (blk7 HG7.out).2.2.2.2.2.2.1; have b6 := cell_regrown c6; clear c6; have cD := fun d os => Calls.regrown_of (debit_any c A va x xa x.ls.length xc _ HA.out (HC.out.step (bl_trans HS7.out.b (below_regrown w7 d os))) HK.out HXC.out.veh)
  go_upto_region 9 with (fail)
  refine wp_region_below_tail 6 (by kernel_rfl) (by kernel_rfl) ?_; simp only [List.take_succ_cons, List.take_zero, List.drop_succ_cons, List.drop_zero]
  quiet_step (fail)
  refine wpQuiet_step (fun K hK => ?_); rw [if_pos (show _ = true by kernel_rfl)]; refine quiet_loadA (A := A) rfl Tryz.isAgg46 Tryz.sizeOf46 rfl (fun w' hw' => ?_) (hK _ ?_)
  · obtain ⟨⟨nq, osq⟩, rfl⟩ := hw'
    exact LDC nq osq
  clear hK K; refine wpQuiet_step (fun K hK => ?_); rw [if_pos (show _ = true by kernel_rfl)]; refine quiet_loadA (A := #[.string x.key, .string x.veh, .string x.sys, .int .i64 x.cls, .int .i64 x.tm, .slice xa x.ls.length xc, .int .i64 x.c]) rfl Tryz.isAgg49 Tryz.sizeOf49 rfl (fun w' hw' => ?_) (hK _ ?_)
  · obtain ⟨⟨nq, osq⟩, rfl⟩ := hw'
    exact LDX nq osq
  clear hK K
  (repeat (quiet_step (first | (go_at_call 38; with_reducible exact cD _ _))))
  refine wpQuiet_nil ?_; intro wqA hqA; have HQA := Lib.hid (HS7.out.step hqA); have HGA := Lib.hid (HG7.out.step hqA); have HAD := Lib.hid (addR_any (addP (addP [] (debC c o) (-o.c)) (creC o) o.c) _ (debC c x) x.c wqA HQA.out.s (Nat.le_trans HM7.out.2 (by decide)) (debC_size HK.out HXC.out.veh) (HM7.out.amt (by decide)) (by omega)); have HMA := Lib.hid (HM7.out.add (a := (debC c x)) (n := x.c) (by omega) (by omega)); clear hqA cD b6 LDX
  go_wp2_with (fail)
  with_reducible refine HAD.out.mono ?_
  clear HAD; rintro r wA ⟨⟨vA, rfl, hnA⟩, hbA⟩; have HSA := Lib.hid (HQA.out.put hbA hnA.sl'); have HHA := Lib.hid (HGA.out.step hbA); clear HGA; have HGA := HHA; clear HHA; obtain ⟨aA, cA, rfl, -⟩ := hnA.form; clear hnA hbA HQA; clear LDC; have LDC := fun d os => ldc_re HSA.out.y.b0 HA.out.size d os
  have LDX := fun d os => ldx_re HGA.out d os
  have c6 := (blk7 HGA.out).2.2.2.2.2.2.1; have b6 := cell_regrown c6; clear c6; have cD := fun d os => Calls.regrown_of (credit_any x (.slice xa x.ls.length xc) (grow (redrawn wA d) os) HXC.out.sys)
  go_upto_region 10 with (fail)
  refine wp_region_below_tail 6 (by kernel_rfl) (by kernel_rfl) ?_; simp only [List.take_succ_cons, List.take_zero, List.drop_succ_cons, List.drop_zero]
  quiet_step (fail)
  refine wpQuiet_step (fun K hK => ?_); rw [if_pos (show _ = true by kernel_rfl)]; refine quiet_loadA (A := #[.string x.key, .string x.veh, .string x.sys, .int .i64 x.cls, .int .i64 x.tm, .slice xa x.ls.length xc, .int .i64 x.c]) rfl Tryz.isAgg49 Tryz.sizeOf49 rfl (fun w' hw' => ?_) (hK _ ?_)
  · obtain ⟨⟨nq, osq⟩, rfl⟩ := hw'
    exact LDX nq osq
  clear hK K
  (repeat (quiet_step (first | (go_at_call 39; with_reducible exact cD _ _))))
  refine wpQuiet_nil ?_; intro wqB hqB; have HQB := Lib.hid (HSA.out.step hqB); have HGB := Lib.hid (HGA.out.step hqB); have HAD := Lib.hid (addR_any (addP (addP (addP [] (debC c o) (-o.c)) (creC o) o.c) (debC c x) x.c) _ (creC x) (-x.c) wqB HQB.out.s (Nat.le_trans HMA.out.2 (by decide)) (creC_size HXC.out.sys) (HMA.out.amt (by decide)) (by omega)); have HMB := Lib.hid (HMA.out.add (a := (creC x)) (n := (-x.c)) (by omega) (by omega)); clear hqB cD b6 LDX
  go_wp2_with (fail)
  with_reducible refine HAD.out.mono ?_
  clear HAD; rintro r wB ⟨⟨vB, rfl, hnB⟩, hbB⟩; have HSB := Lib.hid (HQB.out.put hbB hnB.sl'); have HHB := Lib.hid (HGB.out.step hbB); clear HGB; have HGB := HHB; clear HHB; obtain ⟨aB, cB, rfl, -⟩ := hnB.form; clear hnB hbB HQB; clear LDC HG7 HGA HGB HS7 HSA HM7 HMA; generalize addP (addP (addP (addP [] (debC c o) (-o.c)) (creC o) o.c) (debC c x) x.c) (creC x) (-x.c) = pl at HSB HMB HPO ⊢; have hvl : (verN es x.key : Int) ≤ 900 := by have h1 := HBK.out.len; have h2 := ver_le (l := es) (s := x.key); simp only at h1; omega
  have hv0 : 0 ≤ (verN es x.key : Int) := by omega
  have HVE := Lib.hid (show ∀ W, Below w.heap.size w W → Calls Tryz.prog 76 #[.agg #[.slice ae es.length ce], .string x.key] W fun e w' => e = .returned (.int .i64 (verN es x.key)) ∧ Below W.heap.size W w' from fun W hW => versionR_any es (.slice ae es.length ce) x.key W ((ltR HE.out).step hW) (by have := HXC.out.key; omega) (by have := HBK.out.len; simp only at this; omega)); have hke := HXC.out.key; have HAS := Lib.hid (fun es' z => @ap_s c ⟨es, ds⟩ x HZ.out es' z); simp only at HAS; generalize (verN es x.key : Int) = vn at HVE hvl hv0 HAS; have hvi : i64ok vn := by unfold i64ok; omega
  have HFM := Lib.hid (FormatR_any vn hvi); have hfz := fmt_size hvi; have HKS := Lib.hid (keyC_size hke hvi); have HKE := Lib.hid (show keyC x.key vn = x.key ++ ⟨#[35]⟩ ++ fmtS vn from rfl); clear hvi; generalize keyC x.key vn = kk at HKS HKE HAS; generalize fmtS vn = fm at *; obtain ⟨⟨es9, z9⟩, hen⟩ : ∃ r, enterL es kk x.tm (postsA c ds x) = r := ⟨_, rfl⟩; rw [HPO.out] at hen; have HEQ := Lib.hid hen
  have HEN := Lib.hid (show ∀ W, Below wB.heap.size wB W → Calls Tryz.prog 75 #[.agg #[.slice ae es.length ce, .slice ad ds.length cd], .string (x.key ++ ⟨#[35]⟩ ++ fm), .int .i64 x.tm, .slice aB pl.length cB] W (EntRE (fun k => (k < w.heap.size ∧ R k) ∨ W.heap.size ≤ k) W (.slice ad ds.length cd) es (es9, z9)) from fun W hW => by
   rw [← hen, ← HKE.out]
   exact enterR_any _ es (.slice ae es.length ce) ad ds.length cd kk x.tm pl (.slice aB pl.length cB) W (fun k hk => .inr hk) (HE.out.keep (fun q h => ⟨.inl ⟨h.2, h.1⟩, Nat.lt_of_lt_of_le h.2 (Nat.le_trans HSB.out.b.size hW.size)⟩) (fun q h => (bl_trans HSB.out.b hW).block q h.2)) (HSB.out.s.step hW) (Nat.le_trans HKS.out (by decide)) (by have := HCF.out; unfold i64ok; omega) HBK.out.es (by have := HBK.out.len; simp only at this; omega) (HPO.out ▸ postsA_len c ds x))
  unfold EntRE at HEN; clear hen; have hbz : w.heap.size ≤ wB.heap.size := HSB.out.b.size; have HDO := Lib.hid (show ∀ (W W' : World), Below wB.heap.size wB W → Below W.heap.size W W' → SlIs (tChg eL) (fun k => ((k < w.heap.size ∧ R k) ∨ W.heap.size ≤ k) ∧ k < W'.heap.size) W' (.slice ad ds.length cd) ds from fun W W' h1 h2 => HD.out.keep (fun q h => ⟨.inl ⟨h.2, h.1⟩, Nat.lt_of_lt_of_le h.2 (Nat.le_trans hbz (Nat.le_trans h1.size h2.size))⟩) (fun q h => (bl_trans (bl_trans HSB.out.b h1) h2).block q h.2)); have HL0 := Lib.hid (show ∀ w', Below wB.heap.size wB w' → w'.cell? ⟨w.heap.size + 1 + 1, 0, none⟩ = some (.string x.key) from fun w' h => (blk7 (HSB.out.step h).y.b2).1); have HL4 := Lib.hid (show ∀ w', Below wB.heap.size wB w' → w'.cell? ⟨w.heap.size + 1 + 1, 4, none⟩ = some (.int .i64 x.tm) from fun w' h => (blk7 (HSB.out.step h).y.b2).2.2.2.2.1); have HLB := Lib.hid (show ∀ w', Below wB.heap.size wB w' → w'.cell? ⟨w.heap.size + 1, 0, none⟩ = some (.slice ae es.length ce) ∧ w'.cell? ⟨w.heap.size + 1, 1, none⟩ = some (.slice ad ds.length cd) from fun w' h => ⟨(blk2 (HSB.out.step h).y.b1).1, (blk2 (HSB.out.step h).y.b1).2.1⟩); have HVB := Lib.hid (fun W (h : Below wB.heap.size wB W) => HVE.out W (bl_trans HSB.out.b h)); have z1 : ¬ (9223372036854775807 < x.key.size + 1) := by omega
  have z2 : ¬ (9223372036854775807 < x.key.size + 1 + fm.size) := by omega
  have hPB := Lib.hid (show ∀ k, (k < w.heap.size ∧ R k) → k < wB.heap.size from fun k h => by omega); clear HVE hfz hvl hv0; have HW := Lib.hid (Below.drew (Below.refl wB.heap.size wB))
  go_upto_region 11 with (fail)
  go_cut [12, 13] (fun yv fv wx => ∃ (gy : Nat) (v9 : Value), yv = .pointer (some ⟨gy, 0, none⟩) ∧ fv = .int .i64 z9 ∧ ER wB (fun k => k < w.heap.size ∧ R k) gy v9 (.slice ad ds.length cd) (if z9 = 0 then es9 else es) ds wx)
  case first =>
   refine wp_region_D (fun j => if j < 21 then 0 else if j < 21 then 1 else 2) (fun w' => Below wB.heap.size wB w') (by kernel_rfl) (HW.out) (fun hHeld => ?_); refine gk1 0 (v := ?_) rfl ?_ ?_
   rotate_left; focus (intro w9 hS9; obtain ⟨z0, z1⟩ := HLB.out w9 hS9; clear hS9; go_simp; (try with_reducible rfl)); (try simp only [gkA, gkB, gkC, Act.put, gkD, gkE, gkF])
   refine gk1 1 (v := ?_) rfl ?_ ?_
   rotate_left; focus (intro w9 hS9; clear hS9; go_simp; (try with_reducible rfl)); (try simp only [gkA, gkB, gkC, Act.put, gkD, gkE, gkF])
   refine gk1 2 (v := ?_) rfl ?_ ?_
   rotate_left; focus (intro w9 hS9; have z0 := HL0.out w9 hS9; clear hS9; go_simp; (try with_reducible rfl)); (try simp only [gkA, gkB, gkC, Act.put, gkD, gkE, gkF])
   refine gk1 3 (v := ?_) rfl ?_ ?_
   rotate_left; focus (intro w9 hS9; clear hS9; go_simp; (try with_reducible rfl)); (try simp only [gkA, gkB, gkC, Act.put, gkD, gkE, gkF])
   refine gk1 4 (v := ?_) rfl ?_ ?_
   rotate_left; focus (intro w9 hS9; clear hS9; go_simp; (try with_reducible rfl)); (try simp only [gkA, gkB, gkC, Act.put, gkD, gkE, gkF])
   refine gk1 5 (v := ?_) rfl ?_ ?_
   rotate_left; focus (intro w9 hS9; obtain ⟨z0, z1⟩ := HLB.out w9 hS9; clear hS9; go_simp; (try with_reducible rfl)); (try simp only [gkA, gkB, gkC, Act.put, gkD, gkE, gkF])
   refine gk1 6 (v := ?_) rfl ?_ ?_
   rotate_left; focus (intro w9 hS9; clear hS9; go_simp; (try with_reducible rfl)); (try simp only [gkA, gkB, gkC, Act.put, gkD, gkE, gkF])
   refine gk1 7 (v := ?_) rfl ?_ ?_
   rotate_left; focus (intro w9 hS9; have z0 := HL0.out w9 hS9; clear hS9; go_simp; (try with_reducible rfl)); (try simp only [gkA, gkB, gkC, Act.put, gkD, gkE, gkF])
   refine gk1 11 (v := ?_) rfl ?_ ?_
   rotate_left; focus (intro w9 hS9; clear hS9; go_simp; (try with_reducible rfl)); (try simp only [gkA, gkB, gkC, Act.put, gkD, gkE, gkF])
   refine gk1 12 (v := ?_) rfl ?_ ?_
   rotate_left; focus (intro w9 hS9; have z0 := HL4.out w9 hS9; clear hS9; go_simp; (try with_reducible rfl)); (try simp only [gkA, gkB, gkC, Act.put, gkD, gkE, gkF])
   refine gk1 13 (v := ?_) rfl ?_ ?_
   rotate_left; focus (intro w9 hS9; clear hS9; go_simp; (try with_reducible rfl)); (try simp only [gkA, gkB, gkC, Act.put, gkD, gkE, gkF])
   refine wpD_ready (rs := [8, 18]) (by kernel_rfl) (by kernel_rfl) ?_; refine AllReadyD.cons rfl (fun K hK => ?_) (AllReadyD.cons rfl (fun K hK => ?_) AllReadyD.nil)
   · rw [if_pos (show _ = true by kernel_rfl)]
     go_simp
     with_reducible refine (HVB.out _ HW.out).mono ?_
     rintro r w7 ⟨rfl, hbv⟩; have HV := Lib.hid (bl_trans HW.out hbv)
     skip
     clear hbv HW; have HW := HV; clear HV; clear hHeld; refine gk5 hK.out rfl (HW.out) (fun hHeld => ?_); clear hK K; refine wpD_ready (rs := [9, 18]) (by kernel_rfl) (by kernel_rfl) ?_; refine AllReadyD.cons rfl (fun K hK => ?_) (AllReadyD.cons rfl (fun K hK => ?_) AllReadyD.nil)
     · rw [if_pos (show _ = true by kernel_rfl)]
       go_simp
       with_reducible refine (HFM.out _).mono ?_
       rintro r w8 ⟨rfl, rfl⟩; clear hHeld; refine gk5 hK.out rfl (HW.out) (fun hHeld => ?_); clear hK K; refine gk1 10 (v := ?_) rfl ?_ ?_
       rotate_left; focus (intro w9 hS9; clear hS9; go_simp; (try with_reducible rfl)); (try simp only [gkA, gkB, gkC, Act.put, gkD, gkE, gkF])
       refine wpD_ready (rs := [14, 18]) (by kernel_rfl) (by kernel_rfl) ?_; refine AllReadyD.cons rfl (fun K hK => ?_) (AllReadyD.cons rfl (fun K hK => ?_) AllReadyD.nil)
       · rw [if_pos (show _ = true by kernel_rfl)]
         go_simp
         with_reducible refine (HEN.out _ HW.out).mono ?_
         rintro r w9 ⟨⟨v9, rfl, hs9⟩, hbe⟩; have HS9 := Lib.hid hs9; have HD9 := Lib.hid (HDO.out _ _ HW.out hbe); have HV := Lib.hid (bl_trans HW.out hbe); have HWQ := HW
         obtain ⟨a9, n9, c9, hv9⟩ : ∃ a n c, v9 = .slice a n c := by
          obtain ⟨a, c, _, _, e, -⟩ := hs9; exact ⟨a, _, c, e⟩
         subst hv9
         skip
         clear hbe HW hs9; have HW := HV; clear HV; clear hHeld; refine gk5 hK.out rfl (HW.out) (fun hHeld => ?_); clear hK K; refine gk1 15 (v := ?_) rfl ?_ ?_
         rotate_left; focus (intro w9 hS9; clear hS9; go_simp; (try with_reducible rfl)); (try simp only [gkA, gkB, gkC, Act.put, gkD, gkE, gkF])
         refine gk1 16 (v := ?_) rfl ?_ ?_
         rotate_left; focus (intro w9 hS9; clear hS9; go_simp; (try with_reducible rfl)); (try simp only [gkA, gkB, gkC, Act.put, gkD, gkE, gkF])
         refine gk1 17 (v := ?_) rfl ?_ ?_
         rotate_left; focus (intro w9 hS9; clear hS9; go_simp; (try with_reducible rfl)); (try simp only [gkA, gkB, gkC, Act.put, gkD, gkE, gkF])
         refine gk3 18 rfl (fun K hK => ?_); go_simp; clear hHeld; refine gk5 hK.out rfl (bl_alloc HW.out _) (fun hHeld => ?_); clear hK K; refine gk3 19 rfl (fun K hK => ?_); go_simp; clear hHeld; refine gk5 hK.out rfl (bl_alloc HW.out _) (fun hHeld => ?_); clear hK K; refine gk3 20 rfl (fun K hK => ?_); go_simp; clear hHeld; refine gk5 hK.out rfl (bl_alloc HW.out _) (fun hHeld => ?_); clear hK K; refine wpD_done (by kernel_rfl) ?_
         go_wp2_with (fail)
         go_meet; exact ⟨_, _, rfl, rfl, ER.mk_alloc hPB.out HW.out HWQ.out.size HS9.out HD9.out⟩
       · rw [if_pos (show _ = true by kernel_rfl)]
         go_simp; clear hHeld; refine gk5 hK.out rfl (bl_alloc HW.out _) (fun hHeld => ?_); clear hK K; have HYB := Lib.hid (show BB (w7).heap.size (.slice none 0 0) (.slice none 0 0) _ from heap_alloc_new (w7) (.cells #[.slice none 0 0, .slice none 0 0] 70)); have HV := Lib.hid (bl_alloc HW.out (.cells #[.slice none 0 0, .slice none 0 0] 70)); have hgy : wB.heap.size ≤ (w7).heap.size := HW.out.size; clear HW; have HW := HV; clear HV; generalize (w7).alloc (.cells #[.slice none 0 0, .slice none 0 0] 70) = wy at HYB HW hHeld ⊢; generalize (w7).heap.size = gy at HYB hgy ⊢; refine gk3 14 rfl (fun K hK => ?_); go_simp
         with_reducible refine (HEN.out _ HW.out).mono ?_
         rintro r w9 ⟨⟨v9, rfl, hs9⟩, hbe⟩; have HS9 := Lib.hid hs9; have HD9 := Lib.hid (HDO.out _ _ HW.out hbe); have HV := Lib.hid (bl_trans HW.out hbe); have HWQ := HW
         obtain ⟨a9, n9, c9, hv9⟩ : ∃ a n c, v9 = .slice a n c := by
          obtain ⟨a, c, _, _, e, -⟩ := hs9; exact ⟨a, _, c, e⟩
         subst hv9; have hgq := lt_of_heap HYB.out; have HYC := Lib.hid ((hbe.block _ hgq).trans HYB.out); clear HYB; have HYB := HYC; clear HYC; clear hbe HW hs9; have HW := HV; clear HV; clear hHeld; refine gk5 hK.out rfl (HW.out) (fun hHeld => ?_); clear hK K; refine gk1 15 (v := ?_) rfl ?_ ?_
         rotate_left; focus (intro w9 hS9; clear hS9; go_simp; (try with_reducible rfl)); (try simp only [gkA, gkB, gkC, Act.put, gkD, gkE, gkF])
         refine gk1 16 (v := ?_) rfl ?_ ?_
         rotate_left; focus (intro w9 hS9; clear hS9; go_simp; (try with_reducible rfl)); (try simp only [gkA, gkB, gkC, Act.put, gkD, gkE, gkF])
         refine gk1 17 (v := ?_) rfl ?_ ?_
         rotate_left; focus (intro w9 hS9; clear hS9; go_simp; (try with_reducible rfl)); (try simp only [gkA, gkB, gkC, Act.put, gkD, gkE, gkF])
         obtain ⟨y0, y1, yf⟩ := blk2 HYB.out; have hgl := lt_of_heap HYB.out; refine gk3 19 rfl (fun K hK => ?_); go_simp; clear hHeld; refine gk5 hK.out rfl (bl_set (bl_set HW.out _ hgy) _ hgy) (fun hHeld => ?_); clear hK K; refine gk3 20 rfl (fun K hK => ?_); go_simp; clear hHeld; refine gk5 hK.out rfl (bl_set (bl_set HW.out _ hgy) _ hgy) (fun hHeld => ?_); clear hK K; refine wpD_done (by kernel_rfl) ?_
         go_wp2_with (fail)
         go_meet; exact ⟨_, _, rfl, rfl, ER.mk_set hPB.out HW.out HWQ.out.size hgy hgq HS9.out HD9.out HYB.out⟩
     · rw [if_pos (show _ = true by kernel_rfl)]
       go_simp; clear hHeld; refine gk5 hK.out rfl (bl_alloc HW.out _) (fun hHeld => ?_); clear hK K; have HYB := Lib.hid (show BB (w7).heap.size (.slice none 0 0) (.slice none 0 0) _ from heap_alloc_new (w7) (.cells #[.slice none 0 0, .slice none 0 0] 70)); have HV := Lib.hid (bl_alloc HW.out (.cells #[.slice none 0 0, .slice none 0 0] 70)); have hgy : wB.heap.size ≤ (w7).heap.size := HW.out.size; clear HW; have HW := HV; clear HV; generalize (w7).alloc (.cells #[.slice none 0 0, .slice none 0 0] 70) = wy at HYB HW hHeld ⊢; generalize (w7).heap.size = gy at HYB hgy ⊢; refine gk3 9 rfl (fun K hK => ?_); go_simp
       with_reducible refine (HFM.out _).mono ?_
       rintro r w8 ⟨rfl, rfl⟩; clear hHeld; refine gk5 hK.out rfl (HW.out) (fun hHeld => ?_); clear hK K; refine gk1 10 (v := ?_) rfl ?_ ?_
       rotate_left; focus (intro w9 hS9; clear hS9; go_simp; (try with_reducible rfl)); (try simp only [gkA, gkB, gkC, Act.put, gkD, gkE, gkF])
       refine gk3 14 rfl (fun K hK => ?_); go_simp
       with_reducible refine (HEN.out _ HW.out).mono ?_
       rintro r w9 ⟨⟨v9, rfl, hs9⟩, hbe⟩; have HS9 := Lib.hid hs9; have HD9 := Lib.hid (HDO.out _ _ HW.out hbe); have HV := Lib.hid (bl_trans HW.out hbe); have HWQ := HW
       obtain ⟨a9, n9, c9, hv9⟩ : ∃ a n c, v9 = .slice a n c := by
        obtain ⟨a, c, _, _, e, -⟩ := hs9; exact ⟨a, _, c, e⟩
       subst hv9; have hgq := lt_of_heap HYB.out; have HYC := Lib.hid ((hbe.block _ hgq).trans HYB.out); clear HYB; have HYB := HYC; clear HYC; clear hbe HW hs9; have HW := HV; clear HV; clear hHeld; refine gk5 hK.out rfl (HW.out) (fun hHeld => ?_); clear hK K; refine gk1 15 (v := ?_) rfl ?_ ?_
       rotate_left; focus (intro w9 hS9; clear hS9; go_simp; (try with_reducible rfl)); (try simp only [gkA, gkB, gkC, Act.put, gkD, gkE, gkF])
       refine gk1 16 (v := ?_) rfl ?_ ?_
       rotate_left; focus (intro w9 hS9; clear hS9; go_simp; (try with_reducible rfl)); (try simp only [gkA, gkB, gkC, Act.put, gkD, gkE, gkF])
       refine gk1 17 (v := ?_) rfl ?_ ?_
       rotate_left; focus (intro w9 hS9; clear hS9; go_simp; (try with_reducible rfl)); (try simp only [gkA, gkB, gkC, Act.put, gkD, gkE, gkF])
       obtain ⟨y0, y1, yf⟩ := blk2 HYB.out; have hgl := lt_of_heap HYB.out; refine gk3 19 rfl (fun K hK => ?_); go_simp; clear hHeld; refine gk5 hK.out rfl (bl_set (bl_set HW.out _ hgy) _ hgy) (fun hHeld => ?_); clear hK K; refine gk3 20 rfl (fun K hK => ?_); go_simp; clear hHeld; refine gk5 hK.out rfl (bl_set (bl_set HW.out _ hgy) _ hgy) (fun hHeld => ?_); clear hK K; refine wpD_done (by kernel_rfl) ?_
       go_wp2_with (fail)
       go_meet; exact ⟨_, _, rfl, rfl, ER.mk_set hPB.out HW.out HWQ.out.size hgy hgq HS9.out HD9.out HYB.out⟩
   · rw [if_pos (show _ = true by kernel_rfl)]
     go_simp; clear hHeld; refine gk5 hK.out rfl (bl_alloc HW.out _) (fun hHeld => ?_); clear hK K; have HYB := Lib.hid (show BB wB.heap.size (.slice none 0 0) (.slice none 0 0) (wB.alloc (.cells #[.slice none 0 0, .slice none 0 0] 70)).drew from heap_alloc_new wB (.cells #[.slice none 0 0, .slice none 0 0] 70)); have HV := Lib.hid (Below.drew (bl_alloc (Below.refl wB.heap.size wB) (.cells #[.slice none 0 0, .slice none 0 0] 70))); have hgy : wB.heap.size ≤ wB.heap.size := Nat.le_refl _; clear HW; have HW := HV; clear HV; have hHeld : Below wB.heap.size wB (wB.alloc (.cells #[.slice none 0 0, .slice none 0 0] 70)).drew := HW.out; generalize (wB.alloc (.cells #[.slice none 0 0, .slice none 0 0] 70)).drew = wy at HYB HW hHeld ⊢; refine gk3 8 rfl (fun K hK => ?_); go_simp
     with_reducible refine (HVB.out _ HW.out).mono ?_
     rintro r w7 ⟨rfl, hbv⟩; have HV := Lib.hid (bl_trans HW.out hbv); have hgq := lt_of_heap HYB.out; have HYC := Lib.hid ((hbv.block _ hgq).trans HYB.out); clear HYB; have HYB := HYC; clear HYC; clear hbv HW; have HW := HV; clear HV; clear hHeld; refine gk5 hK.out rfl (HW.out) (fun hHeld => ?_); clear hK K; refine gk3 9 rfl (fun K hK => ?_); go_simp
     with_reducible refine (HFM.out _).mono ?_
     rintro r w8 ⟨rfl, rfl⟩; clear hHeld; refine gk5 hK.out rfl (HW.out) (fun hHeld => ?_); clear hK K; refine gk1 10 (v := ?_) rfl ?_ ?_
     rotate_left; focus (intro w9 hS9; clear hS9; go_simp; (try with_reducible rfl)); (try simp only [gkA, gkB, gkC, Act.put, gkD, gkE, gkF])
     refine gk3 14 rfl (fun K hK => ?_); go_simp
     with_reducible refine (HEN.out _ HW.out).mono ?_
     rintro r w9 ⟨⟨v9, rfl, hs9⟩, hbe⟩; have HS9 := Lib.hid hs9; have HD9 := Lib.hid (HDO.out _ _ HW.out hbe); have HV := Lib.hid (bl_trans HW.out hbe); have HWQ := HW
     obtain ⟨a9, n9, c9, hv9⟩ : ∃ a n c, v9 = .slice a n c := by
      obtain ⟨a, c, _, _, e, -⟩ := hs9; exact ⟨a, _, c, e⟩
     subst hv9; have hgq := lt_of_heap HYB.out; have HYC := Lib.hid ((hbe.block _ hgq).trans HYB.out); clear HYB; have HYB := HYC; clear HYC; clear hbe HW hs9; have HW := HV; clear HV; clear hHeld; refine gk5 hK.out rfl (HW.out) (fun hHeld => ?_); clear hK K; refine gk1 15 (v := ?_) rfl ?_ ?_
     rotate_left; focus (intro w9 hS9; clear hS9; go_simp; (try with_reducible rfl)); (try simp only [gkA, gkB, gkC, Act.put, gkD, gkE, gkF])
     refine gk1 16 (v := ?_) rfl ?_ ?_
     rotate_left; focus (intro w9 hS9; clear hS9; go_simp; (try with_reducible rfl)); (try simp only [gkA, gkB, gkC, Act.put, gkD, gkE, gkF])
     refine gk1 17 (v := ?_) rfl ?_ ?_
     rotate_left; focus (intro w9 hS9; clear hS9; go_simp; (try with_reducible rfl)); (try simp only [gkA, gkB, gkC, Act.put, gkD, gkE, gkF])
     obtain ⟨y0, y1, yf⟩ := blk2 HYB.out; have hgl := lt_of_heap HYB.out; refine gk3 19 rfl (fun K hK => ?_); go_simp; clear hHeld; refine gk5 hK.out rfl (bl_set (bl_set HW.out _ hgy) _ hgy) (fun hHeld => ?_); clear hK K; refine gk3 20 rfl (fun K hK => ?_); go_simp; clear hHeld; refine gk5 hK.out rfl (bl_set (bl_set HW.out _ hgy) _ hgy) (fun hHeld => ?_); clear hK K; refine wpD_done (by kernel_rfl) ?_
     go_wp2_with (fail)
     go_meet; exact ⟨_, _, rfl, rfl, ER.mk_set hPB.out HW.out HWQ.out.size hgy hgq HS9.out HD9.out HYB.out⟩
  case rest =>
   obtain ⟨gy, v9, rfl, rfl, her⟩ := hcut; have HS10 := Lib.hid (HSB.out.step her.b); have HR10 := Lib.hid her
   obtain ⟨a9, n9, c9, hv9⟩ : ∃ a n c, v9 = .slice a n c := by
    obtain ⟨a, c, _, _, e, -⟩ := her.se; exact ⟨a, _, c, e⟩
   subst hv9; have hlt := HS10.out.lt; have hgl := lt_of_heap her.g; have hgw := her.lo; have hltB := HSB.out.lt; obtain ⟨y0, y1, yf⟩ := blk2 her.g; clear her HVB HFM HEN HDO HL0 HL4 HLB HW hPB
   by_cases hz9 : z9 = 0
   case neg =>
    have HR := Lib.hid ((HAS.out es9 z9 (by rw [HPO.out]; exact HEQ.out)).trans (if_pos hz9)); have hz2 : (z9 != 0) = true := by simpa using hz9
    have HYX := Lib.hid HS10.out.y; have HBX := Lib.hid HS10.out.b; obtain ⟨d0, d1, -⟩ := blk2 HYX.out.b1; obtain ⟨e0, e1, ef⟩ := blk2 HYX.out.b3; clear hz9; go_wp2; have g5 : ((wc.setCell ⟨w.heap.size + 1 + 1 + 1, 0, none⟩ (.slice ae es.length ce)).setCell ⟨w.heap.size + 1 + 1 + 1, 1, none⟩ (.slice ad ds.length cd)).heap[w.heap.size + 1 + 1 + 1]? = some (.cells #[(.slice ae es.length ce), (.slice ad ds.length cd)] 70 (0, 0)) := heap_setCell_same _ _ _ _ _ _ (heap_setCell_same _ _ _ _ _ _ HYX.out.b3); have b5 : Below w.heap.size w ((wc.setCell ⟨w.heap.size + 1 + 1 + 1, 0, none⟩ (.slice ae es.length ce)).setCell ⟨w.heap.size + 1 + 1 + 1, 1, none⟩ (.slice ad ds.length cd)) := bl_set (bl_set HBX.out _ (by simp only; omega)) _ (by simp only; omega); obtain ⟨k0, k1, -⟩ := blk2 g5; generalize (wc.setCell ⟨w.heap.size + 1 + 1 + 1, 0, none⟩ (.slice ae es.length ce)).setCell ⟨w.heap.size + 1 + 1 + 1, 1, none⟩ (.slice ad ds.length cd) = w9 at *; refine bodyPost_ret (v := .tuple #[.agg #[(.slice ae es.length ce), (.slice ad ds.length cd)], .int .i64 z9]) (by simp [results, Tryz.results41, go_sem, k0, k1]) rfl ?_; rw [HR.out]; exact BookR.old HE.out HD.out b5
   subst hz9; have HR := Lib.hid ((HAS.out es9 0 (by rw [HPO.out]; exact HEQ.out)).trans (if_neg (by simp))); have hw10 := HS10.out.b.size; have HPU := Lib.hid (putR_any (fun k => (k < w.heap.size ∧ R k) ∨ wc.heap.size ≤ k) ds (.slice ad ds.length cd) x xa xc wc (fun k hk => .inr hk) (HD.out.keep (fun q h => ⟨.inl ⟨h.2, h.1⟩, Nat.lt_of_lt_of_le h.2 hw10⟩) (fun q h => HS10.out.b.block q h.2)) (HV.out.keep (fun q h => ⟨.inl ⟨h.2, h.1⟩, Nat.lt_of_lt_of_le h.2 hw10⟩) (fun q h => HS10.out.b.block q h.2)) HX.out (by have := HBK.out.ds; simp only at this; omega) HBK.out.sort); obtain ⟨x0, x1, x2, x3, x4, x5, x6, -⟩ := blk7 HS10.out.y.b2; have x0' : wc.cell? ⟨w.heap.size + 1 + 1, 0, none⟩ = some (.string x.key) := x0; have x1' : wc.cell? ⟨w.heap.size + 1 + 1, 1, none⟩ = some (.string x.veh) := x1; have x2' : wc.cell? ⟨w.heap.size + 1 + 1, 2, none⟩ = some (.string x.sys) := x2; have x3' : wc.cell? ⟨w.heap.size + 1 + 1, 3, none⟩ = some (.int .i64 x.cls) := x3; have x4' : wc.cell? ⟨w.heap.size + 1 + 1, 4, none⟩ = some (.int .i64 x.tm) := x4; have x5' : wc.cell? ⟨w.heap.size + 1 + 1, 5, none⟩ = some (.slice xa x.ls.length xc) := x5; have x6' : wc.cell? ⟨w.heap.size + 1 + 1, 6, none⟩ = some (.int .i64 x.c) := x6; clear x0 x1 x2 x3 x4 x5 x6
   go_wp2_with (fail)
   with_reducible refine HPU.out.mono ?_
   clear HPU; rintro r w11 ⟨⟨v11, rfl, hs11⟩, hb11⟩; have HS11 := Lib.hid hs11; obtain ⟨a11, c11, _, _, rfl, -⟩ := id hs11; have HSA := Lib.hid (HS10.out.step hb11); have HG11 := Lib.hid (show BB gy (.slice a9 n9 c9) (.slice ad ds.length cd) w11 from (hb11.block _ hgl).trans HR10.out.g); have hse := HR10.out.se; rw [if_pos (by trivial)] at hse; have HE11 := Lib.hid (hse.keep (S' := fun k => ((k < w.heap.size ∧ R k) ∨ wB.heap.size ≤ k) ∧ k ≠ gy ∧ k < w11.heap.size) (fun q h => ⟨h.1, h.2.1, Nat.lt_of_lt_of_le h.2.2 hb11.size⟩) (fun q h => hb11.block q h.2.2)); have hz11 := hb11.size; clear hs11 hb11 hse y0 y1 yf x0' x1' x2' x3' x4' x5' x6'; obtain ⟨y0, y1, yf⟩ := blk2 HG11.out; have hgl11 := lt_of_heap HG11.out
   go_upto_region 15 with (fail)
   have hne : w.heap.size + 3 ≠ gy := by omega
   have g12 : (w11.setCell ⟨gy, 1, none⟩ (.slice a11 (putP ds x).length c11)).heap[gy]? = some (.cells #[.slice a9 n9 c9, .slice a11 (putP ds x).length c11] 70 (0, 0)) := heap_setCell_same _ _ _ _ _ _ HG11.out; have e12 : BB (w.heap.size + 3) (.slice none 0 0) (.slice none 0 0) (w11.setCell ⟨gy, 1, none⟩ (.slice a11 (putP ds x).length c11)) := (Below.heap_setCell _ _ _ _ hne).trans HSA.out.y.b3; have b12 : Below w.heap.size w (w11.setCell ⟨gy, 1, none⟩ (.slice a11 (putP ds x).length c11)) := bl_set HSA.out.b _ (by simp only; omega); have h12 : ∀ q, q ≠ gy → (w11.setCell ⟨gy, 1, none⟩ (.slice a11 (putP ds x).length c11)).heap[q]? = w11.heap[q]? := fun q hq => Below.heap_setCell _ _ _ _ hq
   have z12 : (w11.setCell ⟨gy, 1, none⟩ (.slice a11 (putP ds x).length c11)).heap.size = w11.heap.size := by simp
   clear y0 y1 yf; generalize w11.setCell ⟨gy, 1, none⟩ (.slice a11 (putP ds x).length c11) = w12 at g12 e12 b12 h12 z12 ⊢; obtain ⟨y0, y1, -⟩ := blk2 g12; obtain ⟨e0, e1, ef⟩ := blk2 e12; have e0' : w12.cell? ⟨w.heap.size + 1 + 1 + 1, 0, none⟩ = some (.slice none 0 0) := e0; have e1' : w12.cell? ⟨w.heap.size + 1 + 1 + 1, 1, none⟩ = some (.slice none 0 0) := e1; have ef' : ∀ j, w12.frozen? ⟨w.heap.size + 1 + 1 + 1, j, none⟩ = false := ef; have hl12 : w.heap.size + 1 + 1 + 1 < w12.heap.size := lt_of_heap e12; have H12 := Lib.hid h12; have Z12 := Lib.hid z12; have B12 := Lib.hid b12; have E12 := Lib.hid e12; clear e0 e1 ef h12 b12 z12 e12 g12; go_wp2; have g5 : ((w12.setCell ⟨w.heap.size + 1 + 1 + 1, 0, none⟩ (.slice a9 n9 c9)).setCell ⟨w.heap.size + 1 + 1 + 1, 1, none⟩ (.slice a11 (putP ds x).length c11)).heap[w.heap.size + 1 + 1 + 1]? = some (.cells #[.slice a9 n9 c9, .slice a11 (putP ds x).length c11] 70 (0, 0)) := heap_setCell_same _ _ _ _ _ _ (heap_setCell_same _ _ _ _ _ _ E12.out); have b5 : Below w.heap.size w ((w12.setCell ⟨w.heap.size + 1 + 1 + 1, 0, none⟩ (.slice a9 n9 c9)).setCell ⟨w.heap.size + 1 + 1 + 1, 1, none⟩ (.slice a11 (putP ds x).length c11)) := bl_set (bl_set B12.out _ (by simp only; omega)) _ (by simp only; omega); have hoth : ∀ q, q ≠ gy → q ≠ w.heap.size + 3 → ((w12.setCell ⟨w.heap.size + 1 + 1 + 1, 0, none⟩ (.slice a9 n9 c9)).setCell ⟨w.heap.size + 1 + 1 + 1, 1, none⟩ (.slice a11 (putP ds x).length c11)).heap[q]? = w11.heap[q]? := fun q h1 h2 => ((Below.heap_setCell _ _ _ _ h2).trans (Below.heap_setCell _ _ _ _ h2)).trans (H12.out q h1)
   have hz5 : w11.heap.size = ((w12.setCell ⟨w.heap.size + 1 + 1 + 1, 0, none⟩ (.slice a9 n9 c9)).setCell ⟨w.heap.size + 1 + 1 + 1, 1, none⟩ (.slice a11 (putP ds x).length c11)).heap.size := by simp [Z12.out]
   obtain ⟨k0, k1, -⟩ := blk2 g5; clear y0 y1 e0' e1' ef'; generalize (w12.setCell ⟨w.heap.size + 1 + 1 + 1, 0, none⟩ (.slice a9 n9 c9)).setCell ⟨w.heap.size + 1 + 1 + 1, 1, none⟩ (.slice a11 (putP ds x).length c11) = wf at *; refine bodyPost_ret (v := .tuple #[.agg #[.slice a9 n9 c9, .slice a11 (putP ds x).length c11], .int .i64 0]) (by simp [results, Tryz.results41, go_sem, k0, k1]) rfl ?_; rw [HR.out]; exact ⟨_, _, rfl, HE11.out.keep (fun q h => ⟨h.1.elim (fun h => h.2) (fun h => HRR.out q (by omega)), by omega⟩) (fun q h => hoth q h.2.1 (by rcases h.1 with h | h <;> omega)), HS11.out.keep (fun q h => ⟨h.1.elim (fun h => h.2) (fun h => HRR.out q (by omega)), by omega⟩) (fun q h => hoth q (by rcases h.1 with h | h <;> omega) (by rcases h.1 with h | h <;> omega)), b5⟩
end Go.Proofs.YtifcelebfagjbaaGreatDoor
namespace Go.Tw.Po
open Go.RowKit Go.Tw Go.Sort Go.Tw.Ord Go.Proofs.YtifcelebfagjbaaGreatDoor
theorem vo_none {c : List Acc} {b : Bk} {s : ByteArray} {t : Int} (h : fndC b.ds s = none) : voidP c b s t = (b, 10) := by unfold voidP; rw [h]
theorem vo_time {c : List Acc} {b : Bk} {s : ByteArray} {t : Int} {o : Chg} (h : fndC b.ds s = some o) (ht : momC t = false) : voidP c b s t = (b, 12) := by unfold voidP; rw [h]; simp only; rw [if_pos ht]
theorem vo_s {c : List Acc} {b : Bk} {s : ByteArray} {t : Int} {o : Chg} (h : fndC b.ds s = some o) (ht : momC t = true) {es' : List Ent} {z : Int} (he : enterL b.es (keyC s (verN b.es s)) t (moveP c [] o (-o.c)) = (es', z)) : voidP c b s t = if z ≠ 0 then (b, z) else (⟨es', b.ds.filter fun x => !decide (x.key = s)⟩, 0) := by
 unfold voidP; rw [h]; simp only; rw [if_neg (by simp [ht])]; simp only [he]
theorem del_some {l : List Chg} {s : ByteArray} {k : Nat} (hk : k < l.length) (he : l[k].key = s) (hs : SortK l) : l.take k ++ l.drop (k + 1) = l.filter fun x => !decide (x.key = s) := by
 induction l generalizing k with
 | nil => simp at hk
 | cons y l ih =>
  have hs' := List.pairwise_cons.1 hs
  cases k with
  | zero =>
   have he' : y.key = s := by simpa using he
   have hf : l.filter (fun x => !decide (x.key = s)) = l := List.filter_eq_self.2 fun z hz => by
    have := ltB_ne (hs'.1 z hz); rw [he'] at this
    simpa using fun e => this e.symm
   rw [List.filter_cons, if_neg (by simp [he']), hf]
   rfl
  | succ k =>
   have hk' : k < l.length := by simpa using hk
   have he' : l[k].key = s := by rwa [List.getElem_cons_succ] at he
   have hlt := hs'.1 l[k] (List.getElem_mem _); rw [he'] at hlt; have hne := ltB_ne hlt; rw [List.filter_cons, if_pos (by simpa using hne), ← ih hk' he' hs'.2]
   rfl
end Go.Tw.Po
namespace Go.Proofs.YtifcelebfagjbaaGreatDoor
open Go.RowKit Go.Tw Go.Tw.Ord Go.Tw.Po Go.Sort
structure VW (n : Nat) (A : Array Value) (ve vd : Value) (wr : World) : Prop where
 b0 : wr.heap[n]? = some (.cells A 46 (0, 0))
 b1 : BB (n + 1) ve vd wr
 b2 : BB (n + 2) (.slice none 0 0) (.slice none 0 0) wr
theorem VW.same {n : Nat} {A : Array Value} {ve vd : Value} {w w' : World} (h : VW n A ve vd w) (hs : ∀ k, n ≤ k → k ≤ n + 2 → w'.heap[k]? = w.heap[k]?) : VW n A ve vd w' :=
 ⟨(hs n (Nat.le_refl _) (by omega)).trans h.b0, (hs (n + 1) (by omega) (by omega)).trans h.b1, (hs (n + 2) (by omega) (by omega)).trans h.b2⟩
theorem VW.step {n B : Nat} {A : Array Value} {ve vd : Value} {w w' : World} (h : VW n A ve vd w) (hb : Below B w w') (hB : n + 2 < B) : VW n A ve vd w' := h.same fun k _ hk => hb.block k (by omega)
theorem VW.put {n : Nat} {A : Array Value} {ve vd : Value} {w : World} (h : VW n A ve vd w) {q : Addr} (hq : n + 2 < q.block) (u : Value) : VW n A ve vd (w.setCell q u) := h.same fun k _ hk => Below.heap_setCell _ _ _ _ (by omega)
set_option maxRecDepth 100000 in
set_option maxHeartbeats 8000000 in
theorem void_any (L : List Chg) (N : Nat) (c : List Acc) (A : Array Value) (va ve vd : Value) (es : List Ent) (ds : List Chg) (s : ByteArray) (tm : Int) (w : World) (hA : CfgA A va) (hc : SlIs (tAcc 138) (· < w.heap.size) w va c) (hk : CfOk c) (hb : BOk L N ⟨es, ds⟩) (hN : N ≤ 900)
  (he : SlIs (tEnt 101) (· < w.heap.size) w ve es) (hd : SlIs (tChg eL) (· < w.heap.size) w vd ds) (htm : i64ok tm) (hf : FmtAll w) :
  Calls Tryz.prog 31 #[.agg A, .agg #[ve, vd], .string s, .int .i64 tm] w (BookE w (.agg #[ve, vd]) (voidP c ⟨es, ds⟩ s tm)) := by
 have h0 := alloc3 w (.cells A 46) (.cells #[ve, vd] 70) (.cells #[.slice none 0 0, .slice none 0 0] 70); have HY := Lib.hid (show VW w.heap.size A ve vd _ from ⟨h0.1, h0.2.1, h0.2.2⟩); have HB0 := Lib.hid (bl_alloc (bl_alloc (bl_alloc (Below.refl w.heap.size w) (.cells A 46)) (.cells #[ve, vd] 70)) (.cells #[.slice none 0 0, .slice none 0 0] 70)); obtain ⟨ae, ce, _, _, rfl, -⟩ := id he; obtain ⟨ad, cd, bd, od, rfl, hd1, hd2, hdo⟩ := chg_open hd; have HDO := Lib.hid hdo; have HA := Lib.hid hA; have HC := Lib.hid hc; have HK := Lib.hid hk; have HF := Lib.hid hf; have HE := Lib.hid he; have HD := Lib.hid hd; have HBK := Lib.hid hb; have HTM := Lib.hid htm; have HFD := Lib.hid (find_any ds (.slice ae es.length ce) (.slice ad ds.length cd) s _ (HD.out.step HB0.out)); obtain ⟨d0, d1, -⟩ := blk2 HY.out.b1; clear hA hc hk hf h0 he hd hdo hb htm
 go_enter Tryz.func31, Tryz.ntmps31
 go_wp2_with (fail)
 with_reducible refine HFD.out.mono ?_
 rintro r wa ⟨rfl, hba⟩; have HYa := Lib.hid (HY.out.step hba (by simp)); have HBa := Lib.hid (bl_trans HB0.out hba); have hla := lt_of_heap HYa.out.b2; have m0 : w.heap.size < wa.heap.size := by omega
 have m1 : w.heap.size + 1 < wa.heap.size := by omega
 have m2 : w.heap.size + 1 + 1 < wa.heap.size := by omega
 clear hba HFD d0 d1 HY; obtain ⟨d0, d1, -⟩ := blk2 HYa.out.b1; obtain ⟨f0, f1, ff⟩ := blk2 HYa.out.b2; have f0' : wa.cell? ⟨w.heap.size + 1 + 1, 0, none⟩ = some (.slice none 0 0) := f0; have f1' : wa.cell? ⟨w.heap.size + 1 + 1, 1, none⟩ = some (.slice none 0 0) := f1; have ff' : ∀ j, wa.frozen? ⟨w.heap.size + 1 + 1, j, none⟩ = false := ff; clear f0 f1 ff
 rcases fnd_two ds s with ⟨f1, f2, f3⟩ | ⟨k, hk, f1, f2, f3, f4⟩
 · have HR := Lib.hid (vo_none (c := c) (b := ⟨es, ds⟩) (t := tm) f2)
   rw [f1]; clear f1 f2 f3; go_wp2; have g5 : ((wa.setCell ⟨w.heap.size + 1 + 1, 0, none⟩ (.slice ae es.length ce)).setCell ⟨w.heap.size + 1 + 1, 1, none⟩ (.slice ad ds.length cd)).heap[w.heap.size + 1 + 1]? = some (.cells #[(.slice ae es.length ce), (.slice ad ds.length cd)] 70 (0, 0)) := heap_setCell_same _ _ _ _ _ _ (heap_setCell_same _ _ _ _ _ _ HYa.out.b2); have b5 : Below w.heap.size w ((wa.setCell ⟨w.heap.size + 1 + 1, 0, none⟩ (.slice ae es.length ce)).setCell ⟨w.heap.size + 1 + 1, 1, none⟩ (.slice ad ds.length cd)) := bl_set (bl_set HBa.out _ (by simp only; omega)) _ (by simp only; omega); obtain ⟨k0, k1, -⟩ := blk2 g5; generalize (wa.setCell ⟨w.heap.size + 1 + 1, 0, none⟩ (.slice ae es.length ce)).setCell ⟨w.heap.size + 1 + 1, 1, none⟩ (.slice ad ds.length cd) = w9 at *; refine bodyPost_ret (v := .tuple #[.agg #[(.slice ae es.length ce), (.slice ad ds.length cd)], .int .i64 10]) (by simp [results, Tryz.results31, go_sem, k0, k1]) rfl ?_; rw [HR.out]; exact BookE.old (by decide) HE.out HD.out b5
 have hkd1 : chkC ds[k] = 0 := HBK.out.chk _ (List.getElem_mem hk); have hyc : COk ds[k] := HBK.out.cok _ (List.getElem_mem hk); have hycf : 0 ≤ ds[k].c ∧ ds[k].c ≤ 1125899906842624 := ⟨(chk_facts hkd1).2.2.2.2.2.2.1, (chk_facts hkd1).2.2.2.2.2.2.2.1⟩; have HMA := Lib.hid (fun W => moment_any tm W); rw [f1]; have HSK := Lib.hid (show s.size ≤ 60 by have := hyc.key; rw [f3] at this; exact this); have k0 : (0 : Int) ≤ (k : Int) := by omega
 have k1 : ¬ ((k : Int) < 0) := by omega
 obtain ⟨q, hq⟩ : ∃ q, (decide (0 ≤ tm) && decide (tm ≤ 68719476736)) = q := ⟨_, rfl⟩; rw [hq] at HMA
 cases q with
 | false =>
  have HR := Lib.hid (vo_time (c := c) (b := ⟨es, ds⟩) (t := tm) f2 hq); clear f1 f2 f3 f4 hq hyc hycf hkd1
  go_wp2_with (go_at_call 63; with_reducible refine (HMA.out _).mono ?_; rintro e w1 ⟨rfl, rfl⟩)
  have g5 : ((wa.setCell ⟨w.heap.size + 1 + 1, 0, none⟩ (.slice ae es.length ce)).setCell ⟨w.heap.size + 1 + 1, 1, none⟩ (.slice ad ds.length cd)).heap[w.heap.size + 1 + 1]? = some (.cells #[(.slice ae es.length ce), (.slice ad ds.length cd)] 70 (0, 0)) := heap_setCell_same _ _ _ _ _ _ (heap_setCell_same _ _ _ _ _ _ HYa.out.b2); have b5 : Below w.heap.size w ((wa.setCell ⟨w.heap.size + 1 + 1, 0, none⟩ (.slice ae es.length ce)).setCell ⟨w.heap.size + 1 + 1, 1, none⟩ (.slice ad ds.length cd)) := bl_set (bl_set HBa.out _ (by simp only; omega)) _ (by simp only; omega); obtain ⟨k0, k1, -⟩ := blk2 g5; generalize (wa.setCell ⟨w.heap.size + 1 + 1, 0, none⟩ (.slice ae es.length ce)).setCell ⟨w.heap.size + 1 + 1, 1, none⟩ (.slice ad ds.length cd) = w9 at *; refine bodyPost_ret (v := .tuple #[.agg #[(.slice ae es.length ce), (.slice ad ds.length cd)], .int .i64 12]) (by simp [results, Tryz.results31, go_sem, k0, k1]) rfl ?_; rw [HR.out]; exact BookE.old (by decide) HE.out HD.out b5
 | true =>
 have HMO := Lib.hid (show momC tm = true from hq); have HFS := Lib.hid f2; have HKEY := Lib.hid f3; clear f1 f2 f3 f4 hq
 go_upto_region 7 with (go_at_call 63; with_reducible refine (HMA.out _).mono ?_; rintro e w1 ⟨rfl, rfl⟩)
 have hA3 := bl_alloc (Below.refl wa.heap.size wa) (.cells #[.string ⟨#[]⟩, .int .i64 0, .slice none 0 0] 105); have g3 := heap_alloc_new wa (.cells #[.string ⟨#[]⟩, .int .i64 0, .slice none 0 0] 105); generalize wa.alloc (.cells #[.string ⟨#[]⟩, .int .i64 0, .slice none 0 0] 105) = wb at hA3 g3 ⊢; have HY3 := Lib.hid (HYa.out.step hA3 hla); have HB3 := Lib.hid (bl_trans HBa.out hA3); have HG3 := Lib.hid g3; have HBW := Lib.hid hA3; have HVE := Lib.hid (version_any es (.slice ae es.length ce) s wb (HE.out.step HB3.out) (by have := HSK.out; omega) (by have := HBK.out.len; simp only at this; omega)); have hvl : (verN es s : Int) ≤ 900 := by have h1 := HBK.out.len; have h2 := ver_le (l := es) (s := s); simp only at h1; omega
 have HKY := Lib.hid (fun (W : World) (hW : Below w.heap.size w W) => key_any s (verN es s : Int) W (by have := HSK.out; omega) (by unfold i64ok; omega) ((HF.out _ (by unfold i64ok; omega)).step hW)); have HKS := Lib.hid (show (keyC s (verN es s)).size ≤ 81 from keyC_size HSK.out (by unfold i64ok; omega)); generalize hkk : keyC s (verN es s) = kk at HKY HKS; obtain ⟨vn, hvn⟩ : ∃ vn : Int, (verN es s : Int) = vn := ⟨_, rfl⟩; rw [hvn] at HVE HKY hvl; clear d0 d1 f0' f1' ff' hvn hA3; obtain ⟨d0, d1, -⟩ := blk2 HY3.out.b1
 go_wp2_with (fail)
 with_reducible refine HVE.out.mono ?_
 rintro r w4 ⟨rfl, hb4⟩; have HB34 := Lib.hid (show Below wb.heap.size wb w4 from hb4); clear hb4 HVE d0 d1
 go_wp2_with (fail)
 with_reducible refine (HKY.out _ (bl_trans HB3.out HB34.out)).mono ?_
 rintro r w5 ⟨rfl, hb5⟩; have HB35 := Lib.hid (show Below wb.heap.size wb w5 from bl_trans HB34.out hb5); clear hb5 HB34 HKY; have g5 := (HB35.out.block _ (lt_of_heap HG3.out)).trans HG3.out; obtain ⟨q0, q1, q2, qf⟩ := blk3 g5; have hl5 : wa.heap.size < w5.heap.size := lt_of_heap g5; have HG5 := Lib.hid g5; clear g5 g3 HG3
 go_upto_region 8 with (fail)
 have g6 : ((w5.setCell ⟨wa.heap.size, 0, none⟩ (.string kk)).setCell ⟨wa.heap.size, 1, none⟩ (.int .i64 tm)).heap[wa.heap.size]? = some (.cells #[.string kk, .int .i64 tm, .slice none 0 0] 105 (0, 0)) := heap_setCell_same _ _ _ _ _ _ (heap_setCell_same _ _ _ _ _ _ HG5.out); have b6 : Below w.heap.size w ((w5.setCell ⟨wa.heap.size, 0, none⟩ (.string kk)).setCell ⟨wa.heap.size, 1, none⟩ (.int .i64 tm)) := bl_set (bl_set (bl_trans HB3.out HB35.out) _ HBa.out.size) _ HBa.out.size; have y6 := ((HY3.out.step HB35.out (by have := lt_of_heap HY3.out.b2; omega)).put (q := ⟨wa.heap.size, 0, none⟩) (by simp only; omega) (.string kk)).put (q := ⟨wa.heap.size, 1, none⟩) (by simp only; omega) (.int .i64 tm); generalize (w5.setCell ⟨wa.heap.size, 0, none⟩ (.string kk)).setCell ⟨wa.heap.size, 1, none⟩ (.int .i64 tm) = w7 at g6 b6 y6 ⊢; have HY7 := Lib.hid y6; have HB7 := Lib.hid b6; have hl6 : wa.heap.size < w7.heap.size := lt_of_heap g6; have hw02 : w.heap.size + 2 < wa.heap.size := hla; obtain ⟨gd, hgd⟩ : ∃ gd, wa.heap.size = gd := ⟨_, rfl⟩; rw [hgd] at g6 hl6 hw02 ⊢; have HDW := Lib.hid (show DW w7.heap.size gd kk tm [] w7 (.slice none 0 0) from ⟨g6, NewL.nil, lt_of_heap g6⟩); clear g6 b6 y6 q0 q1 q2 qf hl5 HG5 HY3 HB3 HB35 HYa HBa hgd hla m0 m1 m2 HMA HBW; obtain ⟨hao, -, hbd, hyok, hv9, hsl9, k0', k1', k2', k3', k4', k5', k6'⟩ := HDO.out w7 (.of_below HB7.out) k hk; subst hao; have HYK := Lib.hid (show ∃ y, ds[k] = y from ⟨_, rfl⟩); obtain ⟨y, hy⟩ := HYK.out; rw [hy] at k0' k1' k2' k3' k4' k6' hycf hyc hsl9 hyok; have HFS' := Lib.hid (show fndC ds s = some y by rw [HFS.out, hy]); have HYY := Lib.hid hy; obtain ⟨ya, yc, _, _, rfl, -⟩ := id hsl9; have i1 : (k : Int) < (ds.length : Int) := by omega
 clear hy HYK hsl9 hkd1 HFS; have HFS := HFS'; clear HFS'; have HLC := Lib.hid (show ∀ w', Below w7.heap.size w7 w' → Sem.run Tryz.prog (loadCellsFrom ⟨w.heap.size, 0, none⟩ 0 25 #[]) w' = .ok A w' from fun w' hw' => load_blk ((hw'.block _ (lt_of_heap HY7.out.b0)).trans HY7.out.b0) HA.out.size Tryz.prog); have HLD := Lib.hid (show ∀ w', Below w7.heap.size w7 w' → w'.cell? ⟨w.heap.size + 1, 1, none⟩ = some (.slice (some ⟨bd, od, none⟩) ds.length cd) from fun w' hw' => (blk2 ((hw'.block _ (lt_of_heap HY7.out.b1)).trans HY7.out.b1)).2.1); have hbd7 : bd < w7.heap.size := Nat.lt_of_lt_of_le hbd HB7.out.size
 have HL7 := Lib.hid (show ∀ w', Below w7.heap.size w7 w' → w'.cell? ⟨bd, od + k * 7, none⟩ = some (.string y.key) ∧ w'.cell? ⟨bd, od + k * 7 + 1, none⟩ = some (.string y.veh) ∧ w'.cell? ⟨bd, od + k * 7 + 2, none⟩ = some (.string y.sys) ∧ w'.cell? ⟨bd, od + k * 7 + 3, none⟩ = some (.int .i64 y.cls) ∧ w'.cell? ⟨bd, od + k * 7 + 4, none⟩ = some (.int .i64 y.tm) ∧ w'.cell? ⟨bd, od + k * 7 + 5, none⟩ = some (.slice ya y.ls.length yc) ∧ w'.cell? ⟨bd, od + k * 7 + 6, none⟩ = some (.int .i64 y.c) from fun w' hw' =>
  ⟨(hw'.cell (p := ⟨bd, od + k * 7, none⟩) hbd7).trans k0', (hw'.cell (p := ⟨bd, od + k * 7 + 1, none⟩) hbd7).trans k1', (hw'.cell (p := ⟨bd, od + k * 7 + 2, none⟩) hbd7).trans k2', (hw'.cell (p := ⟨bd, od + k * 7 + 3, none⟩) hbd7).trans k3', (hw'.cell (p := ⟨bd, od + k * 7 + 4, none⟩) hbd7).trans k4', (hw'.cell (p := ⟨bd, od + k * 7 + 5, none⟩) hbd7).trans k5', (hw'.cell (p := ⟨bd, od + k * 7 + 6, none⟩) hbd7).trans k6'⟩)
 have HL6 := Lib.hid (show ∀ w', Below w7.heap.size w7 w' → w'.cell? ⟨bd, od + k * 7 + 6, none⟩ = some (.int .i64 y.c) from fun w' hw' => (HL7.out w' hw').2.2.2.2.2.2); have hneg : IntKind.i64.wrap (-y.c) = -y.c := wrap_in (by omega) (by omega); have HMV1 := Lib.hid (show ∀ W, Below w7.heap.size w7 W → _ from fun W hW => move_any c A va y ya y.ls.length yc w7.heap.size gd kk tm [] (.slice none 0 0) (-y.c) 0 W (HDW.out.below hW) hW.size (by simp) (nil_amt 0) (by omega) (by omega) (by omega) HA.out (HC.out.step (bl_trans HB7.out hW)) HK.out hyc.veh hyc.sys); clear k0' k1' k2' k3' k4' k5' k6'; refine wp_region_E 13 (fun w' => Below w7.heap.size w7 w') (by kernel_rfl) ((by (repeat (first | (with_reducible exact Below.refl _ _) | (with_reducible apply bl_drewN) | (with_reducible apply bl_alloc) | (with_reducible apply Below.drew))); done)) (fun hHeld => ?_); refine wpE_take (i := 0) (v := ?_) rfl (by kernel_rfl) (fun _ _ _ h => h) (Or.inl ⟨by kernel_rfl, ?_⟩) (by assumption) ?_
 rotate_left; focus (intro w9 hS9; refine exec_loadA (t := 46) (x := Operand.tmp 4) (p := ⟨w.heap.size, 0, none⟩) (A := A) ?_ Tryz.isAgg46 Tryz.sizeOf46 ?_ (HLC.out w9 hS9); rfl; go_simp; (try rfl)); (try simp only [gkA, gkB, gkC, Act.put, gkD, gkE, gkF])
 refine wpE_take (i := 1) (v := ?_) rfl (by kernel_rfl) (fun _ _ _ h => h) (Or.inl ⟨by kernel_rfl, ?_⟩) (by assumption) ?_
 rotate_left; focus (intro w9 hS9; (try dsimp only at hS9); go_simp; (try with_reducible rfl)); (try simp only [gkA, gkB, gkC, Act.put, gkD, gkE, gkF])
 refine wpE_take (i := 2) (v := ?_) rfl (by kernel_rfl) (fun _ _ _ h => h) (Or.inl ⟨by kernel_rfl, ?_⟩) (by assumption) ?_
 rotate_left; focus (intro w9 hS9; have z0 := HLD.out w9 hS9; clear hS9; go_simp; (try with_reducible rfl)); (try simp only [gkA, gkB, gkC, Act.put, gkD, gkE, gkF])
 refine wpE_take (i := 3) (v := ?_) rfl (by kernel_rfl) (fun _ _ _ h => h) (Or.inl ⟨by kernel_rfl, ?_⟩) (by assumption) ?_
 rotate_left; focus (intro w9 hS9; (try dsimp only at hS9); go_simp; (try with_reducible rfl)); (try simp only [gkA, gkB, gkC, Act.put, gkD, gkE, gkF])
 refine wpE_take (i := 4) (v := ?_) rfl (by kernel_rfl) (fun _ _ _ h => h) (Or.inl ⟨by kernel_rfl, ?_⟩) (by assumption) ?_
 rotate_left; focus (intro w9 hS9; (try dsimp only at hS9); go_simp; (try with_reducible rfl)); (try simp only [gkA, gkB, gkC, Act.put, gkD, gkE, gkF])
 refine wpE_take (i := 5) (v := ?_) rfl (by kernel_rfl) (fun _ _ _ h => h) (Or.inl ⟨by kernel_rfl, ?_⟩) (by assumption) ?_
 rotate_left; focus (intro w9 hS9; obtain ⟨z0, z1, z2, z3, z4, z5, z6⟩ := HL7.out w9 hS9; clear hS9; go_simp; (try with_reducible rfl)); (try simp only [gkA, gkB, gkC, Act.put, gkD, gkE, gkF])
 refine wpE_take (i := 6) (v := ?_) rfl (by kernel_rfl) (fun _ _ _ h => h) (Or.inl ⟨by kernel_rfl, ?_⟩) (by assumption) ?_
 rotate_left; focus (intro w9 hS9; (try dsimp only at hS9); go_simp; (try with_reducible rfl)); (try simp only [gkA, gkB, gkC, Act.put, gkD, gkE, gkF])
 refine wpE_take (i := 7) (v := ?_) rfl (by kernel_rfl) (fun _ _ _ h => h) (Or.inl ⟨by kernel_rfl, ?_⟩) (by assumption) ?_
 rotate_left; focus (intro w9 hS9; have z0 := HLD.out w9 hS9; clear hS9; go_simp; (try with_reducible rfl)); (try simp only [gkA, gkB, gkC, Act.put, gkD, gkE, gkF])
 refine wpE_take (i := 8) (v := ?_) rfl (by kernel_rfl) (fun _ _ _ h => h) (Or.inl ⟨by kernel_rfl, ?_⟩) (by assumption) ?_
 rotate_left; focus (intro w9 hS9; (try dsimp only at hS9); go_simp; (try with_reducible rfl)); (try simp only [gkA, gkB, gkC, Act.put, gkD, gkE, gkF])
 refine wpE_take (i := 9) (v := ?_) rfl (by kernel_rfl) (fun _ _ _ h => h) (Or.inl ⟨by kernel_rfl, ?_⟩) (by assumption) ?_
 rotate_left; focus (intro w9 hS9; (try dsimp only at hS9); go_simp; (try with_reducible rfl)); (try simp only [gkA, gkB, gkC, Act.put, gkD, gkE, gkF])
 refine wpE_take (i := 10) (v := ?_) rfl (by kernel_rfl) (fun _ _ _ h => h) (Or.inl ⟨by kernel_rfl, ?_⟩) (by assumption) ?_
 rotate_left; focus (intro w9 hS9; (try dsimp only at hS9); go_simp; (try with_reducible rfl)); (try simp only [gkA, gkB, gkC, Act.put, gkD, gkE, gkF])
 refine wpE_take (i := 11) (v := ?_) rfl (by kernel_rfl) (fun _ _ _ h => h) (Or.inl ⟨by kernel_rfl, ?_⟩) (by assumption) ?_
 rotate_left; focus (intro w9 hS9; have z0 := HL6.out w9 hS9; clear hS9; go_simp; (try with_reducible rfl)); (try simp only [gkA, gkB, gkC, Act.put, gkD, gkE, gkF])
 refine wpE_take (i := 12) (v := ?_) rfl (by kernel_rfl) (fun _ _ _ h => h) (Or.inl ⟨by kernel_rfl, ?_⟩) (by assumption) ?_
 rotate_left; focus (intro w9 hS9; (try dsimp only at hS9); go_simp; (try with_reducible rfl)); (try simp only [gkA, gkB, gkC, Act.put, gkD, gkE, gkF])
 clear hHeld; refine wpE_out (by kernel_rfl) ?_; refine wpAny_ready (rs := [13]) (by kernel_rfl) (by simp) ?_; refine AllReady.cons rfl (fun K hK => ?_) AllReady.nil; rw [if_pos (show _ = true by kernel_rfl)]; go_simp
 with_reducible refine (HMV1.out _ (Below.drew (Below.refl _ _))).mono ?_
 rintro r w8 ⟨rfl, ⟨v8, hd8⟩, hkm⟩; have hk8 : DK w7.heap.size gd w7 w8 := ⟨fun j hj => hkm.same j hj, (Below.drew (Below.refl _ _)).trans hkm.bel⟩; clear hkm HLC HLD HL7 HL6 HMV1; refine hK _ _ ?_; clear hK K
 (try simp only [gkA, gkB, gkC, Act.put, gkD, gkE, gkF])
 refine wpAny_done (by kernel_rfl) ?_ _; obtain ⟨a8, c8, rfl, -⟩ := hd8.own.form; have hgB := hd8.lt; have HY8 := Lib.hid (HY7.out.same fun j h1 h2 => hk8.same j ⟨by omega, by omega⟩); have HB8 := Lib.hid (show Below w.heap.size w w8 from HB7.out.trans (hk8.bel.mono (by omega))); have hs78 := hk8.bel.size; have hp4 : (moveP c [] y (-y.c)).length ≤ 4 := Nat.le_trans (moveP_len c [] y (-y.c)) (by simp); have HEN := Lib.hid (enter_any w7.heap.size es (.slice ae es.length ce) kk tm _ _ w8 hs78 (HE.out.keep (fun j (hj : j < w.heap.size) => Nat.lt_of_lt_of_le hj HB7.out.size) (.of_below HB8.out)) hd8.own (by have := HKS.out; unfold maxLen; omega) HTM.out HBK.out.es (by have := HBK.out.len; simp only at this; omega) hp4 (moveP_pos _ _ _ _)); obtain ⟨e0, e1, e2, -⟩ := blk3 hd8.box; obtain ⟨d0, d1, -⟩ := blk2 HY8.out.b1; clear hd8 hk8 hp4
 go_wp2_with (fail)
 with_reducible refine HEN.out.mono ?_
 clear HEN; rintro r w9 ⟨⟨ve9, rfl, hs9⟩, hb9⟩; have HY9 := Lib.hid (HY8.out.step hb9 (by have := HY7.out.b2; have := lt_of_heap this; omega)); have HB9 := Lib.hid (HB8.out.trans (hb9.mono HB7.out.size)); obtain ⟨⟨es9, z9⟩, hen⟩ : ∃ r, enterL es kk tm (moveP c [] y (-y.c)) = r := ⟨_, rfl⟩; rw [hen] at hs9 ⊢; simp only at hs9 ⊢; obtain ⟨a9, c9, _, _, rfl, -⟩ := id hs9; have HS9 := Lib.hid hs9; have HEN := Lib.hid (show enterL es (keyC s (verN es s)) tm (moveP c [] y (-y.c)) = (es9, z9) by rw [hkk]; exact hen); have HRR := Lib.hid (vo_s (c := c) (b := ⟨es, ds⟩) HFS.out HMO.out HEN.out); have hl9 := lt_of_heap HY9.out.b2; clear hs9 hb9 hen e0 e1 e2 d0 d1; have m0 : w.heap.size < w9.heap.size := by omega
 have m1 : w.heap.size + 1 < w9.heap.size := by omega
 have m2 : w.heap.size + 1 + 1 < w9.heap.size := by omega
 obtain ⟨d0, d1, -⟩ := blk2 HY9.out.b1; obtain ⟨f0, f1, ff⟩ := blk2 HY9.out.b2; have f0' : w9.cell? ⟨w.heap.size + 1 + 1, 0, none⟩ = some (.slice none 0 0) := f0; have f1' : w9.cell? ⟨w.heap.size + 1 + 1, 1, none⟩ = some (.slice none 0 0) := f1; have ff' : ∀ j, w9.frozen? ⟨w.heap.size + 1 + 1, j, none⟩ = false := ff; clear f0 f1 ff
 by_cases hz9 : z9 = 0
 case neg =>
  have HR := Lib.hid (HRR.out.trans (if_pos hz9)); have hz1 : (z9 != 0) = true := by simpa using hz9
  clear hz9; go_wp2; have g5 := alloc1_old (.cells #[.slice a9 es9.length c9] 68) (show ((w9.setCell ⟨w.heap.size + 1 + 1, 0, none⟩ (.slice ae es.length ce)).setCell ⟨w.heap.size + 1 + 1, 1, none⟩ (.slice (some ⟨bd, od, none⟩) ds.length cd)).heap[w.heap.size + 1 + 1]? = some (.cells #[(.slice ae es.length ce), (.slice (some ⟨bd, od, none⟩) ds.length cd)] 70 (0, 0)) from heap_setCell_same _ _ _ _ _ _ (heap_setCell_same _ _ _ _ _ _ HY9.out.b2)); have b5 : Below w.heap.size w (((w9.setCell ⟨w.heap.size + 1 + 1, 0, none⟩ (.slice ae es.length ce)).setCell ⟨w.heap.size + 1 + 1, 1, none⟩ (.slice (some ⟨bd, od, none⟩) ds.length cd)).alloc (.cells #[.slice a9 es9.length c9] 68)) := bl_alloc (bl_set (bl_set HB9.out _ (by simp only; omega)) _ (by simp only; omega)) _; obtain ⟨k0, k1, -⟩ := blk2 g5; generalize ((w9.setCell ⟨w.heap.size + 1 + 1, 0, none⟩ (.slice ae es.length ce)).setCell ⟨w.heap.size + 1 + 1, 1, none⟩ (.slice (some ⟨bd, od, none⟩) ds.length cd)).alloc (.cells #[.slice a9 es9.length c9] 68) = wz at *; refine bodyPost_ret (v := .tuple #[.agg #[(.slice ae es.length ce), (.slice (some ⟨bd, od, none⟩) ds.length cd)], .int .i64 z9]) (by simp [results, Tryz.results31, go_sem, k0, k1]) rfl ?_; rw [HR.out]; exact BookE.old (by simpa using hz1) HE.out HD.out b5
 subst hz9; have HR := Lib.hid (HRR.out.trans (if_neg (by simp))); clear HRR; have hes9 := enter_es HEN.out HBK.out.len HBK.out.es (Nat.le_trans (keyC_size (s := s) HSK.out (n_ok (Nat.le_trans ver_le HBK.out.len) (by omega))) (by omega)) (Nat.le_trans (moveP_len c [] y (-y.c)) (by simp)); have hds8 := HBK.out.ds; simp only at hds8; have hAl := bl_alloc (Below.refl w9.heap.size w9) (.cells #[.slice a9 es9.length c9] 68); have HCL := Lib.hid (bclone_any es9 ds (.slice a9 es9.length c9) (.slice (some ⟨bd, od, none⟩) ds.length cd) (w9.alloc (.cells #[.slice a9 es9.length c9] 68)) (HS9.out.step hAl) (HD.out.keep (fun j (hj : j < w.heap.size) => Nat.lt_of_lt_of_le hj (Nat.le_trans HB9.out.size hAl.size)) (.of_below (HB9.out.trans (hAl.mono HB9.out.size)))) (by omega) (by omega) (fun e he => by have := (hes9.2 e he).ps; omega) (fun y hy => by have := (HBK.out.cok y hy).ls; omega)); have HBA := Lib.hid (HB9.out.trans (hAl.mono HB9.out.size)); have HYA := Lib.hid (HY9.out.step hAl hl9); clear hes9 hAl
 go_wp2_with (fail)
 with_reducible refine HCL.out.mono ?_
 clear HCL; rintro r w11 ⟨ve2, vd2, m, rfl, hm, hm11, hs2, hn2, hb11⟩; obtain ⟨ae2, ce2, _, _, rfl, -⟩ := id hs2; obtain ⟨ad2, cd2, rfl, hcd2, hcd3⟩ := hn2.form; have HY11 := Lib.hid (HYA.out.step hb11 (by have := lt_of_heap HYA.out.b2; omega)); have HB11 := Lib.hid (bl_trans HBA.out hb11); have HSE := Lib.hid (show SlIs (tEnt 101) (fun j => w.heap.size + 3 ≤ j ∧ j < w11.heap.size ∧ j < m) w11 (.slice ae2 es9.length ce2) es9 from hs2.keep (fun j hj => ⟨by have h1 := hj.1; simp only [World.size_alloc] at h1; omega, Nat.lt_of_lt_of_le hj.2 hm11, hj.2⟩) (SameOn.refl _ _)); have HND := Lib.hid hn2; have hm9 : w9.heap.size + 1 ≤ m := by simpa using hm
 clear hs2 hn2 hb11 hm d0 d1 f0' f1' ff' HBA HYA; have h11 : w.heap.size + 2 < w11.heap.size := lt_of_heap HY11.out.b2; have hbB := bl_alloc (Below.refl w11.heap.size w11) (.cells #[.slice ae2 es9.length ce2, .slice ad2 ds.length cd2] 70); have gB := heap_alloc_new w11 (.cells #[.slice ae2 es9.length ce2, .slice ad2 ds.length cd2] 70)
 go_upto_region 13 with (fail)
 generalize w11.alloc (.cells #[.slice ae2 es9.length ce2, .slice ad2 ds.length cd2] 70) = w12 at hbB gB ⊢; have HY12 := Lib.hid (HY11.out.step hbB h11); have HBO := Lib.hid hbB; have HB12 := Lib.hid (bl_trans HB11.out hbB); have HND2 := Lib.hid (NewL.ownS HND.out); have HG12 := Lib.hid (show BB w11.heap.size (.slice ae2 es9.length ce2) (.slice ad2 ds.length cd2) w12 from gB); have h12 := hbB.size; have h12' := lt_of_heap gB; have HDEL := Lib.hid (del_some (l := ds) (s := s) (k := k) hk HKEY.out HBK.out.sort); have HOW := Lib.hid (HND2.out.own_lt); have HDC := Lib.hid (delete_any m (fun q => m ≤ q ∧ q < w11.heap.size ∧ some q ≠ (Value.slice ad2 ds.length cd2).ownBlock) ds (.slice ad2 ds.length cd2) k w12 (HND2.out.below (fun q hq => hq.2.1) hbB) (fun q hq => ⟨by omega, hq.2.2⟩) (by omega) hk); clear hbB gB HND HY11; obtain ⟨r0, r1, rf⟩ := blk2 HG12.out; have hk1 : IntKind.i64.wrap ((k : Int) + 1) = (k : Int) + 1 := wrap_in (by omega) (by omega)
 go_wp2_with (fail)
 with_reducible refine HDC.out.mono ?_
 clear HDC; rintro r w15 ⟨v15, rfl, hs15, hg15⟩; obtain ⟨a15, c15, _, _, rfl, -⟩ := id hs15; rw [HDEL.out] at hs15; have hown := HOW.out; have hz15 := hg15.size; have hbl15 : Below w.heap.size w w15 := HB12.out.grown hg15 HB12.out.size (fun q hq => by have := (hown q hq).1; omega); have gB15 : BB w11.heap.size (.slice ae2 es9.length ce2) (.slice ad2 ds.length cd2) w15 := (hg15.block _ (by omega) (fun e => by have := (hown _ e.symm).2; omega)).trans HG12.out; have g215 : BB (w.heap.size + 2) (.slice none 0 0) (.slice none 0 0) w15 := (hg15.block _ (by omega) (fun e => by have := (hown _ e.symm).1; omega)).trans HY12.out.b2; have hse : SlIs (tEnt 101) (fun q => w.heap.size + 3 ≤ q ∧ q < w11.heap.size ∧ q < m) w15 (.slice ae2 es9.length ce2) es9 := HSE.out.keep (fun _ h => h) (fun q hq => (hg15.block q (by omega) (fun e => by have := (hown _ e.symm).1; omega)).trans (HBO.out.block q hq.2.1)); obtain ⟨ds', hds'⟩ : ∃ l, (ds.filter fun x => !decide (x.key = s)) = l := ⟨_, rfl⟩; rw [hds'] at hs15 HR; have hpl : (ds.take k ++ ds.drop (k + 1)).length = ds'.length := by rw [HDEL.out, hds']
 rw [hpl]; have HSE15 := Lib.hid hse; have HSD15 := Lib.hid hs15; have HB15 := Lib.hid hbl15; have HG15 := Lib.hid gB15; have HT15 := Lib.hid g215; clear r0 r1 rf hpl; obtain ⟨r0, r1, rf⟩ := blk2 gB15; obtain ⟨s0, s1, sf⟩ := blk2 g215; have s0' : w15.cell? ⟨w.heap.size + 1 + 1, 0, none⟩ = some (.slice none 0 0) := s0; have s1' : w15.cell? ⟨w.heap.size + 1 + 1, 1, none⟩ = some (.slice none 0 0) := s1; have sf' : ∀ q, w15.frozen? ⟨w.heap.size + 1 + 1, q, none⟩ = false := sf; have hl15 : w11.heap.size < w15.heap.size := by omega
 have hl16 : w.heap.size + 1 + 1 < w15.heap.size := by omega
 have hl17 : w.heap.size + 1 + 1 ≠ w11.heap.size := by omega
 clear hs15 hg15 hbl15 gB15 g215 hse s0 s1 sf; go_wp2; have HT16 := Lib.hid (show BB (w.heap.size + 2) (.slice none 0 0) (.slice none 0 0) (w15.setCell ⟨w11.heap.size, 1, none⟩ (.slice a15 ds'.length c15)) from (Below.heap_setCell _ _ _ _ (by simp only; omega)).trans HT15.out); have HB16 := Lib.hid (show Below w.heap.size w (w15.setCell ⟨w11.heap.size, 1, none⟩ (.slice a15 ds'.length c15)) from bl_set HB15.out _ (by simp only; omega)); have HSE16 := Lib.hid (show SlIs (tEnt 101) (fun q => w.heap.size + 3 ≤ q ∧ q < w11.heap.size) (w15.setCell ⟨w11.heap.size, 1, none⟩ (.slice a15 ds'.length c15)) (.slice ae2 es9.length ce2) es9 from HSE15.out.keep (fun q hq => ⟨hq.1, hq.2.1⟩) (fun q hq => Below.heap_setCell _ _ _ _ (by simp only; omega)))
 have HSD16 := Lib.hid (show SlIs (tChg eL) (fun q => w.heap.size + 3 ≤ q ∧ q < w15.heap.size) (w15.setCell ⟨w11.heap.size, 1, none⟩ (.slice a15 ds'.length c15)) (.slice a15 ds'.length c15) ds' from HSD15.out.keep (fun q hq => ⟨by rcases hq.1 with q1 | q1 | q1 <;> first | omega | (have := (hown _ q1.symm).1; omega), hq.2⟩) (fun q hq => Below.heap_setCell _ _ _ _ (by
  rcases hq.1 with q1 | q1 | q1
  · simp only; omega
  · simp only; omega
  · have := (hown _ q1.symm).2; simp only; omega)))
 have hz16 : w15.heap.size = (w15.setCell ⟨w11.heap.size, 1, none⟩ (.slice a15 ds'.length c15)).heap.size := by simp
 clear r0 r1 rf s0' s1' sf' HSE15 HSD15 HB15 HG15 HT15; generalize w15.setCell ⟨w11.heap.size, 1, none⟩ (.slice a15 ds'.length c15) = w16 at *; have g5 : ((w16.setCell ⟨w.heap.size + 1 + 1, 0, none⟩ (.slice ae2 es9.length ce2)).setCell ⟨w.heap.size + 1 + 1, 1, none⟩ (.slice a15 ds'.length c15)).heap[w.heap.size + 1 + 1]? = some (.cells #[(.slice ae2 es9.length ce2), (.slice a15 ds'.length c15)] 70 (0, 0)) := heap_setCell_same _ _ _ _ _ _ (heap_setCell_same _ _ _ _ _ _ HT16.out); have b5 : Below w.heap.size w ((w16.setCell ⟨w.heap.size + 1 + 1, 0, none⟩ (.slice ae2 es9.length ce2)).setCell ⟨w.heap.size + 1 + 1, 1, none⟩ (.slice a15 ds'.length c15)) := bl_set (bl_set HB16.out _ (by simp only; omega)) _ (by simp only; omega); have hoth : ∀ q, w.heap.size + 3 ≤ q → ((w16.setCell ⟨w.heap.size + 1 + 1, 0, none⟩ (.slice ae2 es9.length ce2)).setCell ⟨w.heap.size + 1 + 1, 1, none⟩ (.slice a15 ds'.length c15)).heap[q]? = w16.heap[q]? := fun q hq => (Below.heap_setCell _ _ _ _ (by simp only; omega)).trans (Below.heap_setCell _ _ _ _ (by simp only; omega))
 have hz17 : w16.heap.size = ((w16.setCell ⟨w.heap.size + 1 + 1, 0, none⟩ (.slice ae2 es9.length ce2)).setCell ⟨w.heap.size + 1 + 1, 1, none⟩ (.slice a15 ds'.length c15)).heap.size := by simp
 obtain ⟨k0, k1, -⟩ := blk2 g5; generalize (w16.setCell ⟨w.heap.size + 1 + 1, 0, none⟩ (.slice ae2 es9.length ce2)).setCell ⟨w.heap.size + 1 + 1, 1, none⟩ (.slice a15 ds'.length c15) = wf at *; refine bodyPost_ret (v := .tuple #[.agg #[(.slice ae2 es9.length ce2), (.slice a15 ds'.length c15)], .int .i64 0]) (by simp [results, Tryz.results31, go_sem, k0, k1]) rfl ?_; rw [HR.out]; exact ⟨(.slice ae2 es9.length ce2), (.slice a15 ds'.length c15), rfl, HSE16.out.keep (fun q hq => ⟨fun _ => by omega, by omega⟩) (fun q hq => hoth q hq.1), HSD16.out.keep (fun q hq => ⟨fun _ => by omega, by omega⟩) (fun q hq => hoth q hq.1), b5, fun h => absurd rfl h⟩
end Go.Proofs.YtifcelebfagjbaaGreatDoor
