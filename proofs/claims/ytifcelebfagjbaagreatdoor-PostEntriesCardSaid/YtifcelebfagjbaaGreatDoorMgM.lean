/-
  Layer 37 (post): enter.
-/
import Derived.Test.YtifcelebfagjbaaGreatDoorMgL
import Derived.Test.YtifcelebfagjbaaGreatDoorMgI
import Derived.Test.YtifcelebfagjbaaGreatDoorMgB
import Derived.Test.YtifcelebfagjbaaGreatDoorMgA
import Derived.Laws.CopyRow
import Derived.Lib.AppendZerosOnto
import Derived.Lib.Overlaps
import Derived.Laws.Externs
import Derived.Deep.RegionLaw
import Derived.Laws.AppendOwn
import Derived.Test.YtifcelebfagjbaaGreatDoorMgF
namespace Go.Proofs.YtifcelebfagjbaaGreatDoor
open Go.RowKit Go.Tw Go.Tw.Ord Go.Tw.Po Go.Sort
set_option maxRecDepth 100000 in
set_option maxHeartbeats 4000000 in
theorem enter_any (B : Nat) (es : List Ent) (ve : Value) (key : ByteArray) (tm : Int) (ps : List SI) (vp : Value) (w : World) (hB : B ≤ w.heap.size) (h : SlIs (tEnt 101) (· < B) w ve es) (hp : NewL tSI 101 B w vp ps) (hk : key.size ≤ maxLen) (ht : i64ok tm) (hes : ∀ x ∈ es, EOk x) (hl : es.length ≤ 1000) (hep : ps.length ≤ 4) (h0 : 0 < ps.length) :
    Calls Tryz.prog 50 #[.agg #[ve], .agg #[.string key, .int .i64 tm, vp]] w fun r w' => (∃ ve', r = .returned (.tuple #[.agg #[ve'], .int .i64 (enterL es key tm ps).2]) ∧ SlIs (tEnt 101) (· < w'.heap.size) w' ve' (enterL es key tm ps).1) ∧ Below B w w' := by
  have hf := hp.form
  obtain ⟨ap, cp, rfl, -⟩ := hf
  have h0' := alloc3 w (.cells #[ve] 68) (.cells #[.string key, .int .i64 tm, .slice ap ps.length cp] 105) (.cells #[.slice none 0 0] 68)
  have HB0 := Lib.hid (bl_alloc (bl_alloc (bl_alloc (Below.refl w.heap.size w) (.cells #[ve] 68)) (.cells #[.string key, .int .i64 tm, .slice ap ps.length cp] 105)) (.cells #[.slice none 0 0] 68))
  have hnb : some (w.heap.size + 1) ≠ (Value.slice ap ps.length cp).ownBlock := fun e => by
    obtain ⟨F, o1, o2, o3⟩ := hp
    have := o1.lt _ (o1.blk _ e.symm)
    omega
  have hnb0 : some w.heap.size ≠ (Value.slice ap ps.length cp).ownBlock := fun e => by
    obtain ⟨F, o1, o2, o3⟩ := hp
    have := o1.lt _ (o1.blk _ e.symm)
    omega
  have hnb2 : some (w.heap.size + 2) ≠ (Value.slice ap ps.length cp).ownBlock := fun e => by
    obtain ⟨F, o1, o2, o3⟩ := hp
    have := o1.lt _ (o1.blk _ e.symm)
    omega
  have HCL := Lib.hid (clean_any B (w.heap.size + 1) key tm ps (.slice ap ps.length cp) _ h0'.2.1 (hp.below HB0.out) hnb h0 (by omega))
  have HE := Lib.hid h
  have HN0 := Lib.hid h0'.1
  have HN2 := Lib.hid h0'.2.2
  obtain ⟨ao, cap, bi, off, rfl, hl1, hm1, -⟩ := ent_open h
  have HES := Lib.hid hes
  clear h hp hes h0'
  go_enter Tryz.func50, Tryz.ntmps50
  go_wp2_with (fail)
  with_reducible refine HCL.out.mono ?_
  rintro r w2 ⟨rfl, ⟨v', hg1, hs⟩, hb, hoth⟩
  have HG0 := Lib.hid ((hoth w.heap.size (by simp; omega) (by omega) hnb0).trans HN0.out)
  have HG1 := Lib.hid hg1
  have HG2 := Lib.hid ((hoth (w.heap.size + 2) (by simp) (by omega) hnb2).trans HN2.out)
  have HBB := Lib.hid (show Below B w w2 from (HB0.out.mono hB).trans hb)
  obtain ⟨av, cv, _, _, rfl, -⟩ := id hs
  have HS := Lib.hid hs
  have c0 := (blk1 HG0.out).1
  obtain ⟨d0, d1, d2, -⟩ := blk3 HG1.out
  obtain ⟨f0, ff⟩ := blk1 HG2.out
  have f0' : w2.cell? ⟨w.heap.size + 1 + 1, 0, none⟩ = some (.slice none 0 0) := f0
  have ff' : ∀ j, w2.frozen? ⟨w.heap.size + 1 + 1, j, none⟩ = false := ff
  have hlt := lt_of_heap HG2.out
  clear hg1 hs hb hoth HCL HN0 HN2 HB0 f0 ff
  obtain ⟨q, hq⟩ : ∃ q, cleanP ps = q := ⟨_, rfl⟩
  rw [hq] at HS d2 HG1
  by_cases hq0 : q.length = 0
  · have hz : ((q.length : Int) == 0) = true := by rw [hq0]; rfl
    have HR := Lib.hid (show enterL es key tm ps = (es, 0) by unfold enterL; rw [if_pos (by rw [hq]; exact List.eq_nil_of_length_eq_zero hq0)])
    clear hq0 hq
    go_wp2
    have g5 : (w2.setCell ⟨w.heap.size + 1 + 1, 0, none⟩ (.slice ao es.length cap)).heap[w.heap.size + 1 + 1]? = some (.cells #[(.slice ao es.length cap)] 68 (0, 0)) := heap_setCell_same _ _ _ _ _ _ HG2.out
    have k5 := (blk1 g5).1
    have b5 : Below B w (w2.setCell ⟨w.heap.size + 1 + 1, 0, none⟩ (.slice ao es.length cap)) := Below.setCell HBB.out (by simp only; omega) _
    refine bodyPost_ret (v := .tuple #[.agg #[(.slice ao es.length cap)], .int .i64 0]) (by simp [results, Tryz.results50, go_sem, k5]) rfl ⟨⟨_, by rw [HR.out], ?_⟩, b5⟩
    rw [HR.out]
    exact HE.out.keep (fun k hk => Nat.lt_of_lt_of_le hk (Nat.le_trans hB b5.size)) (.of_below b5)
  · have hz : ((q.length : Int) == 0) = false := by rw [beq_eq_false_iff_ne]; omega
    have hq2 : cleanP ps ≠ [] := by rw [hq]; intro e; rw [e] at hq0; exact hq0 rfl
    have hql : q.length ≤ 4 := by rw [← hq]; exact Nat.le_trans (clean_len ps) hep
    have HR := Lib.hid (show enterL es key tm ps = postL es ⟨key, tm, q⟩ by unfold enterL; rw [if_neg hq2, hq])
    have HP := Lib.hid (post_any B es (.slice ao es.length cap) ⟨key, tm, q⟩ (.slice av q.length cv) w2 (Nat.le_trans hB HBB.out.size) (HE.out.keep (fun _ h => h) (.of_below HBB.out)) (HS.out.keep (fun k hk => hk.2.2) (SameOn.refl _ _)) ⟨hk, ht⟩ HES.out hl hql)
    clear hq0 hq hq2
    go_wp2_with (fail)
    with_reducible refine HP.out.mono ?_
    rintro r w3 ⟨⟨ve', rfl, hs3⟩, hb3⟩
    have HG3 := Lib.hid ((hb3.block _ hlt).trans HG2.out)
    have HB3 := Lib.hid (show Below B w w3 from HBB.out.trans (hb3.mono (Nat.le_trans hB HBB.out.size)))
    have HS3 := Lib.hid hs3
    obtain ⟨a3, c3, _, _, rfl, -⟩ := id hs3
    obtain ⟨f0, ff⟩ := blk1 HG3.out
    have hlt3 := lt_of_heap HG3.out
    clear hs3 hb3 HP c0 d0 d1 d2 f0' ff' HG0 HG1 HG2 HBB HS
    have HG2 := HG3
    have HBB := HB3
    have f0' : w3.cell? ⟨w.heap.size + 1 + 1, 0, none⟩ = some (.slice none 0 0) := f0
    have ff' : ∀ j, w3.frozen? ⟨w.heap.size + 1 + 1, j, none⟩ = false := ff
    clear HG3 HB3 f0 ff
    go_wp2
    obtain ⟨z, hz⟩ : ∃ z, (postL es ⟨key, tm, q⟩).2 = z := ⟨_, rfl⟩
    obtain ⟨m, hm⟩ : ∃ m, (postL es ⟨key, tm, q⟩).1 = m := ⟨_, rfl⟩
    have HR := Lib.hid (HR.out.trans (show postL es ⟨key, tm, q⟩ = (m, z) from Prod.ext hm hz))
    rw [hz, hm]
    rw [hm] at HS3
    have g5 : (w3.setCell ⟨w.heap.size + 1 + 1, 0, none⟩ (.slice a3 m.length c3)).heap[w.heap.size + 1 + 1]? = some (.cells #[(.slice a3 m.length c3)] 68 (0, 0)) := heap_setCell_same _ _ _ _ _ _ HG2.out
    have k5 := (blk1 g5).1
    have b5 : Below B w (w3.setCell ⟨w.heap.size + 1 + 1, 0, none⟩ (.slice a3 m.length c3)) := Below.setCell HBB.out (by simp only; omega) _
    refine bodyPost_ret (v := .tuple #[.agg #[(.slice a3 m.length c3)], .int .i64 z]) (by simp [results, Tryz.results50, go_sem, k5]) rfl ⟨⟨_, by rw [HR.out], ?_⟩, b5⟩
    rw [HR.out]
    exact HS3.out.keep (fun k hk => by have := hk.2; simpa using this) (fun k hk => Below.heap_setCell _ _ _ _ (by rcases hk.1 with q | q <;> simp only <;> omega))
end Go.Proofs.YtifcelebfagjbaaGreatDoor
/-
  A whole aggregate stored into an element of a slice of the call's own. No program in sight.
-/
namespace Go.Tw
open Go.RowKit
section
variable {P : Program}
theorem run_storeA {t t2 : TypeId} {n g k : Nat} {cur A : Array Value} {w : World} (hsz : ∀ w, (sizeOf t).run P w = .ok n w) (hA : A.size = n) (h1 : ∀ v ∈ A.toList, v.oneCell' = true) (hg : w.heap[g]? = some (.cells cur t2 (0, 0))) (hl : k + n ≤ cur.size) :
    Sem.run P (Instr.storeAt t (.pointer (some ⟨g, k, none⟩)) (.agg A)) w = .ok () (w.setRow g (cur.toList.take k ++ A.toList ++ cur.toList.drop (k + n)).toArray) := by
  unfold Instr.storeAt Instr.sureAddr storeVar
  simp only [Sem.run_bind, Sem.run_pure, Result.andThen_ok, hsz, Value.cells]
  simp only [hA, ne_eq, not_true_eq_false, ↓reduceIte]
  have := run_storeCells_at P g k t2 A.toList 0 cur w hg (by simp [hA]; omega) h1
  rw [this]
  simp [hA]
theorem wp_storeA {o : Oper} {a : Act} {w : World} {K : Act → World → Prop} {Q : Exit → Act → World → Prop} (p x : Operand) (t : TypeId) (ho : o.op = .store t p x) (hd : o.dst = none)
    {A cur : Array Value} {n g k : Nat} {t2 : TypeId} (hsz : ∀ w, (sizeOf t).run P w = .ok n w) (hA : A.size = n) (h1 : ∀ v ∈ A.toList, v.oneCell' = true) (hp : a.eval p = .pointer (some ⟨g, k, none⟩)) (hx : a.eval x = .agg A)
    (hg : w.heap[g]? = some (.cells cur t2 (0, 0))) (hl : k + n ≤ cur.size) (h : K a (w.setRow g (cur.toList.take k ++ A.toList ++ cur.toList.drop (k + n)).toArray)) : o.wp P a w K Q := by
  have e2 : (execOp a.eval o).run P w = .ok .skip (w.setRow g (cur.toList.take k ++ A.toList ++ cur.toList.drop (k + n)).toArray) := by
    unfold execOp
    simp only [ho, hx, hp, Sem.run_bind, Sem.run_pure, Result.andThen_ok, run_storeA hsz hA h1 hg hl]
  unfold Oper.wp
  rw [e2]
  unfold Oper.upon
  rw [hd]
  exact h
theorem wpList_storeA {ops : Array Oper} {rest : List Oper} {o : Oper} {a : Act} {w : World} {Q : Exit → Act → World → Prop} (p x : Operand) (hgd : o.guard = none) (t : TypeId) (ho : o.op = .store t p x) (hd : o.dst = none)
    {A cur : Array Value} {n g k : Nat} {t2 : TypeId} (hsz : ∀ w, (sizeOf t).run P w = .ok n w) (hA : A.size = n) (h1 : ∀ v ∈ A.toList, v.oneCell' = true) (hp : a.eval p = .pointer (some ⟨g, k, none⟩)) (hx : a.eval x = .agg A)
    (hg : w.heap[g]? = some (.cells cur t2 (0, 0))) (hl : k + n ≤ cur.size) (h : wpList P ops Q rest a (w.setRow g (cur.toList.take k ++ A.toList ++ cur.toList.drop (k + n)).toArray)) : wpList P ops Q (o :: rest) a w :=
  wpList_plain hgd fun _ hK => wp_storeA p x t ho hd hsz hA h1 hp hx hg hl (hK _ _ h)
end
variable {α : Type} {T : Ty α} {e : TypeId} {w : World} {v : Value} {l : List α}
theorem AllIs.setAt (hT : T.Flat) {S : Nat → Prop} : ∀ {css : List (List Value)} {l : List α} (i : Nat) {ci : List Value} {y : α}, AllIs T S w css l → T.is S w ci y → ∀ {w' : World}, AllIs T S w' (css.set i ci) (l.set i y)
  | [], [], _, _, _, _, _, _ => by simp [AllIs]
  | _ :: css, _ :: l, 0, _, _, h, hy, _ => ⟨hT hy, AllIs.flat hT h.2⟩
  | _ :: css, _ :: l, i + 1, _, _, h, hy, _ => ⟨hT h.1, AllIs.setAt hT i h.2 hy⟩
  | [], _ :: _, _, _, _, h, _, _ => h.elim
  | _ :: _, [], _, _, _, h, _, _ => h.elim
theorem flat_set_mid : ∀ {css : List (List Value)} {n : Nat} (i : Nat) {ci rest : List Value}, (∀ c ∈ css, c.length = n) → i < css.length → ci.length = n →
    (css.flatten ++ rest).take (i * n) ++ ci ++ (css.flatten ++ rest).drop (i * n + n) = (css.set i ci).flatten ++ rest
  | c :: css, n, 0, ci, rest, h, _, hc => by
    have := h c (by simp)
    simp only [List.flatten_cons, List.append_assoc, Nat.zero_mul, List.take_zero, List.nil_append, Nat.zero_add, List.set_cons_zero]
    rw [List.drop_append_of_le_length (by omega), List.drop_of_length_le (by omega), List.nil_append]
  | c :: css, n, i + 1, ci, rest, h, hi, hc => by
    have hcl := h c (by simp)
    have ih := flat_set_mid (css := css) (n := n) i (ci := ci) (rest := rest) (fun d hd => h d (by simp [hd])) (by simpa using hi) hc
    simp only [List.flatten_cons, List.append_assoc, List.set_cons_succ]
    rw [← ih]
    have e1 : (i + 1) * n = c.length + i * n := by rw [Nat.succ_mul]; omega
    rw [e1, List.take_length_add_append, Nat.add_assoc, List.drop_length_add_append]
    simp
  | [], _, _, _, _, _, h, _ => absurd h (Nat.not_lt_zero _)
theorem AllIs.lens {S : Nat → Prop} : ∀ {css : List (List Value)} {l : List α}, AllIs T S w css l → css.length = l.length ∧ ∀ c ∈ css, c.length = T.sz
  | [], [], _ => ⟨rfl, fun _ h => absurd h List.not_mem_nil⟩
  | c :: css, _ :: l, h => by
    obtain ⟨h1, h2⟩ := AllIs.lens h.2
    refine ⟨by simp [h1], fun d hd => ?_⟩
    rcases List.mem_cons.1 hd with rfl | hd
    · exact T.len h.1
    · exact h2 d hd
  | [], _ :: _, h => h.elim
  | _ :: _, [], h => h.elim
/-- where an own slice's elements lie, and what a whole store into one of them makes of it -/
theorem OwnSl.storeA {B : Nat} (hT : T.Flat) (h : OwnSl T e B w v l) (hl : 0 < l.length) : ∃ g cap cur, v = .slice (some ⟨g, 0, none⟩) l.length cap ∧ B ≤ g ∧ g < w.heap.size ∧ w.heap[g]? = some (.cells cur e (0, 0)) ∧ l.length * T.sz ≤ cur.size ∧
    ∀ (i : Nat) (A : Array Value) (y : α) (S : Nat → Prop), i < l.length → T.is S w A.toList y → OwnSl T e B (w.setRow g (cur.toList.take (i * T.sz) ++ A.toList ++ cur.toList.drop (i * T.sz + T.sz)).toArray) v (l.set i y) := by
  obtain ⟨css, h1, h2⟩ := h
  rcases h1.2 with ⟨_, h'⟩ | ⟨g, cap, cur, rfl, hB, hg, h3, h4, h5, h6⟩
  · omega
  have hlt := (Array.getElem?_eq_some_iff.1 hg).1
  obtain ⟨l1, l2⟩ := h2.lens
  refine ⟨g, cap, cur, rfl, hB, hlt, hg, by rw [h5]; exact Nat.mul_le_mul_right _ h3, fun i A y S hi hy => ?_⟩
  have hAl := T.len hy
  have hfl := h2.flatten_len
  have e1 : cur.toList = css.flatten ++ cur.toList.drop (l.length * T.sz) := by rw [← h6, List.take_append_drop]
  have e2 : cur.toList.take (i * T.sz) ++ A.toList ++ cur.toList.drop (i * T.sz + T.sz) = (css.set i A.toList).flatten ++ cur.toList.drop (l.length * T.sz) := by
    conv => lhs; rw [e1]
    exact flat_set_mid i l2 (by omega) hAl
  have hfl2 : (css.set i A.toList).flatten.length = l.length * T.sz := by
    have := congrArg List.length e2
    have h7 := congrArg List.length e1
    have h8 : (i + 1) * T.sz ≤ l.length * T.sz := Nat.mul_le_mul_right _ hi
    have h9 : l.length * T.sz ≤ cap * T.sz := Nat.mul_le_mul_right _ h3
    rw [Nat.succ_mul] at h8
    simp only [List.length_append, List.length_take, List.length_drop, Array.length_toList, hAl] at this h7
    omega
  refine ⟨css.set i A.toList, ⟨by rw [hfl2, List.length_set], .inr ⟨g, cap, _, by rw [List.length_set], hB, setRow_heap _ _ cur _ e (0, 0) hg, by rw [List.length_set]; exact h3, h4, ?_, ?_⟩⟩, ?_⟩
  · rw [e2]
    have h8 : l.length * T.sz ≤ cap * T.sz := Nat.mul_le_mul_right _ h3
    simp only [List.size_toArray, List.length_append, hfl2, List.length_drop, Array.length_toList]
    omega
  · rw [e2]
    simp only [List.length_set]
    rw [← hfl2, List.take_left']
    rfl
  · exact (AllIs.setAt hT (w' := w.setRow g _) i h2 (hT hy)).keep (fun k hk => ⟨by rw [show (w.setRow g _).heap.size = w.heap.size from by simp [World.setRow]]; exact hk.1, hk.2⟩) (SameOn.refl _ _)
theorem below_setRow {B g : Nat} {w w' : World} {cs : Array Value} (h : Below B w w') (hB : B ≤ w'.heap.size) (hg : B ≤ g) : Below B w (w'.setRow g cs) :=
  h.trans (Below.of_grown (row := some g) ⟨rfl, rfl, rfl, by simp [World.setRow], fun k _ hk => setRow_other w' g k _ (fun e => hk (by simp [e]))⟩ hB (fun k hk => by cases hk; exact hg))
end Go.Tw
/-
  slices.Insert, slices.Delete of elements of several cells: what the rows' cells become; copy at elements of several cells. No program in sight.
-/
namespace Go.Tw
open Go.RowKit
section
variable {P : Program}
theorem run_copy_wide (w : World) (dT sT ty elem : TypeId) (g o dLen dCap : Nat) (a : Addr) (sLen sCap n k : Nat) (cur : Array Value) (t : TypeId) (cs : List Value)
    (hu : P.underlying dT = some (.slice elem)) (hs : (P.info? elem).map (·.size) = some k) (hg : w.heap[g]? = some (.cells cur t (0, 0))) (hn : Nat.min sLen dLen = n) (hcs : cs.length = n * k)
    (hsrc : ∀ j v, cs[j]? = some v → w.cell? (a.add j) = some v) (hfit : o + cs.length ≤ cur.size) (h1 : ∀ v ∈ cs, v.oneCell' = true) :
    (Builtin.copy_ #[dT, sT] ty #[.slice (some ⟨g, o, none⟩) dLen dCap, .slice (some a) sLen sCap]).run P w = .ok (goInt n) (w.setRow g (cur.toList.take o ++ cs ++ cur.toList.drop (o + cs.length)).toArray) := by
  have hl := run_loadCells_list (P := P) w a cs hsrc
  have hst := run_storeCells_at P g o t cs 0 cur w hg (by simpa using hfit) h1
  cases hq : P.info? elem with
  | none => simp [hq] at hs
  | some i =>
    have hi : i.size = k := by simpa [hq] using hs
    rw [hcs] at hl
    simp [Builtin.copy_, run_underlying hu, Builtin.lenOf, Builtin.firstCells, sizeOf, typeInfo, hq, hi, hn, hl, hst]
theorem wp_copy_r {o : Oper} {a : Act} {w : World} {K : Act → World → Prop} {Q : Exit → Act → World → Prop} (d s : Operand) (t t' : TypeId) (ho : o.op = .call { callee := .builtin .copy, args := #[d, s], argTypes := #[t, t'] }) {v u : Value} (hd : a.eval d = v) (hs : a.eval s = u) {n : Value} {w' : World}
    (hr : ∀ ty, (Builtin.copy_ #[t, t'] ty #[v, u]).run P w = .ok n w') (h : K (a.put o.dst n) w') : o.wp P a w K Q := by
  have hr' := hr o.type
  unfold Oper.wp execOp
  simp only [ho, resolve, invoke, builtin, Sem.run_bind, Sem.run_pure, Result.andThen_ok, List.map_toArray, List.map_cons, List.map_nil, hd, hs, hr']
  exact h
theorem wpList_copy_r {ops : Array Oper} {rest : List Oper} {o : Oper} {a : Act} {w : World} {Q : Exit → Act → World → Prop} (hgd : o.guard = none) (d s : Operand) (t t' : TypeId) (ho : o.op = .call { callee := .builtin .copy, args := #[d, s], argTypes := #[t, t'] }) {v u : Value} (hd : a.eval d = v) (hs : a.eval s = u) {n : Value} {w' : World}
    (hr : ∀ ty, (Builtin.copy_ #[t, t'] ty #[v, u]).run P w = .ok n w') (h : wpList P ops Q rest (a.put o.dst n) w') : wpList P ops Q (o :: rest) a w :=
  wpList_plain hgd fun _ hK => wp_copy_r d s t t' ho hd hs hr (hK _ _ h)
theorem step_copy_r {ops : Array Oper} {o : Oper} {a : Act} {w : World} {K : Act → World → Prop} {Q : Exit → Act → World → Prop} {E : Prop} (hgd : o.guard = none) (d s : Operand) (t t' : TypeId) (ho : o.op = .call { callee := .builtin .copy, args := #[d, s], argTypes := #[t, t'] }) {v u : Value} (hd : a.eval d = v) (hs : a.eval s = u) {n : Value} {w' : World}
    (hr : ∀ ty, (Builtin.copy_ #[t, t'] ty #[v, u]).run P w = .ok n w') (h : K (a.put o.dst n) w') : if Region.wanted o (yielded ops a.tmps) = true then Oper.wp P o a w K Q else E := by
  rw [if_pos (show Region.wanted o (yielded ops a.tmps) = true by simp [Region.wanted, hgd])]
  exact wp_copy_r d s t t' ho hd hs hr h
end
section
variable {α : Type} {T : Ty α}
theorem flat_take {k : Nat} : ∀ {css : List (List Value)} (i : Nat), (∀ c ∈ css, c.length = k) → (css.take i).flatten = css.flatten.take (i * k)
  | [], i, _ => by simp
  | c :: css, 0, _ => by simp
  | c :: css, i + 1, h => by
    have h0 := h c List.mem_cons_self
    rw [List.take_succ_cons, List.flatten_cons, List.flatten_cons, flat_take i fun x hx => h x (List.mem_cons_of_mem _ hx), List.take_append, h0, Nat.succ_mul, List.take_of_length_le (l := c) (by omega)]
    congr 2
    omega
theorem flat_drop {k : Nat} {css : List (List Value)} (i : Nat) (h : ∀ c ∈ css, c.length = k) : (css.drop i).flatten = css.flatten.drop (i * k) := by
  have e : css.flatten = (css.take i).flatten ++ (css.drop i).flatten := by rw [← List.flatten_append, List.take_append_drop]
  have hl : i ≤ css.length → (css.take i).flatten.length = i * k := fun hi => by
    rw [flat_take i h, List.length_take]
    have : css.flatten.length = css.length * k := by
      clear e hi
      induction css with
      | nil => simp
      | cons c css ih =>
        rw [List.flatten_cons, List.length_append, ih (fun x hx => h x (List.mem_cons_of_mem _ hx)), h c List.mem_cons_self, List.length_cons, Nat.succ_mul]
        omega
    rw [this]
    have := Nat.mul_le_mul_right k hi
    omega
  rcases Nat.lt_or_ge i css.length with hi | hi
  · have h1 := hl (Nat.le_of_lt hi)
    conv => rhs; rw [e]
    rw [List.drop_append, h1, Nat.sub_self, List.drop_zero, show ((css.take i).flatten).drop (i * k) = [] from List.drop_of_length_le (by omega), List.nil_append]
  · rw [List.drop_of_length_le hi, List.flatten_nil, List.drop_of_length_le]
    have : css.flatten.length = css.length * k := by
      clear e hi hl
      induction css with
      | nil => simp
      | cons c css ih =>
        rw [List.flatten_cons, List.length_append, ih (fun x hx => h x (List.mem_cons_of_mem _ hx)), h c List.mem_cons_self, List.length_cons, Nat.succ_mul]
        omega
    rw [this]
    exact Nat.mul_le_mul_right k hi
theorem AllIs.take {S : Nat → Prop} {w : World} : ∀ {css : List (List Value)} {l : List α} (i : Nat), AllIs T S w css l → AllIs T S w (css.take i) (l.take i)
  | [], [], i, _ => by simp [AllIs]
  | _ :: _, _ :: _, 0, _ => by simp [AllIs]
  | _ :: _, _ :: _, i + 1, h => ⟨h.1, AllIs.take i h.2⟩
  | [], _ :: _, _, h => h.elim
  | _ :: _, [], _, h => h.elim
theorem AllIs.drop {S : Nat → Prop} {w : World} : ∀ {css : List (List Value)} {l : List α} (i : Nat), AllIs T S w css l → AllIs T S w (css.drop i) (l.drop i)
  | [], [], i, _ => by simp [AllIs]
  | _ :: _, _ :: _, 0, h => h
  | _ :: _, _ :: _, i + 1, h => AllIs.drop i h.2
  | [], _ :: _, _, h => h.elim
  | _ :: _, [], _, h => h.elim
/-- one element between -/
theorem AllIs.insert {S : Nat → Prop} {w : World} {css : List (List Value)} {l : List α} {xs : List Value} {x : α} (i : Nat) (h : AllIs T S w css l) (hx : T.is S w xs x) : AllIs T S w (css.take i ++ xs :: css.drop i) (l.take i ++ x :: l.drop i) :=
  (h.take i).append (css' := xs :: css.drop i) (l' := x :: l.drop i) ⟨hx, h.drop i⟩
theorem insert_flat {k : Nat} {css : List (List Value)} {xs : List Value} (i : Nat) (h : ∀ c ∈ css, c.length = k) : (css.take i ++ xs :: css.drop i).flatten = css.flatten.take (i * k) ++ (xs ++ css.flatten.drop (i * k)) := by
  rw [List.flatten_append, List.flatten_cons, flat_take i h, flat_drop i h]
/-- first the elements behind are moved, then the new one is written -/
theorem shift_row {cur CS xs : List Value} {a k n : Nat} (_hn : CS.length = n) (hc : cur.take n = CS) (ha : a ≤ n) (hx : xs.length = k) (hr : n + k ≤ cur.length) :
    (CS.take a ++ (xs ++ CS.drop a)) <+: (cur.take (a + k) ++ CS.drop a ++ cur.drop (a + k + (CS.drop a).length)).take a ++ xs ++ (cur.take (a + k) ++ CS.drop a ++ cur.drop (a + k + (CS.drop a).length)).drop (a + xs.length) := by
  have h1 : (cur.take (a + k) ++ CS.drop a ++ cur.drop (a + k + (CS.drop a).length)).take a = CS.take a := by
    rw [List.append_assoc, List.take_append, List.length_take, Nat.min_eq_left (by omega), show a - (a + k) = 0 by omega, List.take_zero, List.append_nil, List.take_take, Nat.min_eq_left (by omega), ← hc, List.take_take, Nat.min_eq_left (by omega)]
  have h2 : (cur.take (a + k) ++ CS.drop a ++ cur.drop (a + k + (CS.drop a).length)).drop (a + xs.length) = CS.drop a ++ cur.drop (a + k + (CS.drop a).length) := by
    rw [hx, List.append_assoc, List.drop_append, List.length_take, Nat.min_eq_left (by omega), Nat.sub_self, List.drop_zero, List.drop_of_length_le (by rw [List.length_take]; omega), List.nil_append]
  rw [h1, h2]
  exact ⟨cur.drop (a + k + (CS.drop a).length), by simp⟩
/-- first the new one, then the elements behind -/
theorem grow_row {cur CS xs : List Value} {a k n : Nat} (_hn : CS.length = n) (ha : a ≤ n) (hc : cur.take a = CS.take a) (hx : xs.length = k) (hr : n + k ≤ cur.length) :
    (CS.take a ++ (xs ++ CS.drop a)) <+: (cur.take a ++ xs ++ cur.drop (a + xs.length)).take (a + k) ++ CS.drop a ++ (cur.take a ++ xs ++ cur.drop (a + xs.length)).drop (a + k + (CS.drop a).length) := by
  have h1 : (cur.take a ++ xs ++ cur.drop (a + xs.length)).take (a + k) = CS.take a ++ xs := by
    rw [List.take_append, List.length_append, List.length_take, Nat.min_eq_left (by omega), hx, Nat.sub_self, List.take_zero, List.append_nil, List.take_of_length_le (by rw [List.length_append, List.length_take]; omega), hc]
  rw [h1, ← List.append_assoc]
  exact ⟨_, rfl⟩
end
end Go.Tw
/-
  slices.Insert of one charge into a slice of the call's own.
-/
namespace Go.Proofs.YtifcelebfagjbaaGreatDoor
open Go.RowKit Go.Tw Go.Tw.Ord Go.Tw.Po Go.Sort
abbrev eL : TypeId := 140
/-- what Insert leaves -/
def InsE (w : World) (v : Value) (S : Nat → Prop) (l : List Chg) (e : Ending) (w' : World) : Prop := ∃ v', e = .returned v' ∧ SlIs (tChg eL) (fun k => (S k ∨ w.heap.size ≤ k ∨ some k = v.ownBlock) ∧ k < w'.heap.size) w' v' l ∧ w.grownBy w' v.ownBlock
theorem grown_setRow (w : World) (g : Nat) (cs : Array Value) : w.grownBy (w.setRow g cs) (some g) := ⟨rfl, rfl, rfl, by simp, fun k _ hk => setRow_other w g k _ (fun e => hk (by simp [e]))⟩
theorem grown_drew (w : World) (r : Option Nat) : w.grownBy w.drew r := ⟨rfl, rfl, rfl, Nat.le_refl _, fun _ _ _ => rfl⟩
set_option maxRecDepth 100000 in
set_option maxHeartbeats 4000000 in
theorem insert_end (B : Nat) (S : Nat → Prop) (ds : List Chg) (vd : Value) (x : Chg) (vb : Nat) (cx : Array Value) (w : World) (h : OwnS (tChg eL) 49 B S w vd ds) (hS : ∀ k, S k → k < w.heap.size ∧ some k ≠ vd.ownBlock) (hb : w.heap[vb]? = some (.cells cx 49 (0, 0))) (hvb : S vb)
    (hx : (tChg eL).is S w cx.toList x) (hl : ds.length ≤ 1000) (hB : B ≤ w.heap.size) :
    Calls Tryz.prog 53 #[vd, .int .i64 ds.length, .slice (some ⟨vb, 0, none⟩) 1 1] w (InsE w vd S (ds ++ [x])) := by
  have hsx : SlIs (tChg eL) S w (.slice (some ⟨vb, 0, none⟩) 1 1) [x] := SlIs.of_block (css := [cx.toList]) (l := [x]) (cap := 1) hb ⟨[], by simp⟩ ⟨hx, trivial⟩ hvb (by simp) (by decide)
  obtain ⟨ao, cap, rfl, h1, h2⟩ := h.form
  obtain ⟨v', w', hr, ho, hg, hv⟩ := run_append_S (P := Tryz.prog) (t := 52) (ty := 52) slChg h hS hsx hS (by simp) (by simp; omega) (by simp; unfold maxLen; omega) hB
  have HF := Lib.hid (show InsE w (.slice ao ds.length cap) S (ds ++ [x]) (.returned v') w' from ⟨v', rfl, ho.sl.keep (fun k hk => by
    rcases hk with hk | hk
    · have hk' : S k := by rcases hk with q | q <;> exact q
      exact ⟨.inl hk', Nat.lt_of_lt_of_le (hS k hk').1 hg.size⟩
    · refine ⟨?_, (ho.own_lt k hk).2⟩
      rcases hv with q | q
      · exact .inr (.inr (by rw [← q]; exact hk.symm))
      · rw [q] at hk
        injection hk with hk
        exact .inr (.inl (by omega))) (SameOn.refl _ _), hg⟩)
  unfold maxLen at h2
  have h3 : (ds.length : Int) ≤ (cap : Int) := by omega
  clear h hb hx hvb hsx ho hg hv hS
  by_cases hc : cap = ds.length
  all_goals
    go_enter Tryz.func53, Tryz.ntmps53
    go_wp2_with (at_builtin; refine Lib.wpList_append_run _ rfl (.tmp 23) (.tmp 24) 52 52 rfl _ _ rfl rfl _ _ hr ?_)
    go_ret
    exact HF.out
theorem chgSize : (Tryz.prog.info? 49).map (·.size) = some 7 := by kernel_rfl
set_option maxRecDepth 100000 in
set_option maxHeartbeats 4000000 in
theorem insert_shift (B : Nat) (S : Nat → Prop) (ds : List Chg) (vd : Value) (x : Chg) (vb i : Nat) (cx : Array Value) (w : World) (h : OwnS (tChg eL) 49 B S w vd ds) (hS : ∀ k, S k → k < w.heap.size ∧ some k ≠ vd.ownBlock) (hb : w.heap[vb]? = some (.cells cx 49 (0, 0))) (hvb : S vb)
    (hx : (tChg eL).is S w cx.toList x) (hl : ds.length ≤ 1000) (hi : i < ds.length) (hroom : ∀ a n c, vd = .slice a n c → ds.length + 1 ≤ c) :
    Calls Tryz.prog 53 #[vd, .int .i64 i, .slice (some ⟨vb, 0, none⟩) 1 1] w (InsE w vd S (ds.take i ++ x :: ds.drop i)) := by
  obtain ⟨css, h1, h2⟩ := h
  rcases h1.2 with ⟨_, h'⟩ | ⟨g, cap, cur, rfl, hBg, hg, hnc, hcm, hcs, htake⟩
  · omega
  have hc1 := hroom _ _ _ rfl
  have hcx : cx.size = 7 := by have := (tChg eL).len hx; rw [Array.length_toList] at this; exact this
  have hfl : css.flatten.length = ds.length * 7 := h2.flatten_len
  have hne' : vb ≠ g := fun e => (hS vb hvb).2 (by rw [e]; rfl)
  unfold maxLen at hcm
  have i0 : (0 : Int) ≤ (i : Int) := by omega
  have i1 : (i : Int) ≤ (ds.length : Int) := by omega
  have i2 : (i : Int) ≤ (cap : Int) := by omega
  have i3 : ((i : Int) == (ds.length : Int)) = false := by rw [beq_eq_false_iff_ne]; omega
  have i4 : ¬ (cap = i) := by omega
  have mixed : Tryz.prog.follows .mixedOrders = true := by kernel_rfl
  have hw1 : IntKind.i64.wrap ((ds.length : Int) + 1) = (ds.length : Int) + 1 := wrap_in (by omega) (by omega)
  have hw2 : IntKind.i64.wrap ((i : Int) + 1) = (i : Int) + 1 := wrap_in (by omega) (by omega)
  have i5 : decide ((cap : Int) < (ds.length : Int) + 1) = false := by simp; omega
  have i6 : (0 : Int) ≤ (i : Int) + 1 := by omega
  have i7 : ((i : Int) + 1).toNat = i + 1 := by omega
  have i8 : ¬ (cap = i + 1) := by omega
  have i9 : (i : Int) ≤ (ds.length : Int) + 1 := by omega
  have i10 : (i : Int) + 1 ≤ (ds.length : Int) + 1 := by omega
  have hov : ∀ lb cb, (callFunc 90 #[.slice (some ⟨vb, 0, none⟩) 1 1, .slice (some ⟨g, (i + 1) * 7, none⟩) lb cb]).run Tryz.prog w = .ok (.value (.bool false)) w := fun lb cb => by
    rw [run_callFunc_extern Tryz.func90 (by kernel_rfl) (by kernel_rfl) (by kernel_rfl) (e := Extern.SlicesOverlaps.overlaps #[52, 52] #[4]) (by kernel_rfl),
      Lib.run_overlaps_apart w 52 4 49 Tryz.underlying52 7 Tryz.sizeOf49 ⟨vb, 0, none⟩ ⟨g, (i + 1) * 7, none⟩ 1 1 lb cb hne' 49 49 cx.size cur.size (by simp [World.shape?, hb]) (by simp [World.shape?, hg]) (by rw [hcs]; show cap * 7 ≠ 0; omega) (by simp [World.frozen?, hb]) (by simp [World.frozen?, hb])]
    rfl
  have hsz : (tChg eL).sz = 7 := rfl
  rw [hsz] at hcs htake
  obtain ⟨CS, hCS⟩ : ∃ CS, css.flatten = CS := ⟨_, rfl⟩
  have h2' := h2
  rw [hCS] at htake hfl
  have hone : ∀ v ∈ CS, v.oneCell' = true := by rw [← hCS]; exact h2.one
  have honx : ∀ v ∈ cx.toList, v.oneCell' = true := (tChg eL).one hx
  have hd7 : (CS.drop (i * 7)).length = (ds.length - i) * 7 := by rw [List.length_drop, hfl]; omega
  have hcell : ∀ j v, (CS.drop (i * 7))[j]? = some v → w.drew.cell? ((⟨g, i * 7, none⟩ : Addr).add j) = some v := fun j v hj => by
    rw [Addr.add_lit]
    show w.cell? ⟨g, i * 7 + j, none⟩ = some v
    rw [cell_of_row _ _ _ _ _ _ hg]
    rw [List.getElem?_drop, ← htake, List.getElem?_take] at hj
    split at hj
    · rwa [Array.getElem?_toList] at hj
    · cases hj
  have hgd : w.drew.heap[g]? = some (.cells cur 49 (0, 0)) := hg
  have hcp1 : ∀ ty, (Builtin.copy_ #[52, 52] ty #[.slice (some ⟨g, (i + 1) * 7, none⟩) (ds.length - i) (cap - (i + 1)), .slice (some ⟨g, i * 7, none⟩) (ds.length + 1 - i) (cap - i)]).run Tryz.prog w.drew = .ok (goInt ((ds.length - i : Nat) : Int)) (w.drew.setRow g (cur.toList.take (i * 7 + 7) ++ CS.drop (i * 7) ++ cur.toList.drop (i * 7 + 7 + (CS.drop (i * 7)).length)).toArray) := fun ty => by
    have := run_copy_wide (P := Tryz.prog) w.drew 52 52 ty 49 g ((i + 1) * 7) (ds.length - i) (cap - (i + 1)) ⟨g, i * 7, none⟩ (ds.length + 1 - i) (cap - i) (ds.length - i) 7 cur 49 (CS.drop (i * 7)) Tryz.underlying52 chgSize hgd (by simp only [Nat.min_def]; split <;> omega) hd7 hcell (by rw [hd7, hcs]; omega) (fun v hv => hone v (List.mem_of_mem_drop hv))
    rw [show (i + 1) * 7 = i * 7 + 7 by omega] at this ⊢
    exact this
  have hcl : cur.toList.length = cap * 7 := by rw [← hcs]; exact Array.length_toList
  have hlen1 : (cur.toList.take (i * 7 + 7) ++ CS.drop (i * 7) ++ cur.toList.drop (i * 7 + 7 + (CS.drop (i * 7)).length)).length = cur.size := by
    simp only [List.length_append, List.length_take, List.length_drop, hcl, hfl, hcs]
    omega
  have hfin := shift_row (cur := cur.toList) (CS := CS) (xs := cx.toList) (a := i * 7) (k := 7) (n := ds.length * 7) hfl (by rw [← htake]) (by omega) (by simpa using hcx) (by rw [hcl]; omega)
  obtain ⟨C1, hC1⟩ : ∃ C1, cur.toList.take (i * 7 + 7) ++ CS.drop (i * 7) ++ cur.toList.drop (i * 7 + 7 + (CS.drop (i * 7)).length) = C1 := ⟨_, rfl⟩
  rw [hC1] at hcp1 hlen1 hfin
  obtain ⟨W1, hW1⟩ : ∃ W1, w.drew.setRow g C1.toArray = W1 := ⟨_, rfl⟩
  rw [hW1] at hcp1
  have hg1 : W1.heap[g]? = some (.cells C1.toArray 49 (0, 0)) := by rw [← hW1]; exact setRow_heap _ _ _ _ _ _ hgd
  have hgr1 : w.grownBy W1 (some g) := by rw [← hW1]; exact (grown_drew w _).trans (grown_setRow _ _ _)
  have hcp2 : ∀ ty, (Builtin.copy_ #[52, 52] ty #[.slice (some ⟨g, i * 7, none⟩) (ds.length + 1 - i) (cap - i), .slice (some ⟨vb, 0, none⟩) 1 1]).run Tryz.prog W1 = .ok (goInt 1) (W1.setRow g (C1.take (i * 7) ++ cx.toList ++ C1.drop (i * 7 + cx.toList.length)).toArray) := fun ty =>
    run_copy_wide (P := Tryz.prog) W1 52 52 ty 49 g (i * 7) (ds.length + 1 - i) (cap - i) ⟨vb, 0, none⟩ 1 1 1 7 C1.toArray 49 cx.toList Tryz.underlying52 chgSize hg1 (by simp only [Nat.min_def]; split <;> omega) (by simpa using hcx) (fun j v hj => by
      rw [Addr.add_lit]
      refine (World.cell?_of_block (hgr1.block vb (lt_of_heap hb) (by intro e; injection e with e; exact hne' e))).trans ?_
      rw [cell_of_row _ _ _ _ _ _ hb, Nat.zero_add, ← Array.getElem?_toList]; exact hj) (by simp [hlen1, hcs, hcx]; omega) honx
  have HFIN : InsE w (.slice (some ⟨g, 0, none⟩) ds.length cap) S (ds.take i ++ x :: ds.drop i) (.returned (.slice (some ⟨g, 0, none⟩) (ds.length + 1) cap)) (W1.setRow g (C1.take (i * 7) ++ cx.toList ++ C1.drop (i * 7 + cx.toList.length)).toArray) := by
    have hgr := hgr1.trans (grown_setRow W1 g (C1.take (i * 7) ++ cx.toList ++ C1.drop (i * 7 + cx.toList.length)).toArray)
    refine ⟨_, rfl, ?_, hgr⟩
    have hall := AllIs.insert (T := tChg eL) (xs := cx.toList) (x := x) i h2' hx
    have hall2 := hall.keep (S' := fun k => (S k ∨ w.heap.size ≤ k ∨ some k = (Value.slice (some ⟨g, 0, none⟩) ds.length cap).ownBlock) ∧ k < (W1.setRow g (C1.take (i * 7) ++ cx.toList ++ C1.drop (i * 7 + cx.toList.length)).toArray).heap.size) (fun k hk => ⟨.inl hk, Nat.lt_of_lt_of_le (hS k hk).1 hgr.size⟩) (fun k hk => hgr.block k (hS k hk).1 (hS k hk).2)
    have hll : (ds.take i ++ x :: ds.drop i).length = ds.length + 1 := by rw [List.length_append, List.length_cons, List.length_take, List.length_drop]; omega
    have := SlIs.of_block (cap := cap) (setRow_heap W1 g C1.toArray (C1.take (i * 7) ++ cx.toList ++ C1.drop (i * 7 + cx.toList.length)).toArray _ _ hg1) (by
      rw [insert_flat i h2.lens.2, hCS, hsz]
      exact hfin) hall2 ⟨.inr (.inr rfl), by have := hgr.size; have := lt_of_heap hg; omega⟩ (by rw [hll]; exact hc1) hcm
    rw [hll] at this
    exact this
  obtain ⟨W2, hW2⟩ : ∃ W2, W1.setRow g (C1.take (i * 7) ++ cx.toList ++ C1.drop (i * 7 + cx.toList.length)).toArray = W2 := ⟨_, rfl⟩
  rw [hW2] at hcp2 HFIN
  have HF := Lib.hid HFIN
  clear hW2
  clear hvb hb hx hcell hgd hC1 hfin hW1 hg1 hgr1 HFIN h2 h2' h1 htake hone honx hlen1 hd7 hfl hg hcs
  go_enter Tryz.func53, Tryz.ntmps53
  go_wp2_with (simp only [hov])
  go_region_law_o (refine step_copy_r rfl (.tmp 73) (.tmp 76) 52 52 rfl (by simp [Act.eval, Act.put]) (by simp [Act.eval, Act.put]) (fun ty => hcp1 ty) ?_)
  go_wp2_with (at_builtin; refine wpList_copy_r rfl (.tmp 80) (.tmp 81) 52 52 rfl rfl rfl (fun ty => hcp2 ty) ?_)
  go_ret
  exact HF.out
set_option maxRecDepth 100000 in
set_option maxHeartbeats 4000000 in
theorem insert_grow (B : Nat) (S : Nat → Prop) (ds : List Chg) (vd : Value) (x : Chg) (vb i : Nat) (cx : Array Value) (w : World) (h : OwnS (tChg eL) 49 B S w vd ds) (hS : ∀ k, S k → k < w.heap.size ∧ some k ≠ vd.ownBlock) (hb : w.heap[vb]? = some (.cells cx 49 (0, 0)))
    (hx : (tChg eL).is S w cx.toList x) (hl : ds.length ≤ 1000) (hi : i < ds.length) (hroom : ∀ a n c, vd = .slice a n c → c < ds.length + 1) :
    Calls Tryz.prog 53 #[vd, .int .i64 i, .slice (some ⟨vb, 0, none⟩) 1 1] w (InsE w vd S (ds.take i ++ x :: ds.drop i)) := by
  obtain ⟨css, h1, h2⟩ := h
  rcases h1.2 with ⟨_, h'⟩ | ⟨g, cap, cur, rfl, hBg, hg, hnc, hcm, hcs, htake⟩
  · omega
  have hc1 := hroom _ _ _ rfl
  obtain rfl : cap = ds.length := by omega
  have hcx : cx.size = 7 := by have := (tChg eL).len hx; rw [Array.length_toList] at this; exact this
  have hfl : css.flatten.length = ds.length * 7 := h2.flatten_len
  have hgw : g < w.heap.size := lt_of_heap hg
  have hvw : vb < w.heap.size := lt_of_heap hb
  have mixed : Tryz.prog.follows .mixedOrders = true := by kernel_rfl
  have i0 : (0 : Int) ≤ (i : Int) := by omega
  have i1 : (i : Int) ≤ (ds.length : Int) := by omega
  have i3 : ((i : Int) == (ds.length : Int)) = false := by rw [beq_eq_false_iff_ne]; omega
  have i4 : ¬ (ds.length = i) := by omega
  have hw1 : IntKind.i64.wrap ((ds.length : Int) + 1) = (ds.length : Int) + 1 := wrap_in (by omega) (by omega)
  have hw2 : IntKind.i64.wrap ((i : Int) + 1) = (i : Int) + 1 := wrap_in (by omega) (by omega)
  have hw3 : IntKind.i64.wrap ((ds.length : Int) + 1 - (i : Int)) = (ds.length : Int) + 1 - (i : Int) := wrap_in (by omega) (by omega)
  have i5 : (ds.length : Int) < (ds.length : Int) + 1 := by omega
  have i6 : (0 : Int) ≤ (i : Int) + 1 := by omega
  have i7 : ((i : Int) + 1).toNat = i + 1 := by omega
  have i9 : (i : Int) ≤ (ds.length : Int) + 1 := by omega
  have i10 : (i : Int) + 1 ≤ (ds.length : Int) + 1 := by omega
  have hsz : (tChg eL).sz = 7 := rfl
  rw [hsz] at hcs htake
  obtain ⟨CS, hCS⟩ : ∃ CS, css.flatten = CS := ⟨_, rfl⟩
  rw [hCS] at htake hfl
  have hone : ∀ v ∈ CS, v.oneCell' = true := by rw [← hCS]; exact h2.one
  have honx : ∀ v ∈ cx.toList, v.oneCell' = true := (tChg eL).one hx
  have hcell0 : ∀ j v, CS[j]? = some v → w.cell? ⟨g, j, none⟩ = some v := fun j v hj => by
    rw [cell_of_row _ _ _ _ _ _ hg]
    rw [← htake, List.getElem?_take] at hj
    split at hj
    · rwa [Array.getElem?_toList] at hj
    · cases hj
  obtain ⟨und, ⟨j0, z, hj0, hz, hsize, hby, hzs⟩, hpos⟩ := slChg
  have hold : (Builtin.firstCells j0.size i (.slice (some ⟨g, 0, none⟩) i ds.length)).run Tryz.prog w.drew = .ok (CS.take (i * 7)).toArray w.drew := by
    rw [hsize]
    exact run_firstCells_some w.drew 7 i ⟨g, 0, none⟩ i ds.length (CS.take (i * 7)) (by rw [List.length_take, hfl]; omega) (fun j v hj => by
      rw [Addr.add_lit, Nat.zero_add]
      rw [List.getElem?_take] at hj
      split at hj
      · exact hcell0 j v hj
      · cases hj)
  obtain ⟨G, hG⟩ : ∃ G, grownCap w (ds.length + 1) ds.length 49 = G := ⟨_, rfl⟩
  have hGn : ds.length + 1 ≤ G := by rw [← hG]; exact grownCap_ge w _ _ _
  have hGm : G ≤ maxLen := by rw [← hG]; exact grownCap_le_maxLen w _ _ _ (by unfold maxLen; omega)
  obtain ⟨ROW, hROW⟩ : ∃ ROW, (CS.take (i * 7)).toArray ++ Builtin.zeroCells z.cells (ds.length + 1 - i) ++ Builtin.zeroCells z.cells (G - (ds.length + 1)) = ROW := ⟨_, rfl⟩
  have hrow : ROW.size = G * 7 := by
    rw [← hROW]
    simp only [Array.size_append, List.size_toArray, List.length_take, hfl, Builtin.zeroCells, Array.size_map, Array.size_range, hzs]
    show min (i * 7) (ds.length * 7) + (ds.length + 1 - i) * 7 + (G - (ds.length + 1)) * 7 = G * 7
    omega
  have hrt : ROW.toList.take (i * 7) = CS.take (i * 7) := by
    rw [← hROW]
    simp only [Array.toList_append, List.append_assoc]
    rw [List.take_append, List.take_of_length_le (by rw [List.length_take]; omega), List.length_take, hfl, Nat.min_eq_left (by omega), Nat.sub_self, List.take_zero, List.append_nil]
  have hrz : ∀ ty, (Builtin.append_ #[52, 3] ty #[.slice (some ⟨g, 0, none⟩) i ds.length, .int .i64 ((ds.length : Int) + 1 - (i : Int))]).run Tryz.prog w =
      .ok (.slice (some ⟨w.heap.size, 0, none⟩) (ds.length + 1) G) (w.drew.alloc (.cells ROW 49)) := fun ty => by
    have hik : i + (ds.length + 1 - i) = ds.length + 1 := by omega
    have := Lib.run_append_grow_zeros w 52 3 ty 49 j0 z .i64 .i64 und Tryz.underlying3 hj0 hz (some ⟨g, 0, none⟩) i ds.length (CS.take (i * 7)) hold (ds.length + 1 - i) (by omega) (by rw [hsize]; show 0 < 7; decide) (by omega) (by omega) (by rw [hby]; omega) (by rw [hby, hik]; exact growslice_fits (by omega) (by omega))
    rw [hik, hG, hROW] at this
    rw [show (ds.length : Int) + 1 - (i : Int) = ((ds.length + 1 - i : Nat) : Int) by omega]
    exact this
  obtain ⟨W1, hW1⟩ : ∃ W1, w.drew.alloc (.cells ROW 49) = W1 := ⟨_, rfl⟩
  have hg1 : W1.heap[w.heap.size]? = some (.cells ROW 49 (0, 0)) := by rw [← hW1]; exact heap_alloc_new w.drew _
  have hgr1 : w.grownBy W1 (some g) := by rw [← hW1]; exact (grown_drew w _).trans (World.grownBy_alloc _ _ _)
  have hsame1 : ∀ k, k < w.heap.size → W1.heap[k]? = w.heap[k]? := fun k hk => by rw [← hW1]; exact Below.heap_alloc w.drew _ _ hk
  rw [hW1] at hrz
  have hrcl : ROW.toList.length = G * 7 := by rw [← hrow]; exact Array.length_toList
  have hcpA : ∀ ty, (Builtin.copy_ #[52, 52] ty #[.slice (some ⟨w.heap.size, i * 7, none⟩) (ds.length + 1 - i) (G - i), .slice (some ⟨vb, 0, none⟩) 1 1]).run Tryz.prog W1 = .ok (goInt 1) (W1.setRow w.heap.size (ROW.toList.take (i * 7) ++ cx.toList ++ ROW.toList.drop (i * 7 + cx.toList.length)).toArray) := fun ty =>
    run_copy_wide (P := Tryz.prog) W1 52 52 ty 49 w.heap.size (i * 7) (ds.length + 1 - i) (G - i) ⟨vb, 0, none⟩ 1 1 1 7 ROW 49 cx.toList und chgSize hg1 (by simp only [Nat.min_def]; split <;> omega) (by simpa using hcx) (fun j v hj => by
      rw [Addr.add_lit]
      refine (World.cell?_of_block (hsame1 vb hvw)).trans ?_
      rw [cell_of_row _ _ _ _ _ _ hb, Nat.zero_add, ← Array.getElem?_toList]; exact hj) (by rw [hrow]; simp [hcx]; omega) honx
  have hfin := grow_row (cur := ROW.toList) (CS := CS) (xs := cx.toList) (a := i * 7) (k := 7) (n := ds.length * 7) hfl (by omega) hrt (by simpa using hcx) (by rw [hrcl]; omega)
  have hC1l : (ROW.toList.take (i * 7) ++ cx.toList ++ ROW.toList.drop (i * 7 + cx.toList.length)).length = G * 7 := by
    simp only [List.length_append, List.length_take, List.length_drop, hrcl, Array.length_toList, hcx]
    omega
  obtain ⟨C1, hC1⟩ : ∃ C1, ROW.toList.take (i * 7) ++ cx.toList ++ ROW.toList.drop (i * 7 + cx.toList.length) = C1 := ⟨_, rfl⟩
  rw [hC1] at hcpA hfin hC1l
  obtain ⟨W2, hW2⟩ : ∃ W2, W1.setRow w.heap.size C1.toArray = W2 := ⟨_, rfl⟩
  rw [hW2] at hcpA
  have hg2 : W2.heap[w.heap.size]? = some (.cells C1.toArray 49 (0, 0)) := by rw [← hW2]; exact setRow_heap _ _ _ _ _ _ hg1
  have hsame2 : ∀ k, k < w.heap.size → W2.heap[k]? = w.heap[k]? := fun k hk => by rw [← hW2]; exact (setRow_other W1 _ k _ (by omega)).trans (hsame1 k hk)
  have hos2 : w.grownBy W2 (some g) := by rw [← hW2]; exact ⟨hgr1.os, hgr1.tape, hgr1.output, by simpa using hgr1.size, fun k hk _ => (setRow_other W1 _ k _ (by omega)).trans (hsame1 k hk)⟩
  have hd7 : (CS.drop (i * 7)).length = (ds.length - i) * 7 := by rw [List.length_drop, hfl]; omega
  have hcpB : ∀ ty, (Builtin.copy_ #[52, 52] ty #[.slice (some ⟨w.heap.size, (i + 1) * 7, none⟩) (ds.length - i) (G - (i + 1)), .slice (some ⟨g, i * 7, none⟩) (ds.length - i) (ds.length - i)]).run Tryz.prog W2.drew = .ok (goInt ((ds.length - i : Nat) : Int)) (W2.drew.setRow w.heap.size (C1.take (i * 7 + 7) ++ CS.drop (i * 7) ++ C1.drop (i * 7 + 7 + (CS.drop (i * 7)).length)).toArray) := fun ty => by
    have := run_copy_wide (P := Tryz.prog) W2.drew 52 52 ty 49 w.heap.size ((i + 1) * 7) (ds.length - i) (G - (i + 1)) ⟨g, i * 7, none⟩ (ds.length - i) (ds.length - i) (ds.length - i) 7 C1.toArray 49 (CS.drop (i * 7)) und chgSize hg2 (by simp only [Nat.min_def]; split <;> omega) hd7 (fun j v hj => by
      rw [Addr.add_lit]
      refine (World.cell?_of_block (hsame2 g hgw)).trans ?_
      exact hcell0 _ v (by rwa [List.getElem?_drop] at hj)) (by rw [hd7]; simp [hC1l]; omega) (fun v hv => hone v (List.mem_of_mem_drop hv))
    rw [show (i + 1) * 7 = i * 7 + 7 by omega] at this ⊢
    exact this
  obtain ⟨W3, hW3⟩ : ∃ W3, W2.drew.setRow w.heap.size (C1.take (i * 7 + 7) ++ CS.drop (i * 7) ++ C1.drop (i * 7 + 7 + (CS.drop (i * 7)).length)).toArray = W3 := ⟨_, rfl⟩
  rw [hW3] at hcpB
  have HFIN : InsE w (.slice (some ⟨g, 0, none⟩) ds.length ds.length) S (ds.take i ++ x :: ds.drop i) (.returned (.slice (some ⟨w.heap.size, 0, none⟩) (ds.length + 1) G)) W3 := by
    have hgr : w.grownBy W3 (some g) := by rw [← hW3]; exact ⟨hos2.os, hos2.tape, hos2.output, by simpa using hos2.size, fun k hk _ => (setRow_other W2.drew _ k _ (by omega)).trans (hsame2 k hk)⟩
    have hsame3 : ∀ k, k < w.heap.size → W3.heap[k]? = w.heap[k]? := fun k hk => by rw [← hW3]; exact (setRow_other W2.drew _ k _ (by omega)).trans (hsame2 k hk)
    have hg3 : W3.heap[w.heap.size]? = some (.cells (C1.take (i * 7 + 7) ++ CS.drop (i * 7) ++ C1.drop (i * 7 + 7 + (CS.drop (i * 7)).length)).toArray 49 (0, 0)) := by rw [← hW3]; exact setRow_heap _ _ _ _ _ _ hg2
    refine ⟨_, rfl, ?_, hgr⟩
    have hall := AllIs.insert (T := tChg eL) (xs := cx.toList) (x := x) i h2 hx
    have hall2 := hall.keep (S' := fun k => (S k ∨ w.heap.size ≤ k ∨ some k = (Value.slice (some ⟨g, 0, none⟩) ds.length ds.length).ownBlock) ∧ k < W3.heap.size) (fun k hk => ⟨.inl hk, Nat.lt_of_lt_of_le (hS k hk).1 hgr.size⟩) (fun k hk => hsame3 k (hS k hk).1)
    have hll : (ds.take i ++ x :: ds.drop i).length = ds.length + 1 := by rw [List.length_append, List.length_cons, List.length_take, List.length_drop]; omega
    have := SlIs.of_block (cap := G) hg3 (by
      rw [insert_flat i h2.lens.2, hCS, hsz]
      exact hfin) hall2 ⟨.inr (.inl (Nat.le_refl _)), lt_of_heap hg3⟩ (by rw [hll]; exact hGn) hGm
    rw [hll] at this
    exact this
  have HF := Lib.hid HFIN
  have i11 : ¬ (G = i) := by omega
  have i12 : ¬ (G = i + 1) := by omega
  have hdn : ds.length + 1 - (i + 1) = ds.length - i := by omega
  unfold maxLen at hGm hcm
  clear hb hx hC1 hfin hW1 hg1 hgr1 HFIN h2 h1 htake hone honx hd7 hfl hg hcs hcell0 hold hG hROW hrow hrt hsame1 hrcl hC1l hW2 hg2 hsame2 hos2 hW3 und hj0 hz hsize hby hzs hpos
  go_enter Tryz.func53, Tryz.ntmps53
  go_wp2_with (first
    | (at_builtin; refine Lib.wpList_append_run _ rfl (.tmp 34) (.tmp 39) 52 3 rfl _ _ rfl rfl _ _ (hrz _) ?_)
    | (at_builtin; refine wpList_copy_r rfl (.tmp 43) (.tmp 44) 52 52 rfl rfl rfl (fun ty => hcpA ty) ?_))
  go_region_law_o (refine step_copy_r rfl (.tmp 50) (.tmp 53) 52 52 rfl (by simp [Act.eval, Act.put]) (by simp [Act.eval, Act.put]) (fun ty => hcpB ty) ?_)
  go_wp2
  go_ret
  exact HF.out
theorem insert_any (B : Nat) (S : Nat → Prop) (ds : List Chg) (vd : Value) (x : Chg) (vb i : Nat) (cx : Array Value) (w : World) (h : OwnS (tChg eL) 49 B S w vd ds) (hS : ∀ k, S k → k < w.heap.size ∧ some k ≠ vd.ownBlock) (hb : w.heap[vb]? = some (.cells cx 49 (0, 0))) (hvb : S vb)
    (hx : (tChg eL).is S w cx.toList x) (hl : ds.length ≤ 1000) (hi : i ≤ ds.length) (hB : B ≤ w.heap.size) :
    Calls Tryz.prog 53 #[vd, .int .i64 i, .slice (some ⟨vb, 0, none⟩) 1 1] w (InsE w vd S (ds.take i ++ x :: ds.drop i)) := by
  by_cases he : i = ds.length
  · subst he
    rw [List.take_length, List.drop_length]
    exact insert_end B S ds vd x vb cx w h hS hb hvb hx hl hB
  · obtain ⟨ao, cap, rfl, h1, h2⟩ := h.form
    by_cases hc : ds.length + 1 ≤ cap
    · exact insert_shift B S ds _ x vb i cx w h hS hb hvb hx hl (by omega) (fun a n c e => by injection e; omega)
    · exact insert_grow B S ds _ x vb i cx w h hS hb hx hl (by omega) (fun a n c e => by injection e; omega)
end Go.Proofs.YtifcelebfagjbaaGreatDoor
