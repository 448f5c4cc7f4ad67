/-
  Evaluation of calls, part 5: the evaluator's regions are good ones. No program in sight.
-/
import Derived.Test.YtelnnjofccldgaaGreatDoorEvE
namespace Go.Ev
open Go

theorem tmpAt_all_snoc {s : Stp} {l : List Stp} {i : Nat} {D : Nat → Bool} {t : Nat} {v : Value} (h : D i = true) : tmpAt (s :: l) i D t v = tmpAt l (i + 1) D t (if s.dst = some t then s.eff.out else v) := by
  simp only [tmpAt, h, true_and]
theorem blkAt_all_snoc {s : Stp} {l : List Stp} {i : Nat} {D : Nat → Bool} {b : Nat} {o : Option Blk} (h : D i = true) : blkAt (s :: l) i D b o = blkAt l (i + 1) D b (match look s.eff.wr b with | some x => x | none => o) := by
  simp only [blkAt, h, if_true]
  rfl
theorem setT_T {l : Tr} {o : Option Nat} {v : Value} {t : Nat} (h : ∀ d, o = some d → d < 500) : (setT l o v).get t = if o = some t then v else l.get t := by
  cases o with
  | none => simp [setT]
  | some d =>
    have := h d rfl
    simp only [setT, Option.some.injEq]
    rw [Tr.get_set 9 l d t v (by omega)]
    by_cases e : t = d
    · rw [if_pos e, if_pos e.symm]
    · rw [if_neg e, if_neg (Ne.symm e)]
theorem hp_append (l m : Al) (b : Nat) : hp (l ++ m) b = match look l b with | some x => x | none => hp m b := by
  unfold hp
  rw [look_append]
  cases look l b <;> rfl

section
variable {P : Program} {G : Nat} {evOp : OpT} {call : CallT} {m0 : Nat} {ops : Array Oper}

structure StepAt (evOp : OpT) (call : CallT) (ops : Array Oper) (o : Oper) (s : Stp) (sti : St) : Prop where
  dst : s.dst = o.dst
  looks : s.looks = o.looksAt ops
  le : s.eff.lo ≤ s.eff.hi
  nx : s.eff.lo = sti.next
  ran : (wantedA ops sti.T o = true ∧ evOp call o sti.T sti.heap sti.next = some s.eff ∧ (∀ b, b ∈ s.eff.rd → hp sti.heap b ≠ none) ∧ (∀ b, b ∈ keys s.eff.wr → b ∈ s.eff.rd ∨ (s.eff.lo ≤ b ∧ b < s.eff.hi))) ∨
    (wantedA ops sti.T o = false ∧ s.eff.out = undef ∧ s.eff.wr = [])

theorem ev1_spec (hop : OpSound P G evOp) (hc : CallOK P G call) {o : Oper} {st st1 : St} {s : Stp} (h : ev1 evOp call m0 ops o st = some (s, st1)) (hG : G ≤ st.next) (hd : ∀ d, o.dst = some d → d < 500) :
    StepAt evOp call ops o s st ∧ st1.next = s.eff.hi ∧ st1.sz = st.sz ∧ (∀ b, b ∈ st.dirty → b ∈ st1.dirty) ∧ (∀ b, b ∈ st1.dirty → b ∈ st.dirty ∨ b < m0) ∧ (∀ b, b ∈ keys s.eff.wr → b < m0 → b ∈ st1.dirty) ∧
      (∀ t, st1.T t = if s.dst = some t then s.eff.out else st.T t) ∧ (∀ b, hp st1.heap b = match look s.eff.wr b with | some x => x | none => hp st.heap b) := by
  unfold ev1 at h
  cases hw : wantedA ops st.T o with
  | false =>
    rw [hw] at h
    simp only [cond_false, Option.some.injEq, Prod.mk.injEq] at h
    obtain ⟨rfl, rfl⟩ := h
    exact ⟨⟨rfl, rfl, Nat.le_refl _, rfl, .inr ⟨hw, rfl, rfl⟩⟩, rfl, rfl, fun b hb => hb, fun b hb => .inl hb, fun b hb => by simp [keys] at hb, fun t => setT_T hd, fun b => rfl⟩
  | true =>
    rw [hw] at h
    simp only [cond_true] at h
    cases he : evOp call o st.T st.heap st.next with
    | none => rw [he] at h; cases h
    | some E =>
      rw [he] at h
      simp only [Option.bind_some] at h
      cases hb : ((E.rd.all fun b => (hp st.heap b).isSome) && ((keys E.wr).all fun b => E.rd.contains b || (decide (E.lo ≤ b) && decide (b < E.hi)))) with
      | false => rw [hb] at h; cases h
      | true =>
        rw [hb] at h
        simp only [cond_true, Option.some.injEq, Prod.mk.injEq] at h
        obtain ⟨rfl, rfl⟩ := h
        obtain ⟨-, h2, h3⟩ := hop call hc o st.T st.heap st.next E he hG
        simp only [Bool.and_eq_true, List.all_eq_true, Bool.or_eq_true, List.contains_iff_mem, decide_eq_true_eq] at hb
        refine ⟨⟨rfl, rfl, by simp only; omega, h2, .inl ⟨hw, he, fun b hb' => by have := hb.1 b hb'; rw [Option.isSome_iff_ne_none] at this; exact this, fun b hb' => hb.2 b hb'⟩⟩, rfl, rfl, fun b hb' => by simp [hb'], fun b hb' => ?_, fun b hb' hm => ?_, fun t => setT_T hd, fun b => hp_append _ _ _⟩
        · simp only [List.mem_append, List.mem_filter, decide_eq_true_eq] at hb'
          rcases hb' with q | q
          · exact .inr q.2
          · exact .inl q
        · simp only [List.mem_append, List.mem_filter, decide_eq_true_eq]
          exact .inl ⟨hb', hm⟩

theorem evOps_spec (hop : OpSound P G evOp) (hc : CallOK P G call) : ∀ (l : List Oper) (st : St) (ss : List Stp) (st' : St), evOps evOp call m0 ops l st = some (ss, st') → G ≤ st.next → (∀ o ∈ l, ∀ d, o.dst = some d → d < 500) →
    ss.length = l.length ∧ st.next ≤ st'.next ∧ st'.sz = st.sz ∧ (∀ b, b ∈ st.dirty → b ∈ st'.dirty) ∧ (∀ b, b ∈ st'.dirty → b ∈ st.dirty ∨ b < m0) ∧
    (∀ (i : Nat) (o : Oper), l[i]? = some o → ∃ (s : Stp) (sti : St), ss[i]? = some s ∧ StepAt evOp call ops o s sti ∧ st.next ≤ s.eff.lo ∧ s.eff.hi ≤ st'.next ∧ (∀ b, b ∈ keys s.eff.wr → b < m0 → b ∈ st'.dirty) ∧
      (∀ q t, tmpAt ss q (fun j => decide (j < q + i)) t (st.T t) = sti.T t) ∧ (∀ q b, blkAt ss q (fun j => decide (j < q + i)) b (hp st.heap b) = hp sti.heap b)) ∧
    (∀ (i j : Nat) (s s' : Stp), ss[i]? = some s → ss[j]? = some s' → i < j → s.eff.hi ≤ s'.eff.lo) ∧
    (∀ q t, tmpAt ss q (fun _ => true) t (st.T t) = st'.T t) ∧ (∀ q b, blkAt ss q (fun _ => true) b (hp st.heap b) = hp st'.heap b)
  | [], st, ss, st', h, _, _ => by
    simp only [evOps, Option.some.injEq, Prod.mk.injEq] at h
    obtain ⟨rfl, rfl⟩ := h
    exact ⟨rfl, Nat.le_refl _, rfl, fun _ h => h, fun _ h => .inl h, fun i o h => by simp at h, fun i j s s' h => by simp at h, fun _ _ => rfl, fun _ _ => rfl⟩
  | o :: l, st, ss, st', h, hG, hd => by
    simp only [evOps] at h
    cases h1 : ev1 evOp call m0 ops o st with
    | none => rw [h1] at h; cases h
    | some r =>
      obtain ⟨s, st1⟩ := r
      rw [h1] at h
      simp only [Option.bind_some] at h
      cases h2 : evOps evOp call m0 ops l st1 with
      | none => rw [h2] at h; cases h
      | some r =>
        obtain ⟨ss1, st2⟩ := r
        rw [h2] at h
        simp only [Option.bind_some, Option.some.injEq, Prod.mk.injEq] at h
        obtain ⟨rfl, rfl⟩ := h
        obtain ⟨a1, a2, a3, a4, a5, a6, a7, a8⟩ := ev1_spec hop hc h1 hG (hd o (by simp))
        have hlo := a1.nx
        have hle := a1.le
        obtain ⟨b1, b2, b3, b4, b5, b6, b7, b8, b9⟩ := evOps_spec hop hc l st1 ss1 st2 h2 (by omega) (fun o' ho' d hd' => hd o' (by simp [ho']) d hd')
        refine ⟨by simp [b1], by omega, b3.trans a3, fun b hb => b4 b (a4 b hb), fun b hb => ?_, fun i o' ho' => ?_, fun i j s1 s2 hi hj hij => ?_, fun q t => ?_, fun q b => ?_⟩
        · rcases b5 b hb with q | q
          · exact a5 b q
          · exact .inr q
        · match i, ho' with
          | 0, ho' =>
            simp only [List.getElem?_cons_zero, Option.some.injEq] at ho'
            subst ho'
            refine ⟨s, st, rfl, a1, by omega, by omega, fun b hb hm => b4 b (a6 b hb hm), fun q t => ?_, fun q b => ?_⟩
            · exact tmpAt_no _ _ _ _ _ fun j s' _ _ => by simp
            · exact blkAt_no _ _ _ _ _ fun j s' _ _ => by simp
          | i + 1, ho' =>
            obtain ⟨s', sti, c1, c2, c3, c4, c5, c6, c7⟩ := b6 i o' (by simpa using ho')
            refine ⟨s', sti, by simpa using c1, c2, by omega, c4, c5, fun q t => ?_, fun q b => ?_⟩
            · rw [tmpAt_all_snoc (by simp), ← a7 t, ← c6 (q + 1) t]
              exact tmpAt_congr _ _ _ _ _ _ fun j _ _ _ => by congr 1; exact propext ⟨fun h => by omega, fun h => by omega⟩
            · rw [blkAt_all_snoc (by simp), ← a8 b, ← c7 (q + 1) b]
              exact blkAt_congr _ _ _ _ _ _ fun j _ _ _ => by congr 1; exact propext ⟨fun h => by omega, fun h => by omega⟩
        · match i, j, hi, hj, hij with
          | 0, j + 1, hi, hj, _ =>
            simp only [List.getElem?_cons_zero, Option.some.injEq] at hi
            subst hi
            have hjl : j < l.length := by rw [← b1]; exact (List.getElem?_eq_some_iff.1 (by simpa using hj)).1
            obtain ⟨s', sti, c1, c2, c3, -⟩ := b6 j l[j] (List.getElem?_eq_getElem hjl)
            have : s' = s2 := by
              have e := c1.symm.trans (show ss1[j]? = some s2 by simpa using hj)
              simpa using e
            subst this
            omega
          | i + 1, j + 1, hi, hj, hij => exact b7 i j s1 s2 (by simpa using hi) (by simpa using hj) (by omega)
        · rw [tmpAt_all_snoc rfl, ← a7 t]; exact b8 (q + 1) t
        · rw [blkAt_all_snoc rfl, ← a8 b]; exact b9 (q + 1) b

theorem preAll_length : ∀ (l : List Oper) (acc : List Nat), (preAll l acc).length = acc.length + l.length
  | [], acc => by simp [preAll]
  | o :: l, acc => by simp only [preAll]; rw [preAll_length l]; simp; omega
theorem preAll_old : ∀ (l : List Oper) (acc : List Nat) (i : Nat), i < acc.length → (preAll l acc).getD i 0 = acc.getD i 0
  | [], acc, i, _ => rfl
  | o :: l, acc, i, h => by
    simp only [preAll]
    rw [preAll_old l _ i (by simp; omega)]
    simp [List.getD_eq_getElem?_getD, List.getElem?_append_left h]
theorem preOf_spec {es : List Edge} {acc : List Nat} {i : Nat} (h : (preOf es acc).testBit i = true) : ∃ e ∈ es, Region.binds .any e = true ∧ (i = e.on ∨ (acc.getD e.on 0).testBit i = true) := by
  induction es with
  | nil => simp [preOf] at h
  | cons e es ih =>
    unfold preOf at h
    simp only [List.foldr_cons] at h
    cases hb : Region.binds .any e with
    | false =>
      rw [hb] at h
      obtain ⟨e', h1, h2⟩ := ih (by unfold preOf; exact h)
      exact ⟨e', by simp [h1], h2⟩
    | true =>
      rw [hb] at h
      simp only [cond_true, Nat.testBit_or, Bool.or_eq_true] at h
      rcases h with (h | h) | h
      · refine ⟨e, by simp, hb, .inl ?_⟩
        rw [Nat.one_shiftLeft] at h
        simp only [Nat.testBit_two_pow, decide_eq_true_eq] at h
        exact h.symm
      · exact ⟨e, by simp, hb, .inr h⟩
      · obtain ⟨e', h1, h2⟩ := ih (by unfold preOf; exact h)
        exact ⟨e', by simp [h1], h2⟩
theorem preAll_spec : ∀ (l : List Oper) (acc : List Nat) (j : Nat) (o : Oper), l[j]? = some o → ∀ i, ((preAll l acc).getD (acc.length + j) 0).testBit i = true →
    ∃ e ∈ o.after.toList, Region.binds .any e = true ∧ (i = e.on ∨ (e.on < acc.length + j ∧ ((preAll l acc).getD e.on 0).testBit i = true))
  | [], acc, j, o, h, _, _ => by simp at h
  | x :: l, acc, 0, o, h, i, hi => by
    simp only [List.getElem?_cons_zero, Option.some.injEq] at h
    subst h
    simp only [preAll, Nat.add_zero] at hi ⊢
    rw [preAll_old l _ _ (by simp)] at hi
    have e1 : (acc ++ [preOf x.after.toList acc]).getD acc.length 0 = preOf x.after.toList acc := by simp [List.getD_eq_getElem?_getD]
    rw [e1] at hi
    obtain ⟨e, h1, h2, h3⟩ := preOf_spec hi
    refine ⟨e, h1, h2, h3.imp id fun h3 => ?_⟩
    have hlt : e.on < acc.length := by
      rcases Nat.lt_or_ge e.on acc.length with q | q
      · exact q
      · rw [List.getD_eq_getElem?_getD, List.getElem?_eq_none q] at h3; simp at h3
    refine ⟨hlt, ?_⟩
    rw [preAll_old l _ _ (by simp; omega)]
    simpa [List.getD_eq_getElem?_getD, List.getElem?_append_left hlt] using h3
  | x :: l, acc, j + 1, o, h, i, hi => by
    have := preAll_spec l (acc ++ [preOf x.after.toList acc]) j o (by simpa using h) i (by simp only [preAll] at hi; rw [show (acc ++ [preOf x.after.toList acc]).length + j = acc.length + (j + 1) by simp; omega]; exact hi)
    rw [show (acc ++ [preOf x.after.toList acc]).length + j = acc.length + (j + 1) by simp; omega] at this
    simpa only [preAll] using this

theorem memOK_spec {pr : List Nat} : ∀ (l : List Stp) (k : Nat) (acc : List (Nat × Eff)), memOK pr l k acc = true →
    (∀ (j : Nat) (s : Stp), l[j]? = some s → ∀ p ∈ acc, mconf p.2 s.eff = true → (pr.getD (k + j) 0).testBit p.1 = true) ∧
    (∀ (i j : Nat) (s s' : Stp), l[i]? = some s → l[j]? = some s' → i < j → mconf s.eff s'.eff = true → (pr.getD (k + j) 0).testBit (k + i) = true)
  | [], k, acc, _ => ⟨fun j s h => by simp at h, fun i j s s' h => by simp at h⟩
  | x :: l, k, acc, h => by
    have quiet : ∀ {E : Eff}, quietE E = true → (∀ y : Eff, mconf y E = false) ∧ (∀ y : Eff, mconf E y = false) := fun {E} hE => by
      simp only [quietE, Bool.and_eq_true, List.isEmpty_iff] at hE
      have m1 : ∀ l : List Nat, meets l [] = false := fun l => by simp [meets]
      have m2 : ∀ l : List Nat, meets [] l = false := fun l => by simp [meets]
      exact ⟨fun y => by simp [mconf, hE.1, hE.2, keys, m1], fun y => by simp [mconf, hE.1, hE.2, keys, m2]⟩
    simp only [memOK] at h
    cases hq : quietE x.eff with
    | true =>
      rw [hq] at h
      simp only [cond_true] at h
      obtain ⟨g1, g2⟩ := memOK_spec l (k + 1) acc h
      refine ⟨fun j s hj p hp hm => ?_, fun i j s s' hi hj hij hm => ?_⟩
      · match j, hj with
        | 0, hj =>
          simp only [List.getElem?_cons_zero, Option.some.injEq] at hj
          subst hj
          rw [(quiet hq).1] at hm; cases hm
        | j + 1, hj => rw [show k + (j + 1) = k + 1 + j by omega]; exact g1 j s (by simpa using hj) p hp hm
      · match i, j, hi, hj, hij with
        | 0, j + 1, hi, hj, _ =>
          simp only [List.getElem?_cons_zero, Option.some.injEq] at hi
          subst hi
          rw [(quiet hq).2] at hm; cases hm
        | i + 1, j + 1, hi, hj, hij =>
          rw [show k + (j + 1) = k + 1 + j by omega, show k + (i + 1) = k + 1 + i by omega]
          exact g2 i j s s' (by simpa using hi) (by simpa using hj) (by omega) hm
    | false =>
      rw [hq] at h
      simp only [cond_false, Bool.and_eq_true, List.all_eq_true, Bool.or_eq_true, Bool.not_eq_true'] at h
      obtain ⟨g1, g2⟩ := memOK_spec l (k + 1) _ h.2
      have hx : ∀ p ∈ acc, mconf p.2 x.eff = true → (pr.getD k 0).testBit p.1 = true := fun p hp hm => by
        rcases h.1 p hp with q | q
        · rw [hm] at q; cases q
        · exact q
      refine ⟨fun j s hj p hp hm => ?_, fun i j s s' hi hj hij hm => ?_⟩
      · match j, hj with
        | 0, hj =>
          simp only [List.getElem?_cons_zero, Option.some.injEq] at hj
          subst hj
          exact hx p hp hm
        | j + 1, hj => rw [show k + (j + 1) = k + 1 + j by omega]; exact g1 j s (by simpa using hj) p (by simp [hp]) hm
      · match i, j, hi, hj, hij with
        | 0, j + 1, hi, hj, _ =>
          simp only [List.getElem?_cons_zero, Option.some.injEq] at hi
          subst hi
          rw [show k + (j + 1) = k + 1 + j by omega]
          exact g1 j s' (by simpa using hj) (k, x.eff) (by simp) hm
        | i + 1, j + 1, hi, hj, hij =>
          rw [show k + (j + 1) = k + 1 + j by omega, show k + (i + 1) = k + 1 + i by omega]
          exact g2 i j s s' (by simpa using hi) (by simpa using hj) (by omega) hm

/-- the static side -/
theorem regOK_spec {N : Nat} {draw : Bool} (h : regOK G N draw ops = true) : (∀ (j : Nat) (o : Oper), ops[j]? = some o → (∀ e ∈ o.after, Region.binds .any e = true → e.on < j) ∧ (∀ x ∈ o.op.operands, opnd G x = true) ∧ (∀ d, o.dst = some d → d < N ∧ d < 500)) ∧
    (draw = true → ∀ (i j : Nat) (x o : Oper), ops[i]? = some x → ops[j]? = some o → i < j → tconf ops x o = true → ((preAll ops.toList []).getD j 0).testBit i = true) := by
  unfold regOK at h
  have mem : ∀ (j : Nat) (o : Oper), ops[j]? = some o → (o, j) ∈ ops.toList.zipIdx := fun j o ho => by
    rw [List.mem_zipIdx_iff_getElem?]; simpa using ho
  simp only [List.all_eq_true, Bool.and_eq_true, Bool.or_eq_true, Bool.not_eq_true', Array.all_eq_true_iff_forall_mem, decide_eq_true_eq, decide_eq_false_iff_not] at h
  refine ⟨fun j o ho => ?_, fun hdr i j x o hi hj hij ht => ?_⟩
  · obtain ⟨⟨⟨h1, h2⟩, h3⟩, -⟩ := h _ (mem j o ho)
    refine ⟨fun e he hb => ?_, fun x hx => h2 x hx, fun d hd => ?_⟩
    · rcases h1 e he with q | q
      · rw [hb] at q; cases q
      · exact q
    · simp only [hd, Bool.and_eq_true, decide_eq_true_eq] at h3; exact h3
  · obtain ⟨-, h4⟩ := h _ (mem j o hj)
    have h4 := h4.resolve_left (by rw [hdr]; simp)
    rcases h4 _ (mem i x hi) with (q | q) | q
    · exact absurd hij q
    · simp only at q; rw [ht] at q; cases q
    · exact q

theorem good_of (hop : OpSound P G evOp) (hc : CallOK P G call) {st st' : St} {ss : List Stp} (h : evOps evOp call m0 ops ops.toList st = some (ss, st')) (hG : G ≤ st.next) {draw : Bool} (hm : draw = true → memOK (preAll ops.toList []) ss 0 [] = true) (hr : regOK G st.sz draw ops = true) :
    Good P G ops ss (preN ops) st.T (hp st.heap) st.next ∧ (draw = true → Ind ss (preN ops)) := by
  obtain ⟨r1, r2⟩ := regOK_spec hr
  have gl : ∀ (j : Nat) (o : Oper), ops.toList[j]? = some o ↔ ops[j]? = some o := fun j o => by simp
  obtain ⟨a1, a2, a3, a4, a5, a6, a7, a8, a9⟩ := evOps_spec (m0 := m0) hop hc ops.toList st ss st' h hG (fun o ho d hd => by
    obtain ⟨j, hj, rfl⟩ := List.mem_iff_getElem.1 ho
    exact ((r1 j _ ((gl j _).1 (List.getElem?_eq_getElem hj))).2.2 d hd).2)
  refine ⟨⟨fun i o ho => ?_, by simpa using a1, a7, fun j o ho i hi => ?_, fun j o ho e he hb => (r1 j o ho).1 e he hb⟩, fun hdr i j s s' hi hj hij hcf => ?_⟩
  · obtain ⟨s, sti, b1, b2, b3, b4, b5, b6, b7⟩ := a6 i o ((gl i o).2 ho)
    have e1 : (fun t => tmpAt ss 0 (fun j => decide (j < i)) t (st.T t)) = sti.T := funext fun t => by have := b6 0 t; simpa only [Nat.zero_add] using this
    have e2 : (fun b => blkAt ss 0 (fun j => decide (j < i)) b (hp st.heap b)) = hp sti.heap := funext fun b => by have := b7 0 b; simpa only [Nat.zero_add] using this
    refine ⟨s, b1, b2.dst, b2.looks, b3, ?_⟩
    rw [e1, e2]
    rcases b2.ran with ⟨c1, c2, c3, c4⟩ | c
    · refine .inl ⟨c1, (r1 i o ho).2.1, (hop call hc o sti.T sti.heap sti.next s.eff c2 (by have := b2.nx; omega)).1, fun b hb => ?_, c4⟩
      rw [congrFun e2 b]; exact c3 b hb
    · exact .inr c
  · have := preAll_spec ops.toList [] j o ((gl j o).2 ho) i (by simpa [preN] using hi)
    obtain ⟨e, h1, h2, h3⟩ := this
    refine ⟨e, by simpa using h1, h2, h3.imp id fun h3 => ⟨by simpa using h3.1, by simpa [preN] using h3.2⟩⟩
  · have hio : ∃ o, ops[i]? = some o := by
      have : i < ops.size := by have := (List.getElem?_eq_some_iff.1 hi).1; simpa [a1] using this
      exact ⟨_, Array.getElem?_eq_getElem this⟩
    have hjo : ∃ o, ops[j]? = some o := by
      have : j < ops.size := by have := (List.getElem?_eq_some_iff.1 hj).1; simpa [a1] using this
      exact ⟨_, Array.getElem?_eq_getElem this⟩
    obtain ⟨x, hx⟩ := hio
    obtain ⟨o, ho⟩ := hjo
    obtain ⟨s1, _, p1, p2, -⟩ := a6 i x ((gl i x).2 hx)
    obtain ⟨s2, _, q1, q2, -⟩ := a6 j o ((gl j o).2 ho)
    rw [hi] at p1; rw [hj] at q1
    simp only [Option.some.injEq] at p1 q1
    subst p1; subst q1
    by_cases ht : tconf ops x o = true
    · exact r2 hdr i j x o hx ho hij ht
    · have hmc : mconf s.eff s'.eff = true := by
        unfold conf at hcf
        unfold tconf at ht
        rw [p2.dst, p2.looks, q2.dst, q2.looks] at hcf
        simp only [Bool.or_eq_true, mconf] at hcf ht ⊢
        simp only [not_or] at ht
        rcases hcf with (((hcf | hcf) | hcf) | hcf) | hcf
        · exact absurd hcf ht.1
        · exact absurd hcf ht.2
        · exact .inl (.inl hcf)
        · exact .inl (.inr hcf)
        · exact .inr hcf
      have := (memOK_spec ss 0 [] (hm hdr)).2 i j s s' hi hj hij hmc
      unfold preN
      simpa only [Nat.zero_add] using this
end
end Go.Ev
