/-
  Evaluation of calls, part 11: append and copy. No program in sight.
-/
import Derived.Test.YtelnnjofccldgaaGreatDoorEvN
namespace Go.Ev
open Go
section
variable {P : Program} {G : Nat} {o : Oper} {ρ : Operand → Value} {σ : Hp} {n : Nat}

theorem underlying_of {t : TypeId} {d : TypeDesc} (h : pureRun P (underlying t) = some d) : P.underlying t = some d := by
  have h' : pureRun P (match P.underlying t with | some d => (pure d : Sem TypeDesc) | none => stuck "no such type") = some d := h
  cases hu : P.underlying t with
  | none => rw [hu] at h'; cases h'
  | some d' =>
    rw [hu] at h'
    have : some d' = some d := h'
    exact this
theorem info_of {t : TypeId} {i : TypeInfo} (h : pureRun P (typeInfo t) = some i) : P.info? t = some i := by
  have h' : pureRun P (match P.info? t with | some d => (pure d : Sem TypeInfo) | none => stuck "no such type") = some i := h
  cases hu : P.info? t with
  | none => rw [hu] at h'; cases h'
  | some d' =>
    rw [hu] at h'
    have : some d' = some i := h'
    exact this

def srcOf (P : Program) (tx : TypeId) (x : Value) (sz : Nat) (σ : Hp) : Option (Nat × List Value × List Nat) :=
  match pureRun P (underlying tx), x with
  | some (.slice _), .slice none 0 _ => some (0, [], [])
  | some (.slice _), .slice (some ⟨b, off, none⟩) m _ => match σ b with
    | some (.row cs _ _ _) => let c := (cs.drop off).take (m * sz)
      bif Nat.beq c.length (m * sz) && c.all one then some (m, c, [b]) else none
    | _ => none
  | some .string, .string s => bif Nat.beq sz 1 then some (s.size, byteCells s, []) else none
  | _, _ => none
theorem srcOf_ok {tx : TypeId} {x x' : Value} {sz m : Nat} {c : List Value} {rdx rd : List Nat} {ι : Img} {w : World} (h : srcOf P tx x sz σ = some (m, c, rdx)) (hx : VR ι x x') (hH : HR ι w (fun b => if b ∈ rd then σ b else none)) (hrd : ∀ b, b ∈ rdx → b ∈ rd) :
    ∃ news, VRs ι c news ∧ Src P sz tx x' m news w ∧ c.length = m * sz := by
  unfold srcOf at h
  split at h
  · rename_i e cap hu
    simp only [Option.some.injEq, Prod.mk.injEq] at h
    obtain ⟨rfl, rfl, rfl⟩ := h
    have := hx.plain_eq rfl
    subst this
    exact ⟨[], .nil, ⟨.inl ⟨_, underlying_of hu⟩, fun w' => rfl, run_firstCells_none _ _ _ _ _, run_firstCells_none _ _ _ _ _, by simp, fun u hu => by cases hu⟩, by simp⟩
  · rename_i e b off m' cap hu
    split at h
    · rename_i cs e' sz' ex hs
      cases hb : (Nat.beq ((cs.drop off).take (m' * sz)).length (m' * sz) && ((cs.drop off).take (m' * sz)).all one) with
      | false => simp only [hb, cond_false] at h; cases h
      | true =>
        simp only [hb, cond_true, Option.some.injEq, Prod.mk.injEq] at h
        obtain ⟨rfl, rfl, rfl⟩ := h
        simp only [Bool.and_eq_true] at hb
        have hm := Nat.eq_of_beq_eq_true hb.1
        obtain ⟨k, c, cap', rfl, hi, -, -⟩ := hx.slice_inv
        obtain ⟨A, q1, q2, q3, -⟩ := row_at hH (hrd b (by simp)) hs hi
        obtain ⟨r1, r2, r3⟩ := seg_cells q1 q2 q3 hm
        refine ⟨(A.drop off).take (m' * sz), r1, ⟨.inl ⟨_, underlying_of hu⟩, fun w' => rfl, run_firstCells_some (P := P) w _ _ _ _ _ _ r2 (fun j v hj => by rw [add_eq]; exact r3 j v hj), run_firstCells_some (P := P) w.drew _ _ _ _ _ _ r2 (fun j v hj => by rw [add_eq]; exact r3 j v hj), r2, ones_of r1 hb.2⟩, hm⟩
    · cases h
  · rename_i s hu
    cases hb : Nat.beq sz 1 with
    | false => rw [hb] at h; cases h
    | true =>
      rw [hb] at h
      simp only [cond_true, Option.some.injEq, Prod.mk.injEq] at h
      obtain ⟨rfl, rfl, rfl⟩ := h
      have e1 := Nat.eq_of_beq_eq_true hb
      subst e1
      have := hx.plain_eq rfl
      subst this
      refine ⟨byteCells s, ?_, Src.ofString w (underlying_of hu) s, by rw [byteCells_length]; simp⟩
      have : ∀ l : List Value, (∀ v ∈ l, plain v = true) → VRs ι l l := by
        intro l
        induction l with
        | nil => intro _; exact .nil
        | cons v l ih => intro h; exact .cons (.same (h v (by simp))) (ih fun u hu => h u (by simp [hu]))
      refine this _ fun v hv => ?_
      obtain ⟨b, _, rfl⟩ := List.mem_map.1 hv
      rfl
  · cases h

theorem setCells_heap (k : Nat) : ∀ (vs : List Value) (off : Nat) (w : World) (A : List Value) (e : TypeId), w.heap[k]? = some (.cells ⟨A⟩ e (0, 0)) → off + vs.length ≤ A.length → (w.setCells k off vs).heap[k]? = some (.cells ⟨splice A off vs⟩ e (0, 0))
  | [], off, w, A, e, h, _ => by
    simp only [World.setCells, splice, List.append_nil, List.length_nil, Nat.add_zero, List.take_append_drop]
    exact h
  | v :: vs, off, w, A, e, h, hl => by
    simp only [World.setCells]
    simp only [List.length_cons] at hl
    have h1 : (w.setCell ⟨k, off, none⟩ v).heap[k]? = some (.cells ⟨A.set off v⟩ e (0, 0)) := by
      simp only [World.setCell, Array.getElem?_modify, if_true, h, Option.map_some]
      simp
    rw [setCells_heap k vs (off + 1) _ (A.set off v) e h1 (by simp; omega)]
    congr 3
    exact list_seg_step A off v vs (by omega)

theorem setCells_rest (k : Nat) : ∀ (vs : List Value) (off : Nat) (w : World), Same3 w (w.setCells k off vs)
  | [], _, w => Same3.refl w
  | v :: vs, off, w => by
    simp only [World.setCells]
    exact Same3.trans ⟨rfl, rfl, rfl⟩ (setCells_rest k vs (off + 1) _)
theorem Step.moved {ι : Img} {w w' : World} {b k c n : Nat} {B : Blk} {v v' : Value} {rd : List Nat} (hn : ι n = none) (hi : ι b = some (k, c)) (hb : b ∈ rd) (hsz : w'.heap.size = w.heap.size) (hold : ∀ j, j ≠ k → w'.heap[j]? = w.heap[j]?) (hrest : Same3 w w') (hB : BR (put1 ι n k c) w' k c B) (hv : VR (put1 ι n k c) v v') :
    Step ι w (put1 ι n k c) w' ⟨v, rd, [(n, some B), (b, none)], n, n + 1⟩ v' := by
  have hnb : n ≠ b := fun e => by subst e; rw [hn] at hi; cases hi
  have only : ∀ b1 B1, look [(n, some B), (b, none)] b1 = some (some B1) → b1 = n ∧ B1 = B := fun b1 B1 h => by
    simp only [look] at h
    split at h
    · rename_i q
      simp only [beq_iff_eq] at q
      simp only [Option.some.injEq] at h
      exact ⟨q.symm, h.symm⟩
    · split at h <;> cases h
  refine ⟨hv, put1_ext hn, fun b1 e e' => ?_, by omega, fun j hj hno => hold j fun e => ?_, fun b1 B1 h => ?_, fun b1 b2 B1 B2 k1 c1 c2 h1 h2 _ _ => ?_, fun b1 k1 c1 e e' => ?_, hrest⟩
  · by_cases q : b1 = n
    · subst q; exact ⟨Nat.le_refl _, Nat.lt_succ_self _⟩
    · rw [put1_ne q, e] at e'; exact absurd rfl e'
  · subst e
    exact hno b c (by simp [keys]) hi
  · obtain ⟨rfl, rfl⟩ := only b1 B1 h
    exact ⟨_, _, put1_at _ _ _ _, hB⟩
  · rw [(only b1 B1 h1).1, (only b2 B2 h2).1]
  · by_cases q : b1 = n
    · subst q
      rw [put1_at] at e'
      simp only [Option.some.injEq, Prod.mk.injEq] at e'
      obtain ⟨rfl, rfl⟩ := e'
      exact .inr ⟨b, c, hb, by simp [keys], hi⟩
    · rw [put1_ne q, e] at e'; cases e'

def evAppend (P : Program) (t tx : TypeId) (s x : Value) (σ : Hp) (n : Nat) : Option Eff :=
  match pureRun P (underlying t) with
  | some (.slice e) => match pureRun P (typeInfo e) with
    | some i => match i.zero, srcOf P tx x i.size σ with
      | some z, some (m, c, rdx) =>
        bif Nat.beq z.cells.size i.size && Nat.blt 0 i.size then
          match s with
          | .slice none 0 0 => bif Nat.beq m 0 then some ⟨.slice none 0 0, rdx, [], n, n⟩ else
            bif Nat.ble (m * i.bytes) 140737488355328 && Nat.ble m 1048576 then some ⟨.slice (some ⟨n, 0, none⟩) m big, rdx, [(n, some (.row c e i.size false))], n, n + 1⟩ else none
          | .slice (some ⟨b, off, none⟩) len cap => bif Nat.beq m 0 then some ⟨.slice (some ⟨b, off, none⟩) len cap, rdx, [], n, n⟩ else
            match σ b with
            | some (.row cs e' sz' ex) =>
              let old := (cs.drop off).take (len * i.size)
              bif Nat.beq old.length (len * i.size) && Nat.ble ((len + m) * i.bytes) 140737488355328 && Nat.ble (len + m) 1048576 then
                bif ex then
                  bif Nat.ble (len + m) cap then
                    bif Nat.ble (off + (len + m) * i.size) cs.length then some ⟨.slice (some ⟨b, off, none⟩) (len + m) cap, b :: rdx, [(b, some (.row (splice cs (off + len * i.size) c) e' sz' true))], n, n⟩ else none
                  else some ⟨.slice (some ⟨n, 0, none⟩) (len + m) big, b :: rdx, [(n, some (.row (old ++ c) e i.size false))], n, n + 1⟩
                else
                  bif Nat.beq off 0 && Nat.beq cap big && Nat.beq sz' i.size && Nat.beq e' e then some ⟨.slice (some ⟨n, 0, none⟩) (len + m) big, b :: rdx, [(n, some (.row (old ++ c) e i.size false)), (b, none)], n, n + 1⟩ else none
              else none
            | _ => none
          | _ => none
        else none
      | _, _ => none
    | none => none
  | _ => none

theorem run_append_op {t tx : TypeId} {s x : Operand} {a : Act} {w w' : World} {v : Value} (ho : o.op = .call { callee := .builtin .append, args := #[s, x], argTypes := #[t, tx] }) (h : (Builtin.append_ #[t, tx] o.type #[a.eval s, a.eval x]).run P w = .ok v w') :
    (execOp a.eval o).run P w = .ok (.value v) w' := by
  unfold execOp
  simp only [ho, resolve, invoke, builtin, Sem.run_bind, Sem.run_pure, Result.andThen_ok, List.map_toArray, List.map_cons, List.map_nil, h]
theorem fresh_row {ι : Img} {w w' : World} {k sz need gc : Nat} {z : Value} {cs olds : List Value} {e : TypeId} (_hk : k = w.heap.size) (hw : NewB w w' (.cells (olds.toArray ++ Builtin.zeroCells z.cells (gc - need)) e (0, 0))) (hv : VRs ι cs olds) (hz : z.cells.size = sz) (hsz : 0 < sz) (hlen : olds.length = need * sz) (hle : need ≤ gc) :
    BR ι w' w.heap.size gc (.row cs e sz false) := by
  have hl := hv.length
  have hzl : (Builtin.zeroCells z.cells (gc - need)).toList.length = (gc - need) * sz := by
    rw [Array.length_toList, size_zeroCells, hz]
  refine ⟨olds ++ (Builtin.zeroCells z.cells (gc - need)).toList, ?_, ?_, ?_, fun q => (by cases q), fun _ => ⟨hsz, ?_⟩⟩
  · rw [hw.new]
    congr 2
    exact Array.ext' (by simp)
  · rw [List.length_append]; omega
  · rw [hl, List.take_append_of_le_length (Nat.le_refl _), List.take_length]
    exact hv
  · rw [List.length_append, hlen, hzl, ← Nat.add_mul]
    congr 1; omega

theorem evAppend_ok {t tx : TypeId} {s x : Operand} {E : Eff} (ho : o.op = .call { callee := .builtin .append, args := #[s, x], argTypes := #[t, tx] }) (h : evAppend P t tx (ρ s) (ρ x) σ n = some E) : OpOK P G o ρ σ E ∧ E.lo = n ∧ n ≤ E.hi := by
  unfold evAppend at h
  split at h
  · rename_i e hu
    split at h
    · rename_i i hi
      split at h
      · rename_i z m c rdx hz hsrc
        cases hb : (Nat.beq z.cells.size i.size && Nat.blt 0 i.size) with
        | false => rw [hb] at h; cases h
        | true =>
          rw [hb] at h
          simp only [cond_true] at h
          simp only [Bool.and_eq_true] at hb
          have hzs := Nat.eq_of_beq_eq_true hb.1
          have hpos : 0 < i.size := by have := hb.2; rwa [Nat.blt_eq] at this
          have hu' := underlying_of hu
          have hi' := info_of hi
          have mems : s ∈ o.op.operands ∧ x ∈ o.op.operands := by simp [ho, Op.operands, Call.operands]
          split at h
          · -- nil
            rename_i hs
            cases hm : Nat.beq m 0 with
            | true =>
              rw [hm] at h
              simp only [cond_true, Option.some.injEq] at h
              subst h
              have hm' := Nat.eq_of_beq_eq_true hm
              subst hm'
              refine ⟨ok_val fun ι a w hv hH => ?_, rfl, Nat.le_refl _⟩
              have hsv := hv s mems.1
              rw [hs] at hsv
              have es := hsv.plain_eq rfl
              obtain ⟨news, n1, n2, n3⟩ := srcOf_ok hsrc (hv x mems.2) hH (fun b hb => hb)
              have hl := n1.length
              have : news = [] := List.eq_nil_of_length_eq_zero (by rw [← hl, n3]; simp)
              subst this
              refine ⟨.slice none 0 0, .same rfl, run_append_op ho ?_⟩
              rw [es]
              exact run_append_nothing w t tx o.type e i hu' hi' none 0 0 (Nat.le_refl _) _ n2
            | false =>
              rw [hm] at h
              simp only [cond_false] at h
              cases hf : (Nat.ble (m * i.bytes) 140737488355328 && Nat.ble m 1048576) with
              | false => rw [hf] at h; cases h
              | true =>
                rw [hf] at h
                simp only [cond_true, Option.some.injEq] at h
                subst h
                simp only [Bool.and_eq_true] at hf
                have f1 := Nat.le_of_ble_eq_true hf.1
                have f2 := Nat.le_of_ble_eq_true hf.2
                have hm0 : 0 < m := Nat.pos_of_ne_zero fun q => by subst q; cases hm
                refine ⟨?_, rfl, Nat.le_succ _⟩
                intro ι a w _ hv hfr _ hH K Q hK
                have hsv := hv s mems.1
                rw [hs] at hsv
                have es := hsv.plain_eq rfl
                obtain ⟨news, n1, n2, n3⟩ := srcOf_ok hsrc (hv x mems.2) hH (fun b hb => hb)
                have hn : ι n = none := hfr n (Nat.le_refl _) (Nat.lt_succ_self _)
                have hr := run_append_grow_src (P := P) (w := w) t tx o.type e i z hu' hi' hz none 0 0 [] (run_firstCells_none _ _ _ _ _) _ m news n2 (by omega) (by omega) (by rw [Nat.zero_add]; exact growslice_fits hm0 f1)
                rw [Nat.zero_add] at hr
                have hr' := run_append_op (P := P) (a := a) ho (by rw [es]; exact hr)
                unfold Oper.wp
                rw [hr']
                have hnew := NewB.drew w (.cells ((([] : List Value) ++ news).toArray ++ Builtin.zeroCells z.cells (grownCap w m 0 e - m)) e)
                have hge := grownCap_ge w m 0 e
                refine hK _ _ _ (Step.fresh (kills := []) (c := grownCap w m 0 e) hn hnew (fresh_row rfl hnew ?_ hzs hpos ?_ hge) (.slice (put1_at _ _ _ _) (Nat.add_comm _ _) hge))
                · simpa using n1.mono (put1_ext hn)
                · simpa using n2.newsLen
          · rename_i b off len cap hs
            cases hm : Nat.beq m 0 with
            | true =>
              rw [hm] at h
              simp only [cond_true, Option.some.injEq] at h
              subst h
              have hm' := Nat.eq_of_beq_eq_true hm
              subst hm'
              refine ⟨ok_val fun ι a w hv hH => ?_, rfl, Nat.le_refl _⟩
              have hsv := hv s mems.1
              rw [hs] at hsv
              obtain ⟨k, cc, cap', es, hib, hcp, hle⟩ := hsv.slice_inv
              obtain ⟨news, n1, n2, n3⟩ := srcOf_ok hsrc (hv x mems.2) hH (fun b hb => hb)
              have hl := n1.length
              have : news = [] := List.eq_nil_of_length_eq_zero (by rw [← hl, n3]; simp)
              subst this
              refine ⟨_, .slice hib hcp hle, run_append_op ho ?_⟩
              rw [es]
              exact run_append_nothing w t tx o.type e i hu' hi' (some ⟨k, off, none⟩) len cap' hle _ n2
            | false =>
              rw [hm] at h
              simp only [cond_false] at h
              have hm0 : 0 < m := Nat.pos_of_ne_zero fun q => by subst q; cases hm
              split at h
              · rename_i cs e' sz' ex hrow
                cases hf : (Nat.beq ((cs.drop off).take (len * i.size)).length (len * i.size) && Nat.ble ((len + m) * i.bytes) 140737488355328 && Nat.ble (len + m) 1048576) with
                | false => simp only [hf, cond_false] at h; cases h
                | true =>
                  simp only [hf, cond_true] at h
                  simp only [Bool.and_eq_true] at hf
                  have f0 := Nat.eq_of_beq_eq_true hf.1.1
                  have f1 := Nat.le_of_ble_eq_true hf.1.2
                  have f2 := Nat.le_of_ble_eq_true hf.2
                  -- the world grows by a row
                  have grow : ∀ (kills : List Nat), (∀ d ∈ kills, d = b) → ∀ (ι : Img) (a : Act) (w : World), (∀ y ∈ o.op.operands, VR ι (ρ y) (a.eval y)) → ι n = none → HR ι w (fun b1 => if b1 ∈ b :: rdx then σ b1 else none) →
                      (∀ k c cap', ι b = some (k, c) → a.eval s = .slice (some ⟨k, off, none⟩) len cap' → cap' + big = cap + c → (∃ A : List Value, w.heap[k]? = some (.cells ⟨A⟩ e' (0, 0)) ∧ cs.length ≤ A.length ∧ VRs ι cs (A.take cs.length) ∧ (ex = true → c = big ∧ A.length = cs.length) ∧ (ex = false → 0 < sz' ∧ A.length = c * sz')) → cap' < len + m) →
                      ∀ (K : Act → World → Prop) (Q : Exit → Act → World → Prop), (∀ ι' v' w', Step ι w ι' w' ⟨.slice (some ⟨n, 0, none⟩) (len + m) big, b :: rdx, (n, some (.row ((cs.drop off).take (len * i.size) ++ c) e i.size false)) :: kills.map (fun d => (d, none)), n, n + 1⟩ v' → K (a.put o.dst v') w') → o.wp P a w K Q := by
                    intro kills _ ι a w hv hn hH hcap K Q hK
                    have hsv := hv s mems.1
                    rw [hs] at hsv
                    obtain ⟨k, cc, cap', es, hib, hcp, hle⟩ := hsv.slice_inv
                    have hrw := row_at hH (by simp) hrow hib
                    have hlt := hcap k cc cap' hib es hcp hrw
                    obtain ⟨A, q1, q2, q3, q4, q5⟩ := hrw
                    obtain ⟨r1, r2, r3⟩ := seg_cells q1 q2 q3 f0
                    obtain ⟨news, n1, n2, n3⟩ := srcOf_ok hsrc (hv x mems.2) hH (fun b1 hb1 => by simp [hb1])
                    have hold := run_firstCells_some (P := P) w.drew i.size len ⟨k, off, none⟩ len cap' _ r2 (fun j v hj => by rw [add_eq]; exact r3 j v hj)
                    have hr := run_append_grow_src (P := P) (w := w) t tx o.type e i z hu' hi' hz (some ⟨k, off, none⟩) len cap' _ hold _ m news n2 hlt (by omega) (growslice_fits hlt f1)
                    have hr' := run_append_op (P := P) (a := a) ho (by rw [es]; exact hr)
                    unfold Oper.wp
                    rw [hr']
                    have hnew := NewB.drew w (.cells (((A.drop off).take (len * i.size) ++ news).toArray ++ Builtin.zeroCells z.cells (grownCap w (len + m) cap' e - (len + m))) e)
                    have hge := grownCap_ge w (len + m) cap' e
                    refine hK _ _ _ (Step.fresh (kills := kills) (c := grownCap w (len + m) cap' e) hn hnew (fresh_row rfl hnew ?_ hzs hpos ?_ hge) (.slice (put1_at _ _ _ _) (Nat.add_comm _ _) hge))
                    · exact (r1.append n1).mono (put1_ext hn)
                    · rw [List.length_append, r2, n2.newsLen, Nat.add_mul]
                  -- in place
                  have place : ∀ (ι : Img) (a : Act) (w : World), (∀ y ∈ o.op.operands, VR ι (ρ y) (a.eval y)) → HR ι w (fun b1 => if b1 ∈ b :: rdx then σ b1 else none) → ∀ k cc cap', ι b = some (k, cc) → a.eval s = .slice (some ⟨k, off, none⟩) len cap' → len + m ≤ cap' →
                      ∀ (A : List Value), w.heap[k]? = some (.cells ⟨A⟩ e' (0, 0)) → off + (len + m) * i.size ≤ A.length → ∃ news, VRs ι c news ∧ c.length = m * i.size ∧
                        (execOp a.eval o).run P w = .ok (.value (.slice (some ⟨k, off, none⟩) (len + m) cap')) (w.setCells k (off + len * i.size) news) ∧ (w.setCells k (off + len * i.size) news).heap[k]? = some (.cells ⟨splice A (off + len * i.size) news⟩ e' (0, 0)) ∧
                        (w.setCells k (off + len * i.size) news).heap.size = w.heap.size ∧ (∀ j, j ≠ k → (w.setCells k (off + len * i.size) news).heap[j]? = w.heap[j]?) := by
                    intro ι a w hv hH k cc cap' hib es hroom A q1 hfit
                    obtain ⟨news, n1, n2, n3⟩ := srcOf_ok hsrc (hv x mems.2) hH (fun b1 hb1 => by simp [hb1])
                    have hnl := n2.newsLen
                    have hfit' : off + len * i.size + m * i.size ≤ A.length := by rw [Nat.add_mul] at hfit; omega
                    have hr := run_append_room_src (P := P) (w := w) t tx o.type e i hu' hi' k off len cap' _ m news n2 hroom (fun j hj => by
                      rw [cell_of q1, List.getElem?_eq_getElem (by omega)]; rfl) (fun j hj => frozen_of q1 _)
                    have hkept := World.keptBut_setCells k (may := fun _ => True) news (off + len * i.size) w (fun _ _ => trivial)
                    have hsz : (w.setCells k (off + len * i.size) news).heap.size = w.heap.size := by
                      have : ∀ (vs : List Value) (oo : Nat) (w : World), (w.setCells k oo vs).heap.size = w.heap.size := by
                        intro vs
                        induction vs with
                        | nil => intro oo w; rfl
                        | cons v vs ih => intro oo w; simp only [World.setCells]; rw [ih]; simp [World.setCell]
                      exact this _ _ _
                    refine ⟨news, n1, n3, run_append_op (P := P) (a := a) ho (by rw [es]; exact hr), setCells_heap k news _ w A e' q1 (by omega), hsz, fun j hj => ?_⟩
                    rcases Nat.lt_or_ge j w.heap.size with hlt | hge
                    · exact World.heap_setCells_other w k _ news hlt hj
                    · rw [Array.getElem?_eq_none (by omega), Array.getElem?_eq_none hge]
                  cases ex with
                  | true =>
                    simp only [cond_true] at h
                    cases hroom : Nat.ble (len + m) cap with
                    | true =>
                      rw [hroom] at h
                      simp only [cond_true] at h
                      cases hfit : Nat.ble (off + (len + m) * i.size) cs.length with
                      | false => rw [hfit] at h; cases h
                      | true =>
                        rw [hfit] at h
                        simp only [cond_true, Option.some.injEq] at h
                        subst h
                        have hroom' := Nat.le_of_ble_eq_true hroom
                        have hfit' := Nat.le_of_ble_eq_true hfit
                        refine ⟨?_, rfl, Nat.le_refl _⟩
                        intro ι a w _ hv _ _ hH K Q hK
                        have hsv := hv s mems.1
                        rw [hs] at hsv
                        obtain ⟨k, cc, cap', es, hib, hcp, hle⟩ := hsv.slice_inv
                        obtain ⟨A, q1, q2, q3, q4, q5⟩ := row_at hH (by simp) hrow hib
                        have hcb := (q4 rfl).1
                        obtain ⟨news, n1, n3, p1, p2, p3, p4⟩ := place ι a w hv hH k cc cap' hib es (by omega) A q1 (by omega)
                        unfold Oper.wp
                        rw [p1]
                        refine hK ι _ _ (Step.put hib p3 p4 (setCells_rest _ _ _ _) (BR.splice q2 q3 q4 q5 n1 ?_ p2) (.slice hib hcp (by omega)))
                        rw [n3, Nat.add_assoc, ← Nat.add_mul]; exact hfit'
                    | false =>
                      rw [hroom] at h
                      simp only [cond_false, Option.some.injEq] at h
                      subst h
                      refine ⟨?_, rfl, Nat.le_succ _⟩
                      intro ι a w _ hv hfr _ hH K Q hK
                      refine grow [] (by simp) ι a w hv (hfr n (Nat.le_refl _) (Nat.lt_succ_self _)) hH (fun k c1 cap' _ _ hcp hA => ?_) K Q hK
                      obtain ⟨A, -, -, -, q4, -⟩ := hA
                      have hcb := (q4 rfl).1
                      have : ¬ (len + m ≤ cap) := fun q => by rw [Nat.ble_eq_true_of_le q] at hroom; cases hroom
                      omega
                  | false =>
                    simp only [cond_false] at h
                    cases hq : (Nat.beq off 0 && Nat.beq cap big && Nat.beq sz' i.size && Nat.beq e' e) with
                    | false => rw [hq] at h; cases h
                    | true =>
                      rw [hq] at h
                      simp only [cond_true, Option.some.injEq] at h
                      subst h
                      simp only [Bool.and_eq_true] at hq
                      have o0 := Nat.eq_of_beq_eq_true hq.1.1.1
                      have o1 := Nat.eq_of_beq_eq_true hq.1.1.2
                      have o2 := Nat.eq_of_beq_eq_true hq.1.2
                      have o3 := Nat.eq_of_beq_eq_true hq.2
                      subst o0; subst o1; subst o2; subst o3
                      refine ⟨?_, rfl, Nat.le_succ _⟩
                      intro ι a w _ hv hfr _ hH K Q hK
                      have hn := hfr n (Nat.le_refl _) (Nat.lt_succ_self _)
                      have hsv := hv s mems.1
                      rw [hs] at hsv
                      obtain ⟨k, cc, cap', es, hib, hcp, hle⟩ := hsv.slice_inv
                      by_cases hroom : len + m ≤ cap'
                      · obtain ⟨A, q1, q2, q3, q4, q5⟩ := row_at hH (by simp) hrow hib
                        obtain ⟨-, hA⟩ := q5 rfl
                        have hcc : cap' = cc := by omega
                        subst hcc
                        have hmul : (len + m) * i.size ≤ cap' * i.size := Nat.mul_le_mul_right _ hroom
                        obtain ⟨news, n1, n3, p1, p2, p3, p4⟩ := place ι a w hv hH k cap' cap' hib es hroom A q1 (by omega)
                        unfold Oper.wp
                        rw [p1]
                        have hnl := n1.length
                        have e1 := put1_ext (k := k) (c := cap') hn
                        refine hK _ _ _ (Step.moved hn hib (by simp) p3 p4 (setCells_rest _ _ _ _) ⟨splice A (0 + len * i.size) news, p2, ?_, ?_, fun q => (by cases q), fun _ => ⟨hpos, ?_⟩⟩ (.slice (put1_at _ _ _ _) (Nat.add_comm _ _) hroom))
                        · rw [splice_length (by rw [Nat.add_mul] at hmul; omega), List.length_append, f0, n3, ← Nat.add_mul]; omega
                        · obtain ⟨r1, r2, r3⟩ := seg_cells q1 q2 q3 f0
                          have : (splice A (0 + len * i.size) news).take ((cs.drop 0).take (len * i.size) ++ c).length = (A.drop 0).take (len * i.size) ++ news := by
                            rw [List.length_append, f0]
                            simp only [splice, Nat.zero_add, List.drop_zero]
                            rw [List.take_append_of_le_length (by simp; simp at r2; omega)]
                            rw [List.take_of_length_le (by simp; simp at r2; omega)]
                          rw [this]
                          exact (r1.append n1).mono e1
                        · rw [splice_length (by rw [Nat.add_mul] at hmul; omega)]; exact hA
                      · exact grow [b] (by simp) ι a w hv hn hH (fun k1 c1 cap1 _ es1 _ _ => by
                          rw [es] at es1
                          simp only [Value.slice.injEq] at es1
                          omega) K Q hK
              · cases h
          · cases h
      · cases h
    · cases h
  · cases h
end
end Go.Ev
