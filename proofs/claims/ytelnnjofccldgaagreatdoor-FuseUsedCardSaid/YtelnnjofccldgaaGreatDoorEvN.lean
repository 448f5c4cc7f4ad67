/-
  Evaluation of calls, part 10: loads, stores, literals of slices. No program in sight.
-/
import Derived.Test.YtelnnjofccldgaaGreatDoorEvM
namespace Go.Ev
open Go
section
variable {P : Program} {G : Nat} {o : Oper} {ρ : Operand → Value} {σ : Hp} {n : Nat}

theorem cell_of {w : World} {k : Nat} {A : List Value} {e : TypeId} {fr : Nat × Nat} (h : w.heap[k]? = some (.cells ⟨A⟩ e fr)) (j : Nat) : w.cell? ⟨k, j, none⟩ = A[j]? := by
  simp only [World.cell?, h]
  simp
theorem frozen_of {w : World} {k : Nat} {A : List Value} {e : TypeId} (h : w.heap[k]? = some (.cells ⟨A⟩ e (0, 0))) (j : Nat) : w.frozen? ⟨k, j, none⟩ = false := by
  simp only [World.frozen?, h]
  simp
theorem VRs.seg {ι : Img} {l l' : List Value} (h : VRs ι l l') (o k : Nat) : VRs ι ((l.drop o).take k) ((l'.drop o).take k) := (h.drop o).take k

def evLoad (P : Program) (t : TypeId) (p : Value) (σ : Hp) (n : Nat) : Option Eff :=
  match p with
  | .pointer (some ⟨b, off, none⟩) => match σ b with
    | some (.row cs _ _ _) => match pureRun P (isAgg t) with
      | some true => match pureRun P (sizeOf t) with
        | some k => let c := (cs.drop off).take k
          bif Nat.beq c.length k then some ⟨.agg ⟨c⟩, [b], [], n, n⟩ else none
        | none => none
      | some false => match cs[off]? with
        | some v => some ⟨v, [b], [], n, n⟩
        | none => none
      | none => none
    | _ => none
  | _ => none
/-- a row that is looked at -/
theorem row_at {ι : Img} {w : World} {rd : List Nat} {b : Nat} {cs : List Value} {e : TypeId} {sz : Nat} {ex : Bool} (hH : HR ι w (fun b => if b ∈ rd then σ b else none)) (hb : b ∈ rd) (hs : σ b = some (.row cs e sz ex)) {k c : Nat} (hi : ι b = some (k, c)) :
    ∃ A : List Value, w.heap[k]? = some (.cells ⟨A⟩ e (0, 0)) ∧ cs.length ≤ A.length ∧ VRs ι cs (A.take cs.length) ∧ (ex = true → c = big ∧ A.length = cs.length) ∧ (ex = false → 0 < sz ∧ A.length = c * sz) := by
  obtain ⟨k2, c2, e1, q⟩ := hH.at_ b _ (by simpa [hb] using hs)
  rw [hi] at e1
  simp only [Option.some.injEq, Prod.mk.injEq] at e1
  obtain ⟨rfl, rfl⟩ := e1
  exact q
theorem seg_cells {ι : Img} {w : World} {k off m : Nat} {cs A : List Value} {e : TypeId} (hA : w.heap[k]? = some (.cells ⟨A⟩ e (0, 0))) (_hle : cs.length ≤ A.length) (hv : VRs ι cs (A.take cs.length)) (hm : ((cs.drop off).take m).length = m) :
    VRs ι ((cs.drop off).take m) ((A.drop off).take m) ∧ ((A.drop off).take m).length = m ∧ ∀ j v, ((A.drop off).take m)[j]? = some v → w.cell? ⟨k, off + j, none⟩ = some v := by
  have h1 := hv.seg off m
  have e1 : ((A.take cs.length).drop off).take m = (A.drop off).take m := by
    simp only [List.length_take, List.length_drop] at hm
    rw [List.drop_take, List.take_take, Nat.min_eq_left (by omega)]
  rw [e1] at h1
  refine ⟨h1, by rw [← h1.length, hm], fun j v hj => ?_⟩
  rw [cell_of hA]
  rw [List.getElem?_take] at hj
  split at hj
  · rwa [List.getElem?_drop] at hj
  · cases hj
theorem evLoad_ok {t : TypeId} {x : Operand} {E : Eff} (ho : o.op = .load t x) (h : evLoad P t (ρ x) σ n = some E) : OpOK P G o ρ σ E ∧ E.lo = n ∧ n ≤ E.hi := by
  unfold evLoad at h
  split at h
  · rename_i b off hx
    split at h
    · rename_i cs e sz ex hs
      split at h
      · rename_i hg
        split at h
        · rename_i k hk
          cases hb : Nat.beq ((cs.drop off).take k).length k with
          | false => simp only [hb, cond_false] at h; cases h
          | true =>
            simp only [hb, cond_true, Option.some.injEq] at h
            subst h
            have hm := Nat.eq_of_beq_eq_true hb
            refine ⟨ok_val fun ι a w hv hH => ?_, rfl, Nat.le_refl _⟩
            have hc := hv x (by simp [ho, Op.operands])
            rw [hx] at hc
            obtain ⟨k', c, e', hi⟩ := hc.ptr_inv
            obtain ⟨A, q1, q2, q3, -⟩ := row_at hH (by simp) hs hi
            obtain ⟨r1, r2, r3⟩ := seg_cells q1 q2 q3 hm
            refine ⟨.agg ⟨(A.drop off).take k⟩, .agg r1, ?_⟩
            have hl := run_loadCells_list (P := P) w ⟨k', off, none⟩ ((A.drop off).take k) (fun j v hj => by rw [add_eq]; exact r3 j v hj)
            rw [r2] at hl
            unfold execOp
            simp only [ho, e', Instr.loadAt, Instr.sureAddr, loadVar, Sem.run_bind, Sem.run_pure, Result.andThen_ok, pureRun_run hg w, if_true, pureRun_run hk w, hl]
        · cases h
      · rename_i hg
        split at h
        · rename_i v hv0
          simp only [Option.some.injEq] at h
          subst h
          refine ⟨ok_val fun ι a w hv hH => ?_, rfl, Nat.le_refl _⟩
          have hc := hv x (by simp [ho, Op.operands])
          rw [hx] at hc
          obtain ⟨k', c, e', hi⟩ := hc.ptr_inv
          obtain ⟨A, q1, q2, q3, -⟩ := row_at hH (by simp) hs hi
          obtain ⟨v', h1, h2⟩ := q3.at off hv0
          refine ⟨v', h2, ?_⟩
          have hcell : w.cell? ⟨k', off, none⟩ = some v' := by
            rw [cell_of q1]
            rw [List.getElem?_take] at h1
            split at h1
            · exact h1
            · cases h1
          unfold execOp
          simp only [ho, e', Instr.loadAt, Instr.sureAddr, loadVar, Sem.run_bind, Sem.run_pure, Result.andThen_ok, pureRun_run hg w, Bool.false_eq_true, if_false, run_load, hcell]
        · cases h
      · cases h
    · cases h
  · cases h

def one (v : Value) : Bool := match v with | .agg _ | .tuple _ => false | _ => true
theorem one_of {ι : Img} {v v' : Value} (h : VR ι v v') (h1 : one v = true) : v'.oneCell' = true := by
  cases h with
  | same p => cases v <;> first | rfl | cases h1
  | agg k => cases h1
  | tuple k => cases h1
  | _ => rfl
theorem ones_of {ι : Img} : ∀ {l l' : List Value}, VRs ι l l' → l.all one = true → ∀ v ∈ l', v.oneCell' = true
  | _, _, .nil, _, v, hv => by cases hv
  | _, _, .cons a k, h, v, hv => by
    simp only [List.all_cons, Bool.and_eq_true] at h
    rcases List.mem_cons.1 hv with rfl | hv
    · exact one_of a h.1
    · exact ones_of k h.2 v hv
/-- so many cells replaced -/
def splice (cs : List Value) (off : Nat) (vs : List Value) : List Value := cs.take off ++ vs ++ cs.drop (off + vs.length)
theorem splice_length {cs vs : List Value} {off : Nat} (h : off + vs.length ≤ cs.length) : (splice cs off vs).length = cs.length := by
  simp only [splice, List.length_append, List.length_take, List.length_drop]; omega
theorem splice_take {A vs : List Value} {off L : Nat} (h : off + vs.length ≤ L) (hL : L ≤ A.length) : (splice A off vs).take L = splice (A.take L) off vs := by
  have m1 : min off A.length = off := by omega
  have m2 : min off (min L A.length) = off := by omega
  apply List.ext_getElem?
  intro j
  rw [List.getElem?_take]
  unfold splice
  rw [List.getElem?_append, List.getElem?_append, List.getElem?_append, List.getElem?_append]
  simp only [List.length_append, List.length_take, List.getElem?_drop, List.getElem?_take, m1, m2]
  by_cases h1 : j < off
  · have a1 : j < L := by omega
    have a2 : j < off + vs.length := by omega
    simp only [h1, a1, a2, if_true]
  · by_cases h2 : j < off + vs.length
    · have a1 : j < L := by omega
      simp only [h1, h2, a1, if_true, if_false]
    · by_cases h3 : j < L
      · have a1 : off + vs.length + (j - (off + vs.length)) < L := by omega
        simp only [h2, h3, a1, if_true, if_false]
      · have a1 : ¬ off + vs.length + (j - (off + vs.length)) < L := by omega
        simp only [h2, h3, a1, if_false]
theorem VRs.splice {ι : Img} {cs cs' vs vs' : List Value} {off : Nat} (h : VRs ι cs cs') (hv : VRs ι vs vs') : VRs ι (splice cs off vs) (splice cs' off vs') := by
  unfold Ev.splice
  rw [← hv.length]
  exact ((h.take off).append hv).append (h.drop _)
/-- a block whose cells are others now -/
theorem Step.put {ι : Img} {w w' : World} {b k c n : Nat} {B : Blk} {v v' : Value} {rd : List Nat} (hi : ι b = some (k, c)) (hsz : w'.heap.size = w.heap.size) (hold : ∀ j, j ≠ k → w'.heap[j]? = w.heap[j]?) (hrest : Same3 w w') (hB : BR ι w' k c B) (hv : VR ι v v') :
    Step ι w ι w' ⟨v, rd, [(b, some B)], n, n⟩ v' := by
  have only : ∀ b1 B1, look [(b, some B)] b1 = some (some B1) → b1 = b ∧ B1 = B := fun b1 B1 h => by
    simp only [look] at h
    split at h
    · rename_i q
      simp only [beq_iff_eq] at q
      simp only [Option.some.injEq] at h
      exact ⟨q.symm, h.symm⟩
    · cases h
  refine ⟨hv, Ext1.refl _, fun b e e' => absurd e e', by omega, fun j hj hno => hold j fun e => ?_, fun b1 B1 h => ?_, fun b1 b2 B1 B2 k1 c1 c2 h1 h2 _ _ => ?_, fun b k c e e' => (by rw [e] at e'; cases e'), hrest⟩
  · subst e
    exact hno b c (by simp [keys]) hi
  · obtain ⟨rfl, rfl⟩ := only b1 B1 h
    exact ⟨k, c, hi, hB⟩
  · rw [(only b1 B1 h1).1, (only b2 B2 h2).1]
theorem setRow_size (w : World) (g : Nat) (cs : Array Value) : (w.setRow g cs).heap.size = w.heap.size := by simp [World.setRow]
theorem BR.splice {ι : Img} {w : World} {k c off : Nat} {cs A vs vs' : List Value} {e : TypeId} {sz : Nat} {ex : Bool} (hle : cs.length ≤ A.length) (hv : VRs ι cs (A.take cs.length)) (h1 : ex = true → c = big ∧ A.length = cs.length) (h2 : ex = false → 0 < sz ∧ A.length = c * sz)
    (hvs : VRs ι vs vs') (hfit : off + vs.length ≤ cs.length) (hw : w.heap[k]? = some (.cells ⟨Ev.splice A off vs'⟩ e (0, 0))) : BR ι w k c (.row (Ev.splice cs off vs) e sz ex) := by
  have hl := hvs.length
  have l1 := splice_length (cs := cs) (vs := vs) (off := off) hfit
  have l2 := splice_length (cs := A) (vs := vs') (off := off) (by omega)
  refine ⟨Ev.splice A off vs', hw, by omega, ?_, fun q => ⟨(h1 q).1, by rw [l1, l2]; exact (h1 q).2⟩, fun q => ⟨(h2 q).1, by rw [l2]; exact (h2 q).2⟩⟩
  rw [l1, splice_take (by omega) hle]
  exact hv.splice hvs
def evStore (P : Program) (t : TypeId) (p x : Value) (σ : Hp) (n : Nat) : Option Eff :=
  match p with
  | .pointer (some ⟨b, off, none⟩) => match σ b with
    | some (.row cs e sz ex) => match pureRun P (sizeOf t) with
      | some k => let c := x.cells.toList
        bif Nat.beq c.length k && Nat.ble (off + k) cs.length && c.all one then some ⟨undef, [b], [(b, some (.row (splice cs off c) e sz ex))], n, n⟩ else none
      | none => none
    | _ => none
  | _ => none
theorem evStore_ok {t : TypeId} {p x : Operand} {E : Eff} (ho : o.op = .store t p x) (h : evStore P t (ρ p) (ρ x) σ n = some E) : OpOK P G o ρ σ E ∧ E.lo = n ∧ n ≤ E.hi := by
  unfold evStore at h
  split at h
  · rename_i b off hp
    split at h
    · rename_i cs e sz ex hs
      split at h
      · rename_i k hk
        cases hb : (Nat.beq (ρ x).cells.toList.length k && Nat.ble (off + k) cs.length && (ρ x).cells.toList.all one) with
        | false => simp only [hb, cond_false] at h; cases h
        | true =>
          simp only [hb, cond_true, Option.some.injEq] at h
          subst h
          simp only [Bool.and_eq_true] at hb
          have hb1 := Nat.eq_of_beq_eq_true hb.1.1
          have hb2 := Nat.le_of_ble_eq_true hb.1.2
          refine ⟨?_, rfl, Nat.le_refl _⟩
          intro ι a w _ hv _ _ hH K Q hK
          have hc := hv p (by simp [ho, Op.operands])
          have hd := hv x (by simp [ho, Op.operands])
          rw [hp] at hc
          obtain ⟨k', c, e', hi⟩ := hc.ptr_inv
          obtain ⟨A, q1, q2, q3, q4, q5⟩ := row_at hH (by simp) hs hi
          have hcl := hd.cells
          have hll := hcl.length
          have h1 := ones_of hcl hb.2
          have hst := run_storeCells_at P k' off e (a.eval x).cells.toList 0 ⟨A⟩ w q1 (by simp; simp at hll hb1; omega) h1
          simp only [Nat.add_zero] at hst
          have hrun : (execOp a.eval o).run P w = .ok .skip (w.setRow k' (A.take off ++ (a.eval x).cells.toList ++ A.drop (off + (a.eval x).cells.toList.length)).toArray) := by
            unfold execOp
            have hsz : (a.eval x).cells.size = k := by simp at hll hb1; omega
            simp only [ho, e', Instr.storeAt, Instr.sureAddr, storeVar, Sem.run_bind, Sem.run_pure, Result.andThen_ok, pureRun_run hk w, hsz, ne_eq, not_true_eq_false, if_false, hst]
          unfold Oper.wp
          rw [hrun]
          refine hK ι undef _ (Step.put hi (setRow_size _ _ _) (fun j hj => setRow_other _ _ _ _ hj) ⟨rfl, rfl, rfl⟩ ?_ (.same rfl))
          refine BR.splice q2 q3 q4 q5 hcl (by omega) ?_
          exact setRow_heap w k' ⟨A⟩ _ e (0, 0) q1
      · cases h
    · cases h
  · cases h

/-- a slice's literal -/
def evBuildSlice (P : Program) (t : TypeId) (len : Nat) (ps : List (Nat × Value)) (n : Nat) : Option Eff :=
  match pureRun P (underlying t) with
  | some (.slice e) => match pureRun P (sizeOf e), pureRun P (zeroValue e) with
    | some k, some z => bif Nat.ble (len * k) 16777216 then
        let zs := zerosL z.cells (len * k)
        bif zs.all (free 2) then (fillL (fun i => some (i * k, k)) zs ps).map fun r => ⟨.slice (some ⟨n, 0, none⟩) len len, [], [(n, some (.row r e k true))], n, n + 1⟩ else none
      else none
    | _, _ => none
  | _ => none
theorem evBuildSlice_ok {t : TypeId} {len : Nat} {ps : Array (Nat × Operand)} {E : Eff} (ho : o.op = .buildSlice t len ps) (h : evBuildSlice P t len (ps.toList.map fun p => (p.1, ρ p.2)) n = some E) : OpOK P G o ρ σ E ∧ E.lo = n ∧ n ≤ E.hi := by
  unfold evBuildSlice at h
  split at h
  · rename_i e hu
    split at h
    · rename_i k z hk hz
      cases hb : Nat.ble (len * k) 16777216 with
      | false => rw [hb] at h; cases h
      | true =>
        rw [hb] at h
        simp only [cond_true] at h
        have hb' := Nat.le_of_ble_eq_true hb
        cases hf : (zerosL z.cells (len * k)).all (free 2) with
        | false => rw [hf] at h; cases h
        | true =>
          rw [hf] at h
          simp only [cond_true] at h
          cases hr : fillL (fun i => some (i * k, k)) (zerosL z.cells (len * k)) (ps.toList.map fun p => (p.1, ρ p.2)) with
          | none => rw [hr] at h; cases h
          | some r =>
            rw [hr] at h
            simp only [Option.map_some, Option.some.injEq] at h
            subst h
            refine ⟨ok_new fun ι a w hv => ?_, rfl, Nat.le_succ _⟩
            obtain ⟨r', h1, h2⟩ := fillL_ok (place := fun i => some (i * k, k)) (fun i => rfl) (ps' := ps.toList.map fun p => (p.1, a.eval p.2)) hr (frees_refl (ι := ι) hf) (by simp [List.map_map, Function.comp_def]) (by
              simp only [List.map_map, Function.comp_def]
              have : ∀ (l : List (Nat × Operand)), (∀ p ∈ l, VR ι (ρ p.2) (a.eval p.2)) → VRs ι (l.map fun p => ρ p.2) (l.map fun p => a.eval p.2) := by
                intro l
                induction l with
                | nil => intro _; exact .nil
                | cons p l ih => intro h; exact .cons (h p (by simp)) (ih fun q hq => h q (by simp [hq]))
              exact this _ fun p hp => hv p.2 (by simp only [ho, Op.operands]; simp; exact ⟨p.1, by simpa using hp⟩))
            refine ⟨r', .slice (some ⟨w.heap.size, 0, none⟩) len len, h2, fun ι' _ e => .slice e rfl (Nat.le_refl _), ?_⟩
            unfold execOp
            have hb2 : ¬ (len * k > 2 ^ 24) := by omega
            simp only [ho, Instr.buildSlice, Sem.run_bind, pureRun_run hu w, Result.andThen_ok, pureRun_run hk w, hb2, if_false]
            by_cases q : len * k = 0
            · simp only [q, if_true, Sem.run_bind, Sem.run_pure, Result.andThen_ok]
              rw [show (Array.map (fun j => (#[] : Array Value)[j % (#[] : Array Value).size]!) (Array.range 0)) = ⟨zerosL z.cells (len * k)⟩ by rw [q]; exact Array.ext' (by simp [zerosL])]
              simp only [Array.toList_map, h1, Sem.run_bind, newRow, run_newObj_alloc, Result.andThen_ok, Sem.run_pure]
            · simp only [q, if_false, Sem.run_bind, Sem.run_pure, Result.andThen_ok, pureRun_run hz w]
              rw [zerosL_arr]
              simp only [Array.toList_map, h1, Sem.run_bind, newRow, run_newObj_alloc, Result.andThen_ok, Sem.run_pure]
    · cases h
  · cases h
end
end Go.Ev
