/-
  Evaluation of calls, part 9: operations on memory. No program in sight.
-/
import Derived.Test.YtelnnjofccldgaaGreatDoorEvP
import Derived.Deep.Upon
import Derived.Deep.MidRow
namespace Go.Ev
open Go
section
variable {P : Program} {G : Nat} {o : Oper} {ρ : Operand → Value} {σ : Hp} {n : Nat}

def put1 (ι : Img) (n k c : Nat) : Img := fun b => if b = n then some (k, c) else ι b
theorem put1_ext {ι : Img} {n k c : Nat} (h : ι n = none) : Ext1 ι (put1 ι n k c) := fun b x e => by
  unfold put1
  split
  · rename_i q; subst q; rw [h] at e; cases e
  · exact e
theorem put1_at (ι : Img) (n k c : Nat) : put1 ι n k c n = some (k, c) := by simp [put1]
theorem put1_ne {ι : Img} {n k c b : Nat} (h : b ≠ n) : put1 ι n k c b = ι b := by simp [put1, h]

/-- a world with one block more -/
structure NewB (w w' : World) (ob : Obj) : Prop where
  size : w'.heap.size = w.heap.size + 1
  old : ∀ k, k < w.heap.size → w'.heap[k]? = w.heap[k]?
  new : w'.heap[w.heap.size]? = some ob
  rest : Same3 w w'
theorem NewB.alloc (w : World) (ob : Obj) : NewB w (w.alloc ob) ob := by
  have e : (w.alloc ob).heap = w.heap.push ob := rfl
  refine ⟨by rw [e]; exact Array.size_push .., fun k hk => ?_, ?_, ⟨rfl, rfl, rfl⟩⟩
  · rw [e, Array.getElem?_push_lt hk, Array.getElem?_eq_getElem hk]
  · rw [e]; exact Array.getElem?_push_size
theorem NewB.drew (w : World) (ob : Obj) : NewB w (w.drew.alloc ob) ob := ⟨(NewB.alloc w.drew ob).size, (NewB.alloc w.drew ob).old, (NewB.alloc w.drew ob).new, ⟨rfl, rfl, rfl⟩⟩

theorem Step.fresh {ι : Img} {w w' : World} {n c : Nat} {ob : Obj} {B : Blk} {v v' : Value} {rd : List Nat} {kills : List Nat} (hn : ι n = none) (hw : NewB w w' ob) (hB : BR (put1 ι n w.heap.size c) w' w.heap.size c B) (hv : VR (put1 ι n w.heap.size c) v v') :
    Step ι w (put1 ι n w.heap.size c) w' ⟨v, rd, (n, some B) :: kills.map (fun d => (d, none)), n, n + 1⟩ v' := by
  have hk : ∀ b x, look (kills.map fun d => (d, (none : Option Blk))) b = some x → x = none := by
    intro b x
    induction kills with
    | nil => intro h; simp [look] at h
    | cons d l ih =>
      intro h
      simp only [List.map_cons, look] at h
      split at h
      · simpa using h.symm
      · exact ih h
  have only : ∀ b B', look ((n, some B) :: kills.map fun d => (d, (none : Option Blk))) b = some (some B') → b = n ∧ B' = B := fun b B' h => by
    simp only [look] at h
    split at h
    · rename_i q
      simp only [beq_iff_eq] at q
      simp only [Option.some.injEq] at h
      exact ⟨q.symm, h.symm⟩
    · have := hk b _ h; cases this
  refine ⟨hv, put1_ext hn, fun b e e' => ?_, by have := hw.size; omega, fun k hk' hno => hw.old k hk', fun b B' h => ?_, fun b b' B1 B2 k c1 c2 h1 h2 _ _ => ?_, fun b k c' e e' => ?_, hw.rest⟩
  · by_cases q : b = n
    · subst q; exact ⟨Nat.le_refl _, Nat.lt_succ_self _⟩
    · rw [put1_ne q, e] at e'; exact absurd rfl e'
  · obtain ⟨rfl, rfl⟩ := only b B' h
    exact ⟨_, _, put1_at _ _ _ _, hB⟩
  · rw [(only b B1 h1).1, (only b' B2 h2).1]
  · by_cases q : b = n
    · subst q
      rw [put1_at] at e'
      simp only [Option.some.injEq, Prod.mk.injEq] at e'
      exact .inl (by omega)
    · rw [put1_ne q, e] at e'; cases e'

/-- a new row -/
theorem ok_new {cs : List Value} {e : TypeId} {sz : Nat} {v : Value} (h : ∀ (ι : Img) (a : Act) (w : World), (∀ x ∈ o.op.operands, VR ι (ρ x) (a.eval x)) →
      ∃ (A : List Value) (v' : Value), VRs ι cs A ∧ (∀ ι', Ext1 ι ι' → ι' n = some (w.heap.size, big) → VR ι' v v') ∧ (execOp a.eval o).run P w = .ok (.value v') (w.alloc (.cells ⟨A⟩ e (0, 0)))) :
    OpOK P G o ρ σ ⟨v, [], [(n, some (.row cs e sz true))], n, n + 1⟩ := by
  intro ι a w _ ho hfr _ _ K Q hK
  obtain ⟨A, v', h1, h2, h3⟩ := h ι a w ho
  have hn : ι n = none := hfr n (Nat.le_refl _) (Nat.lt_succ_self _)
  unfold Oper.wp
  rw [h3]
  have hl := h1.length
  have e1 := put1_ext (k := w.heap.size) (c := big) hn
  refine hK _ v' _ (Step.fresh (kills := []) hn (NewB.alloc w _) ⟨A, (NewB.alloc w _).new, by omega, ?_, fun _ => ⟨rfl, by omega⟩, fun q => by cases q⟩ (h2 _ e1 (put1_at _ _ _ _)))
  rw [List.take_of_length_le (by omega)]
  exact h1.mono e1
def evAlloc (P : Program) (e : TypeId) (n : Nat) : Option Eff :=
  match pureRun P (zeroValue e) with
  | some z => bif z.cells.toList.all (free 2) then some ⟨.pointer (some ⟨n, 0, none⟩), [], [(n, some (.row z.cells.toList e 0 true))], n, n + 1⟩ else none
  | none => none
theorem evAlloc_ok {e : TypeId} {E : Eff} (ho : o.op = .alloc e) (h : evAlloc P e n = some E) : OpOK P G o ρ σ E ∧ E.lo = n ∧ n ≤ E.hi := by
  unfold evAlloc at h
  split at h
  · rename_i z hz
    cases hf : z.cells.toList.all (free 2) with
    | false => rw [hf] at h; cases h
    | true =>
      rw [hf] at h
      simp only [cond_true, Option.some.injEq] at h
      subst h
      refine ⟨ok_new fun ι a w hv => ⟨z.cells.toList, .pointer (some ⟨w.heap.size, 0, none⟩), frees_refl hf, fun ι' _ e => .ptr e, ?_⟩, rfl, Nat.le_succ _⟩
      unfold execOp
      simp only [ho, Instr.alloc, Sem.run_bind, pureRun_run hz w, Result.andThen_ok, newVar, newRow, run_newObj_alloc, Sem.run_pure]
  · cases h
theorem ok_box {e : TypeId} {x : Operand} (ho : o.op = .box e x) : OpOK P G o ρ σ ⟨.pointer (some ⟨n, 0, none⟩), [], [(n, some (.row (ρ x).cells.toList e 0 true))], n, n + 1⟩ :=
  ok_new fun ι a w hv => ⟨(a.eval x).cells.toList, .pointer (some ⟨w.heap.size, 0, none⟩), (hv x (by simp [ho, Op.operands])).cells, fun ι' _ e => .ptr e, by
    unfold execOp
    simp only [ho, Instr.box, Sem.run_bind, Result.andThen_ok, newVar, newRow, run_newObj_alloc, Sem.run_pure]⟩

/-- the cells of so many zeros -/
def zerosL (z : Array Value) (k : Nat) : List Value := (List.range k).map fun i => z[i % z.size]!
theorem zerosL_arr (z : Array Value) (k : Nat) : (Array.range k).map (fun i => z[i % z.size]!) = ⟨zerosL z k⟩ := by
  apply Array.ext'
  simp [zerosL]
def evMakeSlice (P : Program) (t : TypeId) (l c : Value) (n : Nat) : Option Eff :=
  match pureRun P (underlying t), l, c with
  | some (.slice e), .int _ l, .int _ c => match pureRun P (typeInfo e), pureRun P (zeroValue e) with
    | some i, some z => bif decide (0 ≤ l) && decide (l ≤ c) && decide (c * i.bytes ≤ 1099511627776) && decide (c ≤ 1048576) then
        let r := zerosL z.cells (c.toNat * i.size)
        bif r.all (free 2) then some ⟨.slice (some ⟨n, 0, none⟩) l.toNat c.toNat, [], [(n, some (.row r e i.size true))], n, n + 1⟩ else none
      else none
    | _, _ => none
  | _, _, _ => none
theorem evMakeSlice_ok {t : TypeId} {x y : Operand} {E : Eff} (ho : o.op = .makeSlice t x y) (h : evMakeSlice P t (ρ x) (ρ y) n = some E) : OpOK P G o ρ σ E ∧ E.lo = n ∧ n ≤ E.hi := by
  unfold evMakeSlice at h
  split at h
  · rename_i e k1 l k2 c hu hx hy
    split at h
    · rename_i i z hi hz
      cases hb : (decide (0 ≤ l) && decide (l ≤ c) && decide (c * i.bytes ≤ 1099511627776) && decide (c ≤ 1048576)) with
      | false => rw [hb] at h; cases h
      | true =>
        rw [hb] at h
        simp only [cond_true] at h
        simp only [Bool.and_eq_true, decide_eq_true_eq] at hb
        obtain ⟨⟨⟨h0, h1⟩, h2⟩, h3⟩ := hb
        cases hf : (zerosL z.cells (c.toNat * i.size)).all (free 2) with
        | false => rw [hf] at h; cases h
        | true =>
          rw [hf] at h
          simp only [cond_true, Option.some.injEq] at h
          subst h
          refine ⟨ok_new fun ι a w hv => ⟨zerosL z.cells (c.toNat * i.size), .slice (some ⟨w.heap.size, 0, none⟩) l.toNat c.toNat, frees_refl hf, fun ι' _ e => .slice e rfl (by omega), ?_⟩, rfl, Nat.le_succ _⟩
          have hc := hv x (by simp [ho, Op.operands])
          have hd := hv y (by simp [ho, Op.operands])
          rw [hx] at hc; rw [hy] at hd
          have hc' := hc.plain_eq rfl
          have hd' := hd.plain_eq rfl
          have w1 : IntKind.i64.wrap l = l := IntWalk.i64_in _ ⟨by omega, by omega⟩
          have w2 : IntKind.i64.wrap c = c := IntWalk.i64_in _ ⟨by omega, by omega⟩
          have b0 : 0 ≤ (i.bytes : Int) * c := Int.mul_nonneg (by omega) (by omega)
          have b1 : (i.bytes : Int) * c ≤ 1099511627776 := by rw [Int.mul_comm]; exact h2
          unfold execOp
          simp only [ho, hc', hd', Instr.makeSlice, Sem.run_bind, pureRun_run hu w, pureRun_run hi w, Result.andThen_ok, asInt, asIntOf, Sem.run_pure, w1, w2]
          have t1 : (decide (c < 0) || decide ((i.bytes : Int) * c > 2 ^ 48) || decide (l < 0) || decide (l > c)) = false := by
            simp only [Bool.or_eq_false_iff, decide_eq_false_iff_not]
            omega
          rw [if_neg (by simpa using t1)]
          have t2 : (askRoom (c.toNat * i.bytes)).run P w = .ok () w := by
            unfold askRoom
            split <;> rfl
          simp only [Sem.run_bind, t2, sizeOf, pureRun_run hi w, Result.andThen_ok, Sem.run_pure]
          by_cases q : c.toNat * i.size = 0
          · simp only [q, if_true, Sem.run_bind, Sem.run_pure, Result.andThen_ok, newRow, run_newObj_alloc]
            rw [show (Array.map (fun x => (#[] : Array Value)[x % (#[] : Array Value).size]!) (Array.range 0)) = ⟨zerosL z.cells 0⟩ from Array.ext' (by simp [zerosL])]
          · simp only [q, if_false, Sem.run_bind, Sem.run_pure, Result.andThen_ok, newRow, run_newObj_alloc, pureRun_run hz w]
            rw [zerosL_arr]
    · cases h
  · cases h
end
end Go.Ev
