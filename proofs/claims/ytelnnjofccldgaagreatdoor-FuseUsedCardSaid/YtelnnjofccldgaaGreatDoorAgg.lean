/-
  Aggregates taken whole: loads, new variables and stores of structs of many cells, the cells a name. No program in sight.
-/
import Derived.Test.YtelnnjofccldgaaGreatDoorOwn
import Derived.Laws.CopyRow
import Derived.Shelf.SlicesQ.Load
import Derived.Deep.QuietTactic
namespace Go.Tw
open Go.RowKit
section
variable {P : Program}
theorem run_loadA {t : TypeId} {p : Addr} {A : Array Value} {n : Nat} {w : World} (hag : ∀ w, (isAgg t).run P w = .ok true w) (hsz : ∀ w, (sizeOf t).run P w = .ok n w) (hld : Sem.run P (loadCellsFrom p 0 n #[]) w = .ok A w) :
    Sem.run P (Instr.loadAt t (.pointer (some p))) w = .ok (.agg A) w := by
  unfold Instr.loadAt Instr.sureAddr loadVar
  simp only [Sem.run_bind, Sem.run_pure, Result.andThen_ok, hag, if_true]
  simp only [Result.andThen_ok, hsz, loadCells, hld]
theorem exec_loadA {o : Oper} {a : Act} {w : World} {x : Operand} {t : TypeId} (ho : o.op = .load t x) {p : Addr} {A : Array Value} {n : Nat} (hag : ∀ w, (isAgg t).run P w = .ok true w) (hsz : ∀ w, (sizeOf t).run P w = .ok n w)
    (hx : a.eval x = .pointer (some p)) (hld : Sem.run P (loadCellsFrom p 0 n #[]) w = .ok A w) : (execOp a.eval o).run P w = .ok (.value (.agg A)) w := by
  unfold execOp
  simp only [ho, hx, Sem.run_bind, Sem.run_pure, Result.andThen_ok, run_loadA hag hsz hld]
theorem wpList_loadA {ops : Array Oper} {rest : List Oper} {o : Oper} {a : Act} {w : World} {Q : Exit → Act → World → Prop} (x : Operand) (hgd : o.guard = none) (t : TypeId) (ho : o.op = .load t x) {p : Addr} {A : Array Value} {n : Nat} (hag : ∀ w, (isAgg t).run P w = .ok true w) (hsz : ∀ w, (sizeOf t).run P w = .ok n w)
    (hx : a.eval x = .pointer (some p)) (hld : Sem.run P (loadCellsFrom p 0 n #[]) w = .ok A w) (h : wpList P ops Q rest (a.put o.dst (.agg A)) w) : wpList P ops Q (o :: rest) a w :=
  wpList_plain hgd fun _ hK => by
    unfold Oper.wp
    rw [exec_loadA ho hag hsz hx hld]
    exact hK _ _ h
/-- .. in a drawing region, quiet -/
theorem quiet_loadA {o : Oper} {a : Act} {C : World → Prop} {K : Act → Prop} {x : Operand} {t : TypeId} (ho : o.op = .load t x) {p : Addr} {A : Array Value} {n : Nat} (hag : ∀ w, (isAgg t).run P w = .ok true w) (hsz : ∀ w, (sizeOf t).run P w = .ok n w)
    (hx : a.eval x = .pointer (some p)) (hld : ∀ w, C w → Sem.run P (loadCellsFrom p 0 n #[]) w = .ok A w) (h : K (a.put o.dst (.agg A))) : o.quiet P a C K :=
  ⟨.agg A, fun w hw => by
    unfold Oper.quietAt
    rw [exec_loadA ho hag hsz hx (hld w hw)]
    exact ⟨rfl, rfl⟩, h⟩
theorem alloc_setRow (w : World) (Z A : Array Value) (t : TypeId) : (w.alloc (.cells Z t)).setRow w.heap.size A = w.alloc (.cells A t) := by
  have hb : ∀ k, ((w.alloc (.cells Z t)).setRow w.heap.size A).heap[k]? = (w.alloc (.cells A t)).heap[k]? := fun k => by
    by_cases e : k = w.heap.size
    · subst e
      rw [setRow_heap _ _ Z A t (0, 0) (heap_alloc_new _ _)]
      exact (heap_alloc_new _ _).symm
    · rw [setRow_other _ _ _ _ e]
      by_cases hk : k < w.heap.size
      · rw [Below.heap_alloc _ _ _ hk, Below.heap_alloc _ _ _ hk]
      · rw [Array.getElem?_eq_none (by simp; omega), Array.getElem?_eq_none (by simp; omega)]
  unfold World.setRow at hb ⊢
  unfold World.alloc at hb ⊢
  congr 1
  exact Array.ext_getElem? hb
theorem run_newA {t : TypeId} {n : Nat} {z : Array Value} {A : Array Value} {w : World} (hsz : ∀ w, (sizeOf t).run P w = .ok n w) (hz : z.size = n) (hA : A.size = n) (h1 : ∀ v ∈ A.toList, v.oneCell' = true) :
    Sem.run P (Instr.storeAt t (.pointer (some ⟨w.heap.size, 0, none⟩)) (.agg A)) (w.alloc (.cells z t)) = .ok () (w.alloc (.cells A t)) := by
  unfold Instr.storeAt Instr.sureAddr storeVar
  simp only [Sem.run_bind, Sem.run_pure, Result.andThen_ok, hsz, Value.cells]
  simp only [hA, ne_eq, not_true_eq_false, ↓reduceIte]
  have := run_storeCells_at P w.heap.size 0 t A.toList 0 z (w.alloc (.cells z t)) (heap_alloc_new _ _) (by simp [hA, hz]) h1
  rw [this]
  congr 1
  rw [← alloc_setRow w z A t]
  congr 1
  have e : z.size ≤ A.size := by omega
  simp [List.drop_eq_nil_of_le, e]
/-- a new variable, and a whole aggregate stored into it -/
theorem wpList_newA {ops : Array Oper} {rest : List Oper} {o1 o2 : Oper} {a : Act} {w : World} {Q : Exit → Act → World → Prop} (d : Nat) (hd : o1.dst = some d) (x : Operand) (hg1 : o1.guard = none) (hg2 : o2.guard = none) (t : TypeId) (ho1 : o1.op = .alloc t) (ho2 : o2.op = .store t (.tmp d) x) (hd2 : o2.dst = none)
    {A z : Array Value} {n : Nat} (hsz : ∀ w, (sizeOf t).run P w = .ok n w) (hzv : ∀ w, (zeroValue t).run P w = .ok (.agg z) w) (hz : z.size = n) (hA : A.size = n) (h1 : ∀ v ∈ A.toList, v.oneCell' = true)
    (hlt : d < a.tmps.size) (hx : (a.put (some d) (.pointer (some ⟨w.heap.size, 0, none⟩))).eval x = .agg A)
    (h : wpList P ops Q rest (a.put (some d) (.pointer (some ⟨w.heap.size, 0, none⟩))) (w.alloc (.cells A t))) : wpList P ops Q (o1 :: o2 :: rest) a w := by
  refine wpList_plain hg1 fun _ hK => ?_
  have e1 : (execOp a.eval o1).run P w = .ok (.value (.pointer (some ⟨w.heap.size, 0, none⟩))) (w.alloc (.cells z t)) := by
    unfold execOp
    simp only [ho1, Instr.alloc, Sem.run_bind, Sem.run_pure, Result.andThen_ok, hzv, newVar, newRow, Value.cells, run_newObj_alloc]
  unfold Oper.wp
  rw [e1]
  refine hK _ _ ?_
  rw [hd]
  refine wpList_plain hg2 fun _ hK2 => ?_
  have e2 : (execOp (a.put (some d) (.pointer (some ⟨w.heap.size, 0, none⟩))).eval o2).run P (w.alloc (.cells z t)) = .ok .skip (w.alloc (.cells A t)) := by
    unfold execOp
    have he : (a.put (some d) (.pointer (some ⟨w.heap.size, 0, none⟩))).eval (.tmp d) = .pointer (some ⟨w.heap.size, 0, none⟩) := by
      simp [Act.put, Act.eval, hlt]
    simp only [ho2, hx, he, Sem.run_bind, Sem.run_pure, Result.andThen_ok, run_newA hsz hz hA h1]
  unfold Oper.wp
  rw [e2]
  refine hK2 _ _ ?_
  rw [hd2]
  exact h
theorem foldl_set_get : ∀ (l : List Value) (k : Nat) (cs : Array Value) (t : Nat), k + l.length ≤ cs.size → ((l.zipIdx k).foldl (fun cs (p : Value × Nat) => cs.setIfInBounds (0 + p.2) p.1) cs)[t]? = if k ≤ t ∧ t < k + l.length then l[t - k]? else cs[t]?
  | [], k, cs, t, _ => by simp; omega
  | v :: l, k, cs, t, h => by
    simp only [List.length_cons] at h ⊢
    rw [List.zipIdx_cons, List.foldl_cons, foldl_set_get l (k + 1) _ t (by simp; omega)]
    simp only [Nat.zero_add]
    by_cases h1 : t = k
    · subst h1
      rw [if_neg (by omega), if_pos (by omega), Array.getElem?_setIfInBounds, if_pos rfl, if_pos (by omega)]
      simp
    · by_cases h2 : k + 1 ≤ t ∧ t < k + 1 + l.length
      · rw [if_pos h2, if_pos (by omega), show t - k = (t - (k + 1)) + 1 by omega, List.getElem?_cons_succ]
      · rw [if_neg h2, if_neg (by omega), Array.getElem?_setIfInBounds, if_neg (fun e => h1 e.symm)]
theorem foldl_set_all (A cs : Array Value) (h : A.size = cs.size) : A.zipIdx.foldl (fun cs (p : Value × Nat) => cs.setIfInBounds (0 + p.2) p.1) cs = A := by
  have e : A.zipIdx.foldl (fun cs (p : Value × Nat) => cs.setIfInBounds (0 + p.2) p.1) cs = (A.toList.zipIdx 0).foldl (fun cs (p : Value × Nat) => cs.setIfInBounds (0 + p.2) p.1) cs := by
    rw [← Array.foldl_toList, Array.toList_zipIdx]
  rw [e]
  apply Array.ext_getElem?
  intro t
  rw [foldl_set_get _ _ _ _ (by simp [h])]
  by_cases ht : t < A.size
  · rw [if_pos (by simp; omega)]; simp
  · rw [if_neg (by simp; omega), Array.getElem?_eq_none (by omega), Array.getElem?_eq_none (by omega)]
theorem run_buildA {ty e : TypeId} {n : Nat} {z A : Array Value} {w : World} (hu : P.underlying ty = some (.slice e)) (hsz : ∀ w, (sizeOf e).run P w = .ok n w) (hzv : ∀ w, (zeroValue e).run P w = .ok (.agg z) w) (hn : 0 < n) (hn2 : n ≤ 1000) (hA : A.size = n) :
    Sem.run P (Instr.buildSlice ty 1 #[(0, .agg A)]) w = .ok (.slice (some ⟨w.heap.size, 0, none⟩) 1 1) (w.alloc (.cells A e)) := by
  have hr := run_underlying (P := P) hu
  have h1 : ¬ (1 * n > 2 ^ 24) := by omega
  have h2 : ¬ (1 * n = 0) := by omega
  have hf := foldl_set_all A ((Array.range (1 * n)).map (z[· % z.size]!)) (by simp [hA])
  unfold Instr.buildSlice
  simp only [Sem.run_bind, Result.andThen_ok, hr, hsz]
  simp only [h1, h2, ↓reduceIte, Sem.run_bind, Sem.run_pure, Result.andThen_ok, hzv, Value.cells]
  have hfill : Instr.fill (fun i => some (i * n, n)) ((Array.range (1 * n)).map (z[· % z.size]!)) [(0, .agg A)] = some A := by
    unfold Instr.fill
    simp only [Value.cells, Nat.zero_mul]
    rw [if_neg (by simp [hA])]
    unfold Instr.fill
    rw [hf]
  simp only [hfill]
  simp only [Sem.run_bind, Sem.run_pure, Result.andThen_ok, newRow, run_newObj_alloc]
theorem wpList_buildA {ops : Array Oper} {rest : List Oper} {o : Oper} {a : Act} {w : World} {Q : Exit → Act → World → Prop} (x : Operand) (hgd : o.guard = none) (ty : TypeId) (ho : o.op = .buildSlice ty 1 #[(0, x)]) {e : TypeId} {n : Nat} {z A : Array Value} (hu : P.underlying ty = some (.slice e)) (hsz : ∀ w, (sizeOf e).run P w = .ok n w) (hzv : ∀ w, (zeroValue e).run P w = .ok (.agg z) w) (hn : 0 < n) (hn2 : n ≤ 1000)
    (hx : a.eval x = .agg A) (hA : A.size = n) (h : wpList P ops Q rest (a.put o.dst (.slice (some ⟨w.heap.size, 0, none⟩) 1 1)) (w.alloc (.cells A e))) : wpList P ops Q (o :: rest) a w :=
  wpList_plain hgd fun _ hK => by
    have e1 : (execOp a.eval o).run P w = .ok (.value (.slice (some ⟨w.heap.size, 0, none⟩) 1 1)) (w.alloc (.cells A e)) := by
      unfold execOp
      simp only [ho, hx, Sem.run_bind, Sem.run_pure, Result.andThen_ok, List.map_toArray, List.map_cons, List.map_nil, run_buildA hu hsz hzv hn hn2 hA]
    unfold Oper.wp
    rw [e1]
    exact hK _ _ h
end
end Go.Tw
