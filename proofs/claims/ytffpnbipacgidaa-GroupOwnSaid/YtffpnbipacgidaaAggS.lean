/-
  A whole aggregate stored into an element of a slice of the call's own. No program in sight.
-/
import Derived.Test.YtffpnbipacgidaaAgg
import Derived.Test.YtffpnbipacgidaaDeep2
namespace Go.Tw
open Go.RowKit
section
variable {P : Program}
theorem run_storeA {t t2 : TypeId} {n g k : Nat} {cur A : Array Value} {w : World} (hsz : ∀ w, (sizeOf t).run P w = .ok n w) (hA : A.size = n) (h1 : ∀ v ∈ A.toList, v.oneCell' = true) (hg : w.heap[g]? = some (.cells cur t2 (0, 0))) (hl : k + n ≤ cur.size) :
    Sem.run P (Instr.storeAt t (.pointer (some ⟨g, k, none⟩)) (.agg A)) w = .ok () (w.setRow g (cur.toList.take k ++ A.toList ++ cur.toList.drop (k + n)).toArray) := by
  unfold Instr.storeAt Instr.sureAddr storeVar
  simp only [Sem.run_bind, Sem.run_pure, Result.andThen_ok, hsz, Value.cells]
  simp only [hA, ne_eq, not_true_eq_false, ↓reduceIte]
  have := run_storeCells_at P g k t2 A.toList 0 cur w hg (by simp [hA]; omega) h1
  rw [this]
  simp [hA]
theorem wp_storeA {o : Oper} {a : Act} {w : World} {K : Act → World → Prop} {Q : Exit → Act → World → Prop} (p x : Operand) (t : TypeId) (ho : o.op = .store t p x) (hd : o.dst = none)
    {A cur : Array Value} {n g k : Nat} {t2 : TypeId} (hsz : ∀ w, (sizeOf t).run P w = .ok n w) (hA : A.size = n) (h1 : ∀ v ∈ A.toList, v.oneCell' = true) (hp : a.eval p = .pointer (some ⟨g, k, none⟩)) (hx : a.eval x = .agg A)
    (hg : w.heap[g]? = some (.cells cur t2 (0, 0))) (hl : k + n ≤ cur.size) (h : K a (w.setRow g (cur.toList.take k ++ A.toList ++ cur.toList.drop (k + n)).toArray)) : o.wp P a w K Q := by
  have e2 : (execOp a.eval o).run P w = .ok .skip (w.setRow g (cur.toList.take k ++ A.toList ++ cur.toList.drop (k + n)).toArray) := by
    unfold execOp
    simp only [ho, hx, hp, Sem.run_bind, Sem.run_pure, Result.andThen_ok, run_storeA hsz hA h1 hg hl]
  unfold Oper.wp
  rw [e2]
  unfold Oper.upon
  rw [hd]
  exact h
theorem wpList_storeA {ops : Array Oper} {rest : List Oper} {o : Oper} {a : Act} {w : World} {Q : Exit → Act → World → Prop} (p x : Operand) (hgd : o.guard = none) (t : TypeId) (ho : o.op = .store t p x) (hd : o.dst = none)
    {A cur : Array Value} {n g k : Nat} {t2 : TypeId} (hsz : ∀ w, (sizeOf t).run P w = .ok n w) (hA : A.size = n) (h1 : ∀ v ∈ A.toList, v.oneCell' = true) (hp : a.eval p = .pointer (some ⟨g, k, none⟩)) (hx : a.eval x = .agg A)
    (hg : w.heap[g]? = some (.cells cur t2 (0, 0))) (hl : k + n ≤ cur.size) (h : wpList P ops Q rest a (w.setRow g (cur.toList.take k ++ A.toList ++ cur.toList.drop (k + n)).toArray)) : wpList P ops Q (o :: rest) a w :=
  wpList_plain hgd fun _ hK => wp_storeA p x t ho hd hsz hA h1 hp hx hg hl (hK _ _ h)
end
variable {α : Type} {T : Ty α} {e : TypeId} {w : World} {v : Value} {l : List α}
theorem AllIs.setAt (hT : T.Flat) {S : Nat → Prop} : ∀ {css : List (List Value)} {l : List α} (i : Nat) {ci : List Value} {y : α}, AllIs T S w css l → T.is S w ci y → ∀ {w' : World}, AllIs T S w' (css.set i ci) (l.set i y)
  | [], [], _, _, _, _, _, _ => by simp [AllIs]
  | _ :: css, _ :: l, 0, _, _, h, hy, _ => ⟨hT hy, AllIs.flat hT h.2⟩
  | _ :: css, _ :: l, i + 1, _, _, h, hy, _ => ⟨hT h.1, AllIs.setAt hT i h.2 hy⟩
  | [], _ :: _, _, _, _, h, _, _ => h.elim
  | _ :: _, [], _, _, _, h, _, _ => h.elim
theorem flat_set_mid : ∀ {css : List (List Value)} {n : Nat} (i : Nat) {ci rest : List Value}, (∀ c ∈ css, c.length = n) → i < css.length → ci.length = n →
    (css.flatten ++ rest).take (i * n) ++ ci ++ (css.flatten ++ rest).drop (i * n + n) = (css.set i ci).flatten ++ rest
  | c :: css, n, 0, ci, rest, h, _, hc => by
    have := h c (by simp)
    simp only [List.flatten_cons, List.append_assoc, Nat.zero_mul, List.take_zero, List.nil_append, Nat.zero_add, List.set_cons_zero]
    rw [List.drop_append_of_le_length (by omega), List.drop_of_length_le (by omega), List.nil_append]
  | c :: css, n, i + 1, ci, rest, h, hi, hc => by
    have hcl := h c (by simp)
    have ih := flat_set_mid (css := css) (n := n) i (ci := ci) (rest := rest) (fun d hd => h d (by simp [hd])) (by simpa using hi) hc
    simp only [List.flatten_cons, List.append_assoc, List.set_cons_succ]
    rw [← ih]
    have e1 : (i + 1) * n = c.length + i * n := by rw [Nat.succ_mul]; omega
    rw [e1, List.take_length_add_append, Nat.add_assoc, List.drop_length_add_append]
    simp
  | [], _, _, _, _, _, h, _ => absurd h (Nat.not_lt_zero _)
theorem AllIs.lens {S : Nat → Prop} : ∀ {css : List (List Value)} {l : List α}, AllIs T S w css l → css.length = l.length ∧ ∀ c ∈ css, c.length = T.sz
  | [], [], _ => ⟨rfl, fun _ h => absurd h List.not_mem_nil⟩
  | c :: css, _ :: l, h => by
    obtain ⟨h1, h2⟩ := AllIs.lens h.2
    refine ⟨by simp [h1], fun d hd => ?_⟩
    rcases List.mem_cons.1 hd with rfl | hd
    · exact T.len h.1
    · exact h2 d hd
  | [], _ :: _, h => h.elim
  | _ :: _, [], h => h.elim
/-- where an own slice's elements lie, and what a whole store into one of them makes of it -/
theorem OwnSl.storeA {B : Nat} (hT : T.Flat) (h : OwnSl T e B w v l) (hl : 0 < l.length) : ∃ g cap cur, v = .slice (some ⟨g, 0, none⟩) l.length cap ∧ B ≤ g ∧ g < w.heap.size ∧ w.heap[g]? = some (.cells cur e (0, 0)) ∧ l.length * T.sz ≤ cur.size ∧
    ∀ (i : Nat) (A : Array Value) (y : α) (S : Nat → Prop), i < l.length → T.is S w A.toList y → OwnSl T e B (w.setRow g (cur.toList.take (i * T.sz) ++ A.toList ++ cur.toList.drop (i * T.sz + T.sz)).toArray) v (l.set i y) := by
  obtain ⟨css, h1, h2⟩ := h
  rcases h1.2 with ⟨_, h'⟩ | ⟨g, cap, cur, rfl, hB, hg, h3, h4, h5, h6⟩
  · omega
  have hlt := (Array.getElem?_eq_some_iff.1 hg).1
  obtain ⟨l1, l2⟩ := h2.lens
  refine ⟨g, cap, cur, rfl, hB, hlt, hg, by rw [h5]; exact Nat.mul_le_mul_right _ h3, fun i A y S hi hy => ?_⟩
  have hAl := T.len hy
  have hfl := h2.flatten_len
  have e1 : cur.toList = css.flatten ++ cur.toList.drop (l.length * T.sz) := by rw [← h6, List.take_append_drop]
  have e2 : cur.toList.take (i * T.sz) ++ A.toList ++ cur.toList.drop (i * T.sz + T.sz) = (css.set i A.toList).flatten ++ cur.toList.drop (l.length * T.sz) := by
    conv => lhs; rw [e1]
    exact flat_set_mid i l2 (by omega) hAl
  have hfl2 : (css.set i A.toList).flatten.length = l.length * T.sz := by
    have := congrArg List.length e2
    have h7 := congrArg List.length e1
    have h8 : (i + 1) * T.sz ≤ l.length * T.sz := Nat.mul_le_mul_right _ hi
    have h9 : l.length * T.sz ≤ cap * T.sz := Nat.mul_le_mul_right _ h3
    rw [Nat.succ_mul] at h8
    simp only [List.length_append, List.length_take, List.length_drop, Array.length_toList, hAl] at this h7
    omega
  refine ⟨css.set i A.toList, ⟨by rw [hfl2, List.length_set], .inr ⟨g, cap, _, by rw [List.length_set], hB, setRow_heap _ _ cur _ e (0, 0) hg, by rw [List.length_set]; exact h3, h4, ?_, ?_⟩⟩, ?_⟩
  · rw [e2]
    have h8 : l.length * T.sz ≤ cap * T.sz := Nat.mul_le_mul_right _ h3
    simp only [List.size_toArray, List.length_append, hfl2, List.length_drop, Array.length_toList]
    omega
  · rw [e2]
    simp only [List.toList_toArray, List.length_set]
    rw [← hfl2, List.take_left']
    rfl
  · exact (AllIs.setAt hT (w' := w.setRow g _) i h2 (hT hy)).keep (fun k hk => ⟨by rw [show (w.setRow g _).heap.size = w.heap.size from by simp [World.setRow]]; exact hk.1, hk.2⟩) (SameOn.refl _ _)
theorem below_setRow {B g : Nat} {w w' : World} {cs : Array Value} (h : Below B w w') (hB : B ≤ w'.heap.size) (hg : B ≤ g) : Below B w (w'.setRow g cs) :=
  h.trans (Below.of_grown (row := some g) ⟨rfl, rfl, rfl, by simp [World.setRow], fun k _ hk => setRow_other w' g k _ (fun e => hk (by simp [e]))⟩ hB (fun k hk => by cases hk; exact hg))
end Go.Tw
