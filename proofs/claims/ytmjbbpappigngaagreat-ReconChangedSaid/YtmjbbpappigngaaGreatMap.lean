/-
  Maps of the call's own, with keys that are numbers or strings: what they hold, as a function. No program in sight.
-/
import Derived.Test.YtmjbbpappigngaaGreatOwn
import Derived.Maps.Own
import Derived.Maps.OwnOps
namespace Go.Tw
open Go.RowKit

/-- a key type: numbers, strings -/
structure KeyTy (κ : Type) [DecidableEq κ] where
  val : κ → Value
  d : TypeDesc
  plain : ∀ (P : Program) (kt : TypeId) (b : Bool) (w : World) (x : κ), P.underlying kt = some d → (Instr.checkKey b 10000 kt (val x)).run P w = .ok () w
  same : ∀ a b, Instr.sameNow d (val a) (val b) = some (decide (a = b))
  bits : ∀ a, Instr.sameBits 10000 (val a) (val a) = true
  inj : ∀ a b, val a = val b → a = b

def kInt : KeyTy Int where
  val := .int .i64
  d := .int .i64
  plain := fun P kt b w x h => by rw [show (10000 : Nat) = 9999 + 1 from rfl, Instr.checkKey]; simp [run_underlying h]
  same := fun a b => by simp only [Instr.sameNow, if_true]; by_cases h : a = b <;> simp [h]
  bits := fun a => by simp [Instr.sameBits]
  inj := fun a b h => by simpa using h
theorem bytes_beq_eq (a b : ByteArray) : (a == b) = decide (a = b) := by
  by_cases h : a = b
  · rw [decide_eq_true h]; exact (MapKept.bytes_beq a b).2 h
  · rw [decide_eq_false h]
    cases e : a == b with
    | false => rfl
    | true => exact absurd ((MapKept.bytes_beq a b).1 e) h
/-- two strings, as the walk compares them -/
theorem str_eq (a b : ByteArray) : (a.toList == b.toList) = decide (a = b) := by rw [← bytes_beq_eq, beq_toListBytes]
def kStr : KeyTy ByteArray where
  val := .string
  d := .string
  plain := fun P kt b w x h => by rw [show (10000 : Nat) = 9999 + 1 from rfl, Instr.checkKey]; simp [run_underlying h]
  same := fun a b => by simp only [Instr.sameNow, bytes_beq_eq]
  bits := fun a => by rw [show (10000 : Nat) = 9999 + 1 from rfl]; simp [Instr.sameBits, bytes_beq_eq]
  inj := fun a b h => by simpa using h

section
variable {κ : Type} [DecidableEq κ] {K : KeyTy κ} {P : Program} {w : World} {b n : Nat} {f : κ → Option Value}

/-- block b is a map of at most n entries that holds f -/
def MapIs (K : KeyTy κ) (w : World) (b : Nat) (f : κ → Option Value) (n : Nat) : Prop :=
  ∃ es clock, w.heap[b]? = some (.map es clock) ∧ es.size ≤ n ∧ ∃ l : List (κ × Value), es.toList.map (fun e => (e.key, e.val)) = l.map (fun p => (K.val p.1, p.2)) ∧ ∀ x, f x = (l.find? fun p => decide (x = p.1)).map (·.2)

theorem MapIs.lt (h : MapIs K w b f n) : b < w.heap.size := by
  obtain ⟨es, clock, h, _⟩ := h
  exact lt_of_heap h
theorem MapIs.mono (h : MapIs K w b f n) {m : Nat} (hm : n ≤ m) : MapIs K w b f m := by
  obtain ⟨es, clock, h1, h2, h3⟩ := h
  exact ⟨es, clock, h1, Nat.le_trans h2 hm, h3⟩
theorem MapIs.kept {w' : World} (h : MapIs K w b f n) (hk : w'.heap[b]? = w.heap[b]?) : MapIs K w' b f n := by
  obtain ⟨es, clock, h1, h2⟩ := h
  exact ⟨es, clock, hk.trans h1, h2⟩
theorem MapIs.alloc (h : MapIs K w b f n) (o : Obj) : MapIs K (w.alloc o) b f n := h.kept (Below.heap_alloc _ _ _ h.lt)
theorem MapIs.below {w' : World} (h : MapIs K w b f n) (hb : Below w.heap.size w w') : MapIs K w' b f n := h.kept (hb.block _ h.lt)
theorem MapIs.drewN (h : MapIs K w b f n) (m : Nat) : MapIs K (w.drewN m) b f n := h.below (below_drewN (Below.refl _ _) m)
theorem MapIs.made (w : World) : MapIs K (w.alloc (.map #[] 0)) w.heap.size (fun _ => none) 0 :=
  ⟨#[], 0, heap_alloc_new _ _, Nat.le_refl _, [], rfl, fun _ => rfl⟩
theorem MapIs.ext {g : κ → Option Value} (h : MapIs K w b f n) (hfg : ∀ x, f x = g x) : MapIs K w b g n := by
  obtain ⟨es, clock, h1, h2, l, h3, h4⟩ := h
  exact ⟨es, clock, h1, h2, l, h3, fun x => (hfg x).symm.trans (h4 x)⟩

theorem findNow_eq (x : κ) : ∀ (es : List MapEntry) (l : List (κ × Value)) (i : Nat), es.map (fun e => (e.key, e.val)) = l.map (fun p => (K.val p.1, p.2)) →
    ∃ r, Instr.findNow K.d (K.val x) es i = some r ∧ r.map (·.2) = (l.find? fun p => decide (x = p.1)).map (·.2) ∧
      ∀ j v, r = some (j, v) → i ≤ j ∧ ∃ e p, es[j - i]? = some e ∧ l[j - i]? = some p ∧ e.key = K.val x ∧ p.1 = x ∧ ∀ q ∈ l.take (j - i), q.1 ≠ x
  | [], [], i, _ => ⟨none, rfl, rfl, fun j v h => (by cases h)⟩
  | e :: es, p :: l, i, h => by
    simp only [List.map_cons, List.cons.injEq, Prod.mk.injEq] at h
    obtain ⟨⟨h1, h2⟩, h3⟩ := h
    rw [Instr.findNow, h1, K.same]
    by_cases hx : x = p.1
    · simp only [hx, decide_true]
      exact ⟨some (i, e.val), rfl, by simp [h2], fun j v hj => by
        simp only [Option.some.injEq, Prod.mk.injEq] at hj
        obtain ⟨rfl, rfl⟩ := hj
        exact ⟨Nat.le_refl _, e, p, by simp, by simp, h1, rfl, fun q hq => by simp at hq⟩⟩
    · simp only [hx, decide_false]
      obtain ⟨r, r1, r2, r3⟩ := findNow_eq x es l (i + 1) h3
      refine ⟨r, r1, by rw [r2, List.find?_cons_of_neg (by simpa using hx)], fun j v hj => ?_⟩
      obtain ⟨g1, e', p', g2, g3, g4, g5, g6⟩ := r3 j v hj
      have ej : j - i = (j - (i + 1)) + 1 := by omega
      refine ⟨by omega, e', p', by rw [ej]; simpa using g2, by rw [ej]; simpa using g3, g4, g5, fun q hq => ?_⟩
      rw [ej, List.take_succ_cons] at hq
      rcases List.mem_cons.1 hq with rfl | hq
      · exact fun e => hx e.symm
      · exact g6 q hq
  | [], _ :: _, _, h => by simp at h
  | _ :: _, [], _, h => by simp at h

theorem MapIs.look (h : MapIs K w b f n) {t kt e : TypeId} (ht : P.underlying t = some (.map kt e)) (hk : P.underlying kt = some K.d) {z : Value} (hz : (zeroValue e).run P w = .ok z w) (x : κ) (ok : Bool) :
    (Instr.lookup t (.map (some b)) (K.val x) ok).run P w = .ok (if ok then .tuple #[(f x).getD z, .bool (f x).isSome] else (f x).getD z) w := by
  obtain ⟨es, clock, h1, h2, l, h3, h4⟩ := h
  obtain ⟨r, r1, r2, r3⟩ := findNow_eq (K := K) x es.toList l 0 h3
  have hget : (getObj b).run P w = .ok (.map es clock) w := by simp [getObj, Sem.run, h1]
  have hc := K.plain P kt es.isEmpty w x hk
  rw [h4 x, ← r2]
  cases r with
  | none => simp [Instr.lookup, run_underlying ht, hget, hc, Instr.findKey, run_underlying hk, r1, hz]
  | some q => simp [Instr.lookup, run_underlying ht, hget, hc, Instr.findKey, run_underlying hk, r1]

theorem MapIs.put (h : MapIs K w b f n) {t kt e : TypeId} (ht : P.underlying t = some (.map kt e)) (hk : P.underlying kt = some K.d) (x : κ) (v : Value) :
    ∃ w', (Instr.mapUpdate t (.map (some b)) (K.val x) v).run P w = .ok () w' ∧ MapIs K w' b (fun y => if y = x then some v else f y) (n + 1) ∧ w.grownBy w' (some b) := by
  obtain ⟨es, clock, h1, h2, l, h3, h4⟩ := h
  obtain ⟨r, r1, r2, r3⟩ := findNow_eq (K := K) x es.toList l 0 h3
  have hget : (getObj b).run P w = .ok (.map es clock) w := by simp [getObj, Sem.run, h1]
  have hc := K.plain P kt false w x hk
  have hset : ∀ o, (setObj b o).run P w = .ok () { w with heap := w.heap.setIfInBounds b o } := fun o => by simp [setObj, Sem.run, h1]
  have hlt := lt_of_heap h1
  have fin : ∀ o, w.grownBy { w with heap := w.heap.setIfInBounds b o } (some b) := fun o => ⟨rfl, rfl, rfl, by simp, fun k _ hne => by
    simp only
    rw [Array.getElem?_setIfInBounds, if_neg (fun e => hne (by rw [e]))]⟩
  cases r with
  | none =>
    refine ⟨{ w with heap := w.heap.setIfInBounds b (.map (es.push { key := K.val x, val := v, born := clock }) (clock + 1)) }, ?_, ⟨es.push { key := K.val x, val := v, born := clock }, clock + 1, ?_, ?_, l ++ [(x, v)], ?_, fun y => ?_⟩, fin _⟩
    · simp [Instr.mapUpdate, run_underlying ht, hget, hc, Instr.findKey, run_underlying hk, r1, hset]
    · simp [hlt]
    · simp; omega
    · simp [h3]
    · have hn : (l.find? fun p => decide (x = p.1)) = none := by
        cases hf : l.find? fun p => decide (x = p.1) with
        | none => rfl
        | some q => rw [hf] at r2; simp at r2
      simp only
      by_cases hy : y = x
      · subst hy
        rw [if_pos rfl, List.find?_append, hn]; simp
      · rw [if_neg hy, h4 y, List.find?_append]
        cases l.find? fun p => decide (y = p.1) with
        | some q => rfl
        | none => simp [hy]
  | some q =>
    obtain ⟨j, v0⟩ := q
    obtain ⟨_, e0, p0, g2, g3, g4, g5, g6⟩ := r3 j v0 rfl
    simp only [Nat.sub_zero] at g2 g3 g6
    have hjl : j < es.size := by
      have := (List.getElem?_eq_some_iff.1 g2).1
      simpa using this
    have hej : es[j]? = some e0 := by rw [← g2]; simp
    refine ⟨{ w with heap := w.heap.setIfInBounds b (.map (es.modify j fun e => { e with key := K.val x, val := v }) clock) }, ?_, ⟨es.modify j fun e => { e with key := K.val x, val := v }, clock, ?_, ?_, l.set j (x, v), ?_, fun y => ?_⟩, fin _⟩
    · simp [Instr.mapUpdate, run_underlying ht, hget, hc, Instr.findKey, run_underlying hk, r1, Instr.keyThatStays, hej, g4, K.bits, hset]
    · simp [hlt]
    · simp; omega
    · apply List.ext_getElem?
      intro i
      have hi := congrArg (fun z => z[i]?) h3
      simp only [List.getElem?_map] at hi
      simp only [Array.toList_modify, List.getElem?_map, List.getElem?_modify, List.getElem?_set]
      by_cases e : j = i
      · subst e
        have hjl' : j < l.length := (List.getElem?_eq_some_iff.1 g3).1
        rw [if_pos rfl, g2, if_pos hjl']
        simp
      · rw [if_neg e]
        simp only [if_neg e]
        simpa [Option.map_map] using hi
    · have hjl' : j < l.length := (List.getElem?_eq_some_iff.1 g3).1
      have hsplit : l = l.take j ++ p0 :: l.drop (j + 1) := by
        have : l[j] = p0 := (List.getElem?_eq_some_iff.1 g3).2
        rw [← this, ← List.drop_eq_getElem_cons hjl', List.take_append_drop]
      have hset2 : l.set j (x, v) = l.take j ++ (x, v) :: l.drop (j + 1) := by rw [List.set_eq_take_append_cons_drop, if_pos hjl']
      rw [hset2, List.find?_append]
      have hno : (l.take j).find? (fun p => decide (x = p.1)) = none := by
        rw [List.find?_eq_none]
        intro q hq
        have := g6 q hq
        simpa using fun e => this e.symm
      simp only
      by_cases hy : y = x
      · subst hy
        rw [if_pos rfl, hno]; simp
      · rw [if_neg hy, h4 y]
        conv => lhs; rw [hsplit]
        rw [List.find?_append]
        congr 2
        rw [List.find?_cons_of_neg (by simp [g5, hy]), List.find?_cons_of_neg (by simp [hy])]
end

theorem wpList_put {κ : Type} [DecidableEq κ] {K : KeyTy κ} {P : Program} {w : World} {b n : Nat} {f : κ → Option Value} {ops : Array Oper} {rest : List Oper} {o : Oper} {a : Act} {Q : Exit → Act → World → Prop}
    (m x v : Operand) (hg : o.guard = none) (t : TypeId) (hop : o.op = Op.mapUpdate t m x v) {kt e : TypeId} (ht : P.underlying t = some (.map kt e)) (hk : P.underlying kt = some K.d) (h : MapIs K w b f n)
    (hm : a.eval m = .map (some b)) (key : κ) (kv val : Value) (hkv : K.val key = kv) (hx : a.eval x = kv) (hv : a.eval v = val)
    (hK : ∀ w', MapIs K w' b (fun y => if y = key then some val else f y) (n + 1) → w.grownBy w' (some b) → wpList P ops Q rest (a.put o.dst undef) w') : wpList P ops Q (o :: rest) a w := by
  refine wpList_plain hg fun K' hK' => ?_
  subst hkv
  obtain ⟨w', hrun, r1, r2⟩ := h.put ht hk key val
  unfold Oper.wp
  simp [execOp, hop, hm, hx, hv, hrun, Result.andThen]
  exact hK' _ _ (hK w' r1 r2)

end Go.Tw
