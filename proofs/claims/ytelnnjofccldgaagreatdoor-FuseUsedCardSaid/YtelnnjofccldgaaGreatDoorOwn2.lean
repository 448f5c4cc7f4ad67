/-
  Slices of the call's own, whose elements look at blocks S alone; two of them that grow side by side. No program in sight.
-/
import Derived.Test.YtelnnjofccldgaaGreatDoorOwn
namespace Go.Tw
open Go.RowKit

variable {α β : Type} {T : Ty α} {U : Ty β} {e e2 : TypeId} {B : Nat} {w w' : World} {S S' : Nat → Prop} {v v' u : Value} {l : List α} {m : List β}

def OwnS {α : Type} (T : Ty α) (e : TypeId) (B : Nat) (S : Nat → Prop) (w : World) (v : Value) (l : List α) : Prop :=
  ∃ css, w.ownsRow B e T.sz v l.length css.flatten ∧ AllIs T S w css l
theorem OwnS.nil : OwnS T e B S w (.slice none 0 0) ([] : List α) := ⟨[], World.ownsRow_nil _ _ _ _, trivial⟩
theorem OwnS.to (h : OwnS T e B S w v l) (hS : ∀ k, S k → k < w.heap.size ∧ some k ≠ v.ownBlock) : OwnSl T e B w v l := by
  obtain ⟨css, h1, h2⟩ := h
  exact ⟨css, h1, h2.keep hS (SameOn.refl _ _)⟩
theorem OwnS.own_lt (h : OwnS T e B S w v l) : ∀ k, v.ownBlock = some k → B ≤ k ∧ k < w.heap.size := by
  obtain ⟨css, h1, _⟩ := h
  exact h1.lt
theorem OwnS.mono (h : OwnS T e B S w v l) (hS : ∀ k, S k → S' k) : OwnS T e B S' w v l := by
  obtain ⟨css, h1, h2⟩ := h
  exact ⟨css, h1, h2.keep hS (SameOn.refl _ _)⟩
theorem OwnS.form (h : OwnS T e B S w v l) : ∃ ao cap, v = .slice ao l.length cap ∧ l.length ≤ cap ∧ cap ≤ maxLen := by
  obtain ⟨css, h1, _⟩ := h
  rcases h1.2 with ⟨h, h'⟩ | ⟨g, cap, cur, h, _, _, h3, h4, _⟩
  · exact ⟨none, 0, by rw [h, h'], by omega, Nat.zero_le _⟩
  · exact ⟨_, cap, h, h3, h4⟩
theorem OwnS.sl (h : OwnS T e B S w v l) : SlIs T (fun k => S k ∨ v.ownBlock = some k) w v l := by
  obtain ⟨css, h1, h2⟩ := h
  rcases h1.2 with ⟨rfl, h'⟩ | ⟨g, cap, cur, rfl, _, hg, h3, h4, _, h6⟩
  · obtain rfl : l = [] := List.eq_nil_of_length_eq_zero h'
    exact SlIs.nil
  · exact SlIs.of_block (css := css) hg ⟨cur.toList.drop (l.length * T.sz), by rw [← h6]; exact List.take_append_drop _ _⟩ (h2.keep (fun k hk => .inl hk) (SameOn.refl _ _)) (.inr rfl) h3 h4
theorem OwnS.below (h : OwnS T e B S w v l) (hS : ∀ k, S k → k < w.heap.size) (hb : Below w.heap.size w w') : OwnS T e B S w' v l := by
  obtain ⟨css, h1, h2⟩ := h
  refine ⟨css, ?_, h2.keep (fun k hk => hk) (fun k hk => hb.block k (hS k hk))⟩
  refine h1.kept (row := none) ⟨hb.os, hb.tape, hb.output, hb.size, fun k hk _ => hb.block k hk⟩ ?_
  cases v.ownBlock <;> simp
theorem OwnS.grown (h : OwnS T e B S w v l) {row : Option Nat} (hg : w.grownBy w' row) (hne : v.ownBlock = none ∨ v.ownBlock ≠ row) (hS : ∀ k, S k → k < w.heap.size ∧ some k ≠ row) : OwnS T e B S w' v l := by
  obtain ⟨css, h1, h2⟩ := h
  exact ⟨css, h1.kept hg hne, h2.keep (fun k hk => hk) (fun k hk => hg.block k (hS k hk).1 (hS k hk).2)⟩

section
variable {P : Program}
theorem run_append_S {t ty : TypeId} {bytes : Nat} (hT : SlT P t e T.sz bytes) {v2 : Value} {l2 : List α} (hown : OwnS T e B S w v l) (hS : ∀ k, S k → k < w.heap.size ∧ some k ≠ v.ownBlock) (hsl : SlIs T S' w v2 l2) (hS' : ∀ k, S' k → k < w.heap.size ∧ some k ≠ v.ownBlock)
    (hpos2 : 0 < l2.length) (hbytes : (l.length + l2.length) * bytes ≤ 140737488355328) (h63 : l.length + l2.length ≤ maxLen) (hB : B ≤ w.heap.size) :
    ∃ v' w', (Builtin.append_ #[t, t] ty #[v, v2]).run P w = .ok v' w' ∧ OwnS T e B (fun k => S k ∨ S' k) w' v' (l ++ l2) ∧ w.grownBy w' v.ownBlock ∧ (v'.ownBlock = v.ownBlock ∨ v'.ownBlock = some w.heap.size) := by
  obtain ⟨und, ⟨i, z, hi, hz, hsize, hby, hzs⟩, hpos⟩ := hT
  obtain ⟨css2, g1, g2⟩ := hsl.cells
  obtain ⟨css, o1, o2⟩ := hown
  rcases g2 with ⟨rfl, rfl, rfl⟩ | ⟨a, cap, rfl, hcap, hcell⟩
  · exact absurd hpos2 (Nat.not_lt_zero _)
  · have h1 := g1.one
    have hl := g1.flatten_len
    obtain ⟨g, cap', w', hr, r1, r2, r3, _⟩ := Go.run_append_lies (P := P) w t ty B e i z T.sz bytes und hi hz hsize hby hzs hpos v l.length css.flatten o1 a l2.length cap css2.flatten hl hcell h1 hpos2 h63 hbytes hB w.heap.size rfl
    have r3' : (Value.slice (some ⟨g, 0, none⟩) (l.length + l2.length) cap').ownBlock = v.ownBlock ∨ (Value.slice (some ⟨g, 0, none⟩) (l.length + l2.length) cap').ownBlock = some w.heap.size := by
      rcases r3 with h | h
      · left; rw [h]; rfl
      · right; rw [h]; rfl
    refine ⟨_, w', hr, ⟨css ++ css2, by rw [List.flatten_append, List.length_append]; exact r1, ?_⟩, r2, r3'⟩
    exact (o2.keep (fun k hk => .inl hk) (fun k hk => r2.block k (hS k hk).1 (hS k hk).2)).append (g1.keep (fun k hk => .inr hk) (fun k hk => r2.block k (hS' k hk).1 (hS' k hk).2))

/-- ONE element, laid in a block of its own just before -/
theorem wpList_append_oneS {ops : Array Oper} {rest : List Oper} {o : Oper} {a : Act} {Q : Exit → Act → World → Prop} (s x : Operand) (hgd : o.guard = none) (t : TypeId)
    (ho : o.op = .call { callee := .builtin .append, args := #[s, x], argTypes := #[t, t] }) {e' : TypeId} {bytes : Nat} (hT : SlT P t e T.sz bytes) {y : α} {cs : Array Value} (hs : a.eval s = v) (hown : OwnS T e B S w v l) (hS : ∀ k, S k → k < w.heap.size ∧ some k ≠ v.ownBlock)
    (hx : a.eval x = .slice (some ⟨w.heap.size, 0, none⟩) 1 1) (hy : T.is S' w cs.toList y) (hS' : ∀ k, S' k → k < w.heap.size ∧ some k ≠ v.ownBlock) (hbytes : (l.length + 1) * bytes ≤ 140737488355328) (h63 : l.length + 1 ≤ maxLen) (hB : B ≤ w.heap.size)
    (h : ∀ v' w', OwnS T e B (fun k => S k ∨ (S' k ∨ k = w.heap.size)) w' v' (l ++ [y]) → (w.alloc (.cells cs e')).grownBy w' v.ownBlock → (v'.ownBlock = v.ownBlock ∨ v'.ownBlock = some (w.heap.size + 1)) → wpList P ops Q rest (a.put o.dst v') w') : wpList P ops Q (o :: rest) a (w.alloc (.cells cs e')) := by
  refine wpList_plain hgd fun K hK => ?_
  have hown' : OwnS T e B S (w.alloc (.cells cs e')) v l := hown.below (fun k hk => (hS k hk).1) ((Below.refl _ _).alloc (Nat.le_refl _) _)
  obtain ⟨v', w', hr, h2, h3, h4⟩ := run_append_S (P := P) (ty := o.type) hT hown' (fun k hk => ⟨by have := (hS k hk).1; simp; omega, (hS k hk).2⟩) (SlIs.single (e := e') hy (fun k hk => (hS' k hk).1)) (fun k hk => by
      rcases hk with hk | rfl
      · have := hS' k hk
        exact ⟨by simp; omega, this.2⟩
      · exact ⟨by simp, fun e => by have := (hown.own_lt _ e.symm).2; omega⟩) (by simp) hbytes h63 (by simp; omega)
  unfold Oper.wp execOp
  simp only [ho, resolve, invoke, builtin, Sem.run_bind, Sem.run_pure, Result.andThen_ok, List.map_toArray, List.map_cons, List.map_nil, hs, hx, hr]
  exact hK _ _ (h v' w' h2 h3 (by simpa using h4))
end

/-- two slices that grow side by side: the first's elements may look at blocks, the second's look at none -/
def Two {α β : Type} (T : Ty α) (U : Ty β) (e e2 : TypeId) (B : Nat) (w : World) (v u : Value) (l : List α) (m : List β) : Prop :=
  ∃ S, OwnS T e B S w v l ∧ OwnS U e2 B (fun _ => False) w u m ∧ (∀ k, S k → B ≤ k ∧ k < w.heap.size ∧ some k ≠ v.ownBlock ∧ some k ≠ u.ownBlock) ∧ (v.ownBlock = none ∨ v.ownBlock ≠ u.ownBlock)
theorem Two.start : Two T U e e2 B w (.slice none 0 0) (.slice none 0 0) ([] : List α) ([] : List β) := ⟨fun _ => False, .nil, .nil, fun _ h => h.elim, .inl rfl⟩
theorem Two.below (h : Two T U e e2 B w v u l m) (hb : Below w.heap.size w w') : Two T U e e2 B w' v u l m := by
  obtain ⟨S, h1, h2, h3, h4⟩ := h
  exact ⟨S, h1.below (fun k hk => (h3 k hk).2.1) hb, h2.below (fun k hk => hk.elim) hb, fun k hk => ⟨(h3 k hk).1, Nat.lt_of_lt_of_le (h3 k hk).2.1 hb.size, (h3 k hk).2.2⟩, h4⟩
theorem Two.fst (h : Two T U e e2 B w v u l m) : SlIs T (fun k => B ≤ k ∧ k < w.heap.size) w v l := by
  obtain ⟨S, h1, h2, h3, h4⟩ := h
  exact h1.sl.keep (fun k hk => by
    rcases hk with hk | hk
    · exact ⟨(h3 k hk).1, (h3 k hk).2.1⟩
    · exact h1.own_lt k hk) (SameOn.refl _ _)
theorem Two.snd (h : Two T U e e2 B w v u l m) : SlIs U (fun k => B ≤ k ∧ k < w.heap.size) w u m := by
  obtain ⟨S, h1, h2, h3, h4⟩ := h
  exact h2.sl.keep (fun k hk => by
    rcases hk with hk | hk
    · exact hk.elim
    · exact h2.own_lt k hk) (SameOn.refl _ _)
section
variable {P : Program} {ops : Array Oper} {rest : List Oper} {o : Oper} {a : Act} {Q : Exit → Act → World → Prop}
/-- the first grows by one element, made in this round (from block C on) -/
theorem Two.push1 (s x : Operand) (hgd : o.guard = none) (t : TypeId) (ho : o.op = .call { callee := .builtin .append, args := #[s, x], argTypes := #[t, t] }) {e' : TypeId} {bytes : Nat} (hT : SlT P t e T.sz bytes) {y : α} {cs : Array Value} {wb : World} (hs : a.eval s = v)
    (h : Two T U e e2 B wb v u l m) (hb : Below wb.heap.size wb w) (hx : a.eval x = .slice (some ⟨w.heap.size, 0, none⟩) 1 1) (hy : T.is (fun k => wb.heap.size ≤ k ∧ k < w.heap.size) w cs.toList y) (hbytes : (l.length + 1) * bytes ≤ 140737488355328) (h63 : l.length + 1 ≤ maxLen) (hB : B ≤ wb.heap.size)
    (k : ∀ v' w', Two T U e e2 B w' v' u (l ++ [y]) m → Below B w w' → wpList P ops Q rest (a.put o.dst v') w') : wpList P ops Q (o :: rest) a (w.alloc (.cells cs e')) := by
  have hv := (h.choose_spec).1.own_lt
  have hu := (h.choose_spec).2.1.own_lt
  obtain ⟨S, h1, h2, h3, h4⟩ := h.below hb
  have hsz := hb.size
  refine wpList_append_oneS s x hgd t ho hT hs h1 (fun k hk => ⟨(h3 k hk).2.1, (h3 k hk).2.2.1⟩) hx hy (fun k hk => ⟨hk.2, fun e => by have := hv k e.symm; omega⟩) hbytes h63 (by omega) fun v' w' g1 g2 g3 => k v' w' ?_ ?_
  · have sz := g2.size
    simp at sz
    refine ⟨_, g1, (h2.below (fun k hk => hk.elim) ((Below.refl _ _).alloc (Nat.le_refl _) _)).grown g2 ?_ (fun k hk => hk.elim), fun k hk => ?_, ?_⟩
    · rcases h4 with h4 | h4
      · rw [h4]; cases u.ownBlock <;> simp
      · exact .inr fun e => h4 e.symm
    · have key : B ≤ k ∧ k < w.heap.size + 1 ∧ some k ≠ v.ownBlock ∧ some k ≠ u.ownBlock := by
        rcases hk with hk | hk | rfl
        · have := h3 k hk
          exact ⟨this.1, by omega, this.2.2⟩
        · exact ⟨by omega, by omega, fun e => by have := hv k e.symm; omega, fun e => by have := hu k e.symm; omega⟩
        · exact ⟨by omega, by omega, fun e => by have := hv _ e.symm; omega, fun e => by have := hu _ e.symm; omega⟩
      refine ⟨key.1, by omega, ?_, key.2.2.2⟩
      rcases g3 with g3 | g3
      · rw [g3]; exact key.2.2.1
      · rw [g3]; simp; omega
    · rcases g3 with g3 | g3
      · rw [g3]; exact h4
      · rw [g3]; exact .inr fun e => by have := hu _ e.symm; omega
  · exact ((Below.refl _ _).alloc (by omega) _).trans (Below.of_grown g2 (by simp; omega) (fun k hk => (hv k hk).1))
/-- the second grows -/
theorem Two.push2 (s x : Operand) (hgd : o.guard = none) (t : TypeId) (ho : o.op = .call { callee := .builtin .append, args := #[s, x], argTypes := #[t, t] }) {e' : TypeId} {bytes : Nat} (hU : U.Flat) (hT : SlT P t e2 U.sz bytes) {y : β} {cs : Array Value} (hs : a.eval s = u)
    (h : Two T U e e2 B w v u l m) (hx : a.eval x = .slice (some ⟨w.heap.size, 0, none⟩) 1 1) (hy : U.is S w cs.toList y) (hbytes : (m.length + 1) * bytes ≤ 140737488355328) (h63 : m.length + 1 ≤ maxLen) (hB : B ≤ w.heap.size)
    (k : ∀ u' w', Two T U e e2 B w' v u' l (m ++ [y]) → Below B w w' → wpList P ops Q rest (a.put o.dst u') w') : wpList P ops Q (o :: rest) a (w.alloc (.cells cs e')) := by
  obtain ⟨S, h1, h2, h3, h4⟩ := h
  have hv := h1.own_lt
  have hu := h2.own_lt
  refine wpList_append_oneS s x hgd t ho hT hs h2 (fun k hk => hk.elim) hx (S' := fun _ => False) (hU hy) (fun k hk => hk.elim) hbytes h63 hB fun v' w' g1 g2 g3 => k v' w' ?_ ?_
  · have sz := g2.size
    simp at sz
    refine ⟨S, (h1.below (fun k hk => (h3 k hk).2.1) ((Below.refl _ _).alloc (Nat.le_refl _) _)).grown g2 h4 (fun k hk => ⟨by have := (h3 k hk).2.1; simp; omega, (h3 k hk).2.2.2⟩), ?_, fun k hk => ?_, ?_⟩
    · obtain ⟨css, c1, c2⟩ := g1
      exact ⟨css, c1, c2.flat hU⟩
    · obtain ⟨a1, a2, a3, a4⟩ := h3 k hk
      refine ⟨a1, by omega, a3, ?_⟩
      rcases g3 with g3 | g3
      · rw [g3]; exact a4
      · rw [g3]; simp; omega
    · rcases g3 with g3 | g3
      · rw [g3]; exact h4
      · rw [g3]
        rcases h4 with h4 | h4
        · exact .inl h4
        · exact .inr fun e => by have := hv _ e; omega
  · exact ((Below.refl _ _).alloc hB _).trans (Below.of_grown g2 (by simp; omega) (fun k hk => (hu k hk).1))
end
theorem alloc1_0 (w : World) (a : Obj) : (w.alloc a).heap[w.heap.size]? = some a := heap_alloc_new _ _
theorem alloc1_old {w : World} {k : Nat} {o : Obj} (a : Obj) (h : w.heap[k]? = some o) : (w.alloc a).heap[k]? = some o := (Below.heap_alloc _ _ _ (lt_of_heap h)).trans h
theorem alloc2_0 (w : World) (a b : Obj) : ((w.alloc a).alloc b).heap[w.heap.size]? = some a := alloc1_old _ (alloc1_0 _ _)
theorem alloc2_1 (w : World) (a b : Obj) : ((w.alloc a).alloc b).heap[w.heap.size + 1]? = some b := by simpa using alloc1_0 (w.alloc a) b
theorem alloc3_0 (w : World) (a b c : Obj) : (((w.alloc a).alloc b).alloc c).heap[w.heap.size]? = some a := alloc1_old _ (alloc2_0 _ _ _)
theorem alloc3_1 (w : World) (a b c : Obj) : (((w.alloc a).alloc b).alloc c).heap[w.heap.size + 1]? = some b := alloc1_old _ (alloc2_1 _ _ _)
theorem alloc3_2 (w : World) (a b c : Obj) : (((w.alloc a).alloc b).alloc c).heap[w.heap.size + 1 + 1]? = some c := by simpa using alloc1_0 ((w.alloc a).alloc b) c
/-- a block, past what grew another one -/
theorem grown_at {w w1 : World} {row : Option Nat} (hg : w.grownBy w1 row) {k : Nat} {o : Obj} (h : w.heap[k]? = some o) (hne : some k ≠ row) : w1.heap[k]? = some o := (hg.block k (lt_of_heap h) hne).trans h
theorem Below.at_old {w w1 : World} (hb : Below w.heap.size w w1) {k : Nat} {o : Obj} (h : w.heap[k]? = some o) : w1.heap[k]? = some o := (hb.block k (lt_of_heap h)).trans h
end Go.Tw
