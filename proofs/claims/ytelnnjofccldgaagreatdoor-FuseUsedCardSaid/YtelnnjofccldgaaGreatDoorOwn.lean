/-
  Slices of the call's own: made by it, grown by append. Typed; no program in sight.
-/
import Derived.Test.YtelnnjofccldgaaGreatDoorLib
import Derived.Deep.AppendLies
namespace Go.Tw
open Go.RowKit

/-- the row of the table of a slice type's elements -/
structure SlT (P : Program) (t e : TypeId) (size bytes : Nat) : Prop where
  und : P.underlying t = some (.slice e)
  info : ∃ i z, P.info? e = some i ∧ i.zero = some z ∧ i.size = size ∧ i.bytes = bytes ∧ z.cells.size = size
  pos : 0 < size
theorem SlT.of {P : Program} {t e : TypeId} {size bytes : Nat} {z : Value} (h : P.underlying t = some (.slice e)) (hi : (P.info? e).map (fun i => (i.zero, i.size, i.bytes)) = some (some z, size, bytes)) (hz : z.cells.size = size) (hp : 0 < size) : SlT P t e size bytes := by
  obtain ⟨i, h1, h2, h3, h4⟩ := info_parts hi
  exact ⟨h, ⟨i, z, h1, h2, h3, h4, hz⟩, hp⟩

/-- v is a slice of the call's own (its array made from block B on) that stands for l -/
def OwnSl {α : Type} (T : Ty α) (e : TypeId) (B : Nat) (w : World) (v : Value) (l : List α) : Prop :=
  ∃ css, w.ownsRow B e T.sz v l.length css.flatten ∧ AllIs T (fun k => k < w.heap.size ∧ some k ≠ v.ownBlock) w css l

theorem AllIs.keep {α : Type} {T : Ty α} {S S' : Nat → Prop} {w w' : World} (hs : ∀ k, S k → S' k) (hw : SameOn S w w') : ∀ {css : List (List Value)} {l : List α}, AllIs T S w css l → AllIs T S' w' css l
  | [], [], _ => trivial
  | _ :: _, _ :: _, h => ⟨T.keep h.1 hs hw, AllIs.keep hs hw h.2⟩
  | [], _ :: _, h => h.elim
  | _ :: _, [], h => h.elim
theorem AllIs.append {α : Type} {T : Ty α} {S : Nat → Prop} {w : World} : ∀ {css css' : List (List Value)} {l l' : List α}, AllIs T S w css l → AllIs T S w css' l' → AllIs T S w (css ++ css') (l ++ l')
  | [], _, [], _, _, h' => h'
  | _ :: _, _, _ :: _, _, h, h' => ⟨h.1, AllIs.append h.2 h'⟩
  | [], _, _ :: _, _, h, _ => h.elim
  | _ :: _, _, [], _, h, _ => h.elim
theorem AllIs.flatten_len {α : Type} {T : Ty α} {S : Nat → Prop} {w : World} : ∀ {css : List (List Value)} {l : List α}, AllIs T S w css l → css.flatten.length = l.length * T.sz
  | [], [], _ => by simp
  | cs :: css, x :: l, h => by
    have := AllIs.flatten_len h.2
    rw [List.flatten_cons, List.length_append, this, T.len h.1, List.length_cons, Nat.succ_mul]; omega
  | [], _ :: _, h => h.elim
  | _ :: _, [], h => h.elim
theorem AllIs.one {α : Type} {T : Ty α} {S : Nat → Prop} {w : World} : ∀ {css : List (List Value)} {l : List α}, AllIs T S w css l → ∀ u ∈ css.flatten, u.oneCell' = true
  | [], [], _, u, hu => by simp at hu
  | cs :: css, x :: l, h, u, hu => by
    rw [List.flatten_cons, List.mem_append] at hu
    rcases hu with hu | hu
    · exact T.one h.1 u hu
    · exact AllIs.one h.2 u hu
  | [], _ :: _, h, _, _ => h.elim
  | _ :: _, [], h, _, _ => h.elim

theorem OwnSl.nil {α : Type} (T : Ty α) (e : TypeId) (B : Nat) (w : World) : OwnSl T e B w (.slice none 0 0) ([] : List α) := ⟨[], World.ownsRow_nil _ _ _ _, trivial⟩
/-- a literal with elements, in a block of its own -/
theorem OwnSl.lit {α : Type} {T : Ty α} {e : TypeId} {B : Nat} {w : World} {cs : Array Value} {css : List (List Value)} {l : List α} (hcs : cs.toList = css.flatten) (h : AllIs T (· < w.heap.size) w css l) (hB : B ≤ w.heap.size) (hm : l.length ≤ maxLen) :
    OwnSl T e B (w.alloc (.cells cs e)) (.slice (some ⟨w.heap.size, 0, none⟩) l.length l.length) l :=
  ⟨css, by rw [← hcs]; exact World.ownsRow_lit w cs l.length hB hm (by rw [← Array.length_toList, hcs, h.flatten_len]),
    h.keep (fun k hk => ⟨by simp; omega, by simp [Value.ownBlock]; omega⟩) (fun k hk => Below.heap_alloc _ _ _ hk)⟩

theorem OwnSl.own_lt {α : Type} {T : Ty α} {e : TypeId} {B : Nat} {w : World} {v : Value} {l : List α} (h : OwnSl T e B w v l) : ∀ k, v.ownBlock = some k → B ≤ k ∧ k < w.heap.size := by
  obtain ⟨css, h1, _⟩ := h
  exact h1.lt
theorem OwnSl.len_le {α : Type} {T : Ty α} {e : TypeId} {B : Nat} {w : World} {v : Value} {l : List α} (h : OwnSl T e B w v l) : l.length ≤ maxLen := by
  obtain ⟨css, h1, _⟩ := h
  rcases h1.2 with ⟨_, h⟩ | ⟨g, cap, cur, _, _, _, h3, h4, _⟩
  · omega
  · omega
/-- what the walk wants to see of it -/
theorem OwnSl.form {α : Type} {T : Ty α} {e : TypeId} {B : Nat} {w : World} {v : Value} {l : List α} (h : OwnSl T e B w v l) : ∃ ao cap, v = .slice ao l.length cap ∧ l.length ≤ cap ∧ cap ≤ maxLen := by
  obtain ⟨css, h1, _⟩ := h
  rcases h1.2 with ⟨h, h'⟩ | ⟨g, cap, cur, h, _, _, h3, h4, _⟩
  · exact ⟨none, 0, by rw [h, h'], by omega, Nat.zero_le _⟩
  · exact ⟨_, cap, h, h3, h4⟩

/-- read as a slice -/
theorem OwnSl.sl {α : Type} {T : Ty α} {e : TypeId} {B : Nat} {w : World} {v : Value} {l : List α} (h : OwnSl T e B w v l) : SlIs T (· < w.heap.size) w v l := by
  obtain ⟨css, h1, h2⟩ := h
  rcases h1.2 with ⟨rfl, h'⟩ | ⟨g, cap, cur, rfl, _, hg, h3, h4, _, h6⟩
  · obtain rfl : l = [] := List.eq_nil_of_length_eq_zero h'
    exact SlIs.nil
  · exact SlIs.of_block (css := css) hg ⟨cur.toList.drop (l.length * T.sz), by rw [← h6]; exact List.take_append_drop _ _⟩ (h2.keep (fun k hk => hk.1) (SameOn.refl _ _)) (lt_of_heap hg) h3 h4

/-- elements that look at no block -/
def Ty.Flat {α : Type} (T : Ty α) : Prop := ∀ {S S' : Nat → Prop} {w w' : World} {cs : List Value} {x : α}, T.is S w cs x → T.is S' w' cs x
theorem AllIs.flat {α : Type} {T : Ty α} (hT : T.Flat) {S S' : Nat → Prop} {w w' : World} : ∀ {css : List (List Value)} {l : List α}, AllIs T S w css l → AllIs T S' w' css l
  | [], [], _ => trivial
  | _ :: _, _ :: _, h => ⟨hT h.1, AllIs.flat hT h.2⟩
  | [], _ :: _, h => h.elim
  | _ :: _, [], h => h.elim
/-- .. read as a slice that lies in the call's own blocks -/
theorem OwnSl.fresh {α : Type} {T : Ty α} (hT : T.Flat) {e : TypeId} {B : Nat} {w : World} {v : Value} {l : List α} (h : OwnSl T e B w v l) : SlIs T (fun k => B ≤ k ∧ k < w.heap.size) w v l := by
  obtain ⟨css, h1, h2⟩ := h
  rcases h1.2 with ⟨rfl, h'⟩ | ⟨g, cap, cur, rfl, hB, hg, h3, h4, _, h6⟩
  · obtain rfl : l = [] := List.eq_nil_of_length_eq_zero h'
    exact SlIs.nil
  · exact SlIs.of_block (css := css) hg ⟨cur.toList.drop (l.length * T.sz), by rw [← h6]; exact List.take_append_drop _ _⟩ (h2.flat hT) ⟨hB, lt_of_heap hg⟩ h3 h4

/-- after whatever leaves its blocks alone -/
theorem OwnSl.below {α : Type} {T : Ty α} {e : TypeId} {B : Nat} {w w' : World} {v : Value} {l : List α} (h : OwnSl T e B w v l) (hb : Below w.heap.size w w') : OwnSl T e B w' v l := by
  obtain ⟨css, h1, h2⟩ := h
  refine ⟨css, ?_, h2.keep (fun k hk => ⟨Nat.lt_of_lt_of_le hk.1 hb.size, hk.2⟩) (fun k hk => hb.block k hk.1)⟩
  refine h1.kept (row := none) ⟨hb.os, hb.tape, hb.output, hb.size, fun k hk _ => hb.block k hk⟩ ?_
  cases v.ownBlock <;> simp
theorem OwnSl.alloc {α : Type} {T : Ty α} {e : TypeId} {B : Nat} {w : World} {v : Value} {l : List α} (h : OwnSl T e B w v l) (o : Obj) : OwnSl T e B (w.alloc o) v l := h.below ((Below.refl _ _).alloc (Nat.le_refl _) o)
theorem OwnSl.drewN {α : Type} {T : Ty α} {e : TypeId} {B : Nat} {w : World} {v : Value} {l : List α} (h : OwnSl T e B w v l) (n : Nat) : OwnSl T e B (w.drewN n) v l := h.below (below_drewN (Below.refl _ _) n)
theorem OwnSl.drew {α : Type} {T : Ty α} {e : TypeId} {B : Nat} {w : World} {v : Value} {l : List α} (h : OwnSl T e B w v l) : OwnSl T e B w.drew v l := h.below ((Below.refl _ _).drew)
/-- a second one of the call's own, while the first grows -/
theorem OwnSl.grown {α : Type} {T : Ty α} {e : TypeId} {B : Nat} {w w' : World} {v : Value} {l : List α} (h : OwnSl T e B w v l) {row : Option Nat} (hg : w.grownBy w' row) (hne : v.ownBlock = none ∨ v.ownBlock ≠ row)
    (hel : ∀ css, AllIs T (fun k => k < w.heap.size ∧ some k ≠ v.ownBlock) w css l → AllIs T (fun k => (k < w.heap.size ∧ some k ≠ v.ownBlock) ∧ some k ≠ row) w css l) : OwnSl T e B w' v l := by
  obtain ⟨css, h1, h2⟩ := h
  exact ⟨css, h1.kept hg hne, (hel css h2).keep (fun k hk => ⟨Nat.lt_of_lt_of_le hk.1.1 hg.size, hk.1.2⟩) (fun k hk => hg.block k hk.1.1 hk.2)⟩

theorem Below.of_grown {B : Nat} {w w' : World} {row : Option Nat} (hg : w.grownBy w' row) (hB : B ≤ w.heap.size) (hr : ∀ k, row = some k → B ≤ k) : Below B w w' := (Below.refl _ _).grown hg hB hr

theorem SameOn.set {S : Nat → Prop} {w0 w : World} (h : SameOn S w0 w) {a : Addr} (ha : ¬ S a.block) (u : Value) : SameOn S w0 (w.setCell a u) := fun k hk => (Below.heap_setCell _ _ _ _ (fun e => ha (e ▸ hk))).trans (h k hk)
theorem SameOn.alloc {S : Nat → Prop} {w0 w : World} (h : SameOn S w0 w) (hS : ∀ k, S k → k < w.heap.size) (o : Obj) : SameOn S w0 (w.alloc o) := fun k hk => (Below.heap_alloc _ _ _ (hS k hk)).trans (h k hk)
theorem SameOn.drewN {S : Nat → Prop} {w0 w : World} (h : SameOn S w0 w) (n : Nat) : SameOn S w0 (w.drewN n) := fun k hk => ((below_drewN (Below.refl (k + 1) w) n).block k (Nat.lt_succ_self k)).trans (h k hk)
/-- a block just made, behind what wrote elsewhere -/
theorem grown_new {w w1 : World} {cs : Array Value} {e : TypeId} {row : Option Nat} (hg : (w.alloc (.cells cs e)).grownBy w1 row) (hne : row ≠ some w.heap.size) : w1.heap[w.heap.size]? = some (.cells cs e (0, 0)) :=
  (hg.block w.heap.size (by simp) (fun e => hne e.symm)).trans (heap_alloc_new _ _)
theorem below_new {w w1 : World} {cs : Array Value} {e : TypeId} {B : Nat} (hb : Below B (w.alloc (.cells cs e)) w1) (hB : w.heap.size < B) : w1.heap[w.heap.size]? = some (.cells cs e (0, 0)) :=
  (hb.block w.heap.size hB).trans (heap_alloc_new _ _)
theorem blk1 {w : World} {g : Nat} {a : Value} {t : TypeId} (h : w.heap[g]? = some (.cells #[a] t (0, 0))) : w.cell? ⟨g, 0, none⟩ = some a ∧ ∀ j, w.frozen? ⟨g, j, none⟩ = false := ⟨cell_of_row _ _ 0 _ _ _ h, fun j => frozen_of_row _ _ j _ _ h⟩
theorem blk2 {w : World} {g : Nat} {a b : Value} {t : TypeId} (h : w.heap[g]? = some (.cells #[a, b] t (0, 0))) : w.cell? ⟨g, 0, none⟩ = some a ∧ w.cell? ⟨g, 1, none⟩ = some b ∧ ∀ j, w.frozen? ⟨g, j, none⟩ = false := ⟨cell_of_row _ _ 0 _ _ _ h, cell_of_row _ _ 1 _ _ _ h, fun j => frozen_of_row _ _ j _ _ h⟩
theorem blk3 {w : World} {g : Nat} {a b c : Value} {t : TypeId} (h : w.heap[g]? = some (.cells #[a, b, c] t (0, 0))) : w.cell? ⟨g, 0, none⟩ = some a ∧ w.cell? ⟨g, 1, none⟩ = some b ∧ w.cell? ⟨g, 2, none⟩ = some c ∧ ∀ j, w.frozen? ⟨g, j, none⟩ = false := ⟨cell_of_row _ _ 0 _ _ _ h, cell_of_row _ _ 1 _ _ _ h, cell_of_row _ _ 2 _ _ _ h, fun j => frozen_of_row _ _ j _ _ h⟩
theorem blk4 {w : World} {g : Nat} {a b c d : Value} {t : TypeId} (h : w.heap[g]? = some (.cells #[a, b, c, d] t (0, 0))) : w.cell? ⟨g, 0, none⟩ = some a ∧ w.cell? ⟨g, 1, none⟩ = some b ∧ w.cell? ⟨g, 2, none⟩ = some c ∧ w.cell? ⟨g, 3, none⟩ = some d ∧ ∀ j, w.frozen? ⟨g, j, none⟩ = false := ⟨cell_of_row _ _ 0 _ _ _ h, cell_of_row _ _ 1 _ _ _ h, cell_of_row _ _ 2 _ _ _ h, cell_of_row _ _ 3 _ _ _ h, fun j => frozen_of_row _ _ j _ _ h⟩
theorem blk5 {w : World} {g : Nat} {a b c d e : Value} {t : TypeId} (h : w.heap[g]? = some (.cells #[a, b, c, d, e] t (0, 0))) : w.cell? ⟨g, 0, none⟩ = some a ∧ w.cell? ⟨g, 1, none⟩ = some b ∧ w.cell? ⟨g, 2, none⟩ = some c ∧ w.cell? ⟨g, 3, none⟩ = some d ∧ w.cell? ⟨g, 4, none⟩ = some e ∧ ∀ j, w.frozen? ⟨g, j, none⟩ = false := ⟨cell_of_row _ _ 0 _ _ _ h, cell_of_row _ _ 1 _ _ _ h, cell_of_row _ _ 2 _ _ _ h, cell_of_row _ _ 3 _ _ _ h, cell_of_row _ _ 4 _ _ _ h, fun j => frozen_of_row _ _ j _ _ h⟩

theorem snocInd {α : Type} {p : List α → Prop} (h0 : p []) (h1 : ∀ l x, p l → p (l ++ [x])) (l : List α) : p l := by
  have key : ∀ l : List α, p l.reverse := by
    intro l
    induction l with
    | nil => exact h0
    | cons x l ih => rw [List.reverse_cons]; exact h1 _ _ ih
  have := key l.reverse
  rwa [List.reverse_reverse] at this

section
variable {α : Type} {P : Program} {w : World}

/-- the cells of a slice, as a list -/
theorem SlIs.cells {T : Ty α} {S : Nat → Prop} {v : Value} {l : List α} (h : SlIs T S w v l) : ∃ css, AllIs T S w css l ∧
    ((l = [] ∧ css = [] ∧ v = .slice none 0 0) ∨ ∃ a cap, v = .slice (some a) l.length cap ∧ l.length ≤ cap ∧ ∀ j u, css.flatten[j]? = some u → w.cell? (a.add j) = some u) := by
  obtain ⟨ao, cap, b, off, rfl, h1, h2, h3, h4⟩ := h
  have key : ∀ l' : List α, (∀ k (hk : k < l'.length), ao = some ⟨b, off, none⟩ ∧ S b ∧ b < w.heap.size ∧ ∃ cs : List Value, (∀ j, j < T.sz → w.cell? ⟨b, off + k * T.sz + j, none⟩ = cs[j]?) ∧ T.is S w cs l'[k]) →
      ∃ css, AllIs T S w css l' ∧ ∀ j u, css.flatten[j]? = some u → w.cell? ⟨b, off + j, none⟩ = some u := by
    intro l'
    refine snocInd (p := fun l' : List α => (∀ k (hk : k < l'.length), ao = some ⟨b, off, none⟩ ∧ S b ∧ b < w.heap.size ∧ ∃ cs : List Value, (∀ j, j < T.sz → w.cell? ⟨b, off + k * T.sz + j, none⟩ = cs[j]?) ∧ T.is S w cs l'[k]) →
      ∃ css, AllIs T S w css l' ∧ ∀ j u, css.flatten[j]? = some u → w.cell? ⟨b, off + j, none⟩ = some u) ?_ ?_ l'
    · exact fun _ => ⟨[], trivial, fun j u h => by simp at h⟩
    · intro l' x ih g
      obtain ⟨css, g1, g2⟩ := ih (fun k hk => by
        have := g k (by simp; omega)
        rwa [List.getElem_append_left hk] at this)
      obtain ⟨_, _, _, cs, q1, q2⟩ := g l'.length (by simp)
      rw [List.getElem_append_right (Nat.le_refl _)] at q2
      simp only [Nat.sub_self, List.getElem_cons_zero] at q2
      refine ⟨css ++ [cs], g1.append ⟨q2, trivial⟩, fun j u hu => ?_⟩
      rw [List.flatten_append, List.flatten_cons, List.flatten_nil, List.append_nil] at hu
      by_cases hj : j < css.flatten.length
      · rw [List.getElem?_append_left hj] at hu
        exact g2 j u hu
      · rw [List.getElem?_append_right (by omega), g1.flatten_len] at hu
        have hlt : j - l'.length * T.sz < T.sz := by
          have := (List.getElem?_eq_some_iff.1 hu).1
          rwa [T.len q2] at this
        rw [← q1 _ hlt] at hu
        rw [g1.flatten_len] at hj
        rw [← hu]
        congr 2
        omega
  obtain ⟨css, g1, g2⟩ := key l h4
  refine ⟨css, g1, ?_⟩
  cases ao with
  | none =>
    have := h3 rfl
    have hl : l = [] := List.eq_nil_of_length_eq_zero (by omega)
    subst hl
    match css, g1 with
    | [], _ => exact .inl ⟨rfl, rfl, by rw [this]; rfl⟩
  | some a =>
    refine .inr ⟨a, cap, rfl, h1, fun j u hu => ?_⟩
    have hpos : 0 < l.length := by
      rcases Nat.eq_zero_or_pos l.length with h | h
      · have hl : l = [] := List.eq_nil_of_length_eq_zero h
        subst hl
        match css, g1 with
        | [], _ => simp at hu
      · exact h
    obtain ⟨ea, _⟩ := h4 0 hpos
    simp only [Option.some.injEq] at ea
    subst ea
    have : (⟨b, off, none⟩ : Addr).add j = ⟨b, off + j, none⟩ := by unfold Addr.add; split <;> simp_all
    rw [this]
    exact g2 j u hu

theorem run_append_sl {T : Ty α} {t ty e : TypeId} {bytes B : Nat} (hT : SlT P t e T.sz bytes) {v v2 : Value} {l l2 : List α} {S : Nat → Prop} (hown : OwnSl T e B w v l) (hsl : SlIs T S w v2 l2) (hS : ∀ k, S k → k < w.heap.size ∧ some k ≠ v.ownBlock)
    (hbytes : (l.length + l2.length) * bytes ≤ 140737488355328) (h63 : l.length + l2.length ≤ maxLen) (hB : B ≤ w.heap.size) :
    ∃ v' w', (Builtin.append_ #[t, t] ty #[v, v2]).run P w = .ok v' w' ∧ OwnSl T e B w' v' (l ++ l2) ∧ w.grownBy w' v.ownBlock ∧ (v'.ownBlock = v.ownBlock ∨ v'.ownBlock = some w.heap.size) := by
  obtain ⟨und, ⟨i, z, hi, hz, hsize, hby, hzs⟩, hpos⟩ := hT
  obtain ⟨css2, g1, g2⟩ := hsl.cells
  have hown' := hown
  obtain ⟨css, o1, o2⟩ := hown
  rcases g2 with ⟨rfl, rfl, rfl⟩ | ⟨a, cap, rfl, hcap, hcell⟩
  · exact ⟨v, w, run_append_owned_none (P := P) (w := w) B t ty e i T.sz und hi v l.length css.flatten o1, by rw [List.append_nil]; exact hown', World.grownBy.refl _ _, .inl rfl⟩
  · have fin : ∀ v' w', w'.ownsRow B e T.sz v' (l.length + l2.length) (css.flatten ++ css2.flatten) → w.grownBy w' v.ownBlock → (v'.ownBlock = v.ownBlock ∨ v'.ownBlock = some w.heap.size) → OwnSl T e B w' v' (l ++ l2) := by
      intro v' w' r1 r2 r3
      refine ⟨css ++ css2, by rw [List.flatten_append, List.length_append]; exact r1, ?_⟩
      have hb : ∀ k, (k < w.heap.size ∧ some k ≠ v.ownBlock) → k < w'.heap.size ∧ some k ≠ v'.ownBlock := fun k hk => ⟨Nat.lt_of_lt_of_le hk.1 r2.size, by
        rcases r3 with h | h
        · rw [h]; exact hk.2
        · rw [h]; simp; omega⟩
      exact (o2.keep hb (fun k hk => r2.block k hk.1 hk.2)).append (g1.keep (fun k hk => hb k (hS k hk)) (fun k hk => r2.block k (hS k hk).1 (hS k hk).2))
    have h1 := g1.one
    have hl := g1.flatten_len
    by_cases hm : 0 < l2.length
    · obtain ⟨g, cap', w', hr, r1, r2, r3, _⟩ := Go.run_append_lies (P := P) w t ty B e i z T.sz bytes und hi hz hsize hby hzs hpos v l.length css.flatten o1 a l2.length cap css2.flatten hl hcell h1 hm h63 hbytes hB w.heap.size rfl
      have r3' : (Value.slice (some ⟨g, 0, none⟩) (l.length + l2.length) cap').ownBlock = v.ownBlock ∨ (Value.slice (some ⟨g, 0, none⟩) (l.length + l2.length) cap').ownBlock = some w.heap.size := by
        rcases r3 with h | h
        · left; rw [h]; rfl
        · right; rw [h]; rfl
      exact ⟨_, w', hr, fin _ _ r1 r2 r3', r2, r3'⟩
    · have hl2 : l2 = [] := List.eq_nil_of_length_eq_zero (by omega)
      subst hl2
      match css2, g1 with
      | [], _ =>
        rcases o1.2 with ⟨rfl, hz0⟩ | ⟨g, cap', cur, rfl, hbg, hg, hnc, hcm, hcs, htake⟩
        · refine ⟨.slice none 0 0, w, ?_, by rw [List.append_nil]; exact hown', World.grownBy.refl _ _, .inl rfl⟩
          simp [Builtin.append_, run_underlying und, sizeOf, typeInfo, hi, Builtin.lenOf, Builtin.firstCells, loadCells, loadCellsFrom]
        · have hr := run_append_room (P := P) w t ty e i und hi g l.length cap' cur hg a 0 cap [] (by simp) (fun j u hu => by simp at hu) (fun u hu => by simp at hu) (by omega) (by simp; rw [hcs, hsize]; exact Nat.mul_le_mul_right _ hnc)
          have hgr : w.grownBy (w.setRow g (cur.toList.take (l.length * i.size) ++ [] ++ cur.toList.drop (l.length * i.size + ([] : List Value).length)).toArray) (some g) :=
            ⟨rfl, rfl, rfl, by simp, fun k _ hk => setRow_other w g k _ (fun e => hk (by simp [e]))⟩
          refine ⟨_, _, hr, fin _ _ ⟨by simp [o2.flatten_len], .inr ⟨g, cap', _, rfl, hbg, setRow_heap w g cur _ e _ hg, by simpa using hnc, hcm, ?_, ?_⟩⟩ hgr (.inl rfl), hgr, .inl rfl⟩
          · simp only [List.append_nil, List.length_nil, Nat.add_zero, List.take_append_drop, Array.toArray_toList]; exact hcs
          · simp only [List.append_nil, List.length_nil, Nat.add_zero, List.take_append_drop, List.flatten_nil]; exact htake

theorem wp_append_sl {o : Oper} {a : Act} {K : Act → World → Prop} {Q : Exit → Act → World → Prop} (s x : Operand) (t : TypeId)
    (ho : o.op = .call { callee := .builtin .append, args := #[s, x], argTypes := #[t, t] }) {T : Ty α} {e : TypeId} {bytes B : Nat} (hT : SlT P t e T.sz bytes) {v v2 : Value} {l l2 : List α} {S : Nat → Prop} (hs : a.eval s = v) (hown : OwnSl T e B w v l)
    (hx : a.eval x = v2) (hsl : SlIs T S w v2 l2) (hS : ∀ k, S k → k < w.heap.size ∧ some k ≠ v.ownBlock) (hbytes : (l.length + l2.length) * bytes ≤ 140737488355328) (h63 : l.length + l2.length ≤ maxLen) (hB : B ≤ w.heap.size)
    (h : ∀ v' w', OwnSl T e B w' v' (l ++ l2) → w.grownBy w' v.ownBlock → (v'.ownBlock = v.ownBlock ∨ v'.ownBlock = some w.heap.size) → K (a.put o.dst v') w') : o.wp P a w K Q := by
  obtain ⟨v', w', hr, h2, h3, h4⟩ := run_append_sl (P := P) (ty := o.type) hT hown hsl hS hbytes h63 hB
  unfold Oper.wp execOp
  simp only [ho, resolve, invoke, builtin, Sem.run_bind, Sem.run_pure, Result.andThen_ok, List.map_toArray, List.map_cons, List.map_nil, hs, hx, hr]
  exact h v' w' h2 h3 h4
theorem wpList_append_sl {ops : Array Oper} {rest : List Oper} {o : Oper} {a : Act} {Q : Exit → Act → World → Prop} (s x : Operand) (hgd : o.guard = none) (t : TypeId)
    (ho : o.op = .call { callee := .builtin .append, args := #[s, x], argTypes := #[t, t] }) {T : Ty α} {e : TypeId} {bytes B : Nat} (hT : SlT P t e T.sz bytes) {v v2 : Value} {l l2 : List α} {S : Nat → Prop} (hs : a.eval s = v) (hown : OwnSl T e B w v l)
    (hx : a.eval x = v2) (hsl : SlIs T S w v2 l2) (hS : ∀ k, S k → k < w.heap.size ∧ some k ≠ v.ownBlock) (hbytes : (l.length + l2.length) * bytes ≤ 140737488355328) (h63 : l.length + l2.length ≤ maxLen) (hB : B ≤ w.heap.size)
    (h : ∀ v' w', OwnSl T e B w' v' (l ++ l2) → w.grownBy w' v.ownBlock → (v'.ownBlock = v.ownBlock ∨ v'.ownBlock = some w.heap.size) → wpList P ops Q rest (a.put o.dst v') w') : wpList P ops Q (o :: rest) a w :=
  wpList_plain hgd fun _ hK => wp_append_sl s x t ho hT hs hown hx hsl hS hbytes h63 hB fun v' w' h2 h3 h4 => hK _ _ (h v' w' h2 h3 h4)
theorem step_append_sl {ops : Array Oper} {o : Oper} {a : Act} {K : Act → World → Prop} {Q : Exit → Act → World → Prop} {E : Prop} (s x : Operand) (hgd : o.guard = none) (t : TypeId)
    (ho : o.op = .call { callee := .builtin .append, args := #[s, x], argTypes := #[t, t] }) {T : Ty α} {e : TypeId} {bytes B : Nat} (hT : SlT P t e T.sz bytes) {v v2 : Value} {l l2 : List α} {S : Nat → Prop} (hs : a.eval s = v) (hown : OwnSl T e B w v l)
    (hx : a.eval x = v2) (hsl : SlIs T S w v2 l2) (hS : ∀ k, S k → k < w.heap.size ∧ some k ≠ v.ownBlock) (hbytes : (l.length + l2.length) * bytes ≤ 140737488355328) (h63 : l.length + l2.length ≤ maxLen) (hB : B ≤ w.heap.size)
    (h : ∀ v' w', OwnSl T e B w' v' (l ++ l2) → w.grownBy w' v.ownBlock → (v'.ownBlock = v.ownBlock ∨ v'.ownBlock = some w.heap.size) → K (a.put o.dst v') w') :
    if Region.wanted o (yielded ops a.tmps) = true then Oper.wp P o a w K Q else E := by
  have hw : Region.wanted o (yielded ops a.tmps) = true := by simp [Region.wanted, hgd]
  rw [if_pos hw]
  exact wp_append_sl s x t ho hT hs hown hx hsl hS hbytes h63 hB h

/-- what is appended came in: it lies below B -/
theorem wpList_append_old {ops : Array Oper} {rest : List Oper} {o : Oper} {a : Act} {Q : Exit → Act → World → Prop} (s x : Operand) (hgd : o.guard = none) (t : TypeId)
    (ho : o.op = .call { callee := .builtin .append, args := #[s, x], argTypes := #[t, t] }) {T : Ty α} {e : TypeId} {bytes B : Nat} (hT : SlT P t e T.sz bytes) {v v2 : Value} {l l2 : List α} (hs : a.eval s = v) (hown : OwnSl T e B w v l)
    (hx : a.eval x = v2) (hsl : SlIs T (· < B) w v2 l2) (hbytes : (l.length + l2.length) * bytes ≤ 140737488355328) (h63 : l.length + l2.length ≤ maxLen) (hB : B ≤ w.heap.size)
    (h : ∀ v' w', OwnSl T e B w' v' (l ++ l2) → w.grownBy w' v.ownBlock → Below B w w' → wpList P ops Q rest (a.put o.dst v') w') : wpList P ops Q (o :: rest) a w :=
  wpList_append_sl s x hgd t ho hT hs hown hx hsl (fun k hk => ⟨Nat.lt_of_lt_of_le hk hB, fun e => Nat.lt_irrefl _ (Nat.lt_of_lt_of_le hk (hown.own_lt k e.symm).1)⟩) hbytes h63 hB
    fun v' w' h2 h3 _ => h v' w' h2 h3 (Below.of_grown h3 hB (fun k hk => (hown.own_lt k hk).1))
theorem step_append_old {ops : Array Oper} {o : Oper} {a : Act} {K : Act → World → Prop} {Q : Exit → Act → World → Prop} {E : Prop} (s x : Operand) (hgd : o.guard = none) (t : TypeId)
    (ho : o.op = .call { callee := .builtin .append, args := #[s, x], argTypes := #[t, t] }) {T : Ty α} {e : TypeId} {bytes B : Nat} (hT : SlT P t e T.sz bytes) {v v2 : Value} {l l2 : List α} (hs : a.eval s = v) (hown : OwnSl T e B w v l)
    (hx : a.eval x = v2) (hsl : SlIs T (· < B) w v2 l2) (hbytes : (l.length + l2.length) * bytes ≤ 140737488355328) (h63 : l.length + l2.length ≤ maxLen) (hB : B ≤ w.heap.size)
    (h : ∀ v' w', OwnSl T e B w' v' (l ++ l2) → w.grownBy w' v.ownBlock → Below B w w' → K (a.put o.dst v') w') :
    if Region.wanted o (yielded ops a.tmps) = true then Oper.wp P o a w K Q else E :=
  step_append_sl s x hgd t ho hT hs hown hx hsl (fun k hk => ⟨Nat.lt_of_lt_of_le hk hB, fun e => Nat.lt_irrefl _ (Nat.lt_of_lt_of_le hk (hown.own_lt k e.symm).1)⟩) hbytes h63 hB
    fun v' w' h2 h3 _ => h v' w' h2 h3 (Below.of_grown h3 hB (fun k hk => (hown.own_lt k hk).1))
theorem small_bytes {n m k bytes : Nat} (h : n + m ≤ k) (hk : k * bytes ≤ 140737488355328) : (n + m) * bytes ≤ 140737488355328 := Nat.le_trans (Nat.mul_le_mul_right _ h) hk

/-- s[t:] and s[:t], in the walk's spelling -/
theorem SlIs.drop {T : Ty α} {S : Nat → Prop} {ao : Option Addr} {n cap t k : Nat} {l : List α} (h : SlIs T S w (.slice ao n cap) l) (ht : t ≤ l.length) (hk : k = t * T.sz) :
    SlIs T S w (.slice (if cap = t then ao else Option.map (fun x => x.add k) ao) (n - t) (cap - t)) (l.drop t) := by
  obtain ⟨ao', cap', b, off, hv, h1, h2, h3, h4⟩ := h
  simp only [Value.slice.injEq] at hv
  obtain ⟨rfl, rfl, rfl⟩ := hv
  refine ⟨_, cap - t, b, off + k, by rw [List.length_drop], by rw [List.length_drop]; omega, by omega, fun hn => ?_, fun j hj => ?_⟩
  · split at hn
    · omega
    · have := h3 (by simpa using hn); omega
  · rw [List.length_drop] at hj
    obtain ⟨g1, g2, g3, cs, g4, g5⟩ := h4 (t + j) (by omega)
    refine ⟨?_, g2, g3, cs, fun i hi => ?_, by rw [List.getElem_drop]; exact g5⟩
    · rw [if_neg (by omega), g1]
      simp only [Option.map_some, Option.some.injEq]
      unfold Addr.add
      split
      · simp
      · rfl
    · rw [← g4 i hi, hk]
      congr 2
      rw [Nat.add_mul]; omega
theorem SlIs.take {T : Ty α} {S : Nat → Prop} {ao : Option Addr} {n cap t : Nat} {l : List α} (h : SlIs T S w (.slice ao n cap) l) (ht : t ≤ l.length) : SlIs T S w (.slice ao t cap) (l.take t) := by
  obtain ⟨ao', cap', b, off, hv, h1, h2, h3, h4⟩ := h
  simp only [Value.slice.injEq] at hv
  obtain ⟨rfl, rfl, rfl⟩ := hv
  refine ⟨ao, cap, b, off, by rw [List.length_take, Nat.min_eq_left ht], by rw [List.length_take]; omega, h2, h3, fun j hj => ?_⟩
  rw [List.length_take] at hj
  obtain ⟨g1, g2, g3, cs, g4, g5⟩ := h4 j (by omega)
  exact ⟨g1, g2, g3, cs, g4, by rw [List.getElem_take]; exact g5⟩

/-- ONE element, laid in a block of its own just before: 'out = append(out, x)' -/
theorem SlIs.single {T : Ty α} {S : Nat → Prop} {cs : Array Value} {e : TypeId} {x : α} (h : T.is S w cs.toList x) (hS : ∀ k, S k → k < w.heap.size) : SlIs T (fun k => S k ∨ k = w.heap.size) (w.alloc (.cells cs e)) (.slice (some ⟨w.heap.size, 0, none⟩) 1 1) [x] :=
  SlIs.of_block (css := [cs.toList]) (l := [x]) (heap_alloc_new _ _) ⟨[], by simp⟩ ⟨T.keep h (fun k hk => .inl hk) (fun k hk => Below.heap_alloc _ _ _ (hS k hk)), trivial⟩ (.inr rfl) (by simp) (by decide)
theorem wpList_append_one {ops : Array Oper} {rest : List Oper} {o : Oper} {a : Act} {Q : Exit → Act → World → Prop} (s x : Operand) (hgd : o.guard = none) (t : TypeId)
    (ho : o.op = .call { callee := .builtin .append, args := #[s, x], argTypes := #[t, t] }) {T : Ty α} {e e' : TypeId} {bytes B : Nat} (hT : SlT P t e T.sz bytes) {v : Value} {l : List α} {y : α} {cs : Array Value} {S : Nat → Prop} (hs : a.eval s = v) (hown : OwnSl T e B w v l)
    (hx : a.eval x = .slice (some ⟨w.heap.size, 0, none⟩) 1 1) (hy : T.is S w cs.toList y) (hS : ∀ k, S k → k < w.heap.size ∧ some k ≠ v.ownBlock) (hbytes : (l.length + 1) * bytes ≤ 140737488355328) (h63 : l.length + 1 ≤ maxLen) (hB : B ≤ w.heap.size)
    (h : ∀ v' w', OwnSl T e B w' v' (l ++ [y]) → (w.alloc (.cells cs e')).grownBy w' v.ownBlock → Below B w w' → wpList P ops Q rest (a.put o.dst v') w') : wpList P ops Q (o :: rest) a (w.alloc (.cells cs e')) :=
  wpList_append_sl s x hgd t ho hT hs (hown.alloc _) hx (SlIs.single hy (fun k hk => (hS k hk).1)) (fun k hk => by
      rcases hk with hk | rfl
      · have := hS k hk
        exact ⟨by simp; omega, this.2⟩
      · exact ⟨by simp, fun e => by have := (hown.own_lt _ e.symm).2; omega⟩)
    hbytes h63 (by simp; omega) fun v' w' h2 h3 _ => h v' w' h2 h3 (((Below.refl _ _).alloc hB _).trans (Below.of_grown h3 (by simp; omega) (fun k hk => (hown.own_lt k hk).1)))
end

end Go.Tw
