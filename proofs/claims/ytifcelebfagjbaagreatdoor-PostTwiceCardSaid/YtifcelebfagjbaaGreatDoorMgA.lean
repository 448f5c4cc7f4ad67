/-
  Layer proofs, merged: Own Own2 Deep Deep2 Row Ord.
-/
import Derived.Test.YtifcelebfagjbaaGreatDoorLib
import Derived.Deep.AppendLies
import Derived.Laws.MakeOwn
import Derived.Laws.BytesArg
import Derived.Sort.LotA
import Derived.Shelf.SlSortCmp.Insertion
namespace Go.Tw
open Go.RowKit
structure SlT (P : Program) (t e : TypeId) (size bytes : Nat) : Prop where
 und : P.underlying t = some (.slice e)
 info : ∃ i z, P.info? e = some i ∧ i.zero = some z ∧ i.size = size ∧ i.bytes = bytes ∧ z.cells.size = size
 pos : 0 < size
theorem SlT.of {P : Program} {t e : TypeId} {size bytes : Nat} {z : Value} (h : P.underlying t = some (.slice e)) (hi : (P.info? e).map (fun i => (i.zero, i.size, i.bytes)) = some (some z, size, bytes)) (hz : z.cells.size = size) (hp : 0 < size) : SlT P t e size bytes := by
 obtain ⟨i, h1, h2, h3, h4⟩ := info_parts hi; exact ⟨h, ⟨i, z, h1, h2, h3, h4, hz⟩, hp⟩
def OwnSl {α : Type} (T : Ty α) (e : TypeId) (B : Nat) (w : World) (v : Value) (l : List α) : Prop :=
 ∃ css, w.ownsRow B e T.sz v l.length css.flatten ∧ AllIs T (fun k => k < w.heap.size ∧ some k ≠ v.ownBlock) w css l
theorem AllIs.keep {α : Type} {T : Ty α} {S S' : Nat → Prop} {w w' : World} (hs : ∀ k, S k → S' k) (hw : SameOn S w w') : ∀ {css : List (List Value)} {l : List α}, AllIs T S w css l → AllIs T S' w' css l
 | [], [], _ => trivial
 | _ :: _, _ :: _, h => ⟨T.keep h.1 hs hw, AllIs.keep hs hw h.2⟩
 | [], _ :: _, h => h.elim
 | _ :: _, [], h => h.elim
theorem AllIs.append {α : Type} {T : Ty α} {S : Nat → Prop} {w : World} : ∀ {css css' : List (List Value)} {l l' : List α}, AllIs T S w css l → AllIs T S w css' l' → AllIs T S w (css ++ css') (l ++ l')
 | [], _, [], _, _, h' => h'
 | _ :: _, _, _ :: _, _, h, h' => ⟨h.1, AllIs.append h.2 h'⟩
 | [], _, _ :: _, _, h, _ => h.elim
 | _ :: _, _, [], _, h, _ => h.elim
theorem AllIs.flatten_len {α : Type} {T : Ty α} {S : Nat → Prop} {w : World} : ∀ {css : List (List Value)} {l : List α}, AllIs T S w css l → css.flatten.length = l.length * T.sz
 | [], [], _ => by simp
 | cs :: css, x :: l, h => by
  have := AllIs.flatten_len h.2; rw [List.flatten_cons, List.length_append, this, T.len h.1, List.length_cons, Nat.succ_mul]; omega
 | [], _ :: _, h => h.elim
 | _ :: _, [], h => h.elim
theorem AllIs.one {α : Type} {T : Ty α} {S : Nat → Prop} {w : World} : ∀ {css : List (List Value)} {l : List α}, AllIs T S w css l → ∀ u ∈ css.flatten, u.oneCell' = true
 | [], [], _, u, hu => by simp at hu
 | cs :: css, x :: l, h, u, hu => by
  rw [List.flatten_cons, List.mem_append] at hu
  rcases hu with hu | hu
  · exact T.one h.1 u hu
  · exact AllIs.one h.2 u hu
 | [], _ :: _, h, _, _ => h.elim
 | _ :: _, [], h, _, _ => h.elim
theorem OwnSl.nil {α : Type} (T : Ty α) (e : TypeId) (B : Nat) (w : World) : OwnSl T e B w (.slice none 0 0) ([] : List α) := ⟨[], World.ownsRow_nil _ _ _ _, trivial⟩
theorem OwnSl.lit {α : Type} {T : Ty α} {e : TypeId} {B : Nat} {w : World} {cs : Array Value} {css : List (List Value)} {l : List α} (hcs : cs.toList = css.flatten) (h : AllIs T (· < w.heap.size) w css l) (hB : B ≤ w.heap.size) (hm : l.length ≤ maxLen) :
  OwnSl T e B (w.alloc (.cells cs e)) (.slice (some ⟨w.heap.size, 0, none⟩) l.length l.length) l :=
 ⟨css, by rw [← hcs]; exact World.ownsRow_lit w cs l.length hB hm (by rw [← Array.length_toList, hcs, h.flatten_len]),
  h.keep (fun k hk => ⟨by simp; omega, by simp [Value.ownBlock]; omega⟩) (fun k hk => Below.heap_alloc _ _ _ hk)⟩
theorem OwnSl.own_lt {α : Type} {T : Ty α} {e : TypeId} {B : Nat} {w : World} {v : Value} {l : List α} (h : OwnSl T e B w v l) : ∀ k, v.ownBlock = some k → B ≤ k ∧ k < w.heap.size := by
 obtain ⟨css, h1, _⟩ := h; exact h1.lt
theorem OwnSl.form {α : Type} {T : Ty α} {e : TypeId} {B : Nat} {w : World} {v : Value} {l : List α} (h : OwnSl T e B w v l) : ∃ ao cap, v = .slice ao l.length cap ∧ l.length ≤ cap ∧ cap ≤ maxLen := by
 obtain ⟨css, h1, _⟩ := h
 rcases h1.2 with ⟨h, h'⟩ | ⟨g, cap, cur, h, _, _, h3, h4, _⟩
 · exact ⟨none, 0, by rw [h, h'], by omega, Nat.zero_le _⟩
 · exact ⟨_, cap, h, h3, h4⟩
theorem OwnSl.sl {α : Type} {T : Ty α} {e : TypeId} {B : Nat} {w : World} {v : Value} {l : List α} (h : OwnSl T e B w v l) : SlIs T (· < w.heap.size) w v l := by
 obtain ⟨css, h1, h2⟩ := h
 rcases h1.2 with ⟨rfl, h'⟩ | ⟨g, cap, cur, rfl, _, hg, h3, h4, _, h6⟩
 · obtain rfl : l = [] := List.eq_nil_of_length_eq_zero h'
   exact SlIs.nil
 · exact SlIs.of_block (css := css) hg ⟨cur.toList.drop (l.length * T.sz), by rw [← h6]; exact List.take_append_drop _ _⟩ (h2.keep (fun k hk => hk.1) (SameOn.refl _ _)) (lt_of_heap hg) h3 h4
def Ty.Flat {α : Type} (T : Ty α) : Prop := ∀ {S S' : Nat → Prop} {w w' : World} {cs : List Value} {x : α}, T.is S w cs x → T.is S' w' cs x
theorem OwnSl.below {α : Type} {T : Ty α} {e : TypeId} {B : Nat} {w w' : World} {v : Value} {l : List α} (h : OwnSl T e B w v l) (hb : Below w.heap.size w w') : OwnSl T e B w' v l := by
 obtain ⟨css, h1, h2⟩ := h; refine ⟨css, ?_, h2.keep (fun k hk => ⟨Nat.lt_of_lt_of_le hk.1 hb.size, hk.2⟩) (fun k hk => hb.block k hk.1)⟩; refine h1.kept (row := none) ⟨hb.os, hb.tape, hb.output, hb.size, fun k hk _ => hb.block k hk⟩ ?_
 cases v.ownBlock <;> simp
theorem OwnSl.alloc {α : Type} {T : Ty α} {e : TypeId} {B : Nat} {w : World} {v : Value} {l : List α} (h : OwnSl T e B w v l) (o : Obj) : OwnSl T e B (w.alloc o) v l := h.below ((Below.refl _ _).alloc (Nat.le_refl _) o)
theorem Below.of_grown {B : Nat} {w w' : World} {row : Option Nat} (hg : w.grownBy w' row) (hB : B ≤ w.heap.size) (hr : ∀ k, row = some k → B ≤ k) : Below B w w' := (Below.refl _ _).grown hg hB hr
theorem SameOn.set {S : Nat → Prop} {w0 w : World} (h : SameOn S w0 w) {a : Addr} (ha : ¬ S a.block) (u : Value) : SameOn S w0 (w.setCell a u) := fun k hk => (Below.heap_setCell _ _ _ _ (fun e => ha (e ▸ hk))).trans (h k hk)
theorem below_new {w w1 : World} {cs : Array Value} {e : TypeId} {B : Nat} (hb : Below B (w.alloc (.cells cs e)) w1) (hB : w.heap.size < B) : w1.heap[w.heap.size]? = some (.cells cs e (0, 0)) :=
 (hb.block w.heap.size hB).trans (heap_alloc_new _ _)
theorem blk1 {w : World} {g : Nat} {a : Value} {t : TypeId} (h : w.heap[g]? = some (.cells #[a] t (0, 0))) : w.cell? ⟨g, 0, none⟩ = some a ∧ ∀ j, w.frozen? ⟨g, j, none⟩ = false := ⟨cell_of_row _ _ 0 _ _ _ h, fun j => frozen_of_row _ _ j _ _ h⟩
theorem blk2 {w : World} {g : Nat} {a b : Value} {t : TypeId} (h : w.heap[g]? = some (.cells #[a, b] t (0, 0))) : w.cell? ⟨g, 0, none⟩ = some a ∧ w.cell? ⟨g, 1, none⟩ = some b ∧ ∀ j, w.frozen? ⟨g, j, none⟩ = false := ⟨cell_of_row _ _ 0 _ _ _ h, cell_of_row _ _ 1 _ _ _ h, fun j => frozen_of_row _ _ j _ _ h⟩
theorem blk3 {w : World} {g : Nat} {a b c : Value} {t : TypeId} (h : w.heap[g]? = some (.cells #[a, b, c] t (0, 0))) : w.cell? ⟨g, 0, none⟩ = some a ∧ w.cell? ⟨g, 1, none⟩ = some b ∧ w.cell? ⟨g, 2, none⟩ = some c ∧ ∀ j, w.frozen? ⟨g, j, none⟩ = false := ⟨cell_of_row _ _ 0 _ _ _ h, cell_of_row _ _ 1 _ _ _ h, cell_of_row _ _ 2 _ _ _ h, fun j => frozen_of_row _ _ j _ _ h⟩
theorem blk5 {w : World} {g : Nat} {a b c d e : Value} {t : TypeId} (h : w.heap[g]? = some (.cells #[a, b, c, d, e] t (0, 0))) : w.cell? ⟨g, 0, none⟩ = some a ∧ w.cell? ⟨g, 1, none⟩ = some b ∧ w.cell? ⟨g, 2, none⟩ = some c ∧ w.cell? ⟨g, 3, none⟩ = some d ∧ w.cell? ⟨g, 4, none⟩ = some e ∧ ∀ j, w.frozen? ⟨g, j, none⟩ = false := ⟨cell_of_row _ _ 0 _ _ _ h, cell_of_row _ _ 1 _ _ _ h, cell_of_row _ _ 2 _ _ _ h, cell_of_row _ _ 3 _ _ _ h, cell_of_row _ _ 4 _ _ _ h, fun j => frozen_of_row _ _ j _ _ h⟩
theorem snocInd {α : Type} {p : List α → Prop} (h0 : p []) (h1 : ∀ l x, p l → p (l ++ [x])) (l : List α) : p l := by
 have key : ∀ l : List α, p l.reverse := by
  intro l
  induction l with
  | nil => exact h0
  | cons x l ih => rw [List.reverse_cons]; exact h1 _ _ ih
 have := key l.reverse
 rwa [List.reverse_reverse] at this
section
variable {α : Type} {P : Program} {w : World}
theorem SlIs.cells {T : Ty α} {S : Nat → Prop} {v : Value} {l : List α} (h : SlIs T S w v l) : ∃ css, AllIs T S w css l ∧
  ((l = [] ∧ css = [] ∧ v = .slice none 0 0) ∨ ∃ a cap, v = .slice (some a) l.length cap ∧ l.length ≤ cap ∧ ∀ j u, css.flatten[j]? = some u → w.cell? (a.add j) = some u) := by
 obtain ⟨ao, cap, b, off, rfl, h1, h2, h3, h4⟩ := h
 have key : ∀ l' : List α, (∀ k (hk : k < l'.length), ao = some ⟨b, off, none⟩ ∧ S b ∧ b < w.heap.size ∧ ∃ cs : List Value, (∀ j, j < T.sz → w.cell? ⟨b, off + k * T.sz + j, none⟩ = cs[j]?) ∧ T.is S w cs l'[k]) →
   ∃ css, AllIs T S w css l' ∧ ∀ j u, css.flatten[j]? = some u → w.cell? ⟨b, off + j, none⟩ = some u := by
  intro l'
  refine snocInd (p := fun l' : List α => (∀ k (hk : k < l'.length), ao = some ⟨b, off, none⟩ ∧ S b ∧ b < w.heap.size ∧ ∃ cs : List Value, (∀ j, j < T.sz → w.cell? ⟨b, off + k * T.sz + j, none⟩ = cs[j]?) ∧ T.is S w cs l'[k]) →
   ∃ css, AllIs T S w css l' ∧ ∀ j u, css.flatten[j]? = some u → w.cell? ⟨b, off + j, none⟩ = some u) ?_ ?_ l'
  · exact fun _ => ⟨[], trivial, fun j u h => by simp at h⟩
  · intro l' x ih g
    obtain ⟨css, g1, g2⟩ := ih (fun k hk => by
     have := g k (by simp; omega)
     rwa [List.getElem_append_left hk] at this)
    obtain ⟨_, _, _, cs, q1, q2⟩ := g l'.length (by simp); rw [List.getElem_append_right (Nat.le_refl _)] at q2; simp only [Nat.sub_self, List.getElem_cons_zero] at q2; refine ⟨css ++ [cs], g1.append ⟨q2, trivial⟩, fun j u hu => ?_⟩; rw [List.flatten_append, List.flatten_cons, List.flatten_nil, List.append_nil] at hu
    by_cases hj : j < css.flatten.length
    · rw [List.getElem?_append_left hj] at hu
      exact g2 j u hu
    · rw [List.getElem?_append_right (by omega), g1.flatten_len] at hu
      have hlt : j - l'.length * T.sz < T.sz := by
       have := (List.getElem?_eq_some_iff.1 hu).1
       rwa [T.len q2] at this
      rw [← q1 _ hlt] at hu; rw [g1.flatten_len] at hj; rw [← hu]
      congr 2
      omega
 obtain ⟨css, g1, g2⟩ := key l h4; refine ⟨css, g1, ?_⟩
 cases ao with
 | none =>
  have := h3 rfl; have hl : l = [] := List.eq_nil_of_length_eq_zero (by omega); subst hl
  match css, g1 with
  | [], _ => exact .inl ⟨rfl, rfl, by rw [this]; rfl⟩
 | some a =>
  refine .inr ⟨a, cap, rfl, h1, fun j u hu => ?_⟩
  have hpos : 0 < l.length := by
   rcases Nat.eq_zero_or_pos l.length with h | h
   · have hl : l = [] := List.eq_nil_of_length_eq_zero h
     subst hl
     match css, g1 with
     | [], _ => simp at hu
   · exact h
  obtain ⟨ea, _⟩ := h4 0 hpos; simp only [Option.some.injEq] at ea; subst ea
  have : (⟨b, off, none⟩ : Addr).add j = ⟨b, off + j, none⟩ := by unfold Addr.add; split <;> simp_all
  rw [this]; exact g2 j u hu
theorem run_append_sl {T : Ty α} {t ty e : TypeId} {bytes B : Nat} (hT : SlT P t e T.sz bytes) {v v2 : Value} {l l2 : List α} {S : Nat → Prop} (hown : OwnSl T e B w v l) (hsl : SlIs T S w v2 l2) (hS : ∀ k, S k → k < w.heap.size ∧ some k ≠ v.ownBlock)
  (hbytes : (l.length + l2.length) * bytes ≤ 140737488355328) (h63 : l.length + l2.length ≤ maxLen) (hB : B ≤ w.heap.size) :
  ∃ v' w', (Builtin.append_ #[t, t] ty #[v, v2]).run P w = .ok v' w' ∧ OwnSl T e B w' v' (l ++ l2) ∧ w.grownBy w' v.ownBlock ∧ (v'.ownBlock = v.ownBlock ∨ v'.ownBlock = some w.heap.size) := by
 obtain ⟨und, ⟨i, z, hi, hz, hsize, hby, hzs⟩, hpos⟩ := hT; obtain ⟨css2, g1, g2⟩ := hsl.cells; have hown' := hown; obtain ⟨css, o1, o2⟩ := hown
 rcases g2 with ⟨rfl, rfl, rfl⟩ | ⟨a, cap, rfl, hcap, hcell⟩
 · exact ⟨v, w, run_append_owned_none (P := P) (w := w) B t ty e i T.sz und hi v l.length css.flatten o1, by rw [List.append_nil]; exact hown', World.grownBy.refl _ _, .inl rfl⟩
 · have fin : ∀ v' w', w'.ownsRow B e T.sz v' (l.length + l2.length) (css.flatten ++ css2.flatten) → w.grownBy w' v.ownBlock → (v'.ownBlock = v.ownBlock ∨ v'.ownBlock = some w.heap.size) → OwnSl T e B w' v' (l ++ l2) := by
     intro v' w' r1 r2 r3; refine ⟨css ++ css2, by rw [List.flatten_append, List.length_append]; exact r1, ?_⟩
     have hb : ∀ k, (k < w.heap.size ∧ some k ≠ v.ownBlock) → k < w'.heap.size ∧ some k ≠ v'.ownBlock := fun k hk => ⟨Nat.lt_of_lt_of_le hk.1 r2.size, by
      rcases r3 with h | h
      · rw [h]; exact hk.2
      · rw [h]; simp; omega⟩
     exact (o2.keep hb (fun k hk => r2.block k hk.1 hk.2)).append (g1.keep (fun k hk => hb k (hS k hk)) (fun k hk => r2.block k (hS k hk).1 (hS k hk).2))
   have h1 := g1.one; have hl := g1.flatten_len
   by_cases hm : 0 < l2.length
   · obtain ⟨g, cap', w', hr, r1, r2, r3, _⟩ := Go.run_append_lies (P := P) w t ty B e i z T.sz bytes und hi hz hsize hby hzs hpos v l.length css.flatten o1 a l2.length cap css2.flatten hl hcell h1 hm h63 hbytes hB w.heap.size rfl
     have r3' : (Value.slice (some ⟨g, 0, none⟩) (l.length + l2.length) cap').ownBlock = v.ownBlock ∨ (Value.slice (some ⟨g, 0, none⟩) (l.length + l2.length) cap').ownBlock = some w.heap.size := by
      rcases r3 with h | h
      · left; rw [h]; rfl
      · right; rw [h]; rfl
     exact ⟨_, w', hr, fin _ _ r1 r2 r3', r2, r3'⟩
   · have hl2 : l2 = [] := List.eq_nil_of_length_eq_zero (by omega)
     subst hl2
     match css2, g1 with
     | [], _ =>
      rcases o1.2 with ⟨rfl, hz0⟩ | ⟨g, cap', cur, rfl, hbg, hg, hnc, hcm, hcs, htake⟩
      · refine ⟨.slice none 0 0, w, ?_, by rw [List.append_nil]; exact hown', World.grownBy.refl _ _, .inl rfl⟩
        simp [Builtin.append_, run_underlying und, sizeOf, typeInfo, hi, Builtin.lenOf, Builtin.firstCells, loadCells, loadCellsFrom]
      · have hr := run_append_room (P := P) w t ty e i und hi g l.length cap' cur hg a 0 cap [] (by simp) (fun j u hu => by simp at hu) (fun u hu => by simp at hu) (by omega) (by simp; rw [hcs, hsize]; exact Nat.mul_le_mul_right _ hnc)
        have hgr : w.grownBy (w.setRow g (cur.toList.take (l.length * i.size) ++ [] ++ cur.toList.drop (l.length * i.size + ([] : List Value).length)).toArray) (some g) :=
         ⟨rfl, rfl, rfl, by simp, fun k _ hk => setRow_other w g k _ (fun e => hk (by simp [e]))⟩
        refine ⟨_, _, hr, fin _ _ ⟨by simp [o2.flatten_len], .inr ⟨g, cap', _, rfl, hbg, setRow_heap w g cur _ e _ hg, by simpa using hnc, hcm, ?_, ?_⟩⟩ hgr (.inl rfl), hgr, .inl rfl⟩
        · simp only [List.append_nil, List.length_nil, Nat.add_zero, List.take_append_drop, Array.toArray_toList]; exact hcs
        · simp only [List.append_nil, List.length_nil, Nat.add_zero, List.take_append_drop, List.flatten_nil]; exact htake
theorem wp_append_sl {o : Oper} {a : Act} {K : Act → World → Prop} {Q : Exit → Act → World → Prop} (s x : Operand) (t : TypeId)
  (ho : o.op = .call { callee := .builtin .append, args := #[s, x], argTypes := #[t, t] }) {T : Ty α} {e : TypeId} {bytes B : Nat} (hT : SlT P t e T.sz bytes) {v v2 : Value} {l l2 : List α} {S : Nat → Prop} (hs : a.eval s = v) (hown : OwnSl T e B w v l)
  (hx : a.eval x = v2) (hsl : SlIs T S w v2 l2) (hS : ∀ k, S k → k < w.heap.size ∧ some k ≠ v.ownBlock) (hbytes : (l.length + l2.length) * bytes ≤ 140737488355328) (h63 : l.length + l2.length ≤ maxLen) (hB : B ≤ w.heap.size)
  (h : ∀ v' w', OwnSl T e B w' v' (l ++ l2) → w.grownBy w' v.ownBlock → (v'.ownBlock = v.ownBlock ∨ v'.ownBlock = some w.heap.size) → K (a.put o.dst v') w') : o.wp P a w K Q := by
 obtain ⟨v', w', hr, h2, h3, h4⟩ := run_append_sl (P := P) (ty := o.type) hT hown hsl hS hbytes h63 hB; unfold Oper.wp execOp; simp only [ho, resolve, invoke, builtin, Sem.run_bind, Sem.run_pure, Result.andThen_ok, List.map_toArray, List.map_cons, List.map_nil, hs, hx, hr]; exact h v' w' h2 h3 h4
theorem wpList_append_sl {ops : Array Oper} {rest : List Oper} {o : Oper} {a : Act} {Q : Exit → Act → World → Prop} (s x : Operand) (hgd : o.guard = none) (t : TypeId)
  (ho : o.op = .call { callee := .builtin .append, args := #[s, x], argTypes := #[t, t] }) {T : Ty α} {e : TypeId} {bytes B : Nat} (hT : SlT P t e T.sz bytes) {v v2 : Value} {l l2 : List α} {S : Nat → Prop} (hs : a.eval s = v) (hown : OwnSl T e B w v l)
  (hx : a.eval x = v2) (hsl : SlIs T S w v2 l2) (hS : ∀ k, S k → k < w.heap.size ∧ some k ≠ v.ownBlock) (hbytes : (l.length + l2.length) * bytes ≤ 140737488355328) (h63 : l.length + l2.length ≤ maxLen) (hB : B ≤ w.heap.size)
  (h : ∀ v' w', OwnSl T e B w' v' (l ++ l2) → w.grownBy w' v.ownBlock → (v'.ownBlock = v.ownBlock ∨ v'.ownBlock = some w.heap.size) → wpList P ops Q rest (a.put o.dst v') w') : wpList P ops Q (o :: rest) a w :=
 wpList_plain hgd fun _ hK => wp_append_sl s x t ho hT hs hown hx hsl hS hbytes h63 hB fun v' w' h2 h3 h4 => hK _ _ (h v' w' h2 h3 h4)
theorem wpList_append_old {ops : Array Oper} {rest : List Oper} {o : Oper} {a : Act} {Q : Exit → Act → World → Prop} (s x : Operand) (hgd : o.guard = none) (t : TypeId)
  (ho : o.op = .call { callee := .builtin .append, args := #[s, x], argTypes := #[t, t] }) {T : Ty α} {e : TypeId} {bytes B : Nat} (hT : SlT P t e T.sz bytes) {v v2 : Value} {l l2 : List α} (hs : a.eval s = v) (hown : OwnSl T e B w v l)
  (hx : a.eval x = v2) (hsl : SlIs T (· < B) w v2 l2) (hbytes : (l.length + l2.length) * bytes ≤ 140737488355328) (h63 : l.length + l2.length ≤ maxLen) (hB : B ≤ w.heap.size)
  (h : ∀ v' w', OwnSl T e B w' v' (l ++ l2) → w.grownBy w' v.ownBlock → Below B w w' → wpList P ops Q rest (a.put o.dst v') w') : wpList P ops Q (o :: rest) a w :=
 wpList_append_sl s x hgd t ho hT hs hown hx hsl (fun k hk => ⟨Nat.lt_of_lt_of_le hk hB, fun e => Nat.lt_irrefl _ (Nat.lt_of_lt_of_le hk (hown.own_lt k e.symm).1)⟩) hbytes h63 hB
  fun v' w' h2 h3 _ => h v' w' h2 h3 (Below.of_grown h3 hB (fun k hk => (hown.own_lt k hk).1))
theorem small_bytes {n m k bytes : Nat} (h : n + m ≤ k) (hk : k * bytes ≤ 140737488355328) : (n + m) * bytes ≤ 140737488355328 := Nat.le_trans (Nat.mul_le_mul_right _ h) hk
theorem SlIs.drop {T : Ty α} {S : Nat → Prop} {ao : Option Addr} {n cap t k : Nat} {l : List α} (h : SlIs T S w (.slice ao n cap) l) (ht : t ≤ l.length) (hk : k = t * T.sz) :
  SlIs T S w (.slice (if cap = t then ao else Option.map (fun x => x.add k) ao) (n - t) (cap - t)) (l.drop t) := by
 obtain ⟨ao', cap', b, off, hv, h1, h2, h3, h4⟩ := h; simp only [Value.slice.injEq] at hv; obtain ⟨rfl, rfl, rfl⟩ := hv; refine ⟨_, cap - t, b, off + k, by rw [List.length_drop], by rw [List.length_drop]; omega, by omega, fun hn => ?_, fun j hj => ?_⟩
 · split at hn
   · omega
   · have := h3 (by simpa using hn); omega
 · rw [List.length_drop] at hj
   obtain ⟨g1, g2, g3, cs, g4, g5⟩ := h4 (t + j) (by omega); refine ⟨?_, g2, g3, cs, fun i hi => ?_, by rw [List.getElem_drop]; exact g5⟩
   · rw [if_neg (by omega), g1]
     simp only [Option.map_some, Option.some.injEq]; unfold Addr.add
     split
     · simp
     · rfl
   · rw [← g4 i hi, hk]
     congr 2
     rw [Nat.add_mul]; omega
theorem SlIs.take {T : Ty α} {S : Nat → Prop} {ao : Option Addr} {n cap t : Nat} {l : List α} (h : SlIs T S w (.slice ao n cap) l) (ht : t ≤ l.length) : SlIs T S w (.slice ao t cap) (l.take t) := by
 obtain ⟨ao', cap', b, off, hv, h1, h2, h3, h4⟩ := h; simp only [Value.slice.injEq] at hv; obtain ⟨rfl, rfl, rfl⟩ := hv; refine ⟨ao, cap, b, off, by rw [List.length_take, Nat.min_eq_left ht], by rw [List.length_take]; omega, h2, h3, fun j hj => ?_⟩; rw [List.length_take] at hj; obtain ⟨g1, g2, g3, cs, g4, g5⟩ := h4 j (by omega); exact ⟨g1, g2, g3, cs, g4, by rw [List.getElem_take]; exact g5⟩
theorem SlIs.single {T : Ty α} {S : Nat → Prop} {cs : Array Value} {e : TypeId} {x : α} (h : T.is S w cs.toList x) (hS : ∀ k, S k → k < w.heap.size) : SlIs T (fun k => S k ∨ k = w.heap.size) (w.alloc (.cells cs e)) (.slice (some ⟨w.heap.size, 0, none⟩) 1 1) [x] :=
 SlIs.of_block (css := [cs.toList]) (l := [x]) (heap_alloc_new _ _) ⟨[], by simp⟩ ⟨T.keep h (fun k hk => .inl hk) (fun k hk => Below.heap_alloc _ _ _ (hS k hk)), trivial⟩ (.inr rfl) (by simp) (by decide)
theorem wpList_append_one {ops : Array Oper} {rest : List Oper} {o : Oper} {a : Act} {Q : Exit → Act → World → Prop} (s x : Operand) (hgd : o.guard = none) (t : TypeId)
  (ho : o.op = .call { callee := .builtin .append, args := #[s, x], argTypes := #[t, t] }) {T : Ty α} {e e' : TypeId} {bytes B : Nat} (hT : SlT P t e T.sz bytes) {v : Value} {l : List α} {y : α} {cs : Array Value} {S : Nat → Prop} (hs : a.eval s = v) (hown : OwnSl T e B w v l)
  (hx : a.eval x = .slice (some ⟨w.heap.size, 0, none⟩) 1 1) (hy : T.is S w cs.toList y) (hS : ∀ k, S k → k < w.heap.size ∧ some k ≠ v.ownBlock) (hbytes : (l.length + 1) * bytes ≤ 140737488355328) (h63 : l.length + 1 ≤ maxLen) (hB : B ≤ w.heap.size)
  (h : ∀ v' w', OwnSl T e B w' v' (l ++ [y]) → (w.alloc (.cells cs e')).grownBy w' v.ownBlock → Below B w w' → wpList P ops Q rest (a.put o.dst v') w') : wpList P ops Q (o :: rest) a (w.alloc (.cells cs e')) :=
 wpList_append_sl s x hgd t ho hT hs (hown.alloc _) hx (SlIs.single hy (fun k hk => (hS k hk).1)) (fun k hk => by
   rcases hk with hk | rfl
   · have := hS k hk
     exact ⟨by simp; omega, this.2⟩
   · exact ⟨by simp, fun e => by have := (hown.own_lt _ e.symm).2; omega⟩)
  hbytes h63 (by simp; omega) fun v' w' h2 h3 _ => h v' w' h2 h3 (((Below.refl _ _).alloc hB _).trans (Below.of_grown h3 (by simp; omega) (fun k hk => (hown.own_lt k hk).1)))
end
end Go.Tw
namespace Go.Tw
open Go.RowKit
variable {α β : Type} {T : Ty α} {U : Ty β} {e e2 : TypeId} {B : Nat} {w w' : World} {S S' : Nat → Prop} {v v' u : Value} {l : List α} {m : List β}
def OwnS {α : Type} (T : Ty α) (e : TypeId) (B : Nat) (S : Nat → Prop) (w : World) (v : Value) (l : List α) : Prop :=
 ∃ css, w.ownsRow B e T.sz v l.length css.flatten ∧ AllIs T S w css l
theorem OwnS.to (h : OwnS T e B S w v l) (hS : ∀ k, S k → k < w.heap.size ∧ some k ≠ v.ownBlock) : OwnSl T e B w v l := by
 obtain ⟨css, h1, h2⟩ := h; exact ⟨css, h1, h2.keep hS (SameOn.refl _ _)⟩
theorem OwnS.own_lt (h : OwnS T e B S w v l) : ∀ k, v.ownBlock = some k → B ≤ k ∧ k < w.heap.size := by
 obtain ⟨css, h1, _⟩ := h; exact h1.lt
theorem OwnS.mono (h : OwnS T e B S w v l) (hS : ∀ k, S k → S' k) : OwnS T e B S' w v l := by
 obtain ⟨css, h1, h2⟩ := h; exact ⟨css, h1, h2.keep hS (SameOn.refl _ _)⟩
theorem OwnS.form (h : OwnS T e B S w v l) : ∃ ao cap, v = .slice ao l.length cap ∧ l.length ≤ cap ∧ cap ≤ maxLen := by
 obtain ⟨css, h1, _⟩ := h
 rcases h1.2 with ⟨h, h'⟩ | ⟨g, cap, cur, h, _, _, h3, h4, _⟩
 · exact ⟨none, 0, by rw [h, h'], by omega, Nat.zero_le _⟩
 · exact ⟨_, cap, h, h3, h4⟩
theorem OwnS.sl (h : OwnS T e B S w v l) : SlIs T (fun k => S k ∨ v.ownBlock = some k) w v l := by
 obtain ⟨css, h1, h2⟩ := h
 rcases h1.2 with ⟨rfl, h'⟩ | ⟨g, cap, cur, rfl, _, hg, h3, h4, _, h6⟩
 · obtain rfl : l = [] := List.eq_nil_of_length_eq_zero h'
   exact SlIs.nil
 · exact SlIs.of_block (css := css) hg ⟨cur.toList.drop (l.length * T.sz), by rw [← h6]; exact List.take_append_drop _ _⟩ (h2.keep (fun k hk => .inl hk) (SameOn.refl _ _)) (.inr rfl) h3 h4
theorem OwnS.below (h : OwnS T e B S w v l) (hS : ∀ k, S k → k < w.heap.size) (hb : Below w.heap.size w w') : OwnS T e B S w' v l := by
 obtain ⟨css, h1, h2⟩ := h; refine ⟨css, ?_, h2.keep (fun k hk => hk) (fun k hk => hb.block k (hS k hk))⟩; refine h1.kept (row := none) ⟨hb.os, hb.tape, hb.output, hb.size, fun k hk _ => hb.block k hk⟩ ?_
 cases v.ownBlock <;> simp
section
variable {P : Program}
theorem run_append_S {t ty : TypeId} {bytes : Nat} (hT : SlT P t e T.sz bytes) {v2 : Value} {l2 : List α} (hown : OwnS T e B S w v l) (hS : ∀ k, S k → k < w.heap.size ∧ some k ≠ v.ownBlock) (hsl : SlIs T S' w v2 l2) (hS' : ∀ k, S' k → k < w.heap.size ∧ some k ≠ v.ownBlock)
  (hpos2 : 0 < l2.length) (hbytes : (l.length + l2.length) * bytes ≤ 140737488355328) (h63 : l.length + l2.length ≤ maxLen) (hB : B ≤ w.heap.size) :
  ∃ v' w', (Builtin.append_ #[t, t] ty #[v, v2]).run P w = .ok v' w' ∧ OwnS T e B (fun k => S k ∨ S' k) w' v' (l ++ l2) ∧ w.grownBy w' v.ownBlock ∧ (v'.ownBlock = v.ownBlock ∨ v'.ownBlock = some w.heap.size) := by
 obtain ⟨und, ⟨i, z, hi, hz, hsize, hby, hzs⟩, hpos⟩ := hT; obtain ⟨css2, g1, g2⟩ := hsl.cells; obtain ⟨css, o1, o2⟩ := hown
 rcases g2 with ⟨rfl, rfl, rfl⟩ | ⟨a, cap, rfl, hcap, hcell⟩
 · exact absurd hpos2 (Nat.not_lt_zero _)
 · have h1 := g1.one
   have hl := g1.flatten_len; obtain ⟨g, cap', w', hr, r1, r2, r3, _⟩ := Go.run_append_lies (P := P) w t ty B e i z T.sz bytes und hi hz hsize hby hzs hpos v l.length css.flatten o1 a l2.length cap css2.flatten hl hcell h1 hpos2 h63 hbytes hB w.heap.size rfl
   have r3' : (Value.slice (some ⟨g, 0, none⟩) (l.length + l2.length) cap').ownBlock = v.ownBlock ∨ (Value.slice (some ⟨g, 0, none⟩) (l.length + l2.length) cap').ownBlock = some w.heap.size := by
    rcases r3 with h | h
    · left; rw [h]; rfl
    · right; rw [h]; rfl
   refine ⟨_, w', hr, ⟨css ++ css2, by rw [List.flatten_append, List.length_append]; exact r1, ?_⟩, r2, r3'⟩; exact (o2.keep (fun k hk => .inl hk) (fun k hk => r2.block k (hS k hk).1 (hS k hk).2)).append (g1.keep (fun k hk => .inr hk) (fun k hk => r2.block k (hS' k hk).1 (hS' k hk).2))
theorem wpList_append_oneS {ops : Array Oper} {rest : List Oper} {o : Oper} {a : Act} {Q : Exit → Act → World → Prop} (s x : Operand) (hgd : o.guard = none) (t : TypeId)
  (ho : o.op = .call { callee := .builtin .append, args := #[s, x], argTypes := #[t, t] }) {e' : TypeId} {bytes : Nat} (hT : SlT P t e T.sz bytes) {y : α} {cs : Array Value} (hs : a.eval s = v) (hown : OwnS T e B S w v l) (hS : ∀ k, S k → k < w.heap.size ∧ some k ≠ v.ownBlock)
  (hx : a.eval x = .slice (some ⟨w.heap.size, 0, none⟩) 1 1) (hy : T.is S' w cs.toList y) (hS' : ∀ k, S' k → k < w.heap.size ∧ some k ≠ v.ownBlock) (hbytes : (l.length + 1) * bytes ≤ 140737488355328) (h63 : l.length + 1 ≤ maxLen) (hB : B ≤ w.heap.size)
  (h : ∀ v' w', OwnS T e B (fun k => S k ∨ (S' k ∨ k = w.heap.size)) w' v' (l ++ [y]) → (w.alloc (.cells cs e')).grownBy w' v.ownBlock → (v'.ownBlock = v.ownBlock ∨ v'.ownBlock = some (w.heap.size + 1)) → wpList P ops Q rest (a.put o.dst v') w') : wpList P ops Q (o :: rest) a (w.alloc (.cells cs e')) := by
 refine wpList_plain hgd fun K hK => ?_
 have hown' : OwnS T e B S (w.alloc (.cells cs e')) v l := hown.below (fun k hk => (hS k hk).1) ((Below.refl _ _).alloc (Nat.le_refl _) _)
 obtain ⟨v', w', hr, h2, h3, h4⟩ := run_append_S (P := P) (ty := o.type) hT hown' (fun k hk => ⟨by have := (hS k hk).1; simp; omega, (hS k hk).2⟩) (SlIs.single (e := e') hy (fun k hk => (hS' k hk).1)) (fun k hk => by
   rcases hk with hk | rfl
   · have := hS' k hk
     exact ⟨by simp; omega, this.2⟩
   · exact ⟨by simp, fun e => by have := (hown.own_lt _ e.symm).2; omega⟩) (by simp) hbytes h63 (by simp; omega)
 unfold Oper.wp execOp; simp only [ho, resolve, invoke, builtin, Sem.run_bind, Sem.run_pure, Result.andThen_ok, List.map_toArray, List.map_cons, List.map_nil, hs, hx, hr]; exact hK _ _ (h v' w' h2 h3 (by simpa using h4))
end
def Two {α β : Type} (T : Ty α) (U : Ty β) (e e2 : TypeId) (B : Nat) (w : World) (v u : Value) (l : List α) (m : List β) : Prop :=
 ∃ S, OwnS T e B S w v l ∧ OwnS U e2 B (fun _ => False) w u m ∧ (∀ k, S k → B ≤ k ∧ k < w.heap.size ∧ some k ≠ v.ownBlock ∧ some k ≠ u.ownBlock) ∧ (v.ownBlock = none ∨ v.ownBlock ≠ u.ownBlock)
section
variable {P : Program} {ops : Array Oper} {rest : List Oper} {o : Oper} {a : Act} {Q : Exit → Act → World → Prop}
end
theorem alloc1_0 (w : World) (a : Obj) : (w.alloc a).heap[w.heap.size]? = some a := heap_alloc_new _ _
theorem alloc1_old {w : World} {k : Nat} {o : Obj} (a : Obj) (h : w.heap[k]? = some o) : (w.alloc a).heap[k]? = some o := (Below.heap_alloc _ _ _ (lt_of_heap h)).trans h
theorem alloc2_0 (w : World) (a b : Obj) : ((w.alloc a).alloc b).heap[w.heap.size]? = some a := alloc1_old _ (alloc1_0 _ _)
theorem alloc2_1 (w : World) (a b : Obj) : ((w.alloc a).alloc b).heap[w.heap.size + 1]? = some b := by simpa using alloc1_0 (w.alloc a) b
theorem grown_at {w w1 : World} {row : Option Nat} (hg : w.grownBy w1 row) {k : Nat} {o : Obj} (h : w.heap[k]? = some o) (hne : some k ≠ row) : w1.heap[k]? = some o := (hg.block k (lt_of_heap h) hne).trans h
theorem Below.at_old {w w1 : World} (hb : Below w.heap.size w w1) {k : Nat} {o : Obj} (h : w.heap[k]? = some o) : w1.heap[k]? = some o := (hb.block k (lt_of_heap h)).trans h
end Go.Tw
namespace Go.Tw
open Go.RowKit
variable {α : Type} {T : Ty α} {e : TypeId} {F : List Nat} {w w' : World} {v : Value} {l : List α}
theorem OwnL.nil : OwnL T e [] w (.slice none 0 0) ([] : List α) := ⟨[], [], World.ownsRow_nil _ _ _ _, trivial, rfl⟩
theorem OwnL.form (h : OwnL T e F w v l) : ∃ ao cap, v = .slice ao l.length cap ∧ l.length ≤ cap ∧ cap ≤ maxLen := by
 obtain ⟨css, Fs, h1, _⟩ := h
 rcases h1.2 with ⟨h, h'⟩ | ⟨g, cap, cur, h, _, _, h3, h4, _⟩
 · exact ⟨none, 0, by rw [h, h'], by omega, Nat.zero_le _⟩
 · exact ⟨_, cap, h, h3, h4⟩
theorem OwnL.blk (h : OwnL T e F w v l) : ∀ k, v.ownBlock = some k → k ∈ F := by
 obtain ⟨css, Fs, h1, h2, rfl⟩ := h; intro k hk; rw [hk]; simp
theorem AllOwn.append : ∀ {Fs Fs' : List (List Nat)} {css css' : List (List Value)} {l l' : List α}, AllOwn T w Fs css l → AllOwn T w Fs' css' l' → AllOwn T w (Fs ++ Fs') (css ++ css') (l ++ l')
 | [], _, [], _, [], _, _, h' => h'
 | _ :: _, _, _ :: _, _, _ :: _, _, h, h' => ⟨h.1, AllOwn.append h.2 h'⟩
 | [], _, [], _, _ :: _, _, h, _ => h.elim
 | [], _, _ :: _, _, _, _, h, _ => h.elim
 | _ :: _, _, [], _, _, _, h, _ => h.elim
 | _ :: _, _, _ :: _, _, [], _, h, _ => h.elim
theorem AllOwn.split : ∀ {Fs : List (List Nat)} {css : List (List Value)} {l : List α} (i : Nat), AllOwn T w Fs css l → (hi : i < l.length) →
  ∃ Fa Fi Fb ca ci cb, Fs = Fa ++ Fi :: Fb ∧ css = ca ++ ci :: cb ∧ AllOwn T w Fa ca (l.take i) ∧ T.own Fi w ci l[i] ∧ AllOwn T w Fb cb (l.drop (i + 1))
 | F :: Fs, c :: css, x :: l, 0, h, _ => ⟨[], F, Fs, [], c, css, rfl, rfl, trivial, h.1, h.2⟩
 | F :: Fs, c :: css, x :: l, i + 1, h, hi => by
  obtain ⟨Fa, Fi, Fb, ca, ci, cb, rfl, rfl, h1, h2, h3⟩ := AllOwn.split i h.2 (by simpa using hi); exact ⟨F :: Fa, Fi, Fb, c :: ca, ci, cb, rfl, rfl, ⟨h.1, h1⟩, h2, h3⟩
 | [], [], _ :: _, _, h, _ => h.elim
 | [], _ :: _, _, _, h, _ => h.elim
 | _ :: _, [], _, _, h, _ => h.elim
 | _, _, [], _, _, hi => absurd hi (Nat.not_lt_zero _)
structure Elem (T : Ty α) (e : TypeId) (F : List Nat) (w : World) (l : List α) (i : Nat) (x : α) (g : Nat) (cs : List Value) (Fi : List Nat) : Prop where
 cell : ∀ j, j < T.sz → w.cell? ⟨g, i * T.sz + j, none⟩ = cs[j]?
 len : cs.length = T.sz
 free : ∀ o, w.frozen? ⟨g, o, none⟩ = false
 own : T.own Fi w cs x
 nodup : Fi.Nodup
 out : g ∉ Fi
 sub : ∀ b ∈ Fi, b ∈ F
 mem : g ∈ F
theorem nodup_mid {g : List Nat} {A B C D : List Nat} (h : (g ++ (A ++ (B ++ C))).Nodup) (hD : D.Nodup) (hd : ∀ b ∈ D, b ∈ B ∨ b ∉ g ++ (A ++ (B ++ C))) : (g ++ (A ++ (D ++ C))).Nodup := by
 simp only [List.nodup_append, List.mem_append] at h ⊢; obtain ⟨h1, ⟨h2, ⟨h3, h4, h5⟩, h6⟩, h7⟩ := h; refine ⟨h1, ⟨h2, ⟨hD, h4, fun a ha b hb => ?_⟩, fun a ha b hb => ?_⟩, fun a ha b hb => ?_⟩
 · rcases hd a ha with q | q
   · exact h5 a q b hb
   · rintro rfl; exact q (by simp [hb])
 · rcases hb with hb | hb
   · rcases hd b hb with q | q
     · exact h6 a ha b (.inl q)
     · rintro rfl; exact q (by simp [ha])
   · exact h6 a ha b (.inr hb)
 · rcases hb with hb | hb | hb
   · exact h7 a ha b (.inl hb)
   · rcases hd b hb with q | q
     · exact h7 a ha b (.inr (.inl q))
     · rintro rfl; exact q (by simp [ha])
   · exact h7 a ha b (.inr (.inr hb))
theorem cells_set_flatten {ca cb : List (List Value)} {ci : List Value} {j : Nat} {u : Value} (hj : j < ci.length) : (ca ++ ci :: cb).flatten.set (ca.flatten.length + j) u = (ca ++ ci.set j u :: cb).flatten := by
 simp only [List.flatten_append, List.flatten_cons]; rw [List.set_append_right _ _ (by omega), Nat.add_sub_cancel_left, List.set_append_left _ _ hj]
theorem flat_len {ca cb : List (List Value)} {ci : List Value} : (ca ++ ci :: cb).flatten.length = ca.flatten.length + (ci.length + cb.flatten.length) := by
 rw [List.flatten_append, List.flatten_cons, List.length_append, List.length_append]
theorem OwnL.upd (h : OwnL T e F w v l) (nd : F.Nodup) (i : Nat) (hi : i < l.length) :
  ∃ g cap cs Fi, v = .slice (some ⟨g, 0, none⟩) l.length cap ∧ l.length ≤ cap ∧ cap ≤ maxLen ∧ Elem T e F w l i l[i] g cs Fi ∧
   (∀ w1 Fi' x', (∀ b ∈ F, b ∉ Fi → w1.heap[b]? = w.heap[b]?) → T.own Fi' w1 cs x' → Fi'.Nodup → (∀ b ∈ Fi', b ∈ Fi ∨ b ∉ F) → ∃ F', OwnL T e F' w1 v (l.set i x') ∧ F'.Nodup ∧ ∀ b ∈ F', b ∈ F ∨ b ∈ Fi') ∧
   (∀ w1 Fi' x' j u, (∀ b ∈ F, b ∉ Fi → w1.heap[b]? = w.heap[b]?) → j < T.sz → T.own Fi' w1 (cs.set j u) x' → Fi'.Nodup → (∀ b ∈ Fi', b ∈ Fi ∨ b ∉ F) →
    ∃ F', OwnL T e F' (w1.setCell ⟨g, i * T.sz + j, none⟩ u) v (l.set i x') ∧ F'.Nodup ∧ ∀ b ∈ F', b ∈ F ∨ b ∈ Fi') := by
 obtain ⟨css, Fs, h1, h2, rfl⟩ := h; obtain ⟨Fa, Fi, Fb, ca, ci, cb, rfl, rfl, q1, q2, q3⟩ := h2.split i hi
 have hla : ca.flatten.length = i * T.sz := by
  rw [q1.is.flatten_len, List.length_take, Nat.min_eq_left (by omega)]
 have hci := T.len (T.own_is q2)
 rcases h1.2 with ⟨_, h'⟩ | ⟨g, cap, cur, rfl, hB, hg, h3, h4, h5, h6⟩
 · omega
 simp only [Value.ownBlock, Option.toList_some, List.flatten_append, List.flatten_cons] at nd ⊢; have ndg := nd; simp only [List.singleton_append, List.nodup_cons, List.mem_append, not_or] at ndg
 have hcur : ∀ j, j < T.sz → cur[i * T.sz + j]? = ci[j]? := fun j hj => by
  have e1 : (ca ++ ci :: cb).flatten[i * T.sz + j]? = ci[j]? := by
   rw [List.flatten_append, List.getElem?_append_right (by omega), hla, Nat.add_sub_cancel_left, List.flatten_cons, List.getElem?_append_left (by omega)]
  have hlt : i * T.sz + j < l.length * T.sz := by
   have : (i + 1) * T.sz ≤ l.length * T.sz := Nat.mul_le_mul_right _ hi; rw [Nat.succ_mul] at this; omega
  rw [← e1, ← h6, List.getElem?_take_of_lt hlt]; simp
 have rest : ∀ w1 Fi' ci' cur' x', w1.heap[g]? = some (.cells cur' e (0, 0)) → cur'.size = cur.size → cur'.toList.take (l.length * T.sz) = (ca ++ ci' :: cb).flatten → ci'.length = T.sz →
   (∀ b ∈ Fa.flatten, w1.heap[b]? = w.heap[b]?) → (∀ b ∈ Fb.flatten, w1.heap[b]? = w.heap[b]?) → T.own Fi' w1 ci' x' → Fi'.Nodup → (∀ b ∈ Fi', b ∈ Fi ∨ b ∉ [g] ++ (Fa.flatten ++ (Fi ++ Fb.flatten))) →
   ∃ F', OwnL T e F' w1 (.slice (some ⟨g, 0, none⟩) l.length cap) (l.set i x') ∧ F'.Nodup ∧ ∀ b ∈ F', b ∈ [g] ++ (Fa.flatten ++ (Fi ++ Fb.flatten)) ∨ b ∈ Fi' := by
  intro w1 Fi' ci' cur' x' r1 r2 r3 r4 ra rb ro rn rd; refine ⟨[g] ++ (Fa.flatten ++ (Fi' ++ Fb.flatten)), ⟨ca ++ ci' :: cb, Fa ++ Fi' :: Fb, ⟨?_, .inr ⟨g, cap, cur', by simp, hB, r1, by simpa using h3, h4, by omega, by simpa using r3⟩⟩, ?_, by simp [Value.ownBlock]⟩, nodup_mid nd rn rd, fun b hb => ?_⟩
  · have := h1.1
    rw [flat_len] at this ⊢; rw [List.length_set]; omega
  · rw [List.set_eq_take_append_cons_drop, if_pos hi]
    exact (q1.keep ra).append ⟨ro, q3.keep rb⟩
  · simp only [List.mem_append] at hb ⊢
    rcases hb with hb | hb | hb | hb
    · exact .inl (.inl hb)
    · exact .inl (.inr (.inl hb))
    · exact .inr hb
    · exact .inl (.inr (.inr (.inr hb)))
 have nda : ∀ b ∈ Fa.flatten, b ∉ Fi := fun b hb hb' => by
  simp only [List.nodup_append, List.mem_append] at nd; exact nd.2.1.2.2 b hb b (.inl hb') rfl
 have ndb : ∀ b ∈ Fb.flatten, b ∉ Fi := fun b hb hb' => by
  simp only [List.nodup_append, List.mem_append] at nd; exact nd.2.1.2.1.2.2 b hb' b hb rfl
 refine ⟨g, cap, ci, Fi, rfl, h3, h4, ⟨fun j hj => ?_, hci, fun o => frozen_of_row _ _ o _ _ hg, q2, ?_, ndg.1.2.1, fun b hb => ?_, by simp⟩, fun w1 Fi' x' hw1 ho hn hd => ?_, fun w1 Fi' x' j u hw1 hj ho hn hd => ?_⟩
 · simp only [World.cell?, hg]
   exact hcur j hj
 · simp only [List.nodup_append] at nd
   exact nd.2.1.2.1.1
 · simp [hb]
 · exact rest w1 Fi' ci cur x' ((hw1 g (by simp) ndg.1.2.1).trans hg) rfl h6 hci (fun b hb => hw1 b (by simp [hb]) (nda b hb)) (fun b hb => hw1 b (by simp [hb]) (ndb b hb)) ho hn hd
 · have hg1 := (hw1 g (by simp) ndg.1.2.1).trans hg
   have hne : ∀ b, b ∈ Fa.flatten ∨ b ∈ Fb.flatten → (w1.setCell ⟨g, i * T.sz + j, none⟩ u).heap[b]? = w1.heap[b]? := fun b hb => Below.heap_setCell _ _ _ _ (fun e => by
    simp only at e; subst e
    rcases hb with hb | hb
    · exact ndg.1.1 hb
    · exact ndg.1.2.2 hb)
   have hgi : g ∉ Fi' := fun hb => by
    rcases hd g hb with q | q
    · exact ndg.1.2.1 q
    · exact q (by simp)
   refine rest _ Fi' (ci.set j u) (cur.setIfInBounds (i * T.sz + j) u) x' (heap_setCell_same _ _ _ _ _ _ hg1) (by simp) ?_ (by simpa using hci) (fun b hb => (hne b (.inl hb)).trans (hw1 b (by simp [hb]) (nda b hb))) (fun b hb => (hne b (.inr hb)).trans (hw1 b (by simp [hb]) (ndb b hb))) ?_ hn hd
   · rw [Array.toList_setIfInBounds, List.take_set, h6, ← hla]
     exact cells_set_flatten (by omega)
   · exact T.own_keep ho fun b hb => Below.heap_setCell _ _ _ _ (fun e => by simp only at e; subst e; exact hgi hb)
theorem nodup_snoc {ob ob' : List Nat} {A F1 : List Nat} (h : (ob ++ A).Nodup) (h1 : F1.Nodup) (hd : ∀ b ∈ F1, b ∉ ob ++ A) (ho : ob'.Nodup) (ho' : ∀ b ∈ ob', b ∈ ob ∨ (b ∉ A ∧ b ∉ F1)) : (ob' ++ (A ++ F1)).Nodup := by
 simp only [List.nodup_append, List.mem_append] at h ⊢; refine ⟨ho, ⟨h.2.1, h1, fun a ha b hb e => ?_⟩, fun a ha b hb e => ?_⟩
 · subst e; exact hd a hb (by simp [ha])
 · subst e
   rcases ho' a ha with q | q
   · rcases hb with hb | hb
     · exact h.2.2 a q a hb rfl
     · exact hd a hb (by simp [q])
   · rcases hb with hb | hb
     · exact q.1 hb
     · exact q.2 hb
section
variable {P : Program}
theorem run_append_L {t ty e' : TypeId} {bytes : Nat} (hT : SlT P t e T.sz bytes) {cs : Array Value} {F1 : List Nat} {x : α} (hown : OwnL T e F w v l) (nd : F.Nodup) (hx : T.own F1 w cs.toList x) (nd1 : F1.Nodup) (hd : ∀ b ∈ F1, b ∉ F)
  (hbytes : (l.length + 1) * bytes ≤ 140737488355328) (h63 : l.length + 1 ≤ maxLen) :
  ∃ v' w' F', (Builtin.append_ #[t, t] ty #[v, .slice (some ⟨w.heap.size, 0, none⟩) 1 1]).run P (w.alloc (.cells cs e')) = .ok v' w' ∧ OwnL T e F' w' v' (l ++ [x]) ∧ F'.Nodup ∧ (∀ b ∈ F', b ∈ F ∨ b ∈ F1 ∨ w.heap.size < b) ∧ (w.alloc (.cells cs e')).grownBy w' v.ownBlock := by
 obtain ⟨und, ⟨i, z, hi, hz, hsize, hby, hzs⟩, hpos⟩ := hT; have hF := hown.lt; have hF1 := T.own_lt hx; have hx' : T.own F1 (w.alloc (.cells cs e')) cs.toList x := T.own_keep hx fun b hb => Below.heap_alloc _ _ _ (hF1 b hb)
 have hown' : OwnL T e F (w.alloc (.cells cs e')) v l := hown.keep fun b hb => Below.heap_alloc _ _ _ (hF b hb)
 obtain ⟨css, Fs, o1, o2, rfl⟩ := hown'; have hlen := T.len (T.own_is hx)
 obtain ⟨g, cap', w', hr, r1, r2, r3, r4⟩ := Go.run_append_lies (P := P) (w.alloc (.cells cs e')) t ty 0 e i z T.sz bytes und hi hz hsize hby hzs hpos v l.length css.flatten o1 ⟨w.heap.size, 0, none⟩ 1 1 cs.toList (by omega)
  (fun j u hu => by
   have ea : (⟨w.heap.size, 0, none⟩ : Addr).add j = ⟨w.heap.size, j, none⟩ := by unfold Addr.add; split <;> simp_all
   rw [ea]; simp only [World.cell?, heap_alloc_new]
   simpa using hu)
  (T.one (T.own_is hx)) (by decide) h63 hbytes (Nat.zero_le _) _ rfl
 have hob : ∀ b ∈ Fs.flatten ++ F1, w'.heap[b]? = (w.alloc (.cells cs e')).heap[b]? := fun b hb => by
  refine r2.block b ?_ ?_
  · rcases List.mem_append.1 hb with hb | hb
    · have := hF b (List.mem_append_right _ hb); simp; omega
    · have := hF1 b hb; simp; omega
  · rintro q
    rcases List.mem_append.1 hb with hb | hb
    · rw [List.nodup_append] at nd
      exact nd.2.2 b (by rw [← q]; simp) b hb rfl
    · exact hd b hb (List.mem_append_left _ (by rw [← q]; simp))
 refine ⟨_, w', [g] ++ (Fs.flatten ++ F1), hr, ⟨css ++ [cs.toList], Fs ++ [F1], by simpa using r1, (o2.keep (fun b hb => hob b (List.mem_append_left _ hb))).append ⟨T.own_keep hx' (fun b hb => hob b (List.mem_append_right _ hb)), trivial⟩, by simp [Value.ownBlock]⟩, ?_, fun b hb => ?_, r2⟩
 · refine nodup_snoc nd nd1 hd (by simp) (fun b hb => ?_)
   simp only [List.mem_singleton] at hb; subst hb
   rcases r3 with r3 | r3
   · left; rw [r3]; simp
   · right
     refine ⟨fun hb => ?_, fun hb => ?_⟩
     · have := hF _ (List.mem_append_right _ hb); simp at r3; omega
     · have := hF1 _ hb; simp at r3; omega
 · simp only [List.mem_append, List.mem_singleton] at hb ⊢
   rcases hb with rfl | hb | hb
   · rcases r3 with r3 | r3
     · left; left; rw [r3]; simp
     · right; right; rw [r3]; simp
   · exact .inl (.inr hb)
   · exact .inr (.inl hb)
theorem wpList_append_L {ops : Array Oper} {rest : List Oper} {o : Oper} {a : Act} {Q : Exit → Act → World → Prop} (s y : Operand) (hgd : o.guard = none) (t : TypeId)
  (ho : o.op = .call { callee := .builtin .append, args := #[s, y], argTypes := #[t, t] }) {e' : TypeId} {bytes : Nat} (hT : SlT P t e T.sz bytes) {cs : Array Value} {F1 : List Nat} {x : α} (hs : a.eval s = v) (hown : OwnL T e F w v l) (nd : F.Nodup)
  (hy : a.eval y = .slice (some ⟨w.heap.size, 0, none⟩) 1 1) (hx : T.own F1 w cs.toList x) (nd1 : F1.Nodup) (hd : ∀ b ∈ F1, b ∉ F)
  (hbytes : (l.length + 1) * bytes ≤ 140737488355328) (h63 : l.length + 1 ≤ maxLen)
  (h : ∀ v' w' F', OwnL T e F' w' v' (l ++ [x]) → F'.Nodup → (∀ b ∈ F', b ∈ F ∨ b ∈ F1 ∨ w.heap.size < b) → (w.alloc (.cells cs e')).grownBy w' v.ownBlock → wpList P ops Q rest (a.put o.dst v') w') : wpList P ops Q (o :: rest) a (w.alloc (.cells cs e')) :=
 wpList_plain hgd fun _ hK => by
  obtain ⟨v', w', F', hr, h2, h3, h4, h5⟩ := run_append_L (P := P) (ty := o.type) (e' := e') hT hown nd hx nd1 hd hbytes h63; unfold Oper.wp execOp; simp only [ho, resolve, invoke, builtin, Sem.run_bind, Sem.run_pure, Result.andThen_ok, List.map_toArray, List.map_cons, List.map_nil, hs, hy, hr]; exact hK _ _ (h v' w' F' h2 h3 h4 h5)
end
theorem OwnL.ofOwn {B : Nat} (hF : ∀ {w w' : World} {cs : List Value} {x : α} {S : Nat → Prop}, T.is S w cs x → T.own [] w' cs x) (h : OwnSl T e B w v l) : OwnL T e v.ownBlock.toList w v l ∧ v.ownBlock.toList.Nodup ∧ ∀ b ∈ v.ownBlock.toList, B ≤ b := by
 have hlt := h.own_lt; obtain ⟨css, h1, h2⟩ := h
 have key : ∀ (css : List (List Value)) (l : List α), AllIs T (fun k => k < w.heap.size ∧ some k ≠ v.ownBlock) w css l → ∃ Fs, AllOwn T w Fs css l ∧ Fs.flatten = [] := by
  intro css
  induction css with
  | nil => intro l h; match l, h with | [], _ => exact ⟨[], trivial, rfl⟩
  | cons c css ih =>
   intro l h
   match l, h with
   | x :: l, h =>
    obtain ⟨Fs, g1, g2⟩ := ih l h.2; exact ⟨[] :: Fs, ⟨hF h.1, g1⟩, by simpa using g2⟩
 obtain ⟨Fs, g1, g2⟩ := key _ _ h2; refine ⟨⟨css, Fs, ⟨h1.1, ?_⟩, g1, by rw [g2, List.append_nil]⟩, by cases v.ownBlock <;> simp, fun b hb => (hlt b (by simpa using hb)).1⟩
 rcases h1.2 with h | ⟨g, cap, cur, hv, hb, rest⟩
 · exact .inl h
 · exact .inr ⟨g, cap, cur, hv, Nat.zero_le _, rest⟩
def NewL (T : Ty α) (e : TypeId) (B : Nat) (w : World) (v : Value) (l : List α) : Prop := ∃ F, OwnL T e F w v l ∧ F.Nodup ∧ ∀ b ∈ F, B ≤ b
def New (T : Ty α) (B : Nat) (w : World) (cs : List Value) (x : α) : Prop := ∃ F, T.own F w cs x ∧ F.Nodup ∧ ∀ b ∈ F, B ≤ b
theorem NewL.sl {B : Nat} (h : NewL T e B w v l) : SlIs T (fun k => B ≤ k ∧ k < w.heap.size) w v l := by
 obtain ⟨F, h1, h2, h3⟩ := h; exact h1.sl.keep (fun k hk => ⟨h3 k hk, h1.lt k hk⟩) (SameOn.refl _ _)
theorem NewL.sl' {B : Nat} (h : NewL T e B w v l) : SlIs T (· < w.heap.size) w v l := h.sl.keep (fun _ hk => hk.2) (SameOn.refl _ _)
theorem NewL.form {B : Nat} (h : NewL T e B w v l) : ∃ ao cap, v = .slice ao l.length cap ∧ l.length ≤ cap ∧ cap ≤ maxLen := by
 obtain ⟨F, h1, _⟩ := h; exact h1.form
theorem NewL.mono {B B1 : Nat} (h : NewL T e B1 w v l) (hb : B ≤ B1) : NewL T e B w v l := by
 obtain ⟨F, h1, h2, h3⟩ := h; exact ⟨F, h1, h2, fun b hb' => Nat.le_trans hb (h3 b hb')⟩
theorem NewL.below {B : Nat} (h : NewL T e B w v l) (hb : Below w.heap.size w w') : NewL T e B w' v l := by
 obtain ⟨F, h1, h2, h3⟩ := h; exact ⟨F, h1.keep (fun b hb' => hb.block b (h1.lt b hb')), h2, h3⟩
theorem NewL.nil {B : Nat} : NewL T e B w (.slice none 0 0) ([] : List α) := ⟨[], OwnL.nil, List.nodup_nil, fun _ h => absurd h (List.not_mem_nil)⟩
theorem NewL.ofOwn {B B1 : Nat} (hF : ∀ {w w' : World} {cs : List Value} {x : α} {S : Nat → Prop}, T.is S w cs x → T.own [] w' cs x) (h : OwnSl T e B1 w v l) (hB : B ≤ B1) : NewL T e B w v l := by
 obtain ⟨h1, h2, h3⟩ := OwnL.ofOwn hF h; exact ⟨_, h1, h2, fun b hb => Nat.le_trans hB (h3 b hb)⟩
theorem NewL.same {B : Nat} (h : NewL T e B w v l) (hw : SameOn (fun b => B ≤ b ∧ b < w.heap.size) w w') : NewL T e B w' v l := by
 obtain ⟨F, h1, h2, h3⟩ := h; exact ⟨F, h1.keep (fun b hb' => hw b ⟨h3 b hb', h1.lt b hb'⟩), h2, h3⟩
theorem wpList_append_new {P : Program} {ops : Array Oper} {rest : List Oper} {o : Oper} {a : Act} {Q : Exit → Act → World → Prop} (s y : Operand) (hgd : o.guard = none) (t : TypeId)
  (ho : o.op = .call { callee := .builtin .append, args := #[s, y], argTypes := #[t, t] }) {e' : TypeId} {bytes B : Nat} {w1 : World} (hT : SlT P t e T.sz bytes) {cs : Array Value} {x : α} (hs : a.eval s = v) (hown : NewL T e B w1 v l) (hb : Below w1.heap.size w1 w)
  (hy : a.eval y = .slice (some ⟨w.heap.size, 0, none⟩) 1 1) (hx : New T w1.heap.size w cs.toList x) (hbytes : (l.length + 1) * bytes ≤ 140737488355328) (h63 : l.length + 1 ≤ maxLen) (hB : B ≤ w1.heap.size)
  (h : ∀ v' w', NewL T e B w' v' (l ++ [x]) → Below B w w' → wpList P ops Q rest (a.put o.dst v') w') : wpList P ops Q (o :: rest) a (w.alloc (.cells cs e')) := by
 obtain ⟨F, h0, h2, h3⟩ := hown; have hF := h0.lt; have h1 : OwnL T e F w v l := h0.keep (fun b hb' => hb.block b (hF b hb')); obtain ⟨F1, x1, x2, x3⟩ := hx; have hsz := hb.size; refine wpList_append_L s y hgd t ho hT hs h1 h2 hy x1 x2 (fun b hb hb' => by have := x3 b hb; have := hF b hb'; omega) hbytes h63 fun v' w' F' g1 g2 g3 g4 => h v' w' ⟨F', g1, g2, fun b hb => ?_⟩ ?_
 · rcases g3 b hb with q | q | q
   · exact h3 b q
   · have := x3 b q; omega
   · omega
 · exact ((Below.refl _ _).alloc (by omega) _).trans (Below.of_grown g4 (by simp; omega) (fun k hk => h3 k (h1.blk k hk)))
end Go.Tw
namespace Go.Tw
open Go.RowKit
variable {α : Type} {T : Ty α} {e : TypeId} {F : List Nat} {w w' : World} {v : Value} {l : List α}
end Go.Tw
namespace Go.Tw
open Go.RowKit
def ints (l : List Int) : Array Value := (l.map (Value.int .i64)).toArray
def Row (t : TypeId) (w : World) (g : Nat) (l : List Int) : Prop := w.heap[g]? = some (.cells (ints l) t (0, 0))
section
variable {t : TypeId} {w w' : World} {g : Nat} {l : List Int}
theorem Row.cell (h : Row t w g l) {k : Nat} (hk : k < l.length) : w.cell? ⟨g, k, none⟩ = some (.int .i64 l[k]) := by
 simp [World.cell?, show w.heap[g]? = _ from h, ints, hk]
end
def codes (s : ByteArray) : List Int := s.data.toList.map fun c => (c.toNat : Int)
theorem codes_len (s : ByteArray) : (codes s).length = s.size := by simp [codes]
theorem codes_get (s : ByteArray) {k : Nat} (h : k < s.size) : (codes s)[k]'(by rw [codes_len]; exact h) = (s[k].toNat : Int) := by
 simp only [codes, List.getElem_map, Array.getElem_toList]
 rfl
def isByte (n : Int) : Prop := 0 ≤ n ∧ n ≤ 255
theorem of_codes (s : ByteArray) : strOfNums (codes s) = s := by
 apply ByteArray.ext
 unfold strOfNums codes; simp only [List.map_map]
 apply Array.ext'
 simp only []
 conv => rhs; rw [← List.map_id s.data.toList]
 apply List.map_congr_left
 intro c _; simp only [Function.comp, id, Int.toNat_natCast]; exact UInt8.ofNat_toNat
theorem codes_inj {s t : ByteArray} (h : codes s = codes t) : s = t := by rw [← of_codes s, ← of_codes t, h]
end Go.Tw
namespace Go.Tw.Ord
open Go.RowKit Go.Sort
open Go.Proofs (ltOf)
def ltL : List Int → List Int → Bool
 | [], [] => false
 | [], _ :: _ => true
 | _ :: _, [] => false
 | x :: a, y :: b => if x = y then ltL a b else decide (x < y)
theorem ltL_drop {a b : List Int} {k : Nat} (h : k < a.length) (h2 : k < b.length) : ltL (a.drop k) (b.drop k) = if a[k] = b[k] then ltL (a.drop (k + 1)) (b.drop (k + 1)) else decide (a[k] < b[k]) := by
 rw [List.drop_eq_getElem_cons h, List.drop_eq_getElem_cons h2, ltL]
theorem ltL_end {a b : List Int} {k : Nat} (h : k ≤ a.length) (h2 : k ≤ b.length) (h3 : a.length ≤ k ∨ b.length ≤ k) : ltL (a.drop k) (b.drop k) = decide (a.length < b.length) := by
 by_cases q : a.length ≤ k
 · rw [List.drop_eq_nil_of_le q]
   by_cases q2 : b.length ≤ k
   · rw [List.drop_eq_nil_of_le q2, ltL]; symm; simp; omega
   · rw [List.drop_eq_getElem_cons (by omega), ltL]; symm; simp; omega
 · rw [List.drop_eq_getElem_cons (by omega), List.drop_eq_nil_of_le (show b.length ≤ k by omega), ltL]; symm; simp; omega
theorem ltL_irrefl : ∀ a : List Int, ltL a a = false
 | [] => rfl
 | x :: a => by rw [ltL, if_pos rfl, ltL_irrefl a]
theorem ltL_total : ∀ a b : List Int, ltL a b = false → ltL b a = false → a = b
 | [], [], _, _ => rfl
 | [], _ :: _, h, _ => by simp [ltL] at h
 | _ :: _, [], _, h => by simp [ltL] at h
 | x :: a, y :: b, h1, h2 => by
  by_cases e : x = y
  · subst e
    rw [ltL, if_pos rfl] at h1 h2; rw [ltL_total a b h1 h2]
  · rw [ltL, if_neg e] at h1
    rw [ltL, if_neg (fun q => e q.symm)] at h2; simp at h1 h2
    omega
theorem ltL_trans : ∀ a b c : List Int, ltL a b = true → ltL b c = true → ltL a c = true
 | [], _, [], h1, h2 => by
  rename_i b
  cases b <;> simp [ltL] at h1 h2
 | [], _, _ :: _, _, _ => rfl
 | _ :: _, [], _, h1, _ => by simp [ltL] at h1
 | _ :: _, _ :: _, [], _, h2 => by simp [ltL] at h2
 | x :: a, y :: b, z :: c, h1, h2 => by
  rw [ltL] at h1 h2 ⊢
  by_cases e1 : x = y <;> by_cases e2 : y = z
  · subst e1; subst e2
    rw [if_pos rfl] at h1 h2 ⊢; exact ltL_trans a b c h1 h2
  · subst e1
    rw [if_neg e2] at h2 ⊢; exact h2
  · subst e2
    rw [if_neg e1] at h1 ⊢; exact h1
  · rw [if_neg e1] at h1
    rw [if_neg e2] at h2; simp at h1 h2; rw [if_neg (by omega)]
    simp; omega
theorem ltL_asymm {a b : List Int} (h : ltL a b = true) : ltL b a = false := by
 cases q : ltL b a
 · rfl
 · have := ltL_trans a b a h q
   rw [ltL_irrefl] at this; cases this
theorem less_codes : ∀ (x y : List UInt8), Op.bytesLess x y = ltL (x.map fun c => (c.toNat : Int)) (y.map fun c => (c.toNat : Int))
 | [], [] => by simp [Op.bytesLess, ltL]
 | _ :: _, [] => by simp [Op.bytesLess, ltL]
 | [], _ :: _ => by simp [Op.bytesLess, ltL]
 | a :: x, b :: y => by
  rw [Op.bytesLess, less_codes x y, List.map_cons, List.map_cons, ltL]
  by_cases h : a = b
  · subst h
    simp
  · have h' : ¬ (a.toNat : Int) = (b.toNat : Int) := fun q => h (UInt8.toNat_inj.mp (by omega))
    rw [if_neg h']; simp [h, UInt8.lt_iff_toNat_lt]
theorem less_str (s t : ByteArray) : Op.bytesLess s.toList t.toList = ltL (codes s) (codes t) := by
 rw [Lib.toList_data, Lib.toList_data, less_codes]
 rfl
theorem eq_str (s t : ByteArray) : (s.toList == t.toList) = decide (s = t) := by
 rw [Lib.toList_data, Lib.toList_data, Bool.eq_iff_iff, beq_iff_eq, decide_eq_true_eq]
 constructor
 · intro h
   exact ByteArray.ext (Array.ext' h)
 · intro h
   rw [h]
def cmpS (a b : ByteArray) : Int := if ltL (codes a) (codes b) = true then -1 else if a = b then 0 else 1
def cmpI (a b : Int) : Int := if a < b then -1 else if b < a then 1 else 0
def orL : List Int → Int
 | [] => 0
 | a :: l => if a = 0 then orL l else a
structure Cmp {α : Type} (c : α → α → Int) : Prop where
 anti : ∀ x y, c y x = - c x y
 trans : ∀ x y z, c x y ≤ 0 → c y z ≤ 0 → c x z ≤ 0
theorem cmpI_cmp : Cmp cmpI where
 anti x y := by unfold cmpI; repeat' split
                all_goals omega
 trans x y z h1 h2 := by
  unfold cmpI at *
  by_cases a : x < y <;> by_cases b : y < x <;> by_cases c : y < z <;> by_cases d : z < y <;> by_cases e : x < z <;> by_cases f : z < x <;> simp_all <;> omega
theorem cmpS_cmp : Cmp cmpS where
 anti x y := by
  unfold cmpS
  by_cases h : ltL (codes x) (codes y) = true
  · rw [if_pos h, ltL_asymm h, if_neg (by simp), if_neg]
    · rfl
    · rintro rfl
      rw [ltL_irrefl] at h
      cases h
  · rw [if_neg h]
    by_cases k : ltL (codes y) (codes x) = true
    · rw [if_pos k, if_neg]
      rintro rfl; exact h k
    · rw [if_neg k]
      have : x = y := codes_inj (ltL_total _ _ (by simpa using h) (by simpa using k)); subst this; simp
 trans x y z h1 h2 := by
  have key : ∀ x y, cmpS x y ≤ 0 ↔ (ltL (codes x) (codes y) = true ∨ x = y) := fun x y => by
   unfold cmpS
   repeat' split
   all_goals simp_all
  rw [key] at *
  rcases h1 with h1 | rfl
  · rcases h2 with h2 | rfl
    · exact .inl (ltL_trans _ _ _ h1 h2)
    · exact .inl h1
  · exact h2
theorem cmpS_zero {x y : ByteArray} (h : cmpS x y = 0) : x = y := by
 unfold cmpS at h
 by_cases a : ltL (codes x) (codes y) = true
 · rw [if_pos a] at h; omega
 · rw [if_neg a] at h
   by_cases b : x = y
   · exact b
   · rw [if_neg b] at h; omega
theorem Cmp.on {α β : Type} {c : β → β → Int} (h : Cmp c) (f : α → β) : Cmp fun x y => c (f x) (f y) := ⟨fun _ _ => h.anti _ _, fun _ _ _ => h.trans _ _ _⟩
theorem Cmp.then {α : Type} {c d : α → α → Int} (h : Cmp c) (k : Cmp d) : Cmp fun x y => if c x y = 0 then d x y else c x y where
 anti x y := by
  have := h.anti x y; have k1 := k.anti x y
  by_cases e : c x y = 0
  · rw [if_pos e, if_pos (by omega)]; exact k1
  · rw [if_neg e, if_neg (by omega)]; exact this
 trans x y z h1 h2 := by
  have a1 := h.anti x y; have a2 := h.anti y z; have a3 := h.anti x z
  have b1 : c x y ≤ 0 := by
   by_cases e : c x y = 0
   · omega
   · rwa [if_neg e] at h1
  have b2 : c y z ≤ 0 := by
   by_cases e : c y z = 0
   · omega
   · rwa [if_neg e] at h2
  have b3 := h.trans x y z b1 b2
  by_cases e : c x z = 0
  · have c1 := h.trans z x y (by omega) b1
    have c2 := h.trans y z x b2 (by omega); rw [if_pos e]; rw [if_pos (by omega)] at h1 h2; exact k.trans x y z h1 h2
  · rw [if_neg e]; exact b3
theorem Cmp.nil {α : Type} : Cmp fun (_ _ : α) => (0 : Int) := ⟨fun _ _ => rfl, fun _ _ _ _ _ => Int.le_refl _⟩
theorem Cmp.orL {α : Type} : ∀ {fs : List (α → α → Int)}, (∀ f ∈ fs, Cmp f) → Cmp fun x y => orL (fs.map fun f => f x y)
 | [], _ => Cmp.nil
 | f :: fs, h => (h f (by simp)).then (Cmp.orL (fs := fs) fun g hg => h g (by simp [hg]))
theorem orL_zero : ∀ {l : List Int}, orL l = 0 → ∀ a ∈ l, a = 0
 | [], _, _, h => absurd h List.not_mem_nil
 | a :: l, h, b, hb => by
  unfold orL at h
  by_cases e : a = 0
  · rw [if_pos e] at h
    rcases List.mem_cons.1 hb with rfl | hb
    · exact e
    · exact orL_zero h b hb
  · rw [if_neg e] at h
    exact absurd h e
theorem Cmp.swo {α : Type} {c : α → α → Int} (h : Cmp c) : SWO (ltOf c) where
 irrefl x := by
  unfold ltOf; have := h.anti x x; exact decide_eq_false (by omega)
 trans x y z h1 h2 := by
  unfold ltOf at *; simp only [decide_eq_true_eq] at *; have a1 := h.anti x y; have a2 := h.anti y z; have a3 := h.anti x z; have := h.trans x y z (by omega) (by omega)
  by_cases e : c x z = 0
  · have := h.trans y z x (by omega) (by omega)
    omega
  · omega
 ntrans x y z h1 h2 := by
  unfold ltOf at *; simp only [decide_eq_false_iff_not, Int.not_lt] at *; have a1 := h.anti x y; have a2 := h.anti y z; have a3 := h.anti x z; have := h.trans z y x (by omega) (by omega)
  omega
section
variable {α : Type} [Inhabited α] {c : α → α → Int}
def sortL (c : α → α → Int) (l : List α) : List α := l.mergeSort fun x y => !ltOf c y x
omit [Inhabited α] in
theorem sortL_perm (l : List α) : (sortL c l).Perm l := List.mergeSort_perm _ _
omit [Inhabited α] in
theorem sortL_len (l : List α) : (sortL c l).length = l.length := (sortL_perm l).length_eq
omit [Inhabited α] in
theorem sortL_sorted (hc : Cmp c) (l : List α) : (sortL c l).Pairwise fun x y => c x y ≤ 0 := by
 have := List.pairwise_mergeSort (le := fun x y => !ltOf c y x) (fun a b d h1 h2 => by
  simp only [Bool.not_eq_true'] at *
  exact hc.swo.ntrans _ _ _ h2 h1) (fun a b => by
  cases h : ltOf c b a with
  | false => rfl
  | true => rw [hc.swo.asymmA h]; rfl) l
 refine this.imp fun {x y} h => ?_
 simp only [ltOf, Bool.not_eq_true', decide_eq_false_iff_not, Int.not_lt] at h; have := hc.anti x y
 omega
end
end Go.Tw.Ord
