/-
  Numbers in a block: its first cells; stores into it. No program in sight.
-/
import Derived.Test.YtffpnbipacgidaaRow
namespace Go.Tw
open Go.RowKit

section
variable {α : Type} {enc : α → Value}
/-- block g is made of cells, none of them frozen, and begins with the numbers l -/
def CellsE (enc : α → Value) (w : World) (g : Nat) (l : List α) : Prop := ∃ A t, w.heap[g]? = some (.cells A t (0, 0)) ∧ ∀ k (h : k < l.length), A[k]? = some (enc l[k])
theorem CellsE.lt {w : World} {g : Nat} {l : List α} (h : CellsE enc w g l) : g < w.heap.size := by
  obtain ⟨A, t, h, -⟩ := h
  exact lt_of_heap h
theorem CellsE.cell {w : World} {g : Nat} {l : List α} (h : CellsE enc w g l) {k : Nat} (hk : k < l.length) : w.cell? ⟨g, k, none⟩ = some (enc l[k]) := by
  obtain ⟨A, t, h1, h2⟩ := h
  simp only [World.cell?, h1]
  exact h2 k hk
theorem CellsE.free {w : World} {g : Nat} {l : List α} (h : CellsE enc w g l) (k : Nat) : w.frozen? ⟨g, k, none⟩ = false := by
  obtain ⟨A, t, h1, h2⟩ := h
  simp only [World.frozen?, h1]
  simp
theorem CellsE.keep {w w' : World} {g : Nat} {l : List α} (h : CellsE enc w g l) (hw : w'.heap[g]? = w.heap[g]?) : CellsE enc w' g l := by
  obtain ⟨A, t, h1, h2⟩ := h
  exact ⟨A, t, hw.trans h1, h2⟩
theorem CellsE.below {w w' : World} {g : Nat} {l : List α} (h : CellsE enc w g l) (hb : Below w.heap.size w w') : CellsE enc w' g l := h.keep (hb.block _ h.lt)
theorem CellsE.alloc {w : World} {g : Nat} {l : List α} (h : CellsE enc w g l) (o : Obj) : CellsE enc (w.alloc o) g l := h.below (bl_alloc (Below.refl _ _) o)
theorem CellsE.drewN {w : World} {g : Nat} {l : List α} (h : CellsE enc w g l) (n : Nat) : CellsE enc (w.drewN n) g l := h.keep rfl
theorem CellsE.drew {w : World} {g : Nat} {l : List α} (h : CellsE enc w g l) : CellsE enc w.drew g l := h.keep rfl
theorem CellsE.other {w : World} {g : Nat} {l : List α} (h : CellsE enc w g l) {a : Addr} (ha : a.block ≠ g) (v : Value) : CellsE enc (w.setCell a v) g l := h.keep (Below.heap_setCell _ _ _ _ fun e => ha e.symm)
theorem CellsE.set {w : World} {g : Nat} {l : List α} (h : CellsE enc w g l) (i : Nat) (x : α) : CellsE enc (w.setCell ⟨g, i, none⟩ (enc x)) g (l.set i x) := by
  obtain ⟨A, t, h1, h2⟩ := h
  refine ⟨A.setIfInBounds i (enc x), t, heap_setCell_same _ _ i _ _ (enc x) h1, fun k hk => ?_⟩
  have hk' : k < l.length := by simpa using hk
  rw [Array.getElem?_setIfInBounds, List.getElem_set]
  have := h2 k hk'
  by_cases e : i = k
  · subst e
    have hA : i < A.size := (Array.getElem?_eq_some_iff.1 this).1
    rw [if_pos rfl, if_pos hA, if_pos rfl]
  · rw [if_neg e, if_neg e]
    exact this
theorem CellsE.setR {w : World} {g : Nat} {l l' : List α} {i : Nat} {x : α} (h : CellsE enc w g l) (e : l.set i x = l') : CellsE enc (w.setCell ⟨g, i, none⟩ (enc x)) g l' := e ▸ h.set i x
end
abbrev Cells := CellsE (Value.int .i64)
abbrev Flags := CellsE Value.bool
theorem Cells.made (w : World) (n : Nat) (t : TypeId) : Cells (w.alloc (.cells (madeCells #[.int .i64 0] n) t)) w.heap.size (List.replicate n 0) := by
  refine ⟨_, t, heap_alloc_new _ _, fun k hk => ?_⟩
  have hk' : k < n := by simpa using hk
  rw [ints_made]
  simp [ints, hk']
theorem Cells.sl {w : World} {g cap : Nat} {l : List Int} (h : Cells w g l) (hl : ∀ x ∈ l, i64ok x) (hc : l.length ≤ cap) (hm : cap ≤ maxLen) : SlIs tInt (fun k => k = g) w (.slice (some ⟨g, 0, none⟩) l.length cap) l := by
  refine ⟨some ⟨g, 0, none⟩, cap, g, 0, rfl, hc, hm, fun e => (by cases e), fun k hk => ⟨rfl, rfl, h.lt, [.int .i64 l[k]], fun j hj => ?_, rfl, hl _ (List.getElem_mem hk)⟩⟩
  obtain rfl : j = 0 := by
    have : j < 1 := hj
    omega
  show w.cell? ⟨g, 0 + k * 1 + 0, none⟩ = _
  rw [show 0 + k * 1 + 0 = k by omega, h.cell hk]
  rfl
theorem Flags.made (w : World) (n : Nat) (t : TypeId) : Flags (w.alloc (.cells (madeCells #[.bool false] n) t)) w.heap.size (List.replicate n false) := by
  refine ⟨_, t, heap_alloc_new _ _, fun k hk => ?_⟩
  have hk' : k < n := by simpa using hk
  simp [madeCells, hk', Nat.mod_one]
/-- a slice of the call's own: nothing, or a block that begins with its numbers -/
theorem own_ints {e : TypeId} {B : Nat} {w : World} {v : Value} {l : List Int} (h : OwnSl tInt e B w v l) :
    (v = .slice none 0 0 ∧ l = []) ∨ ∃ g cap, v = .slice (some ⟨g, 0, none⟩) l.length cap ∧ l.length ≤ cap ∧ cap ≤ maxLen ∧ B ≤ g ∧ Cells w g l ∧ ∀ x ∈ l, i64ok x := by
  have hsl := h.sl
  obtain ⟨css, h1, h2⟩ := h
  rcases h1.2 with ⟨rfl, h'⟩ | ⟨g, cap, cur, rfl, hB, hg, h3, h4, _, h6⟩
  · exact .inl ⟨rfl, List.eq_nil_of_length_eq_zero h'⟩
  · obtain ⟨ao, cap', b, off, hv, q1, q2, ho⟩ := ints_open hsl
    simp only [Value.slice.injEq] at hv
    obtain ⟨rfl, -, rfl⟩ := hv
    refine .inr ⟨g, cap, rfl, h3, h4, hB, ⟨cur, _, hg, fun j hj => ?_⟩, fun x hx => ?_⟩
    · obtain ⟨e, -, e2, -⟩ := ho w (Below.refl _ _) j hj
      simp only [Option.some.injEq, Addr.mk.injEq, and_true] at e
      obtain ⟨rfl, rfl⟩ := e
      simp only [World.cell?, hg, Nat.zero_add] at e2
      exact e2
    · obtain ⟨j, hj, rfl⟩ := List.getElem_of_mem hx
      exact (ho w (Below.refl _ _) j hj).2.2.2
end Go.Tw
