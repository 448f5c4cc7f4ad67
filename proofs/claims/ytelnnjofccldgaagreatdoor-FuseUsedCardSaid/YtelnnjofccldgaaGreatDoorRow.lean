/-
  Blocks of numbers, known whole; bytes of strings as numbers. No program in sight.
-/
import Derived.Test.YtelnnjofccldgaaGreatDoorMgA
import Derived.Laws.MakeOwn
import Derived.Laws.BytesArg
namespace Go.Tw
open Go.RowKit

def ints (l : List Int) : Array Value := (l.map (Value.int .i64)).toArray
/-- block g holds the numbers l -/
def Row (t : TypeId) (w : World) (g : Nat) (l : List Int) : Prop := w.heap[g]? = some (.cells (ints l) t (0, 0))
section
variable {t : TypeId} {w w' : World} {g : Nat} {l : List Int}
theorem Row.lt (h : Row t w g l) : g < w.heap.size := lt_of_heap h
theorem Row.cell (h : Row t w g l) {k : Nat} (hk : k < l.length) : w.cell? ⟨g, k, none⟩ = some (.int .i64 l[k]) := by
  simp [World.cell?, show w.heap[g]? = _ from h, ints, hk]
theorem Row.free (h : Row t w g l) (k : Nat) : w.frozen? ⟨g, k, none⟩ = false := frozen_of_row _ _ k _ _ h
theorem Row.keep (h : Row t w g l) (hw : w'.heap[g]? = w.heap[g]?) : Row t w' g l := hw.trans h
theorem Row.below (h : Row t w g l) (hb : Below w.heap.size w w') : Row t w' g l := h.keep (hb.block g h.lt)
theorem Row.alloc (h : Row t w g l) (o : Obj) : Row t (w.alloc o) g l := h.keep (Below.heap_alloc _ _ _ h.lt)
theorem Row.drewN (h : Row t w g l) (n : Nat) : Row t (w.drewN n) g l := h
theorem Row.drew (h : Row t w g l) : Row t w.drew g l := h
theorem Row.set (h : Row t w g l) (i : Nat) (x : Int) : Row t (w.setCell ⟨g, i, none⟩ (.int .i64 x)) g (l.set i x) := by
  have := heap_setCell_same _ _ i _ _ (.int .i64 x) h
  unfold Row
  rw [this]
  congr 2
  simp [ints, List.map_set]
theorem Row.other (h : Row t w g l) {a : Addr} (ha : a.block ≠ g) (v : Value) : Row t (w.setCell a v) g l := h.keep (Below.heap_setCell _ _ _ _ fun e => ha e.symm)
theorem ints_made (n : Nat) : madeCells #[.int .i64 0] n = ints (List.replicate n 0) := by
  apply Array.ext
  · simp [madeCells, ints]
  · intro i h1 h2
    simp [madeCells, ints, Nat.mod_one]
theorem Row.made (w : World) (n : Nat) : Row t (w.alloc (.cells (madeCells #[.int .i64 0] n) t)) w.heap.size (List.replicate n 0) := by
  rw [ints_made]
  exact heap_alloc_new _ _
theorem Row.allIs (hl : ∀ x ∈ l, i64ok x) {S : Nat → Prop} : AllIs tInt S w (l.map fun x => [.int .i64 x]) l := by
  induction l with
  | nil => trivial
  | cons x l ih => exact ⟨⟨rfl, hl x (by simp)⟩, ih fun y hy => hl y (by simp [hy])⟩
theorem Row.sl (h : Row t w g l) (hl : ∀ x ∈ l, i64ok x) (hm : l.length ≤ maxLen) : SlIs tInt (· < w.heap.size) w (.slice (some ⟨g, 0, none⟩) l.length l.length) l := by
  have fl : ∀ l : List Int, (l.map fun x => [Value.int .i64 x]).flatten = l.map (Value.int .i64) := fun l => by induction l with
    | nil => rfl
    | cons x l ih => simp [ih]
  exact SlIs.of_block (css := l.map fun x => [.int .i64 x]) h ⟨[], by simp [ints, fl]⟩ (Row.allIs hl) h.lt (Nat.le_refl _) hm
end

/-- the bytes of a string, as numbers -/
def codes (s : ByteArray) : List Int := s.data.toList.map fun c => (c.toNat : Int)
theorem codes_len (s : ByteArray) : (codes s).length = s.size := by simp [codes]
theorem codes_get (s : ByteArray) {k : Nat} (h : k < s.size) : (codes s)[k]'(by rw [codes_len]; exact h) = (s[k].toNat : Int) := by
  simp only [codes, List.getElem_map, Array.getElem_toList]
  rfl
def isByte (n : Int) : Prop := 0 ≤ n ∧ n ≤ 255
theorem codes_byte (s : ByteArray) : ∀ n ∈ codes s, isByte n := by
  intro n hn
  obtain ⟨c, _, rfl⟩ := List.mem_map.1 hn
  have := c.toNat_lt
  unfold isByte; omega
theorem codes_of (l : List Int) (h : ∀ n ∈ l, isByte n) : codes (strOfNums l) = l := by
  unfold codes
  rw [strOfNums_data, List.map_map]
  conv => rhs; rw [← List.map_id l]
  apply List.map_congr_left
  intro n hn
  have := h n hn
  unfold isByte at this
  simp only [Function.comp, id]
  rw [UInt8.toNat_ofNat']
  omega
theorem of_codes (s : ByteArray) : strOfNums (codes s) = s := by
  apply ByteArray.ext
  unfold strOfNums codes
  simp only [List.map_map]
  apply Array.ext'
  simp only []
  conv => rhs; rw [← List.map_id s.data.toList]
  apply List.map_congr_left
  intro c _
  simp only [Function.comp, id, Int.toNat_natCast]
  exact UInt8.ofNat_toNat
theorem codes_inj {s t : ByteArray} (h : codes s = codes t) : s = t := by rw [← of_codes s, ← of_codes t, h]
end Go.Tw
