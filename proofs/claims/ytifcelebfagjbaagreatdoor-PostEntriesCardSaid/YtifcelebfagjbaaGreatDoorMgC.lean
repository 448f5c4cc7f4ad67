/-
  Slices of strings: the cells. No program in sight.
-/
import Derived.Test.YtifcelebfagjbaaGreatDoorLib
import Derived.Test.YtifcelebfagjbaaGreatDoorMgB
import Derived.Test.YtifcelebfagjbaaGreatDoorMgA
import Derived.Sort.EncStr
import Derived.Lib.ItoaNum
namespace Go.Tw
open Go.RowKit
theorem strs_open {S : Nat → Prop} {w : World} {v : Value} {l : List ByteArray} (h : SlIs tStr S w v l) :
    ∃ ao cap b off, v = .slice ao l.length cap ∧ l.length ≤ cap ∧ cap ≤ maxLen ∧ ∀ w', SameOn S w w' → ∀ k (_ : k < l.length), ao = some ⟨b, off, none⟩ ∧ S b ∧ b < w.heap.size ∧
      w'.cell? ⟨b, off + k, none⟩ = some (.string l[k]) ∧ l[k].size ≤ maxLen := by
  obtain ⟨ao, cap, b, off, hv, h1, h2, h3⟩ := h.openS
  refine ⟨ao, cap, b, off, hv, h1, h2, fun w' hw k hk => ?_⟩
  obtain ⟨g1, g2, g2', cs, g3, rfl, g5⟩ := h3 w' hw k hk
  have := g3 0 (by decide)
  simp [tStr] at this
  exact ⟨g1, g2, g2', this, g5⟩
end Go.Tw
/-
  Numbers in a block: its first cells; stores into it. No program in sight.
-/
namespace Go.Tw
open Go.RowKit

section
variable {α : Type} {enc : α → Value}
/-- block g is made of cells, none of them frozen, and begins with the numbers l -/
def CellsE (enc : α → Value) (w : World) (g : Nat) (l : List α) : Prop := ∃ A t, w.heap[g]? = some (.cells A t (0, 0)) ∧ ∀ k (h : k < l.length), A[k]? = some (enc l[k])
theorem CellsE.lt {w : World} {g : Nat} {l : List α} (h : CellsE enc w g l) : g < w.heap.size := by
  obtain ⟨A, t, h, -⟩ := h
  exact lt_of_heap h
theorem CellsE.cell {w : World} {g : Nat} {l : List α} (h : CellsE enc w g l) {k : Nat} (hk : k < l.length) : w.cell? ⟨g, k, none⟩ = some (enc l[k]) := by
  obtain ⟨A, t, h1, h2⟩ := h
  simp only [World.cell?, h1]
  exact h2 k hk
theorem CellsE.free {w : World} {g : Nat} {l : List α} (h : CellsE enc w g l) (k : Nat) : w.frozen? ⟨g, k, none⟩ = false := by
  obtain ⟨A, t, h1, h2⟩ := h
  simp only [World.frozen?, h1]
  simp
theorem CellsE.keep {w w' : World} {g : Nat} {l : List α} (h : CellsE enc w g l) (hw : w'.heap[g]? = w.heap[g]?) : CellsE enc w' g l := by
  obtain ⟨A, t, h1, h2⟩ := h
  exact ⟨A, t, hw.trans h1, h2⟩
theorem CellsE.below {w w' : World} {g : Nat} {l : List α} (h : CellsE enc w g l) (hb : Below w.heap.size w w') : CellsE enc w' g l := h.keep (hb.block _ h.lt)
theorem CellsE.alloc {w : World} {g : Nat} {l : List α} (h : CellsE enc w g l) (o : Obj) : CellsE enc (w.alloc o) g l := h.below (bl_alloc (Below.refl _ _) o)
theorem CellsE.drewN {w : World} {g : Nat} {l : List α} (h : CellsE enc w g l) (n : Nat) : CellsE enc (w.drewN n) g l := h.keep rfl
theorem CellsE.drew {w : World} {g : Nat} {l : List α} (h : CellsE enc w g l) : CellsE enc w.drew g l := h.keep rfl
theorem CellsE.other {w : World} {g : Nat} {l : List α} (h : CellsE enc w g l) {a : Addr} (ha : a.block ≠ g) (v : Value) : CellsE enc (w.setCell a v) g l := h.keep (Below.heap_setCell _ _ _ _ fun e => ha e.symm)
theorem CellsE.set {w : World} {g : Nat} {l : List α} (h : CellsE enc w g l) (i : Nat) (x : α) : CellsE enc (w.setCell ⟨g, i, none⟩ (enc x)) g (l.set i x) := by
  obtain ⟨A, t, h1, h2⟩ := h
  refine ⟨A.setIfInBounds i (enc x), t, heap_setCell_same _ _ i _ _ (enc x) h1, fun k hk => ?_⟩
  have hk' : k < l.length := by simpa using hk
  rw [Array.getElem?_setIfInBounds, List.getElem_set]
  have := h2 k hk'
  by_cases e : i = k
  · subst e
    have hA : i < A.size := (Array.getElem?_eq_some_iff.1 this).1
    rw [if_pos rfl, if_pos hA, if_pos rfl]
  · rw [if_neg e, if_neg e]
    exact this
theorem CellsE.setR {w : World} {g : Nat} {l l' : List α} {i : Nat} {x : α} (h : CellsE enc w g l) (e : l.set i x = l') : CellsE enc (w.setCell ⟨g, i, none⟩ (enc x)) g l' := e ▸ h.set i x
end
abbrev Cells := CellsE (Value.int .i64)
abbrev Flags := CellsE Value.bool
theorem Cells.made (w : World) (n : Nat) (t : TypeId) : Cells (w.alloc (.cells (madeCells #[.int .i64 0] n) t)) w.heap.size (List.replicate n 0) := by
  refine ⟨_, t, heap_alloc_new _ _, fun k hk => ?_⟩
  have hk' : k < n := by simpa using hk
  rw [ints_made]
  simp [ints, hk']
theorem Cells.sl {w : World} {g cap : Nat} {l : List Int} (h : Cells w g l) (hl : ∀ x ∈ l, i64ok x) (hc : l.length ≤ cap) (hm : cap ≤ maxLen) : SlIs tInt (fun k => k = g) w (.slice (some ⟨g, 0, none⟩) l.length cap) l := by
  refine ⟨some ⟨g, 0, none⟩, cap, g, 0, rfl, hc, hm, fun e => (by cases e), fun k hk => ⟨rfl, rfl, h.lt, [.int .i64 l[k]], fun j hj => ?_, rfl, hl _ (List.getElem_mem hk)⟩⟩
  obtain rfl : j = 0 := by
    have : j < 1 := hj
    omega
  show w.cell? ⟨g, 0 + k * 1 + 0, none⟩ = _
  rw [show 0 + k * 1 + 0 = k by omega, h.cell hk]
  rfl
theorem Flags.made (w : World) (n : Nat) (t : TypeId) : Flags (w.alloc (.cells (madeCells #[.bool false] n) t)) w.heap.size (List.replicate n false) := by
  refine ⟨_, t, heap_alloc_new _ _, fun k hk => ?_⟩
  have hk' : k < n := by simpa using hk
  simp [madeCells, hk', Nat.mod_one]
/-- a slice of the call's own: nothing, or a block that begins with its numbers -/
theorem own_ints {e : TypeId} {B : Nat} {w : World} {v : Value} {l : List Int} (h : OwnSl tInt e B w v l) :
    (v = .slice none 0 0 ∧ l = []) ∨ ∃ g cap, v = .slice (some ⟨g, 0, none⟩) l.length cap ∧ l.length ≤ cap ∧ cap ≤ maxLen ∧ B ≤ g ∧ Cells w g l ∧ ∀ x ∈ l, i64ok x := by
  have hsl := h.sl
  obtain ⟨css, h1, h2⟩ := h
  rcases h1.2 with ⟨rfl, h'⟩ | ⟨g, cap, cur, rfl, hB, hg, h3, h4, _, h6⟩
  · exact .inl ⟨rfl, List.eq_nil_of_length_eq_zero h'⟩
  · obtain ⟨ao, cap', b, off, hv, q1, q2, ho⟩ := ints_open hsl
    simp only [Value.slice.injEq] at hv
    obtain ⟨rfl, -, rfl⟩ := hv
    refine .inr ⟨g, cap, rfl, h3, h4, hB, ⟨cur, _, hg, fun j hj => ?_⟩, fun x hx => ?_⟩
    · obtain ⟨e, -, e2, -⟩ := ho w (Below.refl _ _) j hj
      simp only [Option.some.injEq, Addr.mk.injEq, and_true] at e
      obtain ⟨rfl, rfl⟩ := e
      simp only [World.cell?, hg, Nat.zero_add] at e2
      exact e2
    · obtain ⟨j, hj, rfl⟩ := List.getElem_of_mem hx
      exact (ho w (Below.refl _ _) j hj).2.2.2
end Go.Tw
/-
  Layer 37 (post) in plain Lean: what the program's Vehicles collects; strings sorted as rows of bytes.
-/
namespace Go.Tw.Po
open Go.RowKit Go.Tw Go.Sort Go.Tw.Ord
open Go.Proofs (encStr)
abbrev leK : List UInt8 → List UInt8 → Bool := fun x y => decide (x ≤ y)
def kb (s : ByteArray) : List UInt8 := s.data.toList
def ofB (x : List UInt8) : ByteArray := ⟨x.toArray⟩
theorem ofB_kb (s : ByteArray) : ofB (kb s) = s := by unfold ofB kb; simp
theorem kb_ofB (x : List UInt8) : kb (ofB x) = x := by unfold ofB kb; simp
theorem kb_inj {a b : ByteArray} (h : kb a = kb b) : a = b := by rw [← ofB_kb a, h, ofB_kb]
theorem lt_kb : ∀ x y : List UInt8, x < y ↔ ltL (x.map fun c => (c.toNat : Int)) (y.map fun c => (c.toNat : Int)) = true
  | [], [] => by simp [ltL]
  | [], _ :: _ => by simp [ltL]
  | _ :: _, [] => by simp [ltL]
  | a :: x, b :: y => by
    rw [List.cons_lt_cons_iff, lt_kb x y, List.map_cons, List.map_cons, ltL]
    by_cases h : a = b
    · subst h
      simp
    · have h' : ¬ (a.toNat : Int) = (b.toNat : Int) := fun q => h (UInt8.toNat_inj.mp (by omega))
      rw [if_neg h']
      simp [h, UInt8.lt_iff_toNat_lt]
theorem cmpS_ltK {a b : ByteArray} (h : kb a < kb b) : cmpS a b < 0 := by
  have h1 : ltL (codes a) (codes b) = true := (lt_kb (kb a) (kb b)).1 h
  unfold cmpS
  rw [if_pos h1]
  omega
/-- strings without repetition, sorted as rows of bytes -/
theorem sorted_kb {O : List ByteArray} (hn : O.Nodup) : (((O.map kb).mergeSort leK).map ofB).Pairwise (fun x y => cmpS x y < 0) ∧ ∀ v, v ∈ ((O.map kb).mergeSort leK).map ofB ↔ v ∈ O := by
  have hp := List.mergeSort_perm (O.map kb) leK
  have hs : ((O.map kb).mergeSort leK).Pairwise fun a b => leK a b = true := List.pairwise_mergeSort (le := leK) (fun a b c h1 h2 => by simp only [leK, decide_eq_true_eq] at *; exact List.le_trans h1 h2) (fun a b => by simp only [leK, Bool.or_eq_true, decide_eq_true_eq]; exact List.le_total a b) _
  have hd : ((O.map kb).mergeSort leK).Nodup := hp.nodup_iff.2 (List.pairwise_map.2 (hn.imp fun h e => h (kb_inj e)))
  refine ⟨List.pairwise_map.2 ((hs.and hd).imp fun {a b} h => ?_), fun v => ?_⟩
  · apply cmpS_ltK
    rw [kb_ofB, kb_ofB]
    have h1 : a ≤ b := by simpa [leK] using h.1
    exact Classical.byContradiction fun hn => h.2 (List.le_antisymm h1 (List.not_lt.1 hn))
  · constructor
    · intro hv
      obtain ⟨x, hx, rfl⟩ := List.mem_map.1 hv
      obtain ⟨s, hs', rfl⟩ := List.mem_map.1 (hp.mem_iff.1 hx)
      rwa [ofB_kb]
    · intro hv
      exact List.mem_map.2 ⟨kb v, hp.mem_iff.2 (List.mem_map.2 ⟨v, hv, rfl⟩), ofB_kb v⟩
def hasS (O : List ByteArray) (p : ByteArray) : Bool := O.any fun u => decide (p = u)
theorem hasS_iff {O : List ByteArray} {p : ByteArray} : hasS O p = true ↔ p ∈ O := by
  unfold hasS
  rw [List.any_eq_true]
  constructor
  · rintro ⟨u, hu, h⟩
    rw [decide_eq_true_eq] at h
    exact h ▸ hu
  · exact fun h => ⟨p, h, by simp⟩
theorem hasS_no {O : List ByteArray} {p : ByteArray} : hasS O p = false ↔ p ∉ O := by rw [← Bool.not_eq_true, hasS_iff]
/-- what the program's map of seen vehicles holds -/
def seenM (O : List ByteArray) (p : ByteArray) : Option Value := if hasS O p = true then some (.bool true) else none
theorem seenM_get (O : List ByteArray) (p : ByteArray) : (seenM O p).getD (.bool false) = .bool (hasS O p) := by
  unfold seenM
  cases h : hasS O p
  · rfl
  · rfl
theorem seenM_put (O : List ByteArray) (c p : ByteArray) : (if p = c then some (Value.bool true) else seenM O p) = seenM (O ++ [c]) p := by
  unfold seenM hasS
  rw [List.any_append]
  by_cases h : p = c
  · simp [h]
  · rw [if_neg h]
    simp only [List.any_cons, List.any_nil, decide_eq_false h, Bool.or_false]
theorem own_strs {e : TypeId} {B : Nat} {w : World} {v : Value} {l : List ByteArray} (h : OwnSl tStr e B w v l) :
    (v = .slice none 0 0 ∧ l = []) ∨ ∃ g cap, v = .slice (some ⟨g, 0, none⟩) l.length cap ∧ l.length ≤ cap ∧ cap ≤ maxLen ∧ B ≤ g ∧ CellsE Value.string w g l ∧ ∀ x ∈ l, x.size ≤ maxLen := by
  have hsl := h.sl
  obtain ⟨css, h1, h2⟩ := h
  rcases h1.2 with ⟨rfl, h'⟩ | ⟨g, cap, cur, rfl, hB, hg, h3, h4, _, h6⟩
  · exact .inl ⟨rfl, List.eq_nil_of_length_eq_zero h'⟩
  · obtain ⟨ao, cap', b, off, hv, q1, q2, ho⟩ := strs_open hsl
    simp only [Value.slice.injEq] at hv
    obtain ⟨rfl, -, rfl⟩ := hv
    refine .inr ⟨g, cap, rfl, h3, h4, hB, ⟨cur, _, hg, fun j hj => ?_⟩, fun x hx => ?_⟩
    · obtain ⟨e, -, -, e2, -⟩ := ho w (SameOn.refl _ _) j hj
      simp only [Option.some.injEq, Addr.mk.injEq, and_true] at e
      obtain ⟨rfl, rfl⟩ := e
      simp only [World.cell?, hg, Nat.zero_add] at e2
      exact e2
    · obtain ⟨j, hj, rfl⟩ := List.getElem_of_mem hx
      exact (ho w (SameOn.refl _ _) j hj).2.2.2.2
theorem enc_kb (s : ByteArray) : encStr (kb s) = .string s := by
  unfold encStr kb
  simp
theorem holdsS {w : World} {g : Nat} {l : List ByteArray} (h : CellsE Value.string w g l) : Holds encStr w g 0 (l.map kb).toArray := fun j hj => by
  have hj' : j < l.length := by simpa using hj
  refine ⟨?_, h.free _⟩
  rw [Nat.zero_add, h.cell hj', getElem!_pos (l.map kb).toArray j hj]
  simp [enc_kb]
theorem slS_of {w : World} {g n cap : Nat} {l : List (List UInt8)} (h : Holds encStr w g 0 l.toArray) (hg : g < w.heap.size) (hn : l.length = n) (hc : n ≤ cap) (hm : cap ≤ maxLen) (hok : ∀ x ∈ l, (ofB x).size ≤ maxLen) : SlIs tStr (· < w.heap.size) w (.slice (some ⟨g, 0, none⟩) n cap) (l.map ofB) := by
  subst hn
  refine ⟨some ⟨g, 0, none⟩, cap, g, 0, by rw [List.length_map], by rw [List.length_map]; exact hc, hm, fun e => (by cases e), fun k hk => ?_⟩
  have hk' : k < l.length := by simpa using hk
  refine ⟨rfl, hg, hg, [.string (ofB l[k])], fun j hj => ?_, by rw [List.getElem_map]; exact ⟨rfl, hok _ (List.getElem_mem hk')⟩⟩
  obtain rfl : j = 0 := by
    have : j < 1 := hj
    omega
  have := (h k (by simpa using hk')).1
  rw [getElem!_pos l.toArray k (by simpa using hk')] at this
  show w.cell? ⟨g, 0 + k * 1 + 0, none⟩ = _
  rw [show 0 + k * 1 + 0 = 0 + k by omega, this]
  simp [ofB]
end Go.Tw.Po
/-
  Layer 37 (post) in plain Lean: transponder numbers, decimal numerals.
-/
namespace Go.Tw.Po
open Go.RowKit Go.Tw Go.Sort Go.Tw.Ord
/-- what a digit adds to the sum of the Luhn rule -/
def lw (i : Nat) (c : Int) : Int := if i % 2 = 0 then (if 9 < 2 * (c - 48) then 2 * (c - 48) - 9 else 2 * (c - 48)) else c - 48
def luhnN (s : ByteArray) : Nat → Int
  | 0 => 0
  | k + 1 => luhnN s k + (if h : k < s.size then lw k s[k].toNat else 0)
theorem luhn_next (s : ByteArray) {k : Nat} (h : k < s.size) : luhnN s (k + 1) = luhnN s k + lw k s[k].toNat := by rw [luhnN, dif_pos h]
def digP (s : ByteArray) : Prop := ∀ i (h : i < s.size), 48 ≤ s[i].toNat ∧ s[i].toNat ≤ 57
theorem lw_bounds {i : Nat} {c : Int} (h1 : 48 ≤ c) (h2 : c ≤ 57) : 0 ≤ lw i c ∧ lw i c ≤ 9 := by
  unfold lw
  split
  · split <;> omega
  · omega
theorem luhn_bounds {s : ByteArray} (h : digP s) : ∀ k, k ≤ s.size → 0 ≤ luhnN s k ∧ luhnN s k ≤ 9 * k
  | 0, _ => by unfold luhnN; omega
  | k + 1, hk => by
    have h1 := luhn_bounds h k (by omega)
    have h2 := h k (by omega)
    have h3 := lw_bounds (i := k) (c := s[k].toNat) (by omega) (by omega)
    rw [luhn_next s (by omega)]
    omega
def tagP (s : ByteArray) : Prop := digP s ∧ s.size = 12 ∧ luhnN s s.size % 10 = 0
open Classical in
/-- the error of a transponder number -/
noncomputable def tagE (e : Int) (s : ByteArray) : Int := if tagP s then 0 else e
theorem tag_yes {e : Int} {s : ByteArray} (h : tagP s) : tagE e s = 0 := by unfold tagE; rw [if_pos h]
theorem tag_no {e : Int} {s : ByteArray} (h : ¬ tagP s) : tagE e s = e := by unfold tagE; rw [if_neg h]

/-- the text of a number -/
def fmtS (n : Int) : ByteArray := ofB (Lib.itoa n)
/-- digits of a number, then others -/
def digsTo (a : Nat) (s : List UInt8) : List UInt8 := if a = 0 then s else Lib.decDigits a ++ s
theorem digs_next {a : Nat} (h : a ≠ 0) (s : List UInt8) : digsTo a s = digsTo (a / 10) (UInt8.ofNat (48 + a % 10) :: s) := by
  unfold digsTo
  rw [if_neg h]
  by_cases h2 : a < 10
  · rw [Lib.decDigits_one h2, if_pos (by omega), Nat.mod_eq_of_lt h2]
    rfl
  · rw [if_neg (by omega)]
    conv => lhs; rw [Lib.decDigits, dif_neg h2]
    rw [List.append_assoc]
    rfl
theorem fmt_zero : fmtS 0 = ofB [48] := by
  unfold fmtS Lib.itoa
  rw [if_neg (by decide), show (0 : Int).toNat = 0 from rfl, Lib.decDigits_one (by decide)]
  rfl
theorem fmt_pos {n : Int} {s : List UInt8} (h0 : n ≠ 0) (h1 : ¬ n < 0) (h : digsTo n.natAbs [] = digsTo 0 s) : fmtS n = ofB s := by
  unfold fmtS Lib.itoa
  rw [if_neg h1]
  unfold digsTo at h
  rw [if_neg (by omega), if_pos rfl, List.append_nil] at h
  rw [← h]
  congr 2
  omega
theorem fmt_neg {n : Int} {s : List UInt8} (h1 : n < 0) (h : digsTo n.natAbs [] = digsTo 0 s) : fmtS n = ofB (45 :: s) := by
  unfold fmtS Lib.itoa
  rw [if_pos h1]
  unfold digsTo at h
  rw [if_neg (by omega), if_pos rfl, List.append_nil] at h
  rw [h]
end Go.Tw.Po
