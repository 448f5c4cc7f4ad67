/-
  Layer 6 (match): the reference's table in memory, and what it holds.
-/
import Derived.Test.YtepceaoccnmkiaaMatchSecP
import Derived.Test.YtepceaoccnmkiaaMatchRep
namespace Go.Tw.Match
open Go.RowKit Go.Tw

/-! ### What is computed -/
def colsR (c : Nat) : List Int := (-1) :: cols c
theorem colsR_len (c : Nat) : (colsR c).length = c + 1 := by simp [colsR, cols]
theorem colsR_get {c t : Nat} (h : t < (colsR c).length) : (colsR c)[t] = (t : Int) - 1 := by
  unfold colsR cols at *
  match t with
  | 0 => rfl
  | t + 1 => simp
theorem colsR_perm (c : Nat) : (colsR c).Perm (choices c) := by
  unfold colsR choices
  exact (List.perm_append_singleton _ _).symm
def soFarR (m : Mat) (F : List Int) (k i mask t : Nat) : List Int := ((colsR m.col.length).take t).flatMap (via m F k i mask)
theorem soFarR_succ (m : Mat) (F : List Int) (k i mask : Nat) {t : Nat} (ht : t < (colsR m.col.length).length) : soFarR m F k i mask (t + 1) = soFarR m F k i mask t ++ via m F k i mask (colsR m.col.length)[t] := by
  unfold soFarR
  rw [List.take_succ_eq_append_getElem ht, List.flatMap_append]
  simp
theorem soFarR_nonneg {m : Mat} (h : Ok m) (F : List Int) (k i mask t : Nat) : ∀ x ∈ soFarR m F k i mask t, 0 ≤ x := fun x hx => by
  refine costs_nonneg h F (k + 1) i mask x ?_
  rw [costs_succ]
  unfold soFarR at hx
  obtain ⟨j, hj, hx⟩ := List.mem_flatMap.1 hx
  exact List.mem_flatMap.2 ⟨j, (colsR_perm _).mem_iff.1 (List.mem_of_mem_take hj), hx⟩
theorem soFarR_end {m : Mat} (h : Ok m) (F : List Int) (k i mask t : Nat) (ht : m.col.length + 1 ≤ t) : mn (soFarR m F k i mask t) = mn (costs m F (k + 1) i mask) ∧ tieN (soFarR m F k i mask t) = tieN (costs m F (k + 1) i mask) := by
  have hp : (soFarR m F k i mask t).Perm (costs m F (k + 1) i mask) := by
    unfold soFarR
    rw [List.take_of_length_le (by rw [colsR_len]; exact ht), costs_succ]
    exact (colsR_perm _).flatMap_right _
  have hn := soFarR_nonneg h F k i mask t
  exact ⟨mn_perm hn hp, ways_perm hn hp⟩
theorem soFarR_hi {m : Mat} (h : Ok m) (F : List Int) (k i mask t : Nat) : -1 ≤ mn (soFarR m F k i mask t) ∧ mn (soFarR m F k i mask t) ≤ 17179869184 + 2147483648 * (k + 1) := by
  have hn := soFarR_nonneg h F k i mask t
  refine ⟨mn_ge _ hn, ?_⟩
  by_cases e : soFarR m F k i mask t = []
  · rw [e]; show (-1 : Int) ≤ _; omega
  · have hm := (mn_spec e hn).1
    have hc : mn (soFarR m F k i mask t) ∈ costs m F (k + 1) i mask := by
      rw [costs_succ]
      unfold soFarR at hm ⊢
      obtain ⟨j, hj, hx⟩ := List.mem_flatMap.1 hm
      exact List.mem_flatMap.2 ⟨j, (colsR_perm _).mem_iff.1 (List.mem_of_mem_take hj), hx⟩
    have := (costs_range h F (k + 1) i mask _ hc).2
    omega
theorem soFarR_len (m : Mat) (F : List Int) (k i mask t : Nat) : (soFarR m F k i mask t).length ≤ (m.col.length + 1) ^ (k + 1) := by
  refine Nat.le_trans ?_ (costs_len m F (k + 1) i mask)
  have hp : ((colsR m.col.length).flatMap (via m F k i mask)).Perm (costs m F (k + 1) i mask) := by
    rw [costs_succ]
    exact (colsR_perm _).flatMap_right _
  rw [← hp.length_eq]
  unfold soFarR
  have : (colsR m.col.length).flatMap (via m F k i mask) = ((colsR m.col.length).take t).flatMap (via m F k i mask) ++ ((colsR m.col.length).drop t).flatMap (via m F k i mask) := by
    rw [← List.flatMap_append, List.take_append_drop]
  rw [this, List.length_append]
  omega
def bitC (j : Int) : Nat := if j < 0 then 0 else 2 ^ j.toNat
def hasC (set : Nat) (j : Int) : Bool := decide (0 ≤ j) && set.testBit j.toNat
theorem or_add : ∀ j, j < 8 → ∀ s, s < 256 → s.testBit j = false → s + 2 ^ j = s ||| 1 <<< j := by
  have h : ((List.range 8).all fun j => (List.range 256).all fun s => s.testBit j || (s + 2 ^ j == s ||| 1 <<< j)) = true := by decide +kernel
  intro j hj s hs ht
  rw [List.all_eq_true] at h
  have h1 := h j (List.mem_range.2 hj)
  rw [List.all_eq_true] at h1
  have h2 := h1 s (List.mem_range.2 hs)
  rw [ht, Bool.false_or] at h2
  exact beq_iff_eq.1 h2
theorem nxt_add {set : Nat} {j : Int} (hs : set < 256) (hj : j < 8) (h : hasC set j = false) : set + bitC j = nxt set j := by
  unfold hasC at h
  unfold bitC nxt
  by_cases q : j < 0
  · rw [if_pos q, if_pos q]; omega
  · rw [if_neg q, if_neg q]
    rw [decide_eq_true (by omega), Bool.true_and] at h
    exact or_add j.toNat (by omega) set hs h
theorem okJ_has {m : Mat} (h : Ok m) (i : Nat) (j : Int) (set : Nat) : okJ m i j set = (!hasC set j && decide (0 ≤ price m i j)) := by
  unfold okJ hasC
  by_cases q : j < 0
  · have := price_none h i q
    simp [q, this]
    try omega
  · have : 0 ≤ j := by omega
    simp [q, this]
/-- the demands of the reference: row fi has column fj -/
def Dem (m : Mat) (F : List Int) (fi fj : Int) : Prop := F.length = m.row.length ∧ ∀ (i : Nat) (j : Int), i < m.row.length → -1 ≤ j → okF F i j = (!(decide ((i : Int) = fi)) || decide (j = fj))
theorem dem_opn (m : Mat) (fi fj : Int) (h : fi < 0) : Dem m (opn m.row.length) fi fj := ⟨by simp [opn], fun i j hi _ => by
  rw [okF_opn hi, decide_eq_false (by omega)]; rfl⟩
theorem dem_fix (m : Mat) (fi : Nat) (fj : Int) (h : fi < m.row.length) (hj : -1 ≤ fj) : Dem m ((List.replicate m.row.length (-2)).set fi fj) fi fj := ⟨by simp, fun i j hi h1 => by
  unfold okF
  rw [List.getD_eq_getElem?_getD, List.getElem?_set]
  by_cases e : fi = i
  · subst e
    rw [if_pos rfl, if_pos (by simpa using hi)]
    simp
    rw [decide_eq_false (by omega)]
    rw [Bool.false_or, Bool.eq_iff_iff]
    simp
    exact ⟨fun h => h.symm, fun h => h.symm⟩
  · rw [if_neg e, List.getElem?_replicate, if_pos hi]
    simp
    left; omega⟩

/-! ### In memory -/
/-- a row: pairs of numbers in one block -/
def RRow (w : World) (b all : Nat) (f : Nat → Int × Int) : Prop := ∃ A t, w.heap[b]? = some (.cells A t (0, 0)) ∧ ∀ q, q < all → A[q * 2]? = some (.int .i64 (f q).1) ∧ A[q * 2 + 1]? = some (.int .i64 (f q).2)
theorem RRow.lt {w : World} {b all : Nat} {f : Nat → Int × Int} (h : RRow w b all f) : b < w.heap.size := by
  obtain ⟨A, t, h, -⟩ := h
  exact lt_of_heap h
theorem RRow.cells {w : World} {b all : Nat} {f : Nat → Int × Int} (h : RRow w b all f) {q : Nat} (hq : q < all) : w.cell? ⟨b, q * 2, none⟩ = some (.int .i64 (f q).1) ∧ w.cell? ⟨b, q * 2 + 1, none⟩ = some (.int .i64 (f q).2) ∧ w.frozen? ⟨b, q * 2, none⟩ = false ∧ w.frozen? ⟨b, q * 2 + 1, none⟩ = false := by
  obtain ⟨A, t, h1, h2⟩ := h
  obtain ⟨g1, g2⟩ := h2 q hq
  refine ⟨?_, ?_, ?_, ?_⟩
  · simp only [World.cell?, h1]; exact g1
  · simp only [World.cell?, h1]; exact g2
  · simp only [World.frozen?, h1]; simp
  · simp only [World.frozen?, h1]; simp
theorem RRow.keep {w w' : World} {b all : Nat} {f : Nat → Int × Int} (h : RRow w b all f) (hk : w'.heap[b]? = w.heap[b]?) : RRow w' b all f := by
  obtain ⟨A, t, h1, h2⟩ := h
  exact ⟨A, t, hk.trans h1, h2⟩
theorem RRow.set1 {w : World} {b all : Nat} {f : Nat → Int × Int} (h : RRow w b all f) {q : Nat} (hq : q < all) (x : Int) : RRow (w.setCell ⟨b, q * 2, none⟩ (.int .i64 x)) b all (fun p => if p = q then (x, (f p).2) else f p) := by
  obtain ⟨A, t, h1, h2⟩ := h
  refine ⟨A.setIfInBounds (q * 2) (.int .i64 x), t, heap_setCell_same _ _ (q * 2) _ _ (.int .i64 x) h1, fun p hp => ?_⟩
  obtain ⟨g1, g2⟩ := h2 p hp
  obtain ⟨k1, k2⟩ := h2 q hq
  have hA : q * 2 < A.size := (Array.getElem?_eq_some_iff.1 k1).1
  rw [Array.getElem?_setIfInBounds, Array.getElem?_setIfInBounds]
  by_cases e : p = q
  · subst e
    simp [hA, g2]
  · rw [if_neg (by omega), if_neg (by omega)]
    simp only [e, if_false]
    exact ⟨g1, g2⟩
theorem RRow.set2 {w : World} {b all : Nat} {f : Nat → Int × Int} (h : RRow w b all f) {q : Nat} (hq : q < all) (x : Int) : RRow (w.setCell ⟨b, q * 2 + 1, none⟩ (.int .i64 x)) b all (fun p => if p = q then ((f p).1, x) else f p) := by
  obtain ⟨A, t, h1, h2⟩ := h
  refine ⟨A.setIfInBounds (q * 2 + 1) (.int .i64 x), t, heap_setCell_same _ _ (q * 2 + 1) _ _ (.int .i64 x) h1, fun p hp => ?_⟩
  obtain ⟨g1, g2⟩ := h2 p hp
  obtain ⟨k1, k2⟩ := h2 q hq
  have hA : q * 2 + 1 < A.size := (Array.getElem?_eq_some_iff.1 k2).1
  rw [Array.getElem?_setIfInBounds, Array.getElem?_setIfInBounds]
  by_cases e : p = q
  · subst e
    simp [hA, g1]
  · rw [if_neg (by omega), if_neg (by omega)]
    simp only [e, if_false]
    exact ⟨g1, g2⟩
theorem RRow.congr {w : World} {b all : Nat} {f g : Nat → Int × Int} (h : RRow w b all f) (e : ∀ q, q < all → f q = g q) : RRow w b all g := by
  obtain ⟨A, t, h1, h2⟩ := h
  exact ⟨A, t, h1, fun q hq => by rw [← e q hq]; exact h2 q hq⟩
/-- the table, its rows from i on -/
structure RTab (B : Nat) (w : World) (g n all : Nat) (bs : Nat → Nat) (i : Nat) (f : Nat → Nat → Int × Int) : Prop where
  outer : ∃ A t, w.heap[g]? = some (.cells A t (0, 0)) ∧ A.size = n + 1 ∧ ∀ r, i ≤ r → r ≤ n → A[r]? = some (.slice (some ⟨bs r, 0, none⟩) all all)
  row : ∀ r, i ≤ r → r ≤ n → RRow w (bs r) all (f r)
  lowg : B ≤ g
  low : ∀ r, i ≤ r → r ≤ n → B ≤ bs r ∧ bs r ≠ g
  inj : ∀ r r', i ≤ r → r < r' → r' ≤ n → bs r ≠ bs r'
theorem RTab.ltg {B : Nat} {w : World} {g n all : Nat} {bs : Nat → Nat} {i : Nat} {f : Nat → Nat → Int × Int} (h : RTab B w g n all bs i f) : g < w.heap.size := by
  obtain ⟨A, t, h, -⟩ := h.outer
  exact lt_of_heap h
theorem RTab.keep {B : Nat} {w w' : World} {g n all : Nat} {bs : Nat → Nat} {i : Nat} {f : Nat → Nat → Int × Int} (h : RTab B w g n all bs i f) (hg : w'.heap[g]? = w.heap[g]?) (hk : ∀ r, i ≤ r → r ≤ n → w'.heap[bs r]? = w.heap[bs r]?) : RTab B w' g n all bs i f :=
  { h with
    outer := by
      obtain ⟨A, t, h1, h2⟩ := h.outer
      exact ⟨A, t, hg.trans h1, h2⟩
    row := fun r h1 h2 => (h.row r h1 h2).keep (hk r h1 h2) }
theorem RTab.below {B : Nat} {w w' : World} {g n all : Nat} {bs : Nat → Nat} {i : Nat} {f : Nat → Nat → Int × Int} (h : RTab B w g n all bs i f) (hb : Below w.heap.size w w') : RTab B w' g n all bs i f :=
  h.keep (hb.block _ h.ltg) (fun r h1 h2 => hb.block _ (h.row r h1 h2).lt)
theorem RTab.drewN {B : Nat} {w : World} {g n all : Nat} {bs : Nat → Nat} {i : Nat} {f : Nat → Nat → Int × Int} (h : RTab B w g n all bs i f) (k : Nat) : RTab B (w.drewN k) g n all bs i f := h.keep rfl (fun _ _ _ => rfl)
theorem RTab.congr {B : Nat} {w : World} {g n all : Nat} {bs : Nat → Nat} {i : Nat} {f f' : Nat → Nat → Int × Int} (h : RTab B w g n all bs i f) (e : ∀ r, i ≤ r → r ≤ n → ∀ q, q < all → f r q = f' r q) : RTab B w g n all bs i f' :=
  { h with row := fun r h1 h2 => (h.row r h1 h2).congr (e r h1 h2) }
/-- its cells -/
theorem RTab.at {B : Nat} {w : World} {g n all : Nat} {bs : Nat → Nat} {i : Nat} {f : Nat → Nat → Int × Int} (h : RTab B w g n all bs i f) {r : Nat} (h1 : i ≤ r) (h2 : r ≤ n) : w.cell? ⟨g, r, none⟩ = some (.slice (some ⟨bs r, 0, none⟩) all all) ∧ w.frozen? ⟨g, r, none⟩ = false := by
  obtain ⟨A, t, g1, g2, g3⟩ := h.outer
  refine ⟨?_, ?_⟩
  · simp only [World.cell?, g1]; exact g3 r h1 h2
  · simp only [World.frozen?, g1]; simp
/-- any cell of the outer block may be written -/
theorem RTab.outerCell {B : Nat} {w : World} {g n all : Nat} {bs : Nat → Nat} {i : Nat} {f : Nat → Nat → Int × Int} (h : RTab B w g n all bs i f) {r : Nat} (h2 : r ≤ n) : (∃ v, w.cell? ⟨g, r, none⟩ = some v) ∧ w.frozen? ⟨g, r, none⟩ = false := by
  obtain ⟨A, t, g1, g2, g3⟩ := h.outer
  refine ⟨⟨A[r]'(by omega), ?_⟩, ?_⟩
  · simp only [World.cell?, g1]; exact Array.getElem?_eq_getElem _
  · simp only [World.frozen?, g1]; simp
/-- a new row is hung in -/
theorem RTab.hang {B : Nat} {w : World} {g n all : Nat} {bs : Nat → Nat} {i : Nat} {f : Nat → Nat → Int × Int} (h : RTab B w g n all bs (i + 1) f) {b : Nat} {f0 : Nat → Int × Int} (hi : i ≤ n) (hb : RRow w b all f0) (hB : B ≤ b) (hg : b ≠ g) (hn : ∀ r, i + 1 ≤ r → r ≤ n → bs r ≠ b) :
    RTab B (w.setCell ⟨g, i, none⟩ (.slice (some ⟨b, 0, none⟩) all all)) g n all (fun r => if r = i then b else bs r) i (fun r => if r = i then f0 else f r) where
  outer := by
    obtain ⟨A, t, g1, g2, g3⟩ := h.outer
    refine ⟨A.setIfInBounds i _, t, heap_setCell_same _ _ i _ _ _ g1, by simpa using g2, fun r h1 h2 => ?_⟩
    rw [Array.getElem?_setIfInBounds]
    by_cases e : i = r
    · subst e; rw [if_pos rfl, if_pos (by omega)]; simp
    · rw [if_neg e, if_neg (fun q => e q.symm)]; exact g3 r (by omega) h2
  row := fun r h1 h2 => by
    by_cases e : r = i
    · simp only [e, if_true]
      exact hb.keep (Below.heap_setCell _ _ _ _ hg)
    · simp only [e, if_false]
      exact (h.row r (by omega) h2).keep (Below.heap_setCell _ _ _ _ (h.low r (by omega) h2).2)
  lowg := h.lowg
  low := fun r h1 h2 => by
    by_cases e : r = i
    · simp only [e, if_true]; exact ⟨hB, hg⟩
    · simp only [e, if_false]; exact h.low r (by omega) h2
  inj := fun r r' h1 h2 h3 => by
    by_cases e : r = i
    · rw [if_pos e, if_neg (by omega)]; exact fun q => hn r' (by omega) h3 q.symm
    · rw [if_neg e, if_neg (by omega)]; exact h.inj r r' (by omega) h2 h3
/-- an element of row i is written -/
theorem RTab.set {B : Nat} {w : World} {g n all : Nat} {bs : Nat → Nat} {i : Nat} {f : Nat → Nat → Int × Int} (h : RTab B w g n all bs i f) (hi : i ≤ n) (k : Nat) (v : Value) {f0 : Nat → Int × Int} (hr : RRow (w.setCell ⟨bs i, k, none⟩ v) (bs i) all f0) :
    RTab B (w.setCell ⟨bs i, k, none⟩ v) g n all bs i (fun r => if r = i then f0 else f r) where
  outer := by
    obtain ⟨A, t, g1, g2, g3⟩ := h.outer
    exact ⟨A, t, (Below.heap_setCell _ _ _ _ (fun e => (h.low i (Nat.le_refl _) hi).2 e.symm)).trans g1, g2, g3⟩
  row := fun r h1 h2 => by
    by_cases e : r = i
    · simp only [e, if_true]; exact hr
    · simp only [e, if_false]
      exact (h.row r h1 h2).keep (Below.heap_setCell _ _ _ _ (fun q => h.inj i r (Nat.le_refl _) (by omega) h2 q.symm))
  lowg := h.lowg
  low := h.low
  inj := h.inj
theorem RTab.other {B : Nat} {w : World} {g n all : Nat} {bs : Nat → Nat} {i : Nat} {f : Nat → Nat → Int × Int} (h : RTab B w g n all bs i f) {a : Addr} (v : Value) (ha : a.block ≠ g) (hr : ∀ r, i ≤ r → r ≤ n → a.block ≠ bs r) : RTab B (w.setCell a v) g n all bs i f :=
  h.keep (Below.heap_setCell _ _ _ _ (fun e => ha e.symm)) (fun r h1 h2 => Below.heap_setCell _ _ _ _ (fun e => hr r h1 h2 e.symm))
/-- the outer block, just made -/
theorem RTab.made {B : Nat} (w : World) (n all : Nat) (bs : Nat → Nat) (f : Nat → Nat → Int × Int) (t : TypeId) (A : Array Value) (hA : A.size = n + 1) (hB : B ≤ w.heap.size) : RTab B (w.alloc (.cells A t)) w.heap.size n all bs (n + 1) f where
  outer := ⟨A, t, heap_alloc_new _ _, hA, fun r h1 h2 => by omega⟩
  row := fun r h1 h2 => by omega
  lowg := hB
  low := fun r h1 h2 => by omega
  inj := fun r r' h1 h2 h3 => by omega
theorem RRow.made (w : World) (all : Nat) (t : TypeId) : RRow (w.alloc (.cells (madeCells #[.int .i64 0, .int .i64 0] (all * 2)) t)) w.heap.size all (fun _ => (0, 0)) := by
  refine ⟨_, t, heap_alloc_new _ _, fun q hq => ?_⟩
  have h1 : q * 2 % 2 = 0 := by omega
  have h2 : (q * 2 + 1) % 2 = 1 := by omega
  have h3 : q * 2 < all * 2 := by omega
  have h4 : q * 2 + 1 < all * 2 := by omega
  constructor
  · simp [madeCells, h1, hq]
  · simp [madeCells, h2, h4]
/-- what the rows hold while row i is filled up to set k -/
def valR (m : Mat) (F : List Int) (i k : Nat) (r q : Nat) : Int × Int := if r = i ∧ k ≤ q then (0, 0) else (mn (costs m F (m.row.length - r) r q), tieN (costs m F (m.row.length - r) r q))
def finR (m : Mat) (F : List Int) (r q : Nat) : Int × Int := (mn (costs m F (m.row.length - r) r q), tieN (costs m F (m.row.length - r) r q))
theorem valR_next {m : Mat} {F : List Int} {i k r q : Nat} : (if r = i then (fun p => if p = k then (mn (costs m F (m.row.length - i) i k), tieN (costs m F (m.row.length - i) i k)) else valR m F i k i p) q else valR m F i k r q) = valR m F i (k + 1) r q := by
  unfold valR
  by_cases e : r = i
  · subst e
    simp only [if_true, true_and]
    by_cases e2 : q = k
    · subst e2; rw [if_pos rfl, if_neg (by omega)]
    · simp only [e2, if_false]
      by_cases e3 : k ≤ q
      · rw [if_pos e3, if_pos (by omega)]
      · rw [if_neg e3, if_neg (by omega)]
  · simp [e]
end Go.Tw.Match
