/-
  Layer 16 (fuse): sources are compared; a row of sources.
-/
import Derived.Test.YtelnnjofccldgaaGreatDoorFuS
import Derived.Laws.StructEq
import Derived.Lib.SliceRun
namespace Go.Tw.Fu
open Go.RowKit Go.Tw Go.Tw.Ord Go.Tw.Ps
theorem src_eqb (x y : Src) : (x.dev.toList == y.dev.toList && x.seq == y.seq) = decide (x = y) := by
  simp only [eq_str]
  rw [Bool.eq_iff_iff]
  simp only [Bool.and_eq_true, decide_eq_true_eq, beq_iff_eq]
  constructor
  · rintro ⟨a1, a2⟩
    cases x; cases y
    simp_all
  · rintro rfl
    simp
/-- clear of elements of whatever size -/
theorem run_clear_wide {P : Program} (w : World) (t e ty : TypeId) (z : Value) (ht : P.underlying t = some (.slice e)) (hv : ∀ w, (zeroValue e).run P w = .ok z w) (b o n c : Nat) (hn : 0 < n)
    (hc : ∀ j, j < (Builtin.zeroCells z.cells n).toList.length → (w.cell? ⟨b, o + j, none⟩).isSome = true) (hf : ∀ j, j < (Builtin.zeroCells z.cells n).toList.length → w.frozen? ⟨b, o + j, none⟩ = false) (h1' : ∀ v ∈ (Builtin.zeroCells z.cells n).toList, v.oneCell' = true) :
    (Builtin.clear_ #[t] ty #[.slice (some ⟨b, o, none⟩) n c]).run P w = .ok (.tuple #[]) (w.setCells b o (Builtin.zeroCells z.cells n).toList) := by
  have hst := run_storeCells_cells (P := P) b o (Builtin.zeroCells z.cells n).toList 0 w (by simpa using hc) (by simpa using hf) h1'
  simp only [Nat.add_zero] at hst
  obtain ⟨m, rfl⟩ : ∃ m, n = m + 1 := ⟨n - 1, by omega⟩
  simp [Builtin.clear_, run_underlying ht, hv, hst]
/-- a row of sources: block g's cells -/
def RowS (w : World) (g : Nat) (t : TypeId) (sz : Nat) (L : List Src) : Prop := ∃ A : Array Value, w.heap[g]? = some (.cells A t (0, 0)) ∧ A.size = sz ∧
  ∀ k (h : k < L.length), A[k * 2]? = some (.string L[k].dev) ∧ A[k * 2 + 1]? = some (.int .i64 L[k].seq)
theorem RowS.cells {w : World} {g : Nat} {t : TypeId} {sz : Nat} {L : List Src} (h : RowS w g t sz L) {k : Nat} (hk : k < L.length) : w.cell? ⟨g, k * 2, none⟩ = some (.string L[k].dev) ∧ w.cell? ⟨g, k * 2 + 1, none⟩ = some (.int .i64 L[k].seq) ∧ ∀ j, w.frozen? ⟨g, j, none⟩ = false := by
  obtain ⟨A, h1, h2, h3⟩ := h
  obtain ⟨a, b⟩ := h3 k hk
  exact ⟨(cell_of_row _ _ _ _ _ _ h1).trans a, (cell_of_row _ _ _ _ _ _ h1).trans b, fun j => frozen_of_row _ _ j _ _ h1⟩
theorem RowS.lt {w : World} {g : Nat} {t : TypeId} {sz : Nat} {L : List Src} (h : RowS w g t sz L) : g < w.heap.size := by obtain ⟨A, h1, -⟩ := h; exact lt_of_heap h1
theorem RowS.block {w w' : World} {g : Nat} {t : TypeId} {sz : Nat} {L : List Src} (h : RowS w g t sz L) (he : w'.heap[g]? = w.heap[g]?) : RowS w' g t sz L := by
  obtain ⟨A, h1, h2⟩ := h
  exact ⟨A, he.trans h1, h2⟩
theorem RowS.set {w : World} {g : Nat} {t : TypeId} {sz i : Nat} {L : List Src} (h : RowS w g t sz L) (hi : i < L.length) (s : ByteArray) (n : Int) :
    RowS ((w.setCell ⟨g, i * 2, none⟩ (.string s)).setCell ⟨g, i * 2 + 1, none⟩ (.int .i64 n)) g t sz (L.set i ⟨s, n⟩) := by
  obtain ⟨A, h1, h2, h3⟩ := h
  refine ⟨_, heap_setCell_same _ _ (i * 2 + 1) _ _ (.int .i64 n) (heap_setCell_same _ _ (i * 2) _ _ (.string s) h1), by simpa using h2, fun k hk => ?_⟩
  have hk' : k < L.length := by simpa using hk
  obtain ⟨a, b⟩ := h3 k hk'
  obtain ⟨-, d'⟩ := h3 i hi
  have hlt : i * 2 + 1 < A.size := (Array.getElem?_eq_some_iff.1 d').1
  simp only [Array.getElem?_setIfInBounds, Array.size_setIfInBounds]
  by_cases e : i = k
  · subst e
    simp [hlt, show i * 2 < A.size by omega]
  · rw [List.getElem_set_ne e]
    refine ⟨?_, ?_⟩
    · rw [if_neg (by omega), if_neg (by omega)]; exact a
    · rw [if_neg (by omega), if_neg (by omega)]; exact b
/-- .. of an own slice -/
theorem RowS.of {e : TypeId} {B : Nat} {w : World} {v : Value} {l : List Src} (h : OwnSl tSrc e B w v l) (hl : 0 < l.length) : ∃ g cap, v = .slice (some ⟨g, 0, none⟩) l.length cap ∧ B ≤ g ∧ RowS w g e (cap * 2) l ∧ l.length ≤ cap ∧ cap ≤ maxLen ∧ ∀ x ∈ l, SrcOk x := by
  obtain ⟨css, h1, h2⟩ := h
  have hat := h2.at.2
  rcases h1.2 with ⟨q, q2⟩ | ⟨g, cap, cur, q, q1, q2, q3, q4, q5, q6⟩
  · omega
  refine ⟨g, cap, q, q1, ⟨cur, q2, q5, fun k hk => ?_⟩, q3, q4, fun x hx => ?_⟩
  · obtain ⟨cs, c1, c2, c3⟩ := hat k hk
    obtain ⟨rfl, -⟩ := tSrc_is c2
    have key : ∀ j, j < 2 → cur[k * 2 + j]? = (srcCells l[k])[j]? := fun j hj => by
      rw [← c3 j hj, ← q6, List.getElem?_take, if_pos (by show k * 2 + j < l.length * 2; omega), Array.getElem?_toList]
      rfl
    exact ⟨key 0 (by decide), key 1 (by decide)⟩
  · obtain ⟨k, hk, rfl⟩ := List.getElem_of_mem hx
    obtain ⟨cs, c1, c2, c3⟩ := hat k hk
    exact (tSrc_is c2).2
theorem RowS.sl {w : World} {g cap : Nat} {e : TypeId} {L : List Src} {S : Nat → Prop} (h : RowS w g e (cap * 2) L) (hg : S g) (hc : L.length ≤ cap) (hm : cap ≤ maxLen) (hL : ∀ x ∈ L, SrcOk x) : SlIs tSrc S w (.slice (some ⟨g, 0, none⟩) L.length cap) L := by
  refine ⟨some ⟨g, 0, none⟩, cap, g, 0, rfl, hc, hm, fun e => (by cases e), fun k hk => ?_⟩
  refine ⟨rfl, hg, h.lt, srcCells L[k], fun j hj => ?_, tSrc_mk (hL _ (List.getElem_mem hk))⟩
  obtain ⟨a, b, -⟩ := h.cells hk
  have hj4 : j < 2 := hj
  rw [show 0 + k * tSrc.sz + j = k * 2 + j from by show 0 + k * 2 + j = _; omega]
  match j, hj4 with
  | 0, _ => exact a
  | 1, _ => exact b
theorem setCells_low {g : Nat} {e : TypeId} : ∀ (vs : List Value) (o : Nat) (w : World) (cur : Array Value), w.heap[g]? = some (.cells cur e (0, 0)) → ∃ cur', (w.setCells g o vs).heap[g]? = some (.cells cur' e (0, 0)) ∧ cur'.size = cur.size ∧ ∀ k, k < o → cur'[k]? = cur[k]?
  | [], _, w, cur, h => ⟨cur, h, rfl, fun _ _ => rfl⟩
  | v :: r, o, w, cur, h => by
    obtain ⟨cur', h1, h2, h3⟩ := setCells_low r (o + 1) (w.setCell ⟨g, o, none⟩ v) _ (heap_setCell_same _ _ _ _ _ _ h)
    refine ⟨cur', h1, by simpa using h2, fun k hk => ?_⟩
    rw [h3 k (by omega), Array.getElem?_setIfInBounds, if_neg (by omega)]
theorem RowS.clear {w : World} {g : Nat} {t : TypeId} {sz : Nat} {K D : List Src} (h : RowS w g t sz (K ++ D)) (vs : List Value) : RowS (w.setCells g (K.length * 2) vs) g t sz K := by
  obtain ⟨A, h1, h2, h3⟩ := h
  obtain ⟨A', g1, g2, g3⟩ := setCells_low vs (K.length * 2) w A h1
  refine ⟨A', g1, g2.trans h2, fun k hk => ?_⟩
  obtain ⟨a, b⟩ := h3 k (by rw [List.length_append]; omega)
  rw [List.getElem_append_left hk] at a b
  rw [g3 _ (by omega), g3 _ (by omega)]
  exact ⟨a, b⟩
theorem row_set {α : Type} {K L : List α} {i : Nat} (hi : K.length = i) (hl : i < L.length) (x : α) : (K ++ L.drop i).set i x = (K ++ [x]) ++ L.drop (i + 1) := by
  subst hi
  rw [List.set_append_right _ _ (Nat.le_refl _), Nat.sub_self, List.drop_eq_getElem_cons hl, List.set_cons_zero, List.append_assoc]
  rfl
theorem row_get {α : Type} {K L : List α} {i j : Nat} (hi : K.length = i) (hij : i ≤ j) (hj : j < L.length) (h : j < (K ++ L.drop i).length) : (K ++ L.drop i)[j] = L[j] := by
  subst hi
  rw [List.getElem_append_right hij, List.getElem_drop]
  congr 1
  omega
theorem zero2 (n : Nat) : ∀ v ∈ (Builtin.zeroCells (Value.agg #[.string ByteArray.empty, .int .i64 0]).cells n).toList, v.oneCell' = true := by
  intro v hv
  unfold Builtin.zeroCells at hv
  simp only [Array.toList_map, List.mem_map] at hv
  obtain ⟨i, -, rfl⟩ := hv
  have e : (Value.agg #[.string ByteArray.empty, .int .i64 0]).cells = #[.string ByteArray.empty, .int .i64 0] := by rfl
  rw [e]
  have : i % 2 = 0 ∨ i % 2 = 1 := by omega
  show (#[Value.string ByteArray.empty, .int .i64 0][i % 2]!).oneCell' = true
  rcases this with q | q <;> rw [q] <;> rfl
/-- what is elsewhere is as it was -/
structure Off (g : Nat) (w wr : World) : Prop where
  bel : Below g w wr
  sz : w.heap.size ≤ wr.heap.size
  oth : ∀ k, k < w.heap.size → k ≠ g → wr.heap[k]? = w.heap[k]?
theorem Off.refl (g : Nat) (w : World) : Off g w w := ⟨Below.refl _ _, Nat.le_refl _, fun _ _ _ => rfl⟩
theorem Off.below {g : Nat} {w wr w' : World} (h : Off g w wr) (hg : g < w.heap.size) (hb : Below wr.heap.size wr w') : Off g w w' :=
  ⟨h.bel.trans (hb.mono (by have := h.sz; omega)), Nat.le_trans h.sz hb.size, fun k h1 h2 => (hb.block k (Nat.lt_of_lt_of_le h1 h.sz)).trans (h.oth k h1 h2)⟩
theorem Off.set {g o : Nat} {v : Value} {w wr : World} (h : Off g w wr) : Off g w (wr.setCell ⟨g, o, none⟩ v) :=
  ⟨h.bel.setCell (Nat.le_refl _) v, by simpa using h.sz, fun k h1 h2 => (Below.heap_setCell _ _ _ _ h2).trans (h.oth k h1 h2)⟩
theorem Off.setCells {g : Nat} {w : World} : ∀ (vs : List Value) (o : Nat) (wr : World), Off g w wr → Off g w (wr.setCells g o vs)
  | [], _, _, h => h
  | _ :: r, o, _, h => Off.setCells r (o + 1) _ h.set
theorem Off.drew {g : Nat} {w wr : World} (h : Off g w wr) : Off g w wr.drew := ⟨h.bel.drew, h.sz, h.oth⟩
/-- one of each run of equals, of the first j -/
def ddT (L : List Src) : Nat → List Src
  | 0 => []
  | j + 1 => if h : j < L.length then (if 0 < j ∧ L[j - 1]? = some L[j] then ddT L j else ddT L j ++ [L[j]]) else ddT L j
theorem ddT_eq {L : List Src} {j : Nat} (h : j < L.length) (h0 : 0 < j) (he : L[j] = L[j - 1]) : ddT L (j + 1) = ddT L j := by
  simp only [ddT, dif_pos h]
  rw [if_pos ⟨h0, by rw [List.getElem?_eq_getElem (by omega), he]⟩]
theorem ddT_ne {L : List Src} {j : Nat} (h : j < L.length) (h0 : 0 < j) (he : L[j] ≠ L[j - 1]) : ddT L (j + 1) = ddT L j ++ [L[j]] := by
  simp only [ddT, dif_pos h]
  rw [if_neg (fun q => by have := q.2; rw [List.getElem?_eq_getElem (by omega)] at this; simp only [Option.some.injEq] at this; exact he this.symm)]
theorem ddT_one {L : List Src} (h : 0 < L.length) : ddT L 1 = L.take 1 := by
  simp only [ddT, dif_pos h]
  rw [if_neg (fun q => absurd q.1 (Nat.lt_irrefl 0)), List.take_succ_eq_append_getElem h]
  rfl
end Go.Tw.Fu
namespace Go.Proofs.YtelnnjofccldgaaGreatDoor.Fu
open Go.RowKit Go.Tw Go.Tw.Ord Go.Tw.Ps Go.Tw.Fu Go.Sort
set_option maxRecDepth 100000 in
set_option maxHeartbeats 2000000 in
theorem run_src_eq (x y : Src) (w : World) : (Op.equalIn 10000 32 (.agg (srcCells x).toArray) (.agg (srcCells y).toArray)).run Tryz.prog w = .ok (decide (x = y)) w := by
  have u3 := Tryz.underlying3
  have a3 := Tryz.isAgg3
  have z3 := Tryz.sizeOf3
  have u9 := Tryz.underlying9
  have a9 := Tryz.isAgg9
  have z9 := Tryz.sizeOf9
  rw [← src_eqb]
  simp only [srcCells]
  rw [show (10000 : Nat) = 9999 + 1 from rfl, run_equalIn_agg w 9999 32 _ _ (by kernel_rfl) (by kernel_rfl)]
  simp only [Program.fieldsOf, Tryz.underlying32]
  go_simp
  repeat' split
  all_goals simp [*]
theorem run_src_eql (x y : Src) (w : World) : (binOp .eql 32 (.agg (srcCells x).toArray) (.agg (srcCells y).toArray)).run Tryz.prog w = .ok (.bool (decide (x = y))) w := by
  rw [run_eql_struct, run_src_eq]
  rfl
theorem run_src_neq (x y : Src) (w : World) : (binOp .neq 32 (.agg (srcCells x).toArray) (.agg (srcCells y).toArray)).run Tryz.prog w = .ok (.bool (!decide (x = y))) w := by
  rw [run_neq_struct, run_src_eq]
  rfl
end Go.Proofs.YtelnnjofccldgaaGreatDoor.Fu
