/-
  Layer 43 (exchange): slices.DeleteFunc of files, in a slice of the call's own.
-/
import Derived.Test.YtmjbbpappigngaaGreatExcRecv
import Derived.Lib.SliceRun
namespace Go.Tw.Exc
open Go.RowKit Go.Tw
/-- clear of elements of whatever size -/
theorem run_clear_wide {P : Program} (w : World) (t e ty : TypeId) (z : Value) (ht : P.underlying t = some (.slice e)) (hv : ∀ w, (zeroValue e).run P w = .ok z w) (_ : ∀ v ∈ (Builtin.zeroCells z.cells 1).toList, v.oneCell' = true) (b o n c : Nat) (hn : 0 < n)
    (hc : ∀ j, j < (Builtin.zeroCells z.cells n).toList.length → (w.cell? ⟨b, o + j, none⟩).isSome = true) (hf : ∀ j, j < (Builtin.zeroCells z.cells n).toList.length → w.frozen? ⟨b, o + j, none⟩ = false) (h1' : ∀ v ∈ (Builtin.zeroCells z.cells n).toList, v.oneCell' = true) :
    (Builtin.clear_ #[t] ty #[.slice (some ⟨b, o, none⟩) n c]).run P w = .ok (.tuple #[]) (w.setCells b o (Builtin.zeroCells z.cells n).toList) := by
  have hst := run_storeCells_cells (P := P) b o (Builtin.zeroCells z.cells n).toList 0 w (by simpa using hc) (by simpa using hf) h1'
  simp only [Nat.add_zero] at hst
  obtain ⟨m, rfl⟩ : ∃ m, n = m + 1 := ⟨n - 1, by omega⟩
  simp [Builtin.clear_, run_underlying ht, hv, hst]
theorem tFil_own {F : List Nat} {w : World} {cs : List Value} {r : Fil} (h : tFil.own F w cs r) : ∃ v, cs = filCells r v ∧ OwnL tRec 49 F w v r.rs ∧ r.fr.size ≤ maxLen ∧ r.to.size ≤ maxLen ∧ i64ok r.sq := by
  obtain ⟨_, _, _, _, rfl, rfl, ⟨rfl, rfl, h1⟩, _, _, _, _, rfl, rfl, ⟨rfl, rfl, h2⟩, _, _, _, _, rfl, rfl, ⟨rfl, rfl, h3⟩, v, rfl, h4⟩ := h
  exact ⟨v, rfl, by simpa using h4, h1, h2, h3⟩
theorem allOwn_fil {w : World} : ∀ {Fs : List (List Nat)} {css : List (List Value)} {l : List Fil}, AllOwn tFil w Fs css l → ∃ L : List (Fil × Value), L.map (·.1) = l ∧ css = L.map (fun x => filCells x.1 x.2) ∧ ∀ x ∈ L, FilOk (· ∈ Fs.flatten) w x.1 x.2
  | [], [], [], _ => ⟨[], rfl, rfl, fun _ h => by cases h⟩
  | F :: Fs, cs :: css, x :: l, h => by
    obtain ⟨v, rfl, h1, h2, h3, h4⟩ := tFil_own h.1
    obtain ⟨L, rfl, rfl, g⟩ := allOwn_fil h.2
    refine ⟨(x, v) :: L, rfl, rfl, fun y hy => ?_⟩
    rcases List.mem_cons.1 hy with rfl | hy
    · exact ⟨h2, h3, h4, h1.sl.keep (fun k hk => by rw [List.flatten_cons]; exact List.mem_append_left _ hk) (SameOn.refl _ _)⟩
    · exact (g y hy).keep (fun k hk => by rw [List.flatten_cons]; exact List.mem_append_right _ hk) (SameOn.refl _ _)
  | [], [], _ :: _, h => h.elim
  | [], _ :: _, _, h => h.elim
  | _ :: _, [], _, h => h.elim
  | _ :: _, _ :: _, [], h => h.elim
/-- a row of files: block g's cells -/
def RowF (w : World) (g : Nat) (t : TypeId) (sz : Nat) (L : List (Fil × Value)) : Prop := ∃ A : Array Value, w.heap[g]? = some (.cells A t (0, 0)) ∧ A.size = sz ∧
  ∀ k (h : k < L.length), A[k * 4]? = some (.string L[k].1.fr) ∧ A[k * 4 + 1]? = some (.string L[k].1.to) ∧ A[k * 4 + 2]? = some (.int .i64 L[k].1.sq) ∧ A[k * 4 + 3]? = some L[k].2
theorem RowF.cells {w : World} {g : Nat} {t : TypeId} {sz : Nat} {L : List (Fil × Value)} (h : RowF w g t sz L) {k : Nat} (hk : k < L.length) : w.cell? ⟨g, k * 4, none⟩ = some (.string L[k].1.fr) ∧ w.cell? ⟨g, k * 4 + 1, none⟩ = some (.string L[k].1.to) ∧ w.cell? ⟨g, k * 4 + 2, none⟩ = some (.int .i64 L[k].1.sq) ∧ w.cell? ⟨g, k * 4 + 3, none⟩ = some L[k].2 ∧ ∀ j, w.frozen? ⟨g, j, none⟩ = false := by
  obtain ⟨A, h1, h2, h3⟩ := h
  obtain ⟨a, b, c, d⟩ := h3 k hk
  exact ⟨(cell_of_row _ _ _ _ _ _ h1).trans a, (cell_of_row _ _ _ _ _ _ h1).trans b, (cell_of_row _ _ _ _ _ _ h1).trans c, (cell_of_row _ _ _ _ _ _ h1).trans d, fun j => frozen_of_row _ _ j _ _ h1⟩
theorem RowF.lt {w : World} {g : Nat} {t : TypeId} {sz : Nat} {L : List (Fil × Value)} (h : RowF w g t sz L) : g < w.heap.size := by obtain ⟨A, h1, -⟩ := h; exact lt_of_heap h1
theorem RowF.block {w w' : World} {g : Nat} {t : TypeId} {sz : Nat} {L : List (Fil × Value)} (h : RowF w g t sz L) (he : w'.heap[g]? = w.heap[g]?) : RowF w' g t sz L := by
  obtain ⟨A, h1, h2⟩ := h
  exact ⟨A, he.trans h1, h2⟩
theorem RowF.set {w : World} {g : Nat} {t : TypeId} {sz i : Nat} {L : List (Fil × Value)} (h : RowF w g t sz L) (hi : i < L.length) (f : Fil) (v : Value) :
    RowF ((((w.setCell ⟨g, i * 4, none⟩ (.string f.fr)).setCell ⟨g, i * 4 + 1, none⟩ (.string f.to)).setCell ⟨g, i * 4 + 2, none⟩ (.int .i64 f.sq)).setCell ⟨g, i * 4 + 3, none⟩ v) g t sz (L.set i (f, v)) := by
  obtain ⟨A, h1, h2, h3⟩ := h
  refine ⟨_, heap_setCell_same _ _ (i * 4 + 3) _ _ v (heap_setCell_same _ _ (i * 4 + 2) _ _ (.int .i64 f.sq) (heap_setCell_same _ _ (i * 4 + 1) _ _ (.string f.to) (heap_setCell_same _ _ (i * 4) _ _ (.string f.fr) h1))), by simpa using h2, fun k hk => ?_⟩
  have hk' : k < L.length := by simpa using hk
  obtain ⟨a, b, c, d⟩ := h3 k hk'
  obtain ⟨-, -, -, d'⟩ := h3 i hi
  have hlt : i * 4 + 3 < A.size := (Array.getElem?_eq_some_iff.1 d').1
  simp only [Array.getElem?_setIfInBounds, Array.size_setIfInBounds]
  by_cases e : i = k
  · subst e
    simp [hlt, show i * 4 + 2 < A.size by omega, show i * 4 + 1 < A.size by omega, show i * 4 < A.size by omega]
  · have e1 : L.set i (f, v) = L.set i (f, v) := rfl
    rw [List.getElem_set_ne e]
    refine ⟨?_, ?_, ?_, ?_⟩
    · rw [if_neg (by omega), if_neg (by omega), if_neg (by omega), if_neg (by omega)]; exact a
    · rw [if_neg (by omega), if_neg (by omega), if_neg (by omega), if_neg (by omega)]; exact b
    · rw [if_neg (by omega), if_neg (by omega), if_neg (by omega), if_neg (by omega)]; exact c
    · rw [if_neg (by omega), if_neg (by omega), if_neg (by omega), if_neg (by omega)]; exact d
/-- .. of an own slice -/
theorem RowF.of {F : List Nat} {w : World} {g cap : Nat} {l : List Fil} {n : Nat} (h : OwnL tFil 45 F w (.slice (some ⟨g, 0, none⟩) n cap) l) (hn : F.Nodup) : ∃ L : List (Fil × Value), L.map (·.1) = l ∧ RowF w g 45 (cap * 4) L ∧ (∀ x ∈ L, FilOk (fun k => k ∈ F ∧ k ≠ g) w x.1 x.2) ∧ l.length ≤ cap ∧ cap ≤ maxLen ∧ n = l.length ∧ g ∈ F := by
  obtain ⟨css, Fs, h1, h2, rfl⟩ := h
  obtain ⟨L, rfl, rfl, hL⟩ := allOwn_fil h2
  have hat := h2.is.at.2
  rcases h1.2 with ⟨q, -⟩ | ⟨g', cap', cur, q, q1, q2, q3, q4, q5, q6⟩
  · cases q
  simp only [Value.slice.injEq, Option.some.injEq, Addr.mk.injEq, and_true] at q
  obtain ⟨rfl, rfl, rfl⟩ := q
  have hgn : ∀ k ∈ Fs.flatten, k ≠ g := fun k hk e => by
    subst e
    have := List.nodup_append.1 hn
    exact this.2.2 k (by simp [Value.ownBlock]) k hk rfl
  refine ⟨L, rfl, ⟨cur, q2, q5, fun k hk => ?_⟩, fun x hx => (hL x hx).keep (fun k hk => ⟨List.mem_append_right _ hk, hgn k hk⟩) (SameOn.refl _ _), by simpa using q3, q4, rfl, by simp [Value.ownBlock]⟩
  obtain ⟨cs, c1, c2, c3⟩ := hat k (by simpa using hk)
  rw [List.getElem?_map, List.getElem?_eq_getElem hk] at c1
  simp only [Option.map_some, Option.some.injEq] at c1
  subst c1
  have key : ∀ j, j < 4 → cur[k * 4 + j]? = (filCells L[k].1 L[k].2)[j]? := fun j hj => by
    rw [← c3 j hj, ← q6, List.getElem?_take, if_pos (by
      have : k < L.length := hk
      have e : (L.map (·.1)).length = L.length := by simp
      rw [e]
      show k * 4 + j < L.length * 4
      omega), Array.getElem?_toList]
    rfl
  exact ⟨key 0 (by decide), key 1 (by decide), key 2 (by decide), key 3 (by decide)⟩
theorem RowF.sl {w : World} {g cap : Nat} {L : List (Fil × Value)} {S : Nat → Prop} (h : RowF w g 45 (cap * 4) L) (hg : S g) (hc : L.length ≤ cap) (hm : cap ≤ maxLen) (hL : ∀ x ∈ L, FilOk S w x.1 x.2) : SlIs tFil S w (.slice (some ⟨g, 0, none⟩) L.length cap) (L.map (·.1)) := by
  refine ⟨some ⟨g, 0, none⟩, cap, g, 0, by simp, by simpa using hc, hm, fun e => (by cases e), fun k hk => ?_⟩
  have hk' : k < L.length := by simpa using hk
  refine ⟨rfl, hg, h.lt, filCells L[k].1 L[k].2, fun j hj => ?_, ?_⟩
  · obtain ⟨a, b, c, d, -⟩ := h.cells hk'
    have hj4 : j < 4 := hj
    rw [show 0 + k * tFil.sz + j = k * 4 + j from by show 0 + k * 4 + j = _; omega]
    match j, hj4 with
    | 0, _ => exact a
    | 1, _ => exact b
    | 2, _ => exact c
    | 3, _ => exact d
  · have := tFil_mk (hL L[k] (List.getElem_mem hk'))
    simpa using this
theorem setCells_low {g : Nat} {e : TypeId} : ∀ (vs : List Value) (o : Nat) (w : World) (cur : Array Value), w.heap[g]? = some (.cells cur e (0, 0)) → ∃ cur', (w.setCells g o vs).heap[g]? = some (.cells cur' e (0, 0)) ∧ cur'.size = cur.size ∧ ∀ k, k < o → cur'[k]? = cur[k]?
  | [], _, w, cur, h => ⟨cur, h, rfl, fun _ _ => rfl⟩
  | v :: r, o, w, cur, h => by
    obtain ⟨cur', h1, h2, h3⟩ := setCells_low r (o + 1) (w.setCell ⟨g, o, none⟩ v) _ (heap_setCell_same _ _ _ _ _ _ h)
    refine ⟨cur', h1, by simpa using h2, fun k hk => ?_⟩
    rw [h3 k (by omega), Array.getElem?_setIfInBounds, if_neg (by omega)]
theorem RowF.clear {w : World} {g : Nat} {t : TypeId} {sz : Nat} {K D : List (Fil × Value)} (h : RowF w g t sz (K ++ D)) (vs : List Value) : RowF (w.setCells g (K.length * 4) vs) g t sz K := by
  obtain ⟨A, h1, h2, h3⟩ := h
  obtain ⟨A', g1, g2, g3⟩ := setCells_low vs (K.length * 4) w A h1
  refine ⟨A', g1, g2.trans h2, fun k hk => ?_⟩
  obtain ⟨a, b, c, d⟩ := h3 k (by rw [List.length_append]; omega)
  rw [List.getElem_append_left hk] at a b c d
  rw [g3 _ (by omega), g3 _ (by omega), g3 _ (by omega), g3 _ (by omega)]
  exact ⟨a, b, c, d⟩
theorem row_set {K L : List (Fil × Value)} {i : Nat} (hi : K.length = i) (hl : i < L.length) (x : Fil × Value) : (K ++ L.drop i).set i x = (K ++ [x]) ++ L.drop (i + 1) := by
  subst hi
  rw [List.set_append_right _ _ (Nat.le_refl _), Nat.sub_self, List.drop_eq_getElem_cons hl, List.set_cons_zero, List.append_assoc]
  rfl
theorem row_get {K L : List (Fil × Value)} {i j : Nat} (hi : K.length = i) (hij : i ≤ j) (hj : j < L.length) (h : j < (K ++ L.drop i).length) : (K ++ L.drop i)[j] = L[j] := by
  subst hi
  rw [List.getElem_append_right hij, List.getElem_drop]
  congr 1
  omega
/-- what is kept -/
def kept (sq : Int) (x : Fil × Value) : Bool := decide (sq < x.1.sq)
theorem kept_map (sq : Int) : ∀ L : List (Fil × Value), (L.filter (kept sq)).map (·.1) = (L.map (·.1)).filter fun f => decide (sq < f.sq)
  | [] => rfl
  | x :: L => by
    rw [List.filter_cons, List.map_cons, List.filter_cons, kept]
    split <;> simp [kept_map sq L]
theorem kept_take {sq : Int} {L : List (Fil × Value)} {k : Nat} (h : k < L.length) : (L.take (k + 1)).filter (kept sq) = if kept sq L[k] then (L.take k).filter (kept sq) ++ [L[k]] else (L.take k).filter (kept sq) := by
  rw [List.take_succ_eq_append_getElem h, List.filter_append]
  by_cases q : kept sq L[k] <;> simp [q]
end Go.Tw.Exc
