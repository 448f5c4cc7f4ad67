/-
  Layer 16 (fuse): sorting sources by device and number, in a slice of the call's own.
-/
import Derived.Test.YtelnnjofccldgaaGreatDoorFuC
import Derived.Test.YtelnnjofccldgaaGreatDoorOwn2
import Derived.Test.YtelnnjofccldgaaGreatDoorShelf2
namespace Go.Proofs.YtelnnjofccldgaaGreatDoor.Fu
open Go.RowKit Go.Tw Go.Tw.Ord Go.Tw.Ps Go.Sort
theorem swoS : SWO (ltOf srcC) := srcC_cmp.swo
theorem srcCells_len (x : Src) : (srcCells x).length = 2 := rfl
theorem srcCells_one (x : Src) : ∀ v ∈ srcCells x, v.oneCell' = true := by
  intro v hv
  unfold srcCells at hv
  simp only [List.mem_cons, List.not_mem_nil, or_false] at hv
  rcases hv with rfl | rfl <;> rfl
theorem holdsSrc {w : World} {g : Nat} {t : TypeId} {A : Array Value} {l : List Src} (h : w.heap[g]? = some (.cells A t (0, 0))) (hA : ∀ k j, k < l.length → j < 2 → A[k * 2 + j]? = (srcCells (l.getD k default))[j]?) : HoldsK srcCells 2 w g 0 l.toArray := by
  intro t' ht
  have ht' : t' < l.length * 2 := by simpa using ht
  refine ⟨?_, frozen_of_row _ _ _ _ _ h⟩
  rw [cell_of_row _ _ _ _ _ _ h, Nat.zero_add, get_flatK _ _ _ _ (by simpa using ht')]
  have hk : t' / 2 < l.length := by omega
  have hj : t' % 2 < 2 := Nat.mod_lt _ (by decide)
  have := hA (t' / 2) (t' % 2) hk hj
  rw [show t' / 2 * 2 + t' % 2 = t' by omega] at this
  rw [this]
  have e : l.toArray[t' / 2]! = l.getD (t' / 2) default := by
    rw [getElem!_pos l.toArray _ (by simpa using hk), List.getD_eq_getElem?_getD, List.getElem?_eq_getElem hk]
    simp
  rw [e]
  rw [List.getElem?_eq_getElem (by rw [srcCells_len]; exact hj)]
  show some _ = some _
  rw [getElem!_pos (srcCells _) (t' % 2) (by rw [srcCells_len]; exact hj)]
  rfl
theorem putRow_heap {α : Type} [Inhabited α] (enc : α → Value) (w : World) (blk off : Nat) (d : Array α) {cur : Array Value} {e : TypeId} (h : w.heap[blk]? = some (.cells cur e (0, 0))) :
    ∃ cur2, (Sort.putRow enc w blk off d).heap[blk]? = some (.cells cur2 e (0, 0)) ∧ cur2.size = cur.size := by
  unfold Sort.putRow Sort.mapBlock
  rw [show ∀ (h : Array Obj) (f : Obj → Obj), (h.modify blk f)[blk]? = (h[blk]?).map f from fun h f => by rw [Array.getElem?_modify, if_pos rfl]]
  rw [h]
  refine ⟨_, rfl, ?_⟩
  unfold Sort.putCells
  exact Array.size_mapIdx ..
theorem sorted_heap (w : World) (blk off m : Nat) (dk : Array Src) (os : Array Obj) {cur : Array Value} {e : TypeId} (h : w.heap[blk]? = some (.cells cur e (0, 0))) :
    ∃ cur2, (sortWorldK srcCells 2 w blk off m dk os).heap[blk]? = some (.cells cur2 e (0, 0)) ∧ cur2.size = cur.size := by
  obtain ⟨cur2, h1, h2⟩ := putRow_heap id (Sort.ahead w m) blk off (flatK srcCells 2 dk) (cur := cur) (e := e) h
  refine ⟨cur2, ?_, h2⟩
  unfold sortWorldK putRowK
  rw [Sort.heap_grow_old _ _ (lt_of_heap h1)]
  exact h1
theorem sortSrc_at (w : World) (blk off m : Nat) (dk : Array Src) (os : Array Obj) {k : Nat} (hk : k < w.heap.size) (hne : k ≠ blk) : (sortWorldK srcCells 2 w blk off m dk os).heap[k]? = w.heap[k]? := by
  have h1 : (Sort.putRow id (Sort.ahead w m) blk off (flatK srcCells 2 dk)).heap[k]? = w.heap[k]? := by
    unfold Sort.putRow Sort.mapBlock
    rw [show ∀ (h : Array Obj) (f : Obj → Obj), (h.modify blk f)[k]? = h[k]? from fun h f => by
      rw [Array.getElem?_modify, if_neg (fun e => hne e.symm)]]
    rfl
  have h2 : k < (Sort.putRow id (Sort.ahead w m) blk off (flatK srcCells 2 dk)).heap.size := by
    unfold Sort.putRow Sort.mapBlock
    simp
    exact hk
  unfold sortWorldK putRowK
  rw [Sort.heap_grow_old _ _ h2, h1]
theorem perm_ofS {d d' : Array Src} (h : PermIn 0 d.size d d') : d'.toList.Perm d.toList := by
  have := h.2.2
  rw [Array.extract_size] at this
  rw [show d'.extract 0 d.size = d' by rw [← h.1, Array.extract_size]] at this
  exact this
/-- each one not behind those that follow -/
def SrtS (l : List Src) : Prop := ∀ i j (hj : j < l.length) (hij : i < j), srcC (l[i]'(by omega)) l[j] ≤ 0
theorem srt_of {d : Array Src} (h : SortedIn (ltOf srcC) 0 d.size d) : SrtS d.toList := by
  intro i j hj hij
  have hj' : j < d.size := by simpa using hj
  have := h i j (Nat.zero_le _) hij hj'
  unfold ltOf at this
  simp only [decide_eq_false_iff_not, Int.not_lt] at this
  rw [getElem!_pos d j hj', getElem!_pos d i (by omega)] at this
  have ha := srcC_cmp.anti d[i] d[j]
  simp only [Array.getElem_toList]
  omega
/-- the sorted slice, still the call's own -/
def SortE (B : Nat) (l : List Src) (v : Value) (w : World) (e : Ending) (w' : World) : Prop := e = .returned (.tuple #[]) ∧ (∃ l', l'.Perm l ∧ SrtS l' ∧ OwnSl tSrc 32 B w' v l') ∧ Below B w w' ∧ w.heap.size ≤ w'.heap.size
set_option maxHeartbeats 1000000 in
theorem sort_any (l : List Src) (v : Value) (B : Nat) (w : World) (h : OwnSl tSrc 32 B w v l) (hB : B ≤ w.heap.size) (hlen : l.length ≤ 1000000) :
    Calls Tryz.prog 13 #[v, .func (.func 14) #[] #[]] w (SortE B l v w) := by
  have hsl := h.sl
  obtain ⟨css, h1, h2⟩ := h
  rcases h1.2 with ⟨q, hz⟩ | ⟨g, cap, cur, q, q1, q2, q3, q4, q5, q6⟩
  · obtain rfl : l = [] := List.eq_nil_of_length_eq_zero hz
    subst q
    refine (AnyF.slices_SortFunc_none Tryz.sortSrc none 0 _ w).mono ?_
    rintro e w' ⟨rfl, rfl⟩
    exact ⟨rfl, ⟨[], List.Perm.refl _, fun i j hj => absurd hj (Nat.not_lt_zero _), OwnSl.nil _ _ _ _⟩, Below.refl _ _, Nat.le_refl _⟩
  · subst q
    have hokA : ∀ r ∈ l, SrcOk r := fun r hr => by
      obtain ⟨k, hk, rfl⟩ := List.getElem_of_mem hr
      obtain ⟨_, _, _, _, _, _, _, ho⟩ := src_row hsl
      exact (ho w (SameOn.refl _ _) k hk).2.2.2.1
    have hH : HoldsK srcCells 2 w g 0 l.toArray := holdsSrc q2 (fun k j hk hj => by
      obtain ⟨cs, c1, c2, c3⟩ := h2.at.2 k hk
      obtain ⟨rfl, -⟩ := tSrc_is c2
      rw [List.getD_eq_getElem?_getD, List.getElem?_eq_getElem hk, Option.getD_some, ← c3 j hj, ← q6, List.getElem?_take, if_pos (by show k * 2 + j < l.length * 2; omega), Array.getElem?_toList]
      rfl)
    have hcon := AnyQ.slices_SortFunc Tryz.sortSrc 2 Tryz.isAgg32 Tryz.sizeOf32 srcCells srcCells_len srcCells_one srcC swoS 14 #[] g 0 cap l.toArray w (enters_of Tryz.func14 (by kernel_rfl) rfl) (fun _ _ _ _ x y => order_any x y _) hH (lt_of_heap q2) (by simp; omega)
    refine hcon.mono ?_
    rintro e w' ⟨rfl, d', n, os, hp, hs, rfl⟩
    have hperm := perm_ofS hp
    have hds : d'.size = l.toArray.size := hp.1
    have hsz := size_sortWorldK_c srcCells 2 w g 0 n d' os
    have hH2 := holdsK_sortWorldK_c srcCells 2 w g 0 l.toArray d' n os hH (lt_of_heap q2) hds
    have hlen' : d'.toList.length = l.length := by simpa using hds
    have hsl2 : d'.size = l.length := by simpa using hds
    obtain ⟨cur2, r1, r2⟩ := sorted_heap w g 0 n d' os q2
    have hflat : (d'.toList.map srcCells).flatten.length = l.length * 2 := by
      have : ∀ m : List Src, (m.map srcCells).flatten.length = m.length * 2 := by
        intro m
        induction m with
        | nil => rfl
        | cons x m ih => simp only [List.map_cons, List.flatten_cons, List.length_append, ih, srcCells_len, List.length_cons]; omega
      rw [this, hlen']
    have htake : cur2.toList.take (l.length * 2) = (d'.toList.map srcCells).flatten := by
      have hc2 : l.length * 2 ≤ cur2.size := by
        rw [r2, q5]; exact Nat.mul_le_mul_right _ q3
      apply List.ext_getElem?
      intro t
      by_cases ht : t < l.length * 2
      · rw [List.getElem?_take_of_lt ht]
        have := (hH2 t (by rw [size_flatK]; omega)).1
        rw [cell_of_row _ _ _ _ _ _ r1, Nat.zero_add, get_flatK _ _ _ _ (by omega)] at this
        rw [Array.getElem?_toList, this]
        have key : ∀ (m : List Src) (t : Nat), t < m.length * 2 → (m.map srcCells).flatten[t]? = (srcCells (m.getD (t / 2) default))[t % 2]? := by
          intro m
          induction m with
          | nil => intro t ht; simp at ht
          | cons x m ih =>
            intro t ht
            simp only [List.map_cons, List.flatten_cons]
            by_cases h2 : t < 2
            · rw [List.getElem?_append_left (by rw [srcCells_len]; exact h2), show t / 2 = 0 by omega, show t % 2 = t by omega]
              rfl
            · rw [List.getElem?_append_right (by rw [srcCells_len]; omega), srcCells_len, ih (t - 2) (by simp only [List.length_cons] at ht; omega), show t / 2 = (t - 2) / 2 + 1 by omega, show (t - 2) % 2 = t % 2 by omega]
              rfl
        rw [key d'.toList t (by rw [hlen']; exact ht)]
        have hk : t / 2 < d'.size := by omega
        have hj : t % 2 < 2 := Nat.mod_lt _ (by decide)
        have eg : d'.toList.getD (t / 2) default = d'[t / 2] := by
          rw [List.getD_eq_getElem?_getD, Array.getElem?_toList, Array.getElem?_eq_getElem hk, Option.getD_some]
        rw [getElem!_pos d' _ hk, eg]
        have hl2 : t % 2 < (srcCells d'[t / 2]).length := by rw [srcCells_len]; exact hj
        rw [List.getElem?_eq_getElem hl2]
        show some _ = some _
        rw [getElem!_pos (srcCells _) (t % 2) hl2]
        rfl
      · rw [List.getElem?_eq_none (by simp; omega), List.getElem?_eq_none (by rw [hflat]; omega)]
    refine ⟨rfl, ⟨d'.toList, hperm, srt_of (by rw [hds]; exact hs), ⟨d'.toList.map srcCells, ⟨by rw [hlen']; exact hflat, .inr ⟨g, cap, cur2, by rw [hlen'], q1, r1, by rw [hlen']; exact q3, q4, by rw [r2]; exact q5, by rw [hlen']; exact htake⟩⟩, ?_⟩⟩, ⟨rfl, rfl, rfl, ?_, fun k hk => sortSrc_at w g 0 n d' os (by omega) (by omega)⟩, hsz⟩
    · have key : ∀ m : List Src, (∀ r ∈ m, SrcOk r) → ∀ (S : Nat → Prop) (W : World), AllIs tSrc S W (m.map srcCells) m := by
        intro m
        induction m with
        | nil => intro _ _ _; trivial
        | cons x m ih => intro h S W; exact ⟨tSrc_mk (h x (by simp)), ih (fun r hr => h r (by simp [hr])) S W⟩
      exact key _ (fun r hr => hokA r (hperm.mem_iff.1 hr)) _ _
    · exact hsz
end Go.Proofs.YtelnnjofccldgaaGreatDoor.Fu
