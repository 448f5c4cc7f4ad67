/-
  Layers 13, 14: detections in memory; slices.Clone and slices.SortStableFunc at them.
-/
import Derived.Test.YtelnnjofccldgaaGreatDoorMgB
import Derived.Test.YtelnnjofccldgaaGreatDoorStabW4
import Derived.Test.YtelnnjofccldgaaGreatDoorShelf3
import Derived.Lib.LazyBuf
namespace Go.Tw.Grp
open Go.RowKit Go.Tw Go.Sort Go.Tw.Ord
open Go.Proofs (sortWorld)
theorem sCells_len (x : Seen) : (sCells x).length = 11 := rfl
theorem sCells_one (x : Seen) : ∀ v ∈ sCells x, v.oneCell' = true := by
  intro v hv
  unfold sCells at hv
  simp only [List.mem_cons, List.not_mem_nil, or_false] at hv
  rcases hv with rfl | rfl | rfl | rfl | rfl | rfl | rfl | rfl | rfl | rfl | rfl <;> rfl
/-- the cells of a row of detections -/
theorem seen_row {S : Nat → Prop} {w : World} {v : Value} {l : List Seen} (h : SlIs tSeen S w v l) :
    ∃ ao cap b off, v = .slice ao l.length cap ∧ l.length ≤ cap ∧ cap ≤ maxLen ∧ ∀ w', SameOn S w w' → ∀ k (_ : k < l.length), ao = some ⟨b, off, none⟩ ∧ S b ∧ b < w.heap.size ∧ SeenOk l[k] ∧
      ∀ j, j < 11 → w'.cell? ⟨b, off + k * 11 + j, none⟩ = (sCells l[k])[j]? := by
  obtain ⟨ao, cap, b, off, hv, h1, h2, h3⟩ := h.openS
  refine ⟨ao, cap, b, off, hv, h1, h2, fun w' hw k hk => ?_⟩
  obtain ⟨g1, g2, g2', cs, g3, g4⟩ := h3 w' hw k hk
  obtain ⟨rfl, g5⟩ := tSeen_is g4
  exact ⟨g1, g2, g2', g5, g3⟩
theorem sorted_perm {d d' : Array Seen} (h : PermIn 0 d.size d d') : d'.toList.Perm d.toList := by
  have := h.2.2
  rw [Array.extract_size] at this
  rw [show d'.extract 0 d.size = d' by rw [← h.1, Array.extract_size]] at this
  exact this
theorem sortWorld_at {α : Type} [Inhabited α] (enc : α → Value) (w : World) (blk off m : Nat) (dk : Array α) (os : Array Obj) {k : Nat} (hk : k < w.heap.size) (hne : k ≠ blk) :
    (sortWorld enc w blk off m dk os).heap[k]? = w.heap[k]? := by
  have h1 : (Sort.putRow enc (Sort.ahead w m) blk off dk).heap[k]? = w.heap[k]? := by
    unfold Sort.putRow Sort.mapBlock
    rw [show ∀ (h : Array Obj) (f : Obj → Obj), (h.modify blk f)[k]? = h[k]? from fun h f => by
      rw [Array.getElem?_modify, if_neg (fun e => hne e.symm)]]
    rfl
  have h2 : k < (Sort.putRow enc (Sort.ahead w m) blk off dk).heap.size := by
    unfold Sort.putRow Sort.mapBlock
    simp
    exact hk
  unfold sortWorld
  rw [Sort.heap_grow_old _ _ h2, h1]
theorem holdsS {w : World} {g : Nat} {t : TypeId} {A : Array Value} {l : List Seen} (h : w.heap[g]? = some (.cells A t (0, 0))) (hA : ∀ k j, k < l.length → j < 11 → A[k * 11 + j]? = (sCells (l.getD k default))[j]?) : HoldsK sCells 11 w g 0 l.toArray := by
  intro t' ht
  have ht' : t' < l.length * 11 := by simpa using ht
  refine ⟨?_, frozen_of_row _ _ _ _ _ h⟩
  rw [cell_of_row _ _ _ _ _ _ h, Nat.zero_add, get_flatK _ _ _ _ (by simpa using ht')]
  have hk : t' / 11 < l.length := by omega
  have hj : t' % 11 < 11 := Nat.mod_lt _ (by decide)
  have := hA (t' / 11) (t' % 11) hk hj
  rw [show t' / 11 * 11 + t' % 11 = t' by omega] at this
  rw [this]
  have e : l.toArray[t' / 11]! = l.getD (t' / 11) default := by
    rw [getElem!_pos l.toArray _ (by simpa using hk), List.getD_eq_getElem?_getD, List.getElem?_eq_getElem hk]
    simp
  rw [e, List.getElem?_eq_getElem (by rw [sCells_len]; exact hj)]
  show some _ = some _
  rw [getElem!_pos (sCells _) (t' % 11) (by rw [sCells_len]; exact hj)]
  rfl
theorem slS_of {w : World} {g cap : Nat} {l : List Seen} {S : Nat → Prop} (h : HoldsK sCells 11 w g 0 l.toArray) (hg : g < w.heap.size) (hS : S g) (hc : l.length ≤ cap) (hm : cap ≤ maxLen) (hok : ∀ r ∈ l, SeenOk r) : SlIs tSeen S w (.slice (some ⟨g, 0, none⟩) l.length cap) l := by
  refine ⟨some ⟨g, 0, none⟩, cap, g, 0, rfl, hc, hm, fun e => (by cases e), fun k hk => ⟨rfl, hS, hg, sCells l[k], fun j hj => ?_, tSeen_mk (hok _ (List.getElem_mem hk))⟩⟩
  have hj5 : j < 11 := hj
  have := (h (k * 11 + j) (by simp; omega)).1
  rw [Nat.zero_add] at this
  show w.cell? ⟨g, 0 + k * 11 + j, none⟩ = _
  rw [show 0 + k * 11 + j = k * 11 + j by omega, this, get_flatK _ _ _ _ (by simp; omega), show (k * 11 + j) / 11 = k by omega, show (k * 11 + j) % 11 = j by omega]
  rw [getElem!_pos l.toArray k (by simpa using hk)]
  rw [List.getElem?_eq_getElem (by rw [sCells_len]; exact hj5)]
  show some (id _) = some _
  rw [getElem!_pos _ j (by rw [sCells_len]; exact hj5)]
  simp
end Go.Tw.Grp
namespace Go.Proofs.YtelnnjofccldgaaGreatDoor
open Go.RowKit Go.Tw Go.Tw.Ord Go.Tw.Grp Go.Sort
theorem slSeen : SlT Tryz.prog 65 63 11 120 := SlT.of (z := .agg #[.string ByteArray.empty, .int .i64 0, .int .i64 0, .string ByteArray.empty, .string ByteArray.empty, .int .i64 0, .int .i64 0, .int .i64 0, .string ByteArray.empty, .int .i64 0, .int .i64 0]) Tryz.underlying65 (by kernel_rfl) rfl (by decide)
set_option maxHeartbeats 400000 in
theorem sClone_own (l : List Seen) (v : Value) (w : World) (h : SlIs tSeen (· < w.heap.size) w v l) (hlen : l.length ≤ 1000000) :
    Calls Tryz.prog 79 #[v] w fun e w' => (∃ v', e = .returned v' ∧ OwnSl tSeen 63 w.heap.size w' v' l) ∧ Below w.heap.size w w' := by
  have h' := h
  obtain ⟨ao, cap, b, off, hv, hl, hm, h3, ho⟩ := h
  subst hv
  have heq := fun w => Lib.run_eql_slice_nil (P := Tryz.prog) w 65 63 ao l.length cap 0 0 Tryz.underlying65
  cases ao with
  | none =>
    have hc := h3 rfl
    subst hc
    obtain rfl : l = [] := List.eq_nil_of_length_eq_zero (by omega)
    simp only [List.length_nil] at heq
    clear h3 ho h'
    go_enter Tryz.func79, Tryz.ntmps79
    go_wp2
    go_ret
    exact ⟨⟨_, rfl, OwnSl.nil _ _ _ _⟩, Below.refl _ _⟩
  | some a =>
    have HH := Lib.hid h'
    clear h3 ho h'
    have o0 : OwnSl tSeen 63 w.heap.size (w.alloc (.cells #[] 63)) (.slice (some ⟨w.heap.size, 0, none⟩) 0 0) [] := OwnSl.lit (css := []) rfl trivial (Nat.le_refl _) (by decide)
    have h2 : SlIs tSeen (· < w.heap.size) (w.alloc (.cells #[] 63)) (.slice (some a) l.length cap) l := HH.out.keep (fun _ h => h) (fun k hk => Below.heap_alloc _ _ _ hk)
    have H2 := Lib.hid h2
    have HO := Lib.hid o0
    have HL := Lib.hid hlen
    clear o0 h2
    go_enter Tryz.func79, Tryz.ntmps79
    go_wp2_with (at_builtin; refine wpList_append_old (.tmp 5) (.tmp 6) rfl 65 rfl slSeen rfl HO.out rfl H2.out (small_bytes (k := 1000000) (by simpa using HL.out) (by decide)) (Nat.le_trans (by simpa using HL.out) (show 1000000 ≤ maxLen by decide)) (by simp) ?_; intro v' w1 ho1 hg1 hb1)
    go_ret
    exact ⟨⟨_, rfl, ho1⟩, (bl_alloc (Below.refl _ _) _).trans hb1⟩
theorem cmpLaysS (blk off size : Nat) (w : World) : CmpLays Tryz.prog 64 #[] sCells 11 seenC blk off size w := fun _ _ _ _ x y => (seen_cmp x y _).mono fun _ _ h => ⟨h.1, h.2⟩
theorem insOkS (blk off cap n : Nat) (d0 : Array Seen) (w0 : World) (R : RowK sCells 11 w0 blk off d0) (hd : d0.size = n) (hn : n < 60) : InsOk Tryz.prog sCells 11 seenC 64 #[] blk off cap n w0 := by
  intro a b d w hdn S hab hb
  have hcon := AnyQ.insertionSortCmpFunc Tryz.insK 11 Tryz.isAgg63 Tryz.sizeOf63 sCells sCells_len sCells_one seenC 64 #[] blk off cap a b d w (enters_of Tryz.func64 (by kernel_rfl) rfl) (cmpLaysS _ _ _ _) (S.holds R.hblk R.hH (by omega)) (S.lt R.hblk) hab (by omega) (by omega)
  rw [hdn] at hcon
  refine hcon.mono ?_
  rintro e w' ⟨rfl, m, os, rfl⟩
  have hp := insertionSort_holds seenC_cmp.swo d a b hab (by omega)
  exact ⟨rfl, _, hp.1, hp.2, S.on R.hblk m _ os hp.1.1⟩
end Go.Proofs.YtelnnjofccldgaaGreatDoor
