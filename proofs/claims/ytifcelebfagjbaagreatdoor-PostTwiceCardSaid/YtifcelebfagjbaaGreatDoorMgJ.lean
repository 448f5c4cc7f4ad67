/-
  Layer proofs, merged: PoDl PoEn AggS InsP PoIs PoDe.
-/
import Derived.Test.YtifcelebfagjbaaGreatDoorMgI
import Derived.Lib.SliceRun
import Derived.Test.YtifcelebfagjbaaGreatDoorMgH
import Derived.Test.YtifcelebfagjbaaGreatDoorMgF
import Derived.Test.YtifcelebfagjbaaGreatDoorMgA
import Derived.Laws.CopyRow
import Derived.Lib.AppendZerosOnto
import Derived.Lib.Overlaps
import Derived.Laws.Externs
import Derived.Deep.RegionLaw
import Derived.Laws.AppendOwn
import Derived.Test.YtifcelebfagjbaaGreatDoorMgD
namespace Go.Tw.Po
open Go.RowKit Go.Tw
theorem run_clear_wide {P : Program} (w : World) (t e ty : TypeId) (z : Value) (ht : P.underlying t = some (.slice e)) (hv : ∀ w, (zeroValue e).run P w = .ok z w) (b o n c : Nat) (hn : 0 < n)
  (hc : ∀ j, j < (Builtin.zeroCells z.cells n).toList.length → (w.cell? ⟨b, o + j, none⟩).isSome = true) (hf : ∀ j, j < (Builtin.zeroCells z.cells n).toList.length → w.frozen? ⟨b, o + j, none⟩ = false) (h1' : ∀ v ∈ (Builtin.zeroCells z.cells n).toList, v.oneCell' = true) :
  (Builtin.clear_ #[t] ty #[.slice (some ⟨b, o, none⟩) n c]).run P w = .ok (.tuple #[]) (w.setCells b o (Builtin.zeroCells z.cells n).toList) := by
 have hst := run_storeCells_cells (P := P) b o (Builtin.zeroCells z.cells n).toList 0 w (by simpa using hc) (by simpa using hf) h1'; simp only [Nat.add_zero] at hst; obtain ⟨m, rfl⟩ : ∃ m, n = m + 1 := ⟨n - 1, by omega⟩; simp [Builtin.clear_, run_underlying ht, hv, hst]
def RowS (w : World) (g : Nat) (t : TypeId) (sz : Nat) (L : List SI) : Prop := ∃ A : Array Value, w.heap[g]? = some (.cells A t (0, 0)) ∧ A.size = sz ∧
 ∀ k (h : k < L.length), A[k * 2]? = some (.string L[k].s) ∧ A[k * 2 + 1]? = some (.int .i64 L[k].n)
theorem RowS.cells {w : World} {g : Nat} {t : TypeId} {sz : Nat} {L : List SI} (h : RowS w g t sz L) {k : Nat} (hk : k < L.length) : w.cell? ⟨g, k * 2, none⟩ = some (.string L[k].s) ∧ w.cell? ⟨g, k * 2 + 1, none⟩ = some (.int .i64 L[k].n) ∧ ∀ j, w.frozen? ⟨g, j, none⟩ = false := by
 obtain ⟨A, h1, h2, h3⟩ := h; obtain ⟨a, b⟩ := h3 k hk; exact ⟨(cell_of_row _ _ _ _ _ _ h1).trans a, (cell_of_row _ _ _ _ _ _ h1).trans b, fun j => frozen_of_row _ _ j _ _ h1⟩
theorem RowS.lt {w : World} {g : Nat} {t : TypeId} {sz : Nat} {L : List SI} (h : RowS w g t sz L) : g < w.heap.size := by obtain ⟨A, h1, -⟩ := h; exact lt_of_heap h1
theorem RowS.block {w w' : World} {g : Nat} {t : TypeId} {sz : Nat} {L : List SI} (h : RowS w g t sz L) (he : w'.heap[g]? = w.heap[g]?) : RowS w' g t sz L := by
 obtain ⟨A, h1, h2⟩ := h; exact ⟨A, he.trans h1, h2⟩
theorem RowS.set {w : World} {g : Nat} {t : TypeId} {sz i : Nat} {L : List SI} (h : RowS w g t sz L) (hi : i < L.length) (s : ByteArray) (n : Int) :
  RowS ((w.setCell ⟨g, i * 2, none⟩ (.string s)).setCell ⟨g, i * 2 + 1, none⟩ (.int .i64 n)) g t sz (L.set i ⟨s, n⟩) := by
 obtain ⟨A, h1, h2, h3⟩ := h; refine ⟨_, heap_setCell_same _ _ (i * 2 + 1) _ _ (.int .i64 n) (heap_setCell_same _ _ (i * 2) _ _ (.string s) h1), by simpa using h2, fun k hk => ?_⟩; have hk' : k < L.length := by simpa using hk
 obtain ⟨a, b⟩ := h3 k hk'; obtain ⟨-, d'⟩ := h3 i hi; have hlt : i * 2 + 1 < A.size := (Array.getElem?_eq_some_iff.1 d').1; simp only [Array.getElem?_setIfInBounds, Array.size_setIfInBounds]
 by_cases e : i = k
 · subst e
   simp [hlt, show i * 2 < A.size by omega]
 · rw [List.getElem_set_ne e]
   refine ⟨?_, ?_⟩
   · rw [if_neg (by omega), if_neg (by omega)]; exact a
   · rw [if_neg (by omega), if_neg (by omega)]; exact b
theorem RowS.of {e : TypeId} {B : Nat} {w : World} {v : Value} {l : List SI} (h : NewL tSI e B w v l) (hl : 0 < l.length) : ∃ g cap, v = .slice (some ⟨g, 0, none⟩) l.length cap ∧ B ≤ g ∧ RowS w g e (cap * 2) l ∧ l.length ≤ cap ∧ cap ≤ maxLen ∧ ∀ x ∈ l, SIOk x := by
 obtain ⟨F, ⟨css, Fs, h1, h2, rfl⟩, hn, hB⟩ := h; have hat := h2.is.at.2
 rcases h1.2 with ⟨q, q2⟩ | ⟨g, cap, cur, q, q1, q2, q3, q4, q5, q6⟩
 · omega
 refine ⟨g, cap, q, hB g (by rw [q]; simp [Value.ownBlock]), ⟨cur, q2, q5, fun k hk => ?_⟩, q3, q4, fun x hx => ?_⟩
 · obtain ⟨cs, c1, c2, c3⟩ := hat k hk
   obtain ⟨rfl, -⟩ := tSI_is c2
   have key : ∀ j, j < 2 → cur[k * 2 + j]? = (siCells l[k])[j]? := fun j hj => by
    rw [← c3 j hj, ← q6, List.getElem?_take, if_pos (by show k * 2 + j < l.length * 2; omega), Array.getElem?_toList]
    rfl
   exact ⟨key 0 (by decide), key 1 (by decide)⟩
 · obtain ⟨k, hk, rfl⟩ := List.getElem_of_mem hx
   obtain ⟨cs, c1, c2, c3⟩ := hat k hk; exact (tSI_is c2).2
theorem RowS.sl {w : World} {g cap : Nat} {e : TypeId} {L : List SI} {S : Nat → Prop} (h : RowS w g e (cap * 2) L) (hg : S g) (hc : L.length ≤ cap) (hm : cap ≤ maxLen) (hL : ∀ x ∈ L, SIOk x) : SlIs tSI S w (.slice (some ⟨g, 0, none⟩) L.length cap) L := by
 refine ⟨some ⟨g, 0, none⟩, cap, g, 0, rfl, hc, hm, fun e => (by cases e), fun k hk => ?_⟩; refine ⟨rfl, hg, h.lt, siCells L[k], fun j hj => ?_, tSI_mk (hL _ (List.getElem_mem hk))⟩; obtain ⟨a, b, -⟩ := h.cells hk; have hj4 : j < 2 := hj; rw [show 0 + k * tSI.sz + j = k * 2 + j from by show 0 + k * 2 + j = _; omega]
 match j, hj4 with
 | 0, _ => exact a
 | 1, _ => exact b
theorem setCells_low {g : Nat} {e : TypeId} : ∀ (vs : List Value) (o : Nat) (w : World) (cur : Array Value), w.heap[g]? = some (.cells cur e (0, 0)) → ∃ cur', (w.setCells g o vs).heap[g]? = some (.cells cur' e (0, 0)) ∧ cur'.size = cur.size ∧ ∀ k, k < o → cur'[k]? = cur[k]?
 | [], _, w, cur, h => ⟨cur, h, rfl, fun _ _ => rfl⟩
 | v :: r, o, w, cur, h => by
  obtain ⟨cur', h1, h2, h3⟩ := setCells_low r (o + 1) (w.setCell ⟨g, o, none⟩ v) _ (heap_setCell_same _ _ _ _ _ _ h); refine ⟨cur', h1, by simpa using h2, fun k hk => ?_⟩; rw [h3 k (by omega), Array.getElem?_setIfInBounds, if_neg (by omega)]
theorem RowS.clear {w : World} {g : Nat} {t : TypeId} {sz : Nat} {K D : List SI} (h : RowS w g t sz (K ++ D)) (vs : List Value) : RowS (w.setCells g (K.length * 2) vs) g t sz K := by
 obtain ⟨A, h1, h2, h3⟩ := h; obtain ⟨A', g1, g2, g3⟩ := setCells_low vs (K.length * 2) w A h1; refine ⟨A', g1, g2.trans h2, fun k hk => ?_⟩; obtain ⟨a, b⟩ := h3 k (by rw [List.length_append]; omega); rw [List.getElem_append_left hk] at a b; rw [g3 _ (by omega), g3 _ (by omega)]; exact ⟨a, b⟩
theorem row_set {α : Type} {K L : List α} {i : Nat} (hi : K.length = i) (hl : i < L.length) (x : α) : (K ++ L.drop i).set i x = (K ++ [x]) ++ L.drop (i + 1) := by
 subst hi; rw [List.set_append_right _ _ (Nat.le_refl _), Nat.sub_self, List.drop_eq_getElem_cons hl, List.set_cons_zero, List.append_assoc]
 rfl
theorem row_get {α : Type} {K L : List α} {i j : Nat} (hi : K.length = i) (hij : i ≤ j) (hj : j < L.length) (h : j < (K ++ L.drop i).length) : (K ++ L.drop i)[j] = L[j] := by
 subst hi; rw [List.getElem_append_right hij, List.getElem_drop]
 congr 1
 omega
def kept (x : SI) : Bool := !decide (x.n = 0)
theorem kept_clean (l : List SI) : l.filter kept = cleanP l := rfl
theorem kept_take {L : List SI} {k : Nat} (h : k < L.length) : (L.take (k + 1)).filter kept = if kept L[k] then (L.take k).filter kept ++ [L[k]] else (L.take k).filter kept := by
 rw [List.take_succ_eq_append_getElem h, List.filter_append]
 by_cases q : kept L[k] <;> simp [q]
theorem zero2 (n : Nat) : ∀ v ∈ (Builtin.zeroCells (Value.agg #[.string ByteArray.empty, .int .i64 0]).cells n).toList, v.oneCell' = true := by
 intro v hv; unfold Builtin.zeroCells at hv; simp only [Array.toList_map, List.mem_map] at hv; obtain ⟨i, -, rfl⟩ := hv; have e : (Value.agg #[.string ByteArray.empty, .int .i64 0]).cells = #[.string ByteArray.empty, .int .i64 0] := by rfl
 rw [e]; have : i % 2 = 0 ∨ i % 2 = 1 := by omega
 show (#[Value.string ByteArray.empty, .int .i64 0][i % 2]!).oneCell' = true
 rcases this with q | q <;> rw [q] <;> rfl
structure Off (g : Nat) (w wr : World) : Prop where
 bel : Below g w wr
 sz : w.heap.size ≤ wr.heap.size
 oth : ∀ k, k < w.heap.size → k ≠ g → wr.heap[k]? = w.heap[k]?
theorem Off.refl (g : Nat) (w : World) : Off g w w := ⟨Below.refl _ _, Nat.le_refl _, fun _ _ _ => rfl⟩
theorem Off.below {g : Nat} {w wr w' : World} (h : Off g w wr) (hg : g < w.heap.size) (hb : Below wr.heap.size wr w') : Off g w w' :=
 ⟨h.bel.trans (hb.mono (by have := h.sz; omega)), Nat.le_trans h.sz hb.size, fun k h1 h2 => (hb.block k (Nat.lt_of_lt_of_le h1 h.sz)).trans (h.oth k h1 h2)⟩
theorem Off.set {g o : Nat} {v : Value} {w wr : World} (h : Off g w wr) : Off g w (wr.setCell ⟨g, o, none⟩ v) :=
 ⟨h.bel.setCell (Nat.le_refl _) v, by simpa using h.sz, fun k h1 h2 => (Below.heap_setCell _ _ _ _ h2).trans (h.oth k h1 h2)⟩
theorem Off.setCells {g : Nat} {w : World} : ∀ (vs : List Value) (o : Nat) (wr : World), Off g w wr → Off g w (wr.setCells g o vs)
 | [], _, _, h => h
 | _ :: r, o, _, h => Off.setCells r (o + 1) _ h.set
end Go.Tw.Po
namespace Go.Proofs.YtifcelebfagjbaaGreatDoor
open Go.RowKit Go.Tw Go.Tw.Ord Go.Tw.Po Go.Sort
theorem pred_any (f : SI) (w : World) : Calls Tryz.prog 115 #[.agg #[.string f.s, .int .i64 f.n]] w fun e w' => e = .returned (.bool (!kept f)) ∧ Below w.heap.size w w' := by
 have HK := Lib.hid (show (!kept f) = (f.n == 0) by unfold kept; rw [Bool.not_not]; rfl)
 go_enter Tryz.func115, Tryz.ntmps115
 go_wp2; go_ret; exact ⟨ret_bool HK.out, bl_alloc (Below.refl _ _) _⟩
set_option maxRecDepth 100000 in
set_option maxHeartbeats 2000000 in
theorem indexP_any (L : List SI) (g cap : Nat) (t : TypeId) (sz : Nat) (w : World) (hr : RowS w g t sz L) (hcap : L.length ≤ cap) (hm : cap ≤ maxLen) :
  Calls Tryz.prog 139 #[.slice (some ⟨g, 0, none⟩) L.length cap, .func (.func 115) #[] #[]] w
   fun e w' => ((e = .returned (.int .i64 (-1)) ∧ L.filter kept = L) ∨ ∃ i, ∃ h : i < L.length, e = .returned (.int .i64 i) ∧ kept L[i] = false ∧ (L.take i).filter kept = L.take i) ∧ Below w.heap.size w w' := by
 have HR := Lib.hid hr; have hgl := hr.lt; unfold maxLen at hm; clear hr
 go_enter Tryz.func139, Tryz.ntmps139
 go_wp2
 go_loopg [8] L.length (fun g' i wr => ∃ k : Nat, k + g' = L.length ∧ i = .int .i64 k ∧ Hid ((L.take k).filter kept = L.take k) ∧ Below w.heap.size w wr)
 case atStart => exact ⟨0, by omega, rfl, Lib.hid rfl, Below.refl _ _⟩
 case round =>
  obtain ⟨k, hk, rfl, HK, hb1⟩ := hrel; have HB := Lib.hid hb1
  by_cases hk2 : k < L.length
  · have HRw := Lib.hid (HR.out.block (hb1.block g hgl))
    obtain ⟨x, hx⟩ : ∃ x, L[k] = x := ⟨_, rfl⟩; obtain ⟨y0, y1, yf⟩ := HRw.out.cells hk2; rw [hx] at y0 y1; have HKT := Lib.hid (kept_take hk2); have HKX := Lib.hid (show kept L[k] = kept x by rw [hx]); have HTS := Lib.hid (List.take_succ_eq_append_getElem hk2); obtain ⟨xs, xn⟩ := x; simp only at y0 y1; have HP := Lib.hid (pred_any ⟨xs, xn⟩ wr); have k0 : (0 : Int) ≤ (k : Int) := by omega
    have k1 : (k : Int) < (L.length : Int) := by omega
    clear hb1
    cases hq : kept ⟨xs, xn⟩
    · rw [hq] at HP
      have HQ := Lib.hid (HKX.out.trans hq); clear hq hx
      go_wp2_with (go_at_call 115; with_reducible refine HP.out.mono ?_; rintro e w2 ⟨rfl, hb3⟩; have HB3 := Lib.hid (bl_trans HB.out hb3); clear hb3)
      go_ret; exact ⟨.inr ⟨k, hk2, rfl, HQ.out, HK.out⟩, HB3.out⟩
    · rw [hq] at HP
      have HQ := Lib.hid (HKX.out.trans hq); clear hq hx
      go_wp2_with (go_at_call 115; with_reducible refine HP.out.mono ?_; rintro e w2 ⟨rfl, hb3⟩; have HB3 := Lib.hid (bl_trans HB.out hb3); clear hb3)
      go_roundg (L.length - (k + 1))
      case measure => omega
      case rel => exact ⟨k + 1, by omega, by go_num, Lib.hid (by rw [HKT.out, if_pos HQ.out, HK.out, HTS.out]), HB3.out⟩
  · obtain rfl : k = L.length := by omega
    have hkd : decide ((L.length : Int) < (L.length : Int)) = false := by simp
    have HK2 := Lib.hid (show L.filter kept = L by have := HK.out; rwa [List.take_length] at this); clear hk2; go_wp2; go_ret; exact ⟨.inl ⟨rfl, HK2.out⟩, HB.out⟩
def DelE (w : World) (g : Nat) (S : Nat → Prop) (l : List SI) (e : Ending) (w' : World) : Prop := ∃ v', e = .returned v' ∧ SlIs tSI S w' v' l ∧ Off g w w'
set_option maxRecDepth 100000 in
set_option maxHeartbeats 4000000 in
theorem delP_any (L : List SI) (g cap : Nat) (w : World) (S : Nat → Prop) (hS : S g) (hL : ∀ x ∈ L, SIOk x) (hr : RowS w g 101 (cap * 2) L) (hcap : L.length ≤ cap) (hm : cap ≤ maxLen) :
  Calls Tryz.prog 114 #[.slice (some ⟨g, 0, none⟩) L.length cap, .func (.func 115) #[] #[]] w
   (DelE w g S (cleanP L)) := by
 have HR := Lib.hid hr; have HL := Lib.hid hL; have hgl := hr.lt; have HI := Lib.hid (indexP_any L g cap _ _ w hr hcap hm); have HMX := Lib.hid hm; unfold maxLen at hm; clear hr hL
 go_enter Tryz.func114, Tryz.ntmps114
 go_wp2_with (fail)
 with_reducible refine HI.out.mono ?_
 rintro e w1 ⟨he, hb1⟩; have HOF := Lib.hid ((Off.refl g w).below hgl hb1); have HR1 := Lib.hid (HR.out.block (hb1.block g hgl))
 rcases he with ⟨rfl, hk⟩ | ⟨i, hi, rfl, hki, hkt⟩
 · have HK := Lib.hid hk
   clear hk hb1
   go_wp2_with (fail)
   go_ret; refine ⟨_, rfl, ?_, HOF.out⟩; rw [← kept_clean, HK.out]; exact HR1.out.sl hS hcap HMX.out HL.out
 have HK0 := Lib.hid (show (L.take (i + 1)).filter kept = L.take i by rw [kept_take hi, if_neg (by simp [hki]), hkt]); have hi2 : IntKind.i64.wrap ((i : Int) + 1) = ((i + 1 : Nat) : Int) := by rw [wrap_in (by omega) (by omega)]; rfl
 have hi3 : ((i : Int) == -1) = false := by first | (simp; done) | (simp; omega)
 clear hki hkt hb1
 go_wp2_with (fail)
 go_loopg [6, 5] (L.length - (i + 1)) (fun g' j' i' wr => ∃ j i : Nat, j + g' = L.length ∧ j' = .int .i64 j ∧ i' = .int .i64 i ∧ i < j ∧ Hid (((L.take j).filter kept).length = i) ∧ RowS wr g 101 (cap * 2) ((L.take j).filter kept ++ L.drop i) ∧ Off g w wr)
 case atStart => exact ⟨i + 1, i, by omega, by go_num, rfl, by omega, Lib.hid (by rw [HK0.out, List.length_take]; omega), by rw [HK0.out, List.take_append_drop]; exact HR1.out, HOF.out⟩
 case round =>
  clear HK0 HR1 HOF hi2 hi3; obtain ⟨j, i, hj, rfl, rfl, hij, HK, hrow, hoff⟩ := hrel; have HROW := Lib.hid hrow; have HOFF := Lib.hid hoff; clear hrow hoff; obtain ⟨K, hKK⟩ : ∃ K, (L.take j).filter kept = K := ⟨_, rfl⟩; rw [hKK] at HK HROW; have HKK := Lib.hid hKK; clear hKK
  by_cases hjl : j < L.length
  · have hjr : j < (K ++ L.drop i).length := by rw [List.length_append, HK.out, List.length_drop]; omega
    have hir : i < (K ++ L.drop i).length := by omega
    obtain ⟨y0, y1, yf⟩ := HROW.out.cells hjr; have e := row_get HK.out (by omega) hjl hjr; rw [e] at y0 y1; have HKT := Lib.hid (kept_take hjl); obtain ⟨x, hx⟩ : ∃ x, L[j] = x := ⟨_, rfl⟩; rw [hx] at y0 y1 HKT; obtain ⟨xs, xn⟩ := x; simp only at y0 y1; have hglr := HROW.out.lt; have hszr := HOFF.out.sz; have HP := Lib.hid (show ∀ o, Calls Tryz.prog 115 #[.agg #[.string xs, .int .i64 xn]] (wr.alloc o) fun e w' => e = .returned (.bool (!kept ⟨xs, xn⟩)) ∧ Below (wr.alloc o).heap.size (wr.alloc o) w' from fun o => pred_any ⟨xs, xn⟩ (wr.alloc o)); have j0 : (0 : Int) ≤ (j : Int) := by omega
    have j1 : (j : Int) < (L.length : Int) := by omega
    have i0 : (0 : Int) ≤ (i : Int) := by omega
    have i1 : (i : Int) < (L.length : Int) := by omega
    clear e hx hjr
    cases hq : kept ⟨xs, xn⟩
    · rw [hq] at HP
      have HT := Lib.hid (HKT.out.trans (if_neg (by simp [hq]))); clear hq
      go_wp2_with (go_at_call 115; with_reducible refine (HP.out _).mono ?_; rintro e w2 ⟨rfl, hb3⟩; have HB3 := Lib.hid (show Below wr.heap.size wr w2 from (bl_alloc (Below.refl _ _) _).trans (hb3.mono (by simp))); clear hb3)
      go_roundg (L.length - (j + 1))
      case measure => omega
      case rel => exact ⟨j + 1, i, by omega, by go_num, rfl, by omega, Lib.hid (by rw [HT.out, HKK.out]; exact HK.out), by rw [HT.out, HKK.out]; exact HROW.out.block (HB3.out.block g hglr), HOFF.out.below hgl HB3.out⟩
    · rw [hq] at HP
      have HT := Lib.hid (HKT.out.trans (if_pos hq)); clear hq
      go_wp2_with (
       go_at_call 115
       with_reducible refine (HP.out _).mono ?_
       rintro e w2 ⟨rfl, hb3⟩; have HB3 := Lib.hid (show Below wr.heap.size wr w2 from (bl_alloc (Below.refl _ _) _).trans (hb3.mono (by simp))); have HR2 := Lib.hid (HROW.out.block (HB3.out.block g hglr)); obtain ⟨u0, u1, u4⟩ := blk2 (below_new hb3 (by simp)); obtain ⟨z0, z1, zf⟩ := HR2.out.cells hir
       clear hb3)
      have HR3 := Lib.hid (HR2.out.set hir xs xn); rw [row_set HK.out (by omega)] at HR3
      go_roundg (L.length - (j + 1))
      case measure => omega
      case rel => exact ⟨j + 1, i + 1, by omega, by go_num, by go_num, by omega, Lib.hid (by rw [HT.out, HKK.out, List.length_append, HK.out]; rfl), by rw [HT.out, HKK.out]; exact HR3.out, (HOFF.out.below hgl HB3.out).set.set⟩
  · obtain rfl : j = L.length := by omega
    have hkd : decide ((L.length : Int) < (L.length : Int)) = false := by simp
    have HKF := Lib.hid (show L.filter kept = K by have := HKK.out; rwa [List.take_length] at this); have i0 : (0 : Int) ≤ (i : Int) := by omega
    have i1 : (i : Int) ≤ (L.length : Int) := by omega
    have i2 : (i : Int) ≤ (cap : Int) := by omega
    have hrl := HROW.out; obtain ⟨A, a1, a2, a3⟩ := hrl
    have hzl : (Builtin.zeroCells (Value.agg #[.string ByteArray.empty, .int .i64 0]).cells (L.length - i)).toList.length = (L.length - i) * 2 := by
     unfold Builtin.zeroCells; simp
     rfl
    have hasz : L.length * 2 ≤ A.size := by rw [a2]; omega
    have hcl : ∀ ty, (Builtin.clear_ #[54] ty #[.slice (some ⟨g, i * 2, none⟩) (L.length - i) (cap - i)]).run Tryz.prog wr = .ok (.tuple #[]) (wr.setCells g (i * 2) (Builtin.zeroCells (Value.agg #[.string ByteArray.empty, .int .i64 0]).cells (L.length - i)).toList) :=
     fun ty => Po.run_clear_wide wr _ 101 ty _ Tryz.underlying54 (fun _ => by kernel_rfl) g (i * 2) _ _ (by omega) (fun t ht => by
      rw [hzl] at ht
      rw [cell_of_row _ _ _ _ _ _ a1, Array.getElem?_eq_getElem (by omega)]; rfl) (fun t _ => frozen_of_row _ _ _ _ _ a1) (zero2 _)
    have HRC := Lib.hid (show RowS (wr.setCells g (i * 2) (Builtin.zeroCells (Value.agg #[.string ByteArray.empty, .int .i64 0]).cells (L.length - i)).toList) g 101 (cap * 2) K by
     have := HROW.out.clear (Builtin.zeroCells (Value.agg #[.string ByteArray.empty, .int .i64 0]).cells (L.length - i)).toList
     rwa [HK.out] at this)
    have HOC := Lib.hid (HOFF.out.setCells (Builtin.zeroCells (Value.agg #[.string ByteArray.empty, .int .i64 0]).cells (L.length - i)).toList (i * 2)); clear a1 a2 a3 hzl hasz hjl
    go_wp2_with (fail)
    go_ret; refine ⟨_, rfl, ?_, HOC.out⟩
    have hfin := HRC.out.sl hS (by rw [HK.out]; omega) HMX.out (fun x hx => by
     have hxL : x ∈ L := by rw [← HKF.out] at hx; exact (List.mem_filter.1 hx).1
     exact HL.out x hxL)
    rw [HK.out] at hfin; rw [← kept_clean, HKF.out]; exact hfin
theorem clean_any (B g : Nat) (key : ByteArray) (tm : Int) (l : List SI) (v : Value) (w : World) (hbx : w.heap[g]? = some (.cells #[.string key, .int .i64 tm, v] 105 (0, 0))) (ho : NewL tSI 101 B w v l) (hne : some g ≠ v.ownBlock) (hl : 0 < l.length) (hBg : B ≤ g) :
  Calls Tryz.prog 87 #[.pointer (some ⟨g, 0, none⟩)] w fun e w' => e = .returned (.tuple #[]) ∧ (∃ v', w'.heap[g]? = some (.cells #[.string key, .int .i64 tm, v'] 105 (0, 0)) ∧ SlIs tSI (fun k => B ≤ k ∧ k ≠ g ∧ k < w'.heap.size) w' v' (cleanP l)) ∧ Below B w w' ∧ ∀ k, k < w.heap.size → k ≠ g → some k ≠ v.ownBlock → w'.heap[k]? = w.heap[k]? := by
 obtain ⟨g2, cap, rfl, hB, hrow, h1, h2, hok⟩ := RowS.of ho hl; obtain ⟨c0, c1, c2, cf⟩ := blk3 hbx; have hgg : g ≠ g2 := fun e => hne (by rw [e]; rfl)
 have HDEL := Lib.hid (delP_any l g2 cap w (fun k => B ≤ k ∧ k ≠ g ∧ k < w.heap.size) ⟨hB, fun e => hgg e.symm, hrow.lt⟩ hok hrow h1 h2); have HBX := Lib.hid hbx; have hg := lt_of_heap hbx; clear hbx ho hrow hok hne
 go_enter Tryz.func87, Tryz.ntmps87
 go_wp2_with (fail)
 with_reducible refine HDEL.out.mono ?_
 rintro e w2 ⟨v', rfl, hs, hoff⟩; have hbx := (hoff.oth g hg hgg).trans HBX.out; obtain ⟨ao, cp, _, _, rfl, -⟩ := id hs; obtain ⟨r0, r1, r2, rf⟩ := blk3 hbx; have hg2 := lt_of_heap hbx; have HS := Lib.hid hs; have HOF := Lib.hid hoff; have HB2 := Lib.hid hbx; clear hs hoff hbx c0 c1 c2 cf HDEL HBX; go_wp2
 go_end0
 refine ⟨rfl, ⟨_, heap_setCell_same _ _ _ _ _ _ HB2.out, ?_⟩, ?_, fun k h1 h2 h3 => ?_⟩
 · refine HS.out.keep (fun k hk => ⟨hk.1, hk.2.1, ?_⟩) (fun k hk => Below.heap_setCell _ _ _ _ (fun e => hk.2.1 e))
   have h1 := HOF.out.sz; have h2 := hk.2.2; simp only [World.size_setCell]
   omega
 · exact (HOF.out.bel.mono hB).setCell hBg _
 · exact (Below.heap_setCell _ _ _ _ h2).trans (HOF.out.oth k h1 (fun e => h3 (by rw [e]; rfl)))
end Go.Proofs.YtifcelebfagjbaaGreatDoor
namespace Go.Proofs.YtifcelebfagjbaaGreatDoor
open Go.RowKit Go.Tw Go.Tw.Ord Go.Tw.Po Go.Sort
set_option maxRecDepth 100000 in
set_option maxHeartbeats 4000000 in
theorem enter_any (B : Nat) (es : List Ent) (ve : Value) (key : ByteArray) (tm : Int) (ps : List SI) (vp : Value) (w : World) (hB : B ≤ w.heap.size) (h : SlIs (tEnt 101) (· < B) w ve es) (hp : NewL tSI 101 B w vp ps) (hk : key.size ≤ maxLen) (ht : i64ok tm) (hes : ∀ x ∈ es, EOk x) (hl : es.length ≤ 1000) (hep : ps.length ≤ 4) (h0 : 0 < ps.length) :
  Calls Tryz.prog 50 #[.agg #[ve], .agg #[.string key, .int .i64 tm, vp]] w fun r w' => (∃ ve', r = .returned (.tuple #[.agg #[ve'], .int .i64 (enterL es key tm ps).2]) ∧ SlIs (tEnt 101) (· < w'.heap.size) w' ve' (enterL es key tm ps).1) ∧ Below B w w' := by
 have hf := hp.form; obtain ⟨ap, cp, rfl, -⟩ := hf; have h0' := alloc3 w (.cells #[ve] 68) (.cells #[.string key, .int .i64 tm, .slice ap ps.length cp] 105) (.cells #[.slice none 0 0] 68); have HB0 := Lib.hid (bl_alloc (bl_alloc (bl_alloc (Below.refl w.heap.size w) (.cells #[ve] 68)) (.cells #[.string key, .int .i64 tm, .slice ap ps.length cp] 105)) (.cells #[.slice none 0 0] 68))
 have hnb : some (w.heap.size + 1) ≠ (Value.slice ap ps.length cp).ownBlock := fun e => by
  obtain ⟨F, o1, o2, o3⟩ := hp; have := o1.lt _ (o1.blk _ e.symm)
  omega
 have hnb0 : some w.heap.size ≠ (Value.slice ap ps.length cp).ownBlock := fun e => by
  obtain ⟨F, o1, o2, o3⟩ := hp; have := o1.lt _ (o1.blk _ e.symm)
  omega
 have hnb2 : some (w.heap.size + 2) ≠ (Value.slice ap ps.length cp).ownBlock := fun e => by
  obtain ⟨F, o1, o2, o3⟩ := hp; have := o1.lt _ (o1.blk _ e.symm)
  omega
 have HCL := Lib.hid (clean_any B (w.heap.size + 1) key tm ps (.slice ap ps.length cp) _ h0'.2.1 (hp.below HB0.out) hnb h0 (by omega)); have HE := Lib.hid h; have HN0 := Lib.hid h0'.1; have HN2 := Lib.hid h0'.2.2; obtain ⟨ao, cap, bi, off, rfl, hl1, hm1, -⟩ := ent_open h; have HES := Lib.hid hes; clear h hp hes h0'
 go_enter Tryz.func50, Tryz.ntmps50
 go_wp2_with (fail)
 with_reducible refine HCL.out.mono ?_
 rintro r w2 ⟨rfl, ⟨v', hg1, hs⟩, hb, hoth⟩; have HG0 := Lib.hid ((hoth w.heap.size (by simp; omega) (by omega) hnb0).trans HN0.out); have HG1 := Lib.hid hg1; have HG2 := Lib.hid ((hoth (w.heap.size + 2) (by simp) (by omega) hnb2).trans HN2.out); have HBB := Lib.hid (show Below B w w2 from (HB0.out.mono hB).trans hb); obtain ⟨av, cv, _, _, rfl, -⟩ := id hs; have HS := Lib.hid hs; have c0 := (blk1 HG0.out).1; obtain ⟨d0, d1, d2, -⟩ := blk3 HG1.out; obtain ⟨f0, ff⟩ := blk1 HG2.out; have f0' : w2.cell? ⟨w.heap.size + 1 + 1, 0, none⟩ = some (.slice none 0 0) := f0; have ff' : ∀ j, w2.frozen? ⟨w.heap.size + 1 + 1, j, none⟩ = false := ff; have hlt := lt_of_heap HG2.out; clear hg1 hs hb hoth HCL HN0 HN2 HB0 f0 ff; obtain ⟨q, hq⟩ : ∃ q, cleanP ps = q := ⟨_, rfl⟩; rw [hq] at HS d2 HG1
 by_cases hq0 : q.length = 0
 · have hz : ((q.length : Int) == 0) = true := by rw [hq0]; rfl
   have HR := Lib.hid (show enterL es key tm ps = (es, 0) by unfold enterL; rw [if_pos (by rw [hq]; exact List.eq_nil_of_length_eq_zero hq0)]); clear hq0 hq; go_wp2; have g5 : (w2.setCell ⟨w.heap.size + 1 + 1, 0, none⟩ (.slice ao es.length cap)).heap[w.heap.size + 1 + 1]? = some (.cells #[(.slice ao es.length cap)] 68 (0, 0)) := heap_setCell_same _ _ _ _ _ _ HG2.out; have k5 := (blk1 g5).1; have b5 : Below B w (w2.setCell ⟨w.heap.size + 1 + 1, 0, none⟩ (.slice ao es.length cap)) := Below.setCell HBB.out (by simp only; omega) _; refine bodyPost_ret (v := .tuple #[.agg #[(.slice ao es.length cap)], .int .i64 0]) (by simp [results, Tryz.results50, go_sem, k5]) rfl ⟨⟨_, by rw [HR.out], ?_⟩, b5⟩; rw [HR.out]; exact HE.out.keep (fun k hk => Nat.lt_of_lt_of_le hk (Nat.le_trans hB b5.size)) (.of_below b5)
 · have hz : ((q.length : Int) == 0) = false := by rw [beq_eq_false_iff_ne]; omega
   have hq2 : cleanP ps ≠ [] := by rw [hq]; intro e; rw [e] at hq0; exact hq0 rfl
   have hql : q.length ≤ 4 := by rw [← hq]; exact Nat.le_trans (clean_len ps) hep
   have HR := Lib.hid (show enterL es key tm ps = postL es ⟨key, tm, q⟩ by unfold enterL; rw [if_neg hq2, hq]); have HP := Lib.hid (post_any B es (.slice ao es.length cap) ⟨key, tm, q⟩ (.slice av q.length cv) w2 (Nat.le_trans hB HBB.out.size) (HE.out.keep (fun _ h => h) (.of_below HBB.out)) (HS.out.keep (fun k hk => hk.2.2) (SameOn.refl _ _)) ⟨hk, ht⟩ HES.out hl hql); clear hq0 hq hq2
   go_wp2_with (fail)
   with_reducible refine HP.out.mono ?_
   rintro r w3 ⟨⟨ve', rfl, hs3⟩, hb3⟩; have HG3 := Lib.hid ((hb3.block _ hlt).trans HG2.out); have HB3 := Lib.hid (show Below B w w3 from HBB.out.trans (hb3.mono (Nat.le_trans hB HBB.out.size))); have HS3 := Lib.hid hs3; obtain ⟨a3, c3, _, _, rfl, -⟩ := id hs3; obtain ⟨f0, ff⟩ := blk1 HG3.out; have hlt3 := lt_of_heap HG3.out; clear hs3 hb3 HP c0 d0 d1 d2 f0' ff' HG0 HG1 HG2 HBB HS; have HG2 := HG3; have HBB := HB3; have f0' : w3.cell? ⟨w.heap.size + 1 + 1, 0, none⟩ = some (.slice none 0 0) := f0; have ff' : ∀ j, w3.frozen? ⟨w.heap.size + 1 + 1, j, none⟩ = false := ff; clear HG3 HB3 f0 ff; go_wp2; obtain ⟨z, hz⟩ : ∃ z, (postL es ⟨key, tm, q⟩).2 = z := ⟨_, rfl⟩; obtain ⟨m, hm⟩ : ∃ m, (postL es ⟨key, tm, q⟩).1 = m := ⟨_, rfl⟩; have HR := Lib.hid (HR.out.trans (show postL es ⟨key, tm, q⟩ = (m, z) from Prod.ext hm hz)); rw [hz, hm]; rw [hm] at HS3; have g5 : (w3.setCell ⟨w.heap.size + 1 + 1, 0, none⟩ (.slice a3 m.length c3)).heap[w.heap.size + 1 + 1]? = some (.cells #[(.slice a3 m.length c3)] 68 (0, 0)) := heap_setCell_same _ _ _ _ _ _ HG2.out; have k5 := (blk1 g5).1; have b5 : Below B w (w3.setCell ⟨w.heap.size + 1 + 1, 0, none⟩ (.slice a3 m.length c3)) := Below.setCell HBB.out (by simp only; omega) _; refine bodyPost_ret (v := .tuple #[.agg #[(.slice a3 m.length c3)], .int .i64 z]) (by simp [results, Tryz.results50, go_sem, k5]) rfl ⟨⟨_, by rw [HR.out], ?_⟩, b5⟩; rw [HR.out]; exact HS3.out.keep (fun k hk => by have := hk.2; simpa using this) (fun k hk => Below.heap_setCell _ _ _ _ (by rcases hk.1 with q | q <;> simp only <;> omega))
end Go.Proofs.YtifcelebfagjbaaGreatDoor
namespace Go.Tw
open Go.RowKit
section
variable {P : Program}
theorem run_storeA {t t2 : TypeId} {n g k : Nat} {cur A : Array Value} {w : World} (hsz : ∀ w, (sizeOf t).run P w = .ok n w) (hA : A.size = n) (h1 : ∀ v ∈ A.toList, v.oneCell' = true) (hg : w.heap[g]? = some (.cells cur t2 (0, 0))) (hl : k + n ≤ cur.size) :
  Sem.run P (Instr.storeAt t (.pointer (some ⟨g, k, none⟩)) (.agg A)) w = .ok () (w.setRow g (cur.toList.take k ++ A.toList ++ cur.toList.drop (k + n)).toArray) := by
 unfold Instr.storeAt Instr.sureAddr storeVar; simp only [Sem.run_bind, Sem.run_pure, Result.andThen_ok, hsz, Value.cells]; simp only [hA, ne_eq, not_true_eq_false, ↓reduceIte]; have := run_storeCells_at P g k t2 A.toList 0 cur w hg (by simp [hA]; omega) h1; rw [this]; simp [hA]
theorem wp_storeA {o : Oper} {a : Act} {w : World} {K : Act → World → Prop} {Q : Exit → Act → World → Prop} (p x : Operand) (t : TypeId) (ho : o.op = .store t p x) (hd : o.dst = none)
  {A cur : Array Value} {n g k : Nat} {t2 : TypeId} (hsz : ∀ w, (sizeOf t).run P w = .ok n w) (hA : A.size = n) (h1 : ∀ v ∈ A.toList, v.oneCell' = true) (hp : a.eval p = .pointer (some ⟨g, k, none⟩)) (hx : a.eval x = .agg A)
  (hg : w.heap[g]? = some (.cells cur t2 (0, 0))) (hl : k + n ≤ cur.size) (h : K a (w.setRow g (cur.toList.take k ++ A.toList ++ cur.toList.drop (k + n)).toArray)) : o.wp P a w K Q := by
 have e2 : (execOp a.eval o).run P w = .ok .skip (w.setRow g (cur.toList.take k ++ A.toList ++ cur.toList.drop (k + n)).toArray) := by
  unfold execOp; simp only [ho, hx, hp, Sem.run_bind, Sem.run_pure, Result.andThen_ok, run_storeA hsz hA h1 hg hl]
 unfold Oper.wp; rw [e2]; unfold Oper.upon; rw [hd]; exact h
theorem wpList_storeA {ops : Array Oper} {rest : List Oper} {o : Oper} {a : Act} {w : World} {Q : Exit → Act → World → Prop} (p x : Operand) (hgd : o.guard = none) (t : TypeId) (ho : o.op = .store t p x) (hd : o.dst = none)
  {A cur : Array Value} {n g k : Nat} {t2 : TypeId} (hsz : ∀ w, (sizeOf t).run P w = .ok n w) (hA : A.size = n) (h1 : ∀ v ∈ A.toList, v.oneCell' = true) (hp : a.eval p = .pointer (some ⟨g, k, none⟩)) (hx : a.eval x = .agg A)
  (hg : w.heap[g]? = some (.cells cur t2 (0, 0))) (hl : k + n ≤ cur.size) (h : wpList P ops Q rest a (w.setRow g (cur.toList.take k ++ A.toList ++ cur.toList.drop (k + n)).toArray)) : wpList P ops Q (o :: rest) a w :=
 wpList_plain hgd fun _ hK => wp_storeA p x t ho hd hsz hA h1 hp hx hg hl (hK _ _ h)
end
variable {α : Type} {T : Ty α} {e : TypeId} {w : World} {v : Value} {l : List α}
theorem flat_set_mid : ∀ {css : List (List Value)} {n : Nat} (i : Nat) {ci rest : List Value}, (∀ c ∈ css, c.length = n) → i < css.length → ci.length = n →
  (css.flatten ++ rest).take (i * n) ++ ci ++ (css.flatten ++ rest).drop (i * n + n) = (css.set i ci).flatten ++ rest
 | c :: css, n, 0, ci, rest, h, _, hc => by
  have := h c (by simp); simp only [List.flatten_cons, List.append_assoc, Nat.zero_mul, List.take_zero, List.nil_append, Nat.zero_add, List.set_cons_zero]; rw [List.drop_append_of_le_length (by omega), List.drop_of_length_le (by omega), List.nil_append]
 | c :: css, n, i + 1, ci, rest, h, hi, hc => by
  have hcl := h c (by simp); have ih := flat_set_mid (css := css) (n := n) i (ci := ci) (rest := rest) (fun d hd => h d (by simp [hd])) (by simpa using hi) hc; simp only [List.flatten_cons, List.append_assoc, List.set_cons_succ]; rw [← ih]; have e1 : (i + 1) * n = c.length + i * n := by rw [Nat.succ_mul]; omega
  rw [e1, List.take_length_add_append, Nat.add_assoc, List.drop_length_add_append]; simp
 | [], _, _, _, _, _, h, _ => absurd h (Nat.not_lt_zero _)
theorem AllIs.lens {S : Nat → Prop} : ∀ {css : List (List Value)} {l : List α}, AllIs T S w css l → css.length = l.length ∧ ∀ c ∈ css, c.length = T.sz
 | [], [], _ => ⟨rfl, fun _ h => absurd h List.not_mem_nil⟩
 | c :: css, _ :: l, h => by
  obtain ⟨h1, h2⟩ := AllIs.lens h.2; refine ⟨by simp [h1], fun d hd => ?_⟩
  rcases List.mem_cons.1 hd with rfl | hd
  · exact T.len h.1
  · exact h2 d hd
 | [], _ :: _, h => h.elim
 | _ :: _, [], h => h.elim
theorem below_setRow {B g : Nat} {w w' : World} {cs : Array Value} (h : Below B w w') (hB : B ≤ w'.heap.size) (hg : B ≤ g) : Below B w (w'.setRow g cs) :=
 h.trans (Below.of_grown (row := some g) ⟨rfl, rfl, rfl, by simp [World.setRow], fun k _ hk => setRow_other w' g k _ (fun e => hk (by simp [e]))⟩ hB (fun k hk => by cases hk; exact hg))
end Go.Tw
namespace Go.Tw
open Go.RowKit
section
variable {P : Program}
theorem run_copy_wide (w : World) (dT sT ty elem : TypeId) (g o dLen dCap : Nat) (a : Addr) (sLen sCap n k : Nat) (cur : Array Value) (t : TypeId) (cs : List Value)
  (hu : P.underlying dT = some (.slice elem)) (hs : (P.info? elem).map (·.size) = some k) (hg : w.heap[g]? = some (.cells cur t (0, 0))) (hn : Nat.min sLen dLen = n) (hcs : cs.length = n * k)
  (hsrc : ∀ j v, cs[j]? = some v → w.cell? (a.add j) = some v) (hfit : o + cs.length ≤ cur.size) (h1 : ∀ v ∈ cs, v.oneCell' = true) :
  (Builtin.copy_ #[dT, sT] ty #[.slice (some ⟨g, o, none⟩) dLen dCap, .slice (some a) sLen sCap]).run P w = .ok (goInt n) (w.setRow g (cur.toList.take o ++ cs ++ cur.toList.drop (o + cs.length)).toArray) := by
 have hl := run_loadCells_list (P := P) w a cs hsrc; have hst := run_storeCells_at P g o t cs 0 cur w hg (by simpa using hfit) h1
 cases hq : P.info? elem with
 | none => simp [hq] at hs
 | some i =>
  have hi : i.size = k := by simpa [hq] using hs
  rw [hcs] at hl; simp [Builtin.copy_, run_underlying hu, Builtin.lenOf, Builtin.firstCells, sizeOf, typeInfo, hq, hi, hn, hl, hst]
theorem wp_copy_r {o : Oper} {a : Act} {w : World} {K : Act → World → Prop} {Q : Exit → Act → World → Prop} (d s : Operand) (t t' : TypeId) (ho : o.op = .call { callee := .builtin .copy, args := #[d, s], argTypes := #[t, t'] }) {v u : Value} (hd : a.eval d = v) (hs : a.eval s = u) {n : Value} {w' : World}
  (hr : ∀ ty, (Builtin.copy_ #[t, t'] ty #[v, u]).run P w = .ok n w') (h : K (a.put o.dst n) w') : o.wp P a w K Q := by
 have hr' := hr o.type; unfold Oper.wp execOp; simp only [ho, resolve, invoke, builtin, Sem.run_bind, Sem.run_pure, Result.andThen_ok, List.map_toArray, List.map_cons, List.map_nil, hd, hs, hr']; exact h
theorem step_copy_r {ops : Array Oper} {o : Oper} {a : Act} {w : World} {K : Act → World → Prop} {Q : Exit → Act → World → Prop} {E : Prop} (hgd : o.guard = none) (d s : Operand) (t t' : TypeId) (ho : o.op = .call { callee := .builtin .copy, args := #[d, s], argTypes := #[t, t'] }) {v u : Value} (hd : a.eval d = v) (hs : a.eval s = u) {n : Value} {w' : World}
  (hr : ∀ ty, (Builtin.copy_ #[t, t'] ty #[v, u]).run P w = .ok n w') (h : K (a.put o.dst n) w') : if Region.wanted o (yielded ops a.tmps) = true then Oper.wp P o a w K Q else E := by
 rw [if_pos (show Region.wanted o (yielded ops a.tmps) = true by simp [Region.wanted, hgd])]; exact wp_copy_r d s t t' ho hd hs hr h
end
section
variable {α : Type} {T : Ty α}
theorem flat_take {k : Nat} : ∀ {css : List (List Value)} (i : Nat), (∀ c ∈ css, c.length = k) → (css.take i).flatten = css.flatten.take (i * k)
 | [], i, _ => by simp
 | c :: css, 0, _ => by simp
 | c :: css, i + 1, h => by
  have h0 := h c List.mem_cons_self; rw [List.take_succ_cons, List.flatten_cons, List.flatten_cons, flat_take i fun x hx => h x (List.mem_cons_of_mem _ hx), List.take_append, h0, Nat.succ_mul, List.take_of_length_le (l := c) (by omega)]
  congr 2
  omega
theorem flat_drop {k : Nat} {css : List (List Value)} (i : Nat) (h : ∀ c ∈ css, c.length = k) : (css.drop i).flatten = css.flatten.drop (i * k) := by
 have e : css.flatten = (css.take i).flatten ++ (css.drop i).flatten := by rw [← List.flatten_append, List.take_append_drop]
 have hl : i ≤ css.length → (css.take i).flatten.length = i * k := fun hi => by
  rw [flat_take i h, List.length_take]
  have : css.flatten.length = css.length * k := by
   clear e hi
   induction css with
   | nil => simp
   | cons c css ih =>
    rw [List.flatten_cons, List.length_append, ih (fun x hx => h x (List.mem_cons_of_mem _ hx)), h c List.mem_cons_self, List.length_cons, Nat.succ_mul]
    omega
  rw [this]; have := Nat.mul_le_mul_right k hi
  omega
 rcases Nat.lt_or_ge i css.length with hi | hi
 · have h1 := hl (Nat.le_of_lt hi)
   conv => rhs; rw [e]
   rw [List.drop_append, h1, Nat.sub_self, List.drop_zero, show ((css.take i).flatten).drop (i * k) = [] from List.drop_of_length_le (by omega), List.nil_append]
 · rw [List.drop_of_length_le hi, List.flatten_nil, List.drop_of_length_le]
   have : css.flatten.length = css.length * k := by
    clear e hi hl
    induction css with
    | nil => simp
    | cons c css ih =>
     rw [List.flatten_cons, List.length_append, ih (fun x hx => h x (List.mem_cons_of_mem _ hx)), h c List.mem_cons_self, List.length_cons, Nat.succ_mul]
     omega
   rw [this]; exact Nat.mul_le_mul_right k hi
theorem AllIs.take {S : Nat → Prop} {w : World} : ∀ {css : List (List Value)} {l : List α} (i : Nat), AllIs T S w css l → AllIs T S w (css.take i) (l.take i)
 | [], [], i, _ => by simp [AllIs]
 | _ :: _, _ :: _, 0, _ => by simp [AllIs]
 | _ :: _, _ :: _, i + 1, h => ⟨h.1, AllIs.take i h.2⟩
 | [], _ :: _, _, h => h.elim
 | _ :: _, [], _, h => h.elim
theorem AllIs.drop {S : Nat → Prop} {w : World} : ∀ {css : List (List Value)} {l : List α} (i : Nat), AllIs T S w css l → AllIs T S w (css.drop i) (l.drop i)
 | [], [], i, _ => by simp [AllIs]
 | _ :: _, _ :: _, 0, h => h
 | _ :: _, _ :: _, i + 1, h => AllIs.drop i h.2
 | [], _ :: _, _, h => h.elim
 | _ :: _, [], _, h => h.elim
theorem AllIs.insert {S : Nat → Prop} {w : World} {css : List (List Value)} {l : List α} {xs : List Value} {x : α} (i : Nat) (h : AllIs T S w css l) (hx : T.is S w xs x) : AllIs T S w (css.take i ++ xs :: css.drop i) (l.take i ++ x :: l.drop i) :=
 (h.take i).append (css' := xs :: css.drop i) (l' := x :: l.drop i) ⟨hx, h.drop i⟩
theorem insert_flat {k : Nat} {css : List (List Value)} {xs : List Value} (i : Nat) (h : ∀ c ∈ css, c.length = k) : (css.take i ++ xs :: css.drop i).flatten = css.flatten.take (i * k) ++ (xs ++ css.flatten.drop (i * k)) := by
 rw [List.flatten_append, List.flatten_cons, flat_take i h, flat_drop i h]
theorem shift_row {cur CS xs : List Value} {a k n : Nat} (_hn : CS.length = n) (hc : cur.take n = CS) (ha : a ≤ n) (hx : xs.length = k) (hr : n + k ≤ cur.length) :
  (CS.take a ++ (xs ++ CS.drop a)) <+: (cur.take (a + k) ++ CS.drop a ++ cur.drop (a + k + (CS.drop a).length)).take a ++ xs ++ (cur.take (a + k) ++ CS.drop a ++ cur.drop (a + k + (CS.drop a).length)).drop (a + xs.length) := by
 have h1 : (cur.take (a + k) ++ CS.drop a ++ cur.drop (a + k + (CS.drop a).length)).take a = CS.take a := by
  rw [List.append_assoc, List.take_append, List.length_take, Nat.min_eq_left (by omega), show a - (a + k) = 0 by omega, List.take_zero, List.append_nil, List.take_take, Nat.min_eq_left (by omega), ← hc, List.take_take, Nat.min_eq_left (by omega)]
 have h2 : (cur.take (a + k) ++ CS.drop a ++ cur.drop (a + k + (CS.drop a).length)).drop (a + xs.length) = CS.drop a ++ cur.drop (a + k + (CS.drop a).length) := by
  rw [hx, List.append_assoc, List.drop_append, List.length_take, Nat.min_eq_left (by omega), Nat.sub_self, List.drop_zero, List.drop_of_length_le (by rw [List.length_take]; omega), List.nil_append]
 rw [h1, h2]; exact ⟨cur.drop (a + k + (CS.drop a).length), by simp⟩
theorem grow_row {cur CS xs : List Value} {a k n : Nat} (_hn : CS.length = n) (ha : a ≤ n) (hc : cur.take a = CS.take a) (hx : xs.length = k) (hr : n + k ≤ cur.length) :
  (CS.take a ++ (xs ++ CS.drop a)) <+: (cur.take a ++ xs ++ cur.drop (a + xs.length)).take (a + k) ++ CS.drop a ++ (cur.take a ++ xs ++ cur.drop (a + xs.length)).drop (a + k + (CS.drop a).length) := by
 have h1 : (cur.take a ++ xs ++ cur.drop (a + xs.length)).take (a + k) = CS.take a ++ xs := by
  rw [List.take_append, List.length_append, List.length_take, Nat.min_eq_left (by omega), hx, Nat.sub_self, List.take_zero, List.append_nil, List.take_of_length_le (by rw [List.length_append, List.length_take]; omega), hc]
 rw [h1, ← List.append_assoc]; exact ⟨_, rfl⟩
end
end Go.Tw
namespace Go.Proofs.YtifcelebfagjbaaGreatDoor
open Go.RowKit Go.Tw Go.Tw.Ord Go.Tw.Po Go.Sort
abbrev eL : TypeId := 140
def InsE (w : World) (v : Value) (S : Nat → Prop) (l : List Chg) (e : Ending) (w' : World) : Prop := ∃ v', e = .returned v' ∧ SlIs (tChg eL) (fun k => (S k ∨ w.heap.size ≤ k ∨ some k = v.ownBlock) ∧ k < w'.heap.size) w' v' l ∧ w.grownBy w' v.ownBlock
theorem grown_setRow (w : World) (g : Nat) (cs : Array Value) : w.grownBy (w.setRow g cs) (some g) := ⟨rfl, rfl, rfl, by simp, fun k _ hk => setRow_other w g k _ (fun e => hk (by simp [e]))⟩
theorem grown_drew (w : World) (r : Option Nat) : w.grownBy w.drew r := ⟨rfl, rfl, rfl, Nat.le_refl _, fun _ _ _ => rfl⟩
set_option maxRecDepth 100000 in
set_option maxHeartbeats 4000000 in
theorem insert_end (B : Nat) (S : Nat → Prop) (ds : List Chg) (vd : Value) (x : Chg) (vb : Nat) (cx : Array Value) (w : World) (h : OwnS (tChg eL) 49 B S w vd ds) (hS : ∀ k, S k → k < w.heap.size ∧ some k ≠ vd.ownBlock) (hb : w.heap[vb]? = some (.cells cx 49 (0, 0))) (hvb : S vb)
  (hx : (tChg eL).is S w cx.toList x) (hl : ds.length ≤ 1000) (hB : B ≤ w.heap.size) :
  Calls Tryz.prog 53 #[vd, .int .i64 ds.length, .slice (some ⟨vb, 0, none⟩) 1 1] w (InsE w vd S (ds ++ [x])) := by
 have hsx : SlIs (tChg eL) S w (.slice (some ⟨vb, 0, none⟩) 1 1) [x] := SlIs.of_block (css := [cx.toList]) (l := [x]) (cap := 1) hb ⟨[], by simp⟩ ⟨hx, trivial⟩ hvb (by simp) (by decide); obtain ⟨ao, cap, rfl, h1, h2⟩ := h.form; obtain ⟨v', w', hr, ho, hg, hv⟩ := run_append_S (P := Tryz.prog) (t := 52) (ty := 52) slChg h hS hsx hS (by simp) (by simp; omega) (by simp; unfold maxLen; omega) hB
 have HF := Lib.hid (show InsE w (.slice ao ds.length cap) S (ds ++ [x]) (.returned v') w' from ⟨v', rfl, ho.sl.keep (fun k hk => by
  rcases hk with hk | hk
  · have hk' : S k := by rcases hk with q | q <;> exact q
    exact ⟨.inl hk', Nat.lt_of_lt_of_le (hS k hk').1 hg.size⟩
  · refine ⟨?_, (ho.own_lt k hk).2⟩
    rcases hv with q | q
    · exact .inr (.inr (by rw [← q]; exact hk.symm))
    · rw [q] at hk
      injection hk with hk
      exact .inr (.inl (by omega))) (SameOn.refl _ _), hg⟩)
 unfold maxLen at h2; have h3 : (ds.length : Int) ≤ (cap : Int) := by omega
 clear h hb hx hvb hsx ho hg hv hS
 by_cases hc : cap = ds.length
 all_goals
  go_enter Tryz.func53, Tryz.ntmps53
  go_wp2_with (at_builtin; refine Lib.wpList_append_run _ rfl (.tmp 23) (.tmp 24) 52 52 rfl _ _ rfl rfl _ _ hr ?_)
  go_ret; exact HF.out
theorem chgSize : (Tryz.prog.info? 49).map (·.size) = some 7 := by kernel_rfl
set_option maxRecDepth 100000 in
set_option maxHeartbeats 4000000 in
theorem insert_shift (B : Nat) (S : Nat → Prop) (ds : List Chg) (vd : Value) (x : Chg) (vb i : Nat) (cx : Array Value) (w : World) (h : OwnS (tChg eL) 49 B S w vd ds) (hS : ∀ k, S k → k < w.heap.size ∧ some k ≠ vd.ownBlock) (hb : w.heap[vb]? = some (.cells cx 49 (0, 0))) (hvb : S vb)
  (hx : (tChg eL).is S w cx.toList x) (hl : ds.length ≤ 1000) (hi : i < ds.length) (hroom : ∀ a n c, vd = .slice a n c → ds.length + 1 ≤ c) :
  Calls Tryz.prog 53 #[vd, .int .i64 i, .slice (some ⟨vb, 0, none⟩) 1 1] w (InsE w vd S (ds.take i ++ x :: ds.drop i)) := by
 obtain ⟨css, h1, h2⟩ := h
 rcases h1.2 with ⟨_, h'⟩ | ⟨g, cap, cur, rfl, hBg, hg, hnc, hcm, hcs, htake⟩
 · omega
 have hc1 := hroom _ _ _ rfl; have hcx : cx.size = 7 := by have := (tChg eL).len hx; rw [Array.length_toList] at this; exact this
 have hfl : css.flatten.length = ds.length * 7 := h2.flatten_len; have hne' : vb ≠ g := fun e => (hS vb hvb).2 (by rw [e]; rfl)
 unfold maxLen at hcm; have i0 : (0 : Int) ≤ (i : Int) := by omega
 have i1 : (i : Int) ≤ (ds.length : Int) := by omega
 have i2 : (i : Int) ≤ (cap : Int) := by omega
 have i3 : ((i : Int) == (ds.length : Int)) = false := by rw [beq_eq_false_iff_ne]; omega
 have i4 : ¬ (cap = i) := by omega
 have mixed : Tryz.prog.follows .mixedOrders = true := by kernel_rfl
 have hw1 : IntKind.i64.wrap ((ds.length : Int) + 1) = (ds.length : Int) + 1 := wrap_in (by omega) (by omega); have hw2 : IntKind.i64.wrap ((i : Int) + 1) = (i : Int) + 1 := wrap_in (by omega) (by omega); have i5 : decide ((cap : Int) < (ds.length : Int) + 1) = false := by simp; omega
 have i6 : (0 : Int) ≤ (i : Int) + 1 := by omega
 have i7 : ((i : Int) + 1).toNat = i + 1 := by omega
 have i8 : ¬ (cap = i + 1) := by omega
 have i9 : (i : Int) ≤ (ds.length : Int) + 1 := by omega
 have i10 : (i : Int) + 1 ≤ (ds.length : Int) + 1 := by omega
 have hov : ∀ lb cb, (callFunc 90 #[.slice (some ⟨vb, 0, none⟩) 1 1, .slice (some ⟨g, (i + 1) * 7, none⟩) lb cb]).run Tryz.prog w = .ok (.value (.bool false)) w := fun lb cb => by
  rw [run_callFunc_extern Tryz.func90 (by kernel_rfl) (by kernel_rfl) (by kernel_rfl) (e := Extern.SlicesOverlaps.overlaps #[52, 52] #[4]) (by kernel_rfl),
   Lib.run_overlaps_apart w 52 4 49 Tryz.underlying52 7 Tryz.sizeOf49 ⟨vb, 0, none⟩ ⟨g, (i + 1) * 7, none⟩ 1 1 lb cb hne' 49 49 cx.size cur.size (by simp [World.shape?, hb]) (by simp [World.shape?, hg]) (by rw [hcs]; show cap * 7 ≠ 0; omega) (by simp [World.frozen?, hb]) (by simp [World.frozen?, hb])]
  rfl
 have hsz : (tChg eL).sz = 7 := rfl; rw [hsz] at hcs htake; obtain ⟨CS, hCS⟩ : ∃ CS, css.flatten = CS := ⟨_, rfl⟩; have h2' := h2; rw [hCS] at htake hfl; have hone : ∀ v ∈ CS, v.oneCell' = true := by rw [← hCS]; exact h2.one
 have honx : ∀ v ∈ cx.toList, v.oneCell' = true := (tChg eL).one hx; have hd7 : (CS.drop (i * 7)).length = (ds.length - i) * 7 := by rw [List.length_drop, hfl]; omega
 have hcell : ∀ j v, (CS.drop (i * 7))[j]? = some v → w.drew.cell? ((⟨g, i * 7, none⟩ : Addr).add j) = some v := fun j v hj => by
  rw [Addr.add_lit]
  show w.cell? ⟨g, i * 7 + j, none⟩ = some v
  rw [cell_of_row _ _ _ _ _ _ hg]; rw [List.getElem?_drop, ← htake, List.getElem?_take] at hj
  split at hj
  · rwa [Array.getElem?_toList] at hj
  · cases hj
 have hgd : w.drew.heap[g]? = some (.cells cur 49 (0, 0)) := hg
 have hcp1 : ∀ ty, (Builtin.copy_ #[52, 52] ty #[.slice (some ⟨g, (i + 1) * 7, none⟩) (ds.length - i) (cap - (i + 1)), .slice (some ⟨g, i * 7, none⟩) (ds.length + 1 - i) (cap - i)]).run Tryz.prog w.drew = .ok (goInt ((ds.length - i : Nat) : Int)) (w.drew.setRow g (cur.toList.take (i * 7 + 7) ++ CS.drop (i * 7) ++ cur.toList.drop (i * 7 + 7 + (CS.drop (i * 7)).length)).toArray) := fun ty => by
  have := run_copy_wide (P := Tryz.prog) w.drew 52 52 ty 49 g ((i + 1) * 7) (ds.length - i) (cap - (i + 1)) ⟨g, i * 7, none⟩ (ds.length + 1 - i) (cap - i) (ds.length - i) 7 cur 49 (CS.drop (i * 7)) Tryz.underlying52 chgSize hgd (by simp only [Nat.min_def]; split <;> omega) hd7 hcell (by rw [hd7, hcs]; omega) (fun v hv => hone v (List.mem_of_mem_drop hv)); rw [show (i + 1) * 7 = i * 7 + 7 by omega] at this ⊢; exact this
 have hcl : cur.toList.length = cap * 7 := by rw [← hcs]; exact Array.length_toList
 have hlen1 : (cur.toList.take (i * 7 + 7) ++ CS.drop (i * 7) ++ cur.toList.drop (i * 7 + 7 + (CS.drop (i * 7)).length)).length = cur.size := by
  simp only [List.length_append, List.length_take, List.length_drop, hcl, hfl, hcs]
  omega
 have hfin := shift_row (cur := cur.toList) (CS := CS) (xs := cx.toList) (a := i * 7) (k := 7) (n := ds.length * 7) hfl (by rw [← htake]) (by omega) (by simpa using hcx) (by rw [hcl]; omega); obtain ⟨C1, hC1⟩ : ∃ C1, cur.toList.take (i * 7 + 7) ++ CS.drop (i * 7) ++ cur.toList.drop (i * 7 + 7 + (CS.drop (i * 7)).length) = C1 := ⟨_, rfl⟩; rw [hC1] at hcp1 hlen1 hfin; obtain ⟨W1, hW1⟩ : ∃ W1, w.drew.setRow g C1.toArray = W1 := ⟨_, rfl⟩; rw [hW1] at hcp1; have hg1 : W1.heap[g]? = some (.cells C1.toArray 49 (0, 0)) := by rw [← hW1]; exact setRow_heap _ _ _ _ _ _ hgd
 have hgr1 : w.grownBy W1 (some g) := by rw [← hW1]; exact (grown_drew w _).trans (grown_setRow _ _ _)
 have hcp2 : ∀ ty, (Builtin.copy_ #[52, 52] ty #[.slice (some ⟨g, i * 7, none⟩) (ds.length + 1 - i) (cap - i), .slice (some ⟨vb, 0, none⟩) 1 1]).run Tryz.prog W1 = .ok (goInt 1) (W1.setRow g (C1.take (i * 7) ++ cx.toList ++ C1.drop (i * 7 + cx.toList.length)).toArray) := fun ty =>
  run_copy_wide (P := Tryz.prog) W1 52 52 ty 49 g (i * 7) (ds.length + 1 - i) (cap - i) ⟨vb, 0, none⟩ 1 1 1 7 C1.toArray 49 cx.toList Tryz.underlying52 chgSize hg1 (by simp only [Nat.min_def]; split <;> omega) (by simpa using hcx) (fun j v hj => by
   rw [Addr.add_lit]; refine (World.cell?_of_block (hgr1.block vb (lt_of_heap hb) (by intro e; injection e with e; exact hne' e))).trans ?_
   rw [cell_of_row _ _ _ _ _ _ hb, Nat.zero_add, ← Array.getElem?_toList]; exact hj) (by simp [hlen1, hcs, hcx]; omega) honx
 have HFIN : InsE w (.slice (some ⟨g, 0, none⟩) ds.length cap) S (ds.take i ++ x :: ds.drop i) (.returned (.slice (some ⟨g, 0, none⟩) (ds.length + 1) cap)) (W1.setRow g (C1.take (i * 7) ++ cx.toList ++ C1.drop (i * 7 + cx.toList.length)).toArray) := by
  have hgr := hgr1.trans (grown_setRow W1 g (C1.take (i * 7) ++ cx.toList ++ C1.drop (i * 7 + cx.toList.length)).toArray); refine ⟨_, rfl, ?_, hgr⟩; have hall := AllIs.insert (T := tChg eL) (xs := cx.toList) (x := x) i h2' hx; have hall2 := hall.keep (S' := fun k => (S k ∨ w.heap.size ≤ k ∨ some k = (Value.slice (some ⟨g, 0, none⟩) ds.length cap).ownBlock) ∧ k < (W1.setRow g (C1.take (i * 7) ++ cx.toList ++ C1.drop (i * 7 + cx.toList.length)).toArray).heap.size) (fun k hk => ⟨.inl hk, Nat.lt_of_lt_of_le (hS k hk).1 hgr.size⟩) (fun k hk => hgr.block k (hS k hk).1 (hS k hk).2); have hll : (ds.take i ++ x :: ds.drop i).length = ds.length + 1 := by rw [List.length_append, List.length_cons, List.length_take, List.length_drop]; omega
  have := SlIs.of_block (cap := cap) (setRow_heap W1 g C1.toArray (C1.take (i * 7) ++ cx.toList ++ C1.drop (i * 7 + cx.toList.length)).toArray _ _ hg1) (by
   rw [insert_flat i h2.lens.2, hCS, hsz]
   exact hfin) hall2 ⟨.inr (.inr rfl), by have := hgr.size; have := lt_of_heap hg; omega⟩ (by rw [hll]; exact hc1) hcm
  rw [hll] at this; exact this
 obtain ⟨W2, hW2⟩ : ∃ W2, W1.setRow g (C1.take (i * 7) ++ cx.toList ++ C1.drop (i * 7 + cx.toList.length)).toArray = W2 := ⟨_, rfl⟩; rw [hW2] at hcp2 HFIN; have HF := Lib.hid HFIN; clear hW2; clear hvb hb hx hcell hgd hC1 hfin hW1 hg1 hgr1 HFIN h2 h2' h1 htake hone honx hlen1 hd7 hfl hg hcs
 go_enter Tryz.func53, Tryz.ntmps53
 go_wp2_with (simp only [hov])
 go_region_law_o (refine step_copy_r rfl (.tmp 73) (.tmp 76) 52 52 rfl (by simp [Act.eval, Act.put]) (by simp [Act.eval, Act.put]) (fun ty => hcp1 ty) ?_)
 go_wp2_with (at_builtin; refine wpList_copy_r rfl (.tmp 80) (.tmp 81) 52 52 rfl rfl rfl (fun ty => hcp2 ty) ?_)
 go_ret; exact HF.out
set_option maxRecDepth 100000 in
set_option maxHeartbeats 4000000 in
theorem insert_grow (B : Nat) (S : Nat → Prop) (ds : List Chg) (vd : Value) (x : Chg) (vb i : Nat) (cx : Array Value) (w : World) (h : OwnS (tChg eL) 49 B S w vd ds) (hS : ∀ k, S k → k < w.heap.size ∧ some k ≠ vd.ownBlock) (hb : w.heap[vb]? = some (.cells cx 49 (0, 0)))
  (hx : (tChg eL).is S w cx.toList x) (hl : ds.length ≤ 1000) (hi : i < ds.length) (hroom : ∀ a n c, vd = .slice a n c → c < ds.length + 1) :
  Calls Tryz.prog 53 #[vd, .int .i64 i, .slice (some ⟨vb, 0, none⟩) 1 1] w (InsE w vd S (ds.take i ++ x :: ds.drop i)) := by
 obtain ⟨css, h1, h2⟩ := h
 rcases h1.2 with ⟨_, h'⟩ | ⟨g, cap, cur, rfl, hBg, hg, hnc, hcm, hcs, htake⟩
 · omega
 have hc1 := hroom _ _ _ rfl; obtain rfl : cap = ds.length := by omega
 have hcx : cx.size = 7 := by have := (tChg eL).len hx; rw [Array.length_toList] at this; exact this
 have hfl : css.flatten.length = ds.length * 7 := h2.flatten_len; have hgw : g < w.heap.size := lt_of_heap hg; have hvw : vb < w.heap.size := lt_of_heap hb; have mixed : Tryz.prog.follows .mixedOrders = true := by kernel_rfl
 have i0 : (0 : Int) ≤ (i : Int) := by omega
 have i1 : (i : Int) ≤ (ds.length : Int) := by omega
 have i3 : ((i : Int) == (ds.length : Int)) = false := by rw [beq_eq_false_iff_ne]; omega
 have i4 : ¬ (ds.length = i) := by omega
 have hw1 : IntKind.i64.wrap ((ds.length : Int) + 1) = (ds.length : Int) + 1 := wrap_in (by omega) (by omega); have hw2 : IntKind.i64.wrap ((i : Int) + 1) = (i : Int) + 1 := wrap_in (by omega) (by omega); have hw3 : IntKind.i64.wrap ((ds.length : Int) + 1 - (i : Int)) = (ds.length : Int) + 1 - (i : Int) := wrap_in (by omega) (by omega); have i5 : (ds.length : Int) < (ds.length : Int) + 1 := by omega
 have i6 : (0 : Int) ≤ (i : Int) + 1 := by omega
 have i7 : ((i : Int) + 1).toNat = i + 1 := by omega
 have i9 : (i : Int) ≤ (ds.length : Int) + 1 := by omega
 have i10 : (i : Int) + 1 ≤ (ds.length : Int) + 1 := by omega
 have hsz : (tChg eL).sz = 7 := rfl; rw [hsz] at hcs htake; obtain ⟨CS, hCS⟩ : ∃ CS, css.flatten = CS := ⟨_, rfl⟩; rw [hCS] at htake hfl; have hone : ∀ v ∈ CS, v.oneCell' = true := by rw [← hCS]; exact h2.one
 have honx : ∀ v ∈ cx.toList, v.oneCell' = true := (tChg eL).one hx
 have hcell0 : ∀ j v, CS[j]? = some v → w.cell? ⟨g, j, none⟩ = some v := fun j v hj => by
  rw [cell_of_row _ _ _ _ _ _ hg]; rw [← htake, List.getElem?_take] at hj
  split at hj
  · rwa [Array.getElem?_toList] at hj
  · cases hj
 obtain ⟨und, ⟨j0, z, hj0, hz, hsize, hby, hzs⟩, hpos⟩ := slChg
 have hold : (Builtin.firstCells j0.size i (.slice (some ⟨g, 0, none⟩) i ds.length)).run Tryz.prog w.drew = .ok (CS.take (i * 7)).toArray w.drew := by
  rw [hsize]
  exact run_firstCells_some w.drew 7 i ⟨g, 0, none⟩ i ds.length (CS.take (i * 7)) (by rw [List.length_take, hfl]; omega) (fun j v hj => by
   rw [Addr.add_lit, Nat.zero_add]; rw [List.getElem?_take] at hj
   split at hj
   · exact hcell0 j v hj
   · cases hj)
 obtain ⟨G, hG⟩ : ∃ G, grownCap w (ds.length + 1) ds.length 49 = G := ⟨_, rfl⟩; have hGn : ds.length + 1 ≤ G := by rw [← hG]; exact grownCap_ge w _ _ _
 have hGm : G ≤ maxLen := by rw [← hG]; exact grownCap_le_maxLen w _ _ _ (by unfold maxLen; omega)
 obtain ⟨ROW, hROW⟩ : ∃ ROW, (CS.take (i * 7)).toArray ++ Builtin.zeroCells z.cells (ds.length + 1 - i) ++ Builtin.zeroCells z.cells (G - (ds.length + 1)) = ROW := ⟨_, rfl⟩
 have hrow : ROW.size = G * 7 := by
  rw [← hROW]; simp only [Array.size_append, List.size_toArray, List.length_take, hfl, Builtin.zeroCells, Array.size_map, Array.size_range, hzs]
  show min (i * 7) (ds.length * 7) + (ds.length + 1 - i) * 7 + (G - (ds.length + 1)) * 7 = G * 7
  omega
 have hrt : ROW.toList.take (i * 7) = CS.take (i * 7) := by
  rw [← hROW]; simp only [Array.toList_append, List.append_assoc]; rw [List.take_append, List.take_of_length_le (by rw [List.length_take]; omega), List.length_take, hfl, Nat.min_eq_left (by omega), Nat.sub_self, List.take_zero, List.append_nil]
 have hrz : ∀ ty, (Builtin.append_ #[52, 3] ty #[.slice (some ⟨g, 0, none⟩) i ds.length, .int .i64 ((ds.length : Int) + 1 - (i : Int))]).run Tryz.prog w =
   .ok (.slice (some ⟨w.heap.size, 0, none⟩) (ds.length + 1) G) (w.drew.alloc (.cells ROW 49)) := fun ty => by
  have hik : i + (ds.length + 1 - i) = ds.length + 1 := by omega
  have := Lib.run_append_grow_zeros w 52 3 ty 49 j0 z .i64 .i64 und Tryz.underlying3 hj0 hz (some ⟨g, 0, none⟩) i ds.length (CS.take (i * 7)) hold (ds.length + 1 - i) (by omega) (by rw [hsize]; show 0 < 7; decide) (by omega) (by omega) (by rw [hby]; omega) (by rw [hby, hik]; exact growslice_fits (by omega) (by omega)); rw [hik, hG, hROW] at this; rw [show (ds.length : Int) + 1 - (i : Int) = ((ds.length + 1 - i : Nat) : Int) by omega]; exact this
 obtain ⟨W1, hW1⟩ : ∃ W1, w.drew.alloc (.cells ROW 49) = W1 := ⟨_, rfl⟩; have hg1 : W1.heap[w.heap.size]? = some (.cells ROW 49 (0, 0)) := by rw [← hW1]; exact heap_alloc_new w.drew _
 have hgr1 : w.grownBy W1 (some g) := by rw [← hW1]; exact (grown_drew w _).trans (World.grownBy_alloc _ _ _)
 have hsame1 : ∀ k, k < w.heap.size → W1.heap[k]? = w.heap[k]? := fun k hk => by rw [← hW1]; exact Below.heap_alloc w.drew _ _ hk
 rw [hW1] at hrz; have hrcl : ROW.toList.length = G * 7 := by rw [← hrow]; exact Array.length_toList
 have hcpA : ∀ ty, (Builtin.copy_ #[52, 52] ty #[.slice (some ⟨w.heap.size, i * 7, none⟩) (ds.length + 1 - i) (G - i), .slice (some ⟨vb, 0, none⟩) 1 1]).run Tryz.prog W1 = .ok (goInt 1) (W1.setRow w.heap.size (ROW.toList.take (i * 7) ++ cx.toList ++ ROW.toList.drop (i * 7 + cx.toList.length)).toArray) := fun ty =>
  run_copy_wide (P := Tryz.prog) W1 52 52 ty 49 w.heap.size (i * 7) (ds.length + 1 - i) (G - i) ⟨vb, 0, none⟩ 1 1 1 7 ROW 49 cx.toList und chgSize hg1 (by simp only [Nat.min_def]; split <;> omega) (by simpa using hcx) (fun j v hj => by
   rw [Addr.add_lit]; refine (World.cell?_of_block (hsame1 vb hvw)).trans ?_
   rw [cell_of_row _ _ _ _ _ _ hb, Nat.zero_add, ← Array.getElem?_toList]; exact hj) (by rw [hrow]; simp [hcx]; omega) honx
 have hfin := grow_row (cur := ROW.toList) (CS := CS) (xs := cx.toList) (a := i * 7) (k := 7) (n := ds.length * 7) hfl (by omega) hrt (by simpa using hcx) (by rw [hrcl]; omega)
 have hC1l : (ROW.toList.take (i * 7) ++ cx.toList ++ ROW.toList.drop (i * 7 + cx.toList.length)).length = G * 7 := by
  simp only [List.length_append, List.length_take, List.length_drop, hrcl, Array.length_toList, hcx]
  omega
 obtain ⟨C1, hC1⟩ : ∃ C1, ROW.toList.take (i * 7) ++ cx.toList ++ ROW.toList.drop (i * 7 + cx.toList.length) = C1 := ⟨_, rfl⟩; rw [hC1] at hcpA hfin hC1l; obtain ⟨W2, hW2⟩ : ∃ W2, W1.setRow w.heap.size C1.toArray = W2 := ⟨_, rfl⟩; rw [hW2] at hcpA; have hg2 : W2.heap[w.heap.size]? = some (.cells C1.toArray 49 (0, 0)) := by rw [← hW2]; exact setRow_heap _ _ _ _ _ _ hg1
 have hsame2 : ∀ k, k < w.heap.size → W2.heap[k]? = w.heap[k]? := fun k hk => by rw [← hW2]; exact (setRow_other W1 _ k _ (by omega)).trans (hsame1 k hk)
 have hos2 : w.grownBy W2 (some g) := by rw [← hW2]; exact ⟨hgr1.os, hgr1.tape, hgr1.output, by simpa using hgr1.size, fun k hk _ => (setRow_other W1 _ k _ (by omega)).trans (hsame1 k hk)⟩
 have hd7 : (CS.drop (i * 7)).length = (ds.length - i) * 7 := by rw [List.length_drop, hfl]; omega
 have hcpB : ∀ ty, (Builtin.copy_ #[52, 52] ty #[.slice (some ⟨w.heap.size, (i + 1) * 7, none⟩) (ds.length - i) (G - (i + 1)), .slice (some ⟨g, i * 7, none⟩) (ds.length - i) (ds.length - i)]).run Tryz.prog W2.drew = .ok (goInt ((ds.length - i : Nat) : Int)) (W2.drew.setRow w.heap.size (C1.take (i * 7 + 7) ++ CS.drop (i * 7) ++ C1.drop (i * 7 + 7 + (CS.drop (i * 7)).length)).toArray) := fun ty => by
  have := run_copy_wide (P := Tryz.prog) W2.drew 52 52 ty 49 w.heap.size ((i + 1) * 7) (ds.length - i) (G - (i + 1)) ⟨g, i * 7, none⟩ (ds.length - i) (ds.length - i) (ds.length - i) 7 C1.toArray 49 (CS.drop (i * 7)) und chgSize hg2 (by simp only [Nat.min_def]; split <;> omega) hd7 (fun j v hj => by
   rw [Addr.add_lit]; refine (World.cell?_of_block (hsame2 g hgw)).trans ?_
   exact hcell0 _ v (by rwa [List.getElem?_drop] at hj)) (by rw [hd7]; simp [hC1l]; omega) (fun v hv => hone v (List.mem_of_mem_drop hv))
  rw [show (i + 1) * 7 = i * 7 + 7 by omega] at this ⊢; exact this
 obtain ⟨W3, hW3⟩ : ∃ W3, W2.drew.setRow w.heap.size (C1.take (i * 7 + 7) ++ CS.drop (i * 7) ++ C1.drop (i * 7 + 7 + (CS.drop (i * 7)).length)).toArray = W3 := ⟨_, rfl⟩; rw [hW3] at hcpB
 have HFIN : InsE w (.slice (some ⟨g, 0, none⟩) ds.length ds.length) S (ds.take i ++ x :: ds.drop i) (.returned (.slice (some ⟨w.heap.size, 0, none⟩) (ds.length + 1) G)) W3 := by
  have hgr : w.grownBy W3 (some g) := by rw [← hW3]; exact ⟨hos2.os, hos2.tape, hos2.output, by simpa using hos2.size, fun k hk _ => (setRow_other W2.drew _ k _ (by omega)).trans (hsame2 k hk)⟩
  have hsame3 : ∀ k, k < w.heap.size → W3.heap[k]? = w.heap[k]? := fun k hk => by rw [← hW3]; exact (setRow_other W2.drew _ k _ (by omega)).trans (hsame2 k hk)
  have hg3 : W3.heap[w.heap.size]? = some (.cells (C1.take (i * 7 + 7) ++ CS.drop (i * 7) ++ C1.drop (i * 7 + 7 + (CS.drop (i * 7)).length)).toArray 49 (0, 0)) := by rw [← hW3]; exact setRow_heap _ _ _ _ _ _ hg2
  refine ⟨_, rfl, ?_, hgr⟩; have hall := AllIs.insert (T := tChg eL) (xs := cx.toList) (x := x) i h2 hx; have hall2 := hall.keep (S' := fun k => (S k ∨ w.heap.size ≤ k ∨ some k = (Value.slice (some ⟨g, 0, none⟩) ds.length ds.length).ownBlock) ∧ k < W3.heap.size) (fun k hk => ⟨.inl hk, Nat.lt_of_lt_of_le (hS k hk).1 hgr.size⟩) (fun k hk => hsame3 k (hS k hk).1); have hll : (ds.take i ++ x :: ds.drop i).length = ds.length + 1 := by rw [List.length_append, List.length_cons, List.length_take, List.length_drop]; omega
  have := SlIs.of_block (cap := G) hg3 (by
   rw [insert_flat i h2.lens.2, hCS, hsz]
   exact hfin) hall2 ⟨.inr (.inl (Nat.le_refl _)), lt_of_heap hg3⟩ (by rw [hll]; exact hGn) hGm
  rw [hll] at this; exact this
 have HF := Lib.hid HFIN; have i11 : ¬ (G = i) := by omega
 have i12 : ¬ (G = i + 1) := by omega
 have hdn : ds.length + 1 - (i + 1) = ds.length - i := by omega
 unfold maxLen at hGm hcm; clear hb hx hC1 hfin hW1 hg1 hgr1 HFIN h2 h1 htake hone honx hd7 hfl hg hcs hcell0 hold hG hROW hrow hrt hsame1 hrcl hC1l hW2 hg2 hsame2 hos2 hW3 und hj0 hz hsize hby hzs hpos
 go_enter Tryz.func53, Tryz.ntmps53
 go_wp2_with (first
  | (at_builtin; refine Lib.wpList_append_run _ rfl (.tmp 34) (.tmp 39) 52 3 rfl _ _ rfl rfl _ _ (hrz _) ?_)
  | (at_builtin; refine wpList_copy_r rfl (.tmp 43) (.tmp 44) 52 52 rfl rfl rfl (fun ty => hcpA ty) ?_))
 go_region_law_o (refine step_copy_r rfl (.tmp 50) (.tmp 53) 52 52 rfl (by simp [Act.eval, Act.put]) (by simp [Act.eval, Act.put]) (fun ty => hcpB ty) ?_)
 go_wp2; go_ret; exact HF.out
theorem insert_any (B : Nat) (S : Nat → Prop) (ds : List Chg) (vd : Value) (x : Chg) (vb i : Nat) (cx : Array Value) (w : World) (h : OwnS (tChg eL) 49 B S w vd ds) (hS : ∀ k, S k → k < w.heap.size ∧ some k ≠ vd.ownBlock) (hb : w.heap[vb]? = some (.cells cx 49 (0, 0))) (hvb : S vb)
  (hx : (tChg eL).is S w cx.toList x) (hl : ds.length ≤ 1000) (hi : i ≤ ds.length) (hB : B ≤ w.heap.size) :
  Calls Tryz.prog 53 #[vd, .int .i64 i, .slice (some ⟨vb, 0, none⟩) 1 1] w (InsE w vd S (ds.take i ++ x :: ds.drop i)) := by
 by_cases he : i = ds.length
 · subst he
   rw [List.take_length, List.drop_length]; exact insert_end B S ds vd x vb cx w h hS hb hvb hx hl hB
 · obtain ⟨ao, cap, rfl, h1, h2⟩ := h.form
   by_cases hc : ds.length + 1 ≤ cap
   · exact insert_shift B S ds _ x vb i cx w h hS hb hvb hx hl (by omega) (fun a n c e => by injection e; omega)
   · exact insert_grow B S ds _ x vb i cx w h hS hb hx hl (by omega) (fun a n c e => by injection e; omega)
end Go.Proofs.YtifcelebfagjbaaGreatDoor
namespace Go.Tw
open Go.RowKit
section
variable {P : Program}
theorem step_append_r {ops : Array Oper} {o : Oper} {a : Act} {w : World} {K : Act → World → Prop} {Q : Exit → Act → World → Prop} {E : Prop} (hgd : o.guard = none) (d s : Operand) (t t' : TypeId) (ho : o.op = .call { callee := .builtin .append, args := #[d, s], argTypes := #[t, t'] }) {v u : Value} (hd : a.eval d = v) (hs : a.eval s = u) {n : Value} {w' : World}
  (hr : ∀ ty, (Builtin.append_ #[t, t'] ty #[v, u]).run P w = .ok n w') (h : K (a.put o.dst n) w') : if Region.wanted o (yielded ops a.tmps) = true then Oper.wp P o a w K Q else E := by
 rw [if_pos (show Region.wanted o (yielded ops a.tmps) = true by simp [Region.wanted, hgd])]; exact Lib.wp_append_run w d s t t' ho v u hd hs n w' (hr _) h
end
theorem zero7 (n : Nat) : ∀ v ∈ (Builtin.zeroCells (Value.agg #[.string ByteArray.empty, .string ByteArray.empty, .string ByteArray.empty, .int .i64 0, .int .i64 0, .slice none 0 0, .int .i64 0]).cells n).toList, v.oneCell' = true := by
 intro v hv; unfold Builtin.zeroCells at hv; simp only [Array.toList_map, List.mem_map] at hv; obtain ⟨i, -, rfl⟩ := hv; have e : (Value.agg #[.string ByteArray.empty, .string ByteArray.empty, .string ByteArray.empty, .int .i64 0, .int .i64 0, .slice none 0 0, .int .i64 0]).cells = #[.string ByteArray.empty, .string ByteArray.empty, .string ByteArray.empty, .int .i64 0, .int .i64 0, .slice none 0 0, .int .i64 0] := by rfl
 rw [e]; have : i % 7 = 0 ∨ i % 7 = 1 ∨ i % 7 = 2 ∨ i % 7 = 3 ∨ i % 7 = 4 ∨ i % 7 = 5 ∨ i % 7 = 6 := by omega
 show (#[Value.string ByteArray.empty, .string ByteArray.empty, .string ByteArray.empty, .int .i64 0, .int .i64 0, .slice none 0 0, .int .i64 0][i % 7]!).oneCell' = true
 rcases this with q | q | q | q | q | q | q <;> rw [q] <;> rfl
end Go.Tw
namespace Go.Proofs.YtifcelebfagjbaaGreatDoor
open Go.RowKit Go.Tw Go.Tw.Ord Go.Tw.Po Go.Sort
set_option maxRecDepth 100000 in
set_option maxHeartbeats 4000000 in
theorem delete_any (B : Nat) (S : Nat → Prop) (ds : List Chg) (vd : Value) (i : Nat) (w : World) (h : OwnS (tChg eL) 49 B S w vd ds) (hS : ∀ k, S k → k < w.heap.size ∧ some k ≠ vd.ownBlock) (hl : ds.length ≤ 1000) (hi : i < ds.length) :
  Calls Tryz.prog 67 #[vd, .int .i64 i, .int .i64 ((i : Int) + 1)] w (InsE w vd S (ds.take i ++ ds.drop (i + 1))) := by
 obtain ⟨css, h1, h2⟩ := h
 rcases h1.2 with ⟨_, h'⟩ | ⟨g, cap, cur, rfl, hBg, hg, hnc, hcm, hcs, htake⟩
 · omega
 have mixed : Tryz.prog.follows .mixedOrders = true := by kernel_rfl
 have hsz : (tChg eL).sz = 7 := rfl; have hfl : css.flatten.length = ds.length * 7 := h2.flatten_len; rw [hsz] at hcs htake; have hcm' := hcm; unfold maxLen at hcm; have i0 : (0 : Int) ≤ (i : Int) := by omega
 have i1 : (i : Int) ≤ (ds.length : Int) := by omega
 have i2 : (i : Int) + 1 ≤ (ds.length : Int) := by omega
 have i3 : (i : Int) ≤ (i : Int) + 1 := by omega
 have i4 : ((i : Int) == (i : Int) + 1) = false := by rw [beq_eq_false_iff_ne]; omega
 have i5 : (0 : Int) ≤ (i : Int) + 1 := by omega
 have i6 : ((i : Int) + 1).toNat = i + 1 := by omega
 have i7 : (ds.length : Int) ≤ (cap : Int) := by omega
 have i8 : (i : Int) ≤ (cap : Int) := by omega
 have i9 : (i : Int) + 1 ≤ (cap : Int) := by omega
 obtain ⟨CS, hCS⟩ : ∃ CS, css.flatten = CS := ⟨_, rfl⟩; rw [hCS] at htake hfl; have hone : ∀ v ∈ CS, v.oneCell' = true := by rw [← hCS]; exact h2.one
 have hcell0 : ∀ j v, CS[j]? = some v → w.cell? ⟨g, j, none⟩ = some v := fun j v hj => by
  rw [cell_of_row _ _ _ _ _ _ hg]; rw [← htake, List.getElem?_take] at hj
  split at hj
  · rwa [Array.getElem?_toList] at hj
  · cases hj
 have hd7 : (CS.drop ((i + 1) * 7)).length = (ds.length - (i + 1)) * 7 := by rw [List.length_drop, hfl]; omega
 have hcl : cur.toList.length = cap * 7 := by rw [← hcs]; exact Array.length_toList
 obtain ⟨und, ⟨j0, z, hj0, hz, hsize, hby, hzs⟩, hpos⟩ := slChg; have hsize' : j0.size = 7 := hsize; have hgd : w.drew.heap[g]? = some (.cells cur 49 (0, 0)) := hg
 obtain ⟨A0, hA0, hsrc⟩ : ∃ A : Addr, (if cap = i + 1 then (⟨g, 0, none⟩ : Addr) else ⟨g, (i + 1) * 7, none⟩) = A ∧ ∀ j u, (CS.drop ((i + 1) * 7))[j]? = some u → w.drew.cell? (A.add j) = some u := by
  refine ⟨_, rfl, fun j u hu => ?_⟩
  by_cases hcap : cap = i + 1
  · have h0 : (CS.drop ((i + 1) * 7)).length = 0 := by rw [hd7]; omega
    rw [List.length_eq_zero_iff.1 h0] at hu; simp at hu
  · rw [if_neg hcap, Addr.add_lit]
    exact hcell0 _ u (by rwa [List.getElem?_drop] at hu)
 have happ : ∀ ty, (Builtin.append_ #[52, 52] ty #[.slice (some ⟨g, 0, none⟩) i cap, .slice (some A0) (ds.length - (i + 1)) (cap - (i + 1))]).run Tryz.prog w.drew = .ok (.slice (some ⟨g, 0, none⟩) (i + (ds.length - (i + 1))) cap) (w.drew.setRow g (cur.toList.take (i * 7) ++ CS.drop ((i + 1) * 7) ++ cur.toList.drop (i * 7 + (CS.drop ((i + 1) * 7)).length)).toArray) := fun ty => by
  have := Go.run_append_room (P := Tryz.prog) w.drew 52 ty 49 j0 und hj0 g i cap cur hgd A0 (ds.length - (i + 1)) (cap - (i + 1)) (CS.drop ((i + 1) * 7)) (by rw [hsize']; exact hd7) hsrc (fun v hv => hone v (List.mem_of_mem_drop hv)) (by omega) (by rw [hsize', hd7, hcs]; omega); rw [hsize'] at this; exact this
 have hpre : (CS.take (i * 7) ++ CS.drop ((i + 1) * 7)) = (cur.toList.take (i * 7) ++ CS.drop ((i + 1) * 7) ++ cur.toList.drop (i * 7 + (CS.drop ((i + 1) * 7)).length)).take ((ds.length - 1) * 7) := by
  have hX : (cur.toList.take (i * 7) ++ CS.drop ((i + 1) * 7)).length = (ds.length - 1) * 7 := by rw [List.length_append, List.length_take, hd7, hcl]; omega
  have hct : cur.toList.take (i * 7) = CS.take (i * 7) := by rw [← htake, List.take_take, Nat.min_eq_left (by omega)]
  rw [List.take_append, ← hX, List.take_length, Nat.sub_self, List.take_zero, List.append_nil, hct]
 have hl1 : (cur.toList.take (i * 7) ++ CS.drop ((i + 1) * 7) ++ cur.toList.drop (i * 7 + (CS.drop ((i + 1) * 7)).length)).length = cap * 7 := by
  rw [List.length_append, List.length_append, List.length_take, List.length_drop (l := cur.toList), hd7, hcl]
  omega
 obtain ⟨C1, hC1⟩ : ∃ C1, cur.toList.take (i * 7) ++ CS.drop ((i + 1) * 7) ++ cur.toList.drop (i * 7 + (CS.drop ((i + 1) * 7)).length) = C1 := ⟨_, rfl⟩; rw [hC1] at happ hpre hl1; obtain ⟨W1, hW1⟩ : ∃ W1, w.drew.setRow g C1.toArray = W1 := ⟨_, rfl⟩; rw [hW1] at happ; have hg1 : W1.heap[g]? = some (.cells C1.toArray 49 (0, 0)) := by rw [← hW1]; exact setRow_heap _ _ _ _ _ _ hgd
 have hgr1 : w.grownBy W1 (some g) := by rw [← hW1]; exact (grown_drew w _).trans (grown_setRow _ _ _)
 have hzv : ∀ w, (zeroValue 49).run Tryz.prog w = .ok z w := fun w => by
  simp [zeroValue, typeInfo, hj0, hz]
 have hz1 : ∀ v ∈ (Builtin.zeroCells z.cells 1).toList, v.oneCell' = true := by
  have hz0 : z = .agg #[.string ByteArray.empty, .string ByteArray.empty, .string ByteArray.empty, .int .i64 0, .int .i64 0, .slice none 0 0, .int .i64 0] := by
   have h : (Tryz.prog.info? 49).map (fun i => i.zero) = some (some (.agg #[.string ByteArray.empty, .string ByteArray.empty, .string ByteArray.empty, .int .i64 0, .int .i64 0, .slice none 0 0, .int .i64 0])) := by kernel_rfl
   rw [hj0] at h; simp only [Option.map_some, Option.some.injEq] at h; rw [hz] at h; exact Option.some.inj h
  rw [hz0]; exact zero7 1
 have hzl : (Builtin.zeroCells z.cells 1).toList.length = 7 := by simp [Builtin.zeroCells, hzs]
 have hclr : ∀ ty, (Builtin.clear_ #[52] ty #[.slice (some ⟨g, (ds.length - 1) * 7, none⟩) 1 (cap - (ds.length - 1))]).run Tryz.prog W1 = .ok (.tuple #[]) (W1.setCells g ((ds.length - 1) * 7) (Builtin.zeroCells z.cells 1).toList) := fun ty =>
  Po.run_clear_wide W1 52 49 ty z und hzv g ((ds.length - 1) * 7) 1 _ (by omega) (fun j hj => by
   rw [hzl] at hj
   rw [cell_of_row _ _ _ _ _ _ hg1, List.getElem?_toArray, List.getElem?_eq_getElem (by omega)]; rfl) (fun j _ => frozen_of_row _ _ _ _ _ hg1) hz1
 obtain ⟨W2, hW2⟩ : ∃ W2, W1.setCells g ((ds.length - 1) * 7) (Builtin.zeroCells z.cells 1).toList = W2 := ⟨_, rfl⟩; rw [hW2] at hclr; obtain ⟨C2, hg2, hC2l, hC2⟩ := setCells_low (Builtin.zeroCells z.cells 1).toList ((ds.length - 1) * 7) W1 C1.toArray hg1; rw [hW2] at hg2
 have HFIN : InsE w (.slice (some ⟨g, 0, none⟩) ds.length cap) S (ds.take i ++ ds.drop (i + 1)) (.returned (.slice (some ⟨g, 0, none⟩) (ds.length - 1) cap)) W2 := by
  have hoth : ∀ k, k ≠ g → W2.heap[k]? = W1.heap[k]? := fun k hk => by
   rw [← hW2]
   have : ∀ (vs : List Value) (o : Nat) (W : World), (W.setCells g o vs).heap[k]? = W.heap[k]? := fun vs => by
    induction vs with
    | nil => intro o W; rfl
    | cons v r ih => intro o W; rw [World.setCells, ih]; exact Below.heap_setCell _ _ _ _ hk
   exact this _ _ _
  have hgr : w.grownBy W2 (some g) := by
   have hsz2 : W2.heap.size = W1.heap.size := by
    rw [← hW2]
    have : ∀ (vs : List Value) (o : Nat) (W : World), (W.setCells g o vs).heap.size = W.heap.size := fun vs => by
     induction vs with
     | nil => intro o W; rfl
     | cons v r ih => intro o W; rw [World.setCells, ih]; simp
    exact this _ _ _
   have hrest : W2.os = W1.os ∧ W2.tape = W1.tape ∧ W2.output = W1.output := by
    rw [← hW2]
    have : ∀ (vs : List Value) (o : Nat) (W : World), (W.setCells g o vs).os = W.os ∧ (W.setCells g o vs).tape = W.tape ∧ (W.setCells g o vs).output = W.output := fun vs => by
     induction vs with
     | nil => intro o W; exact ⟨rfl, rfl, rfl⟩
     | cons v r ih => intro o W; rw [World.setCells]; have := ih (o + 1) (W.setCell ⟨g, o, none⟩ v); exact ⟨this.1.trans rfl, this.2.1.trans rfl, this.2.2.trans rfl⟩
    exact this _ _ _
   exact ⟨hrest.1.trans hgr1.os, hrest.2.1.trans hgr1.tape, hrest.2.2.trans hgr1.output, by rw [hsz2]; exact hgr1.size, fun k hk hne => (hoth k (fun e => hne (by rw [e]))).trans (hgr1.block k hk hne)⟩
  refine ⟨_, rfl, ?_, hgr⟩; have hall := (h2.take i).append (h2.drop (i + 1)); have hall2 := hall.keep (S' := fun k => (S k ∨ w.heap.size ≤ k ∨ some k = (Value.slice (some ⟨g, 0, none⟩) ds.length cap).ownBlock) ∧ k < W2.heap.size) (fun k hk => ⟨.inl hk, Nat.lt_of_lt_of_le (hS k hk).1 hgr.size⟩) (fun k hk => hgr.block k (hS k hk).1 (hS k hk).2); have hll : (ds.take i ++ ds.drop (i + 1)).length = ds.length - 1 := by rw [List.length_append, List.length_take, List.length_drop]; omega
  have := SlIs.of_block (cap := cap) hg2 (by
   rw [List.flatten_append, flat_take i h2.lens.2, flat_drop (i + 1) h2.lens.2, hCS, hsz, hpre]; refine ⟨C2.toList.drop ((ds.length - 1) * 7), ?_⟩
   have : C1.take ((ds.length - 1) * 7) = C2.toList.take ((ds.length - 1) * 7) := by
    apply List.ext_getElem?
    intro j; rw [List.getElem?_take, List.getElem?_take]
    split
    · rename_i hj
      rw [Array.getElem?_toList (xs := C2), hC2 j hj]; simp
    · rfl
   rw [this, List.take_append_drop]) hall2 ⟨.inr (.inr rfl), lt_of_heap hg2⟩ (by rw [hll]; omega) hcm'
  rw [hll] at this; exact this
 have HF := Lib.hid HFIN; have i10 : i + (ds.length - (i + 1)) = ds.length - 1 := by omega
 rw [i10] at happ; have i11 : ¬ (cap = ds.length - 1) := by omega
 have i12 : ((ds.length - 1 : Nat) : Int) ≤ (ds.length : Int) := by omega
 have i13 : ds.length - (ds.length - 1) = 1 := by omega
 clear HFIN hpre hl1 hC1 hW1 hg1 hgr1 hzv hz1 hzl hW2 hg2 hC2l hC2 h2 h1 htake hone hcell0 hd7 hcl und hj0 hz hsize hby hzs hpos hsize' hgd hsrc hfl hg hcs
 by_cases hcap : cap = i + 1
 · rw [if_pos hcap] at hA0
   subst hA0; subst hcap
   go_enter Tryz.func67, Tryz.ntmps67
   go_wp2_with (fail)
   go_region_law_o (refine step_append_r rfl (.tmp 22) (.tmp 25) 52 52 rfl (by simp [Act.eval, Act.put]; try omega) (by simp [Act.eval, Act.put]; try omega) (fun ty => happ ty) ?_)
   go_wp2; go_ret; exact HF.out
 · rw [if_neg hcap] at hA0
   subst hA0
   go_enter Tryz.func67, Tryz.ntmps67
   go_wp2_with (fail)
   go_region_law_o (refine step_append_r rfl (.tmp 22) (.tmp 25) 52 52 rfl (by simp [Act.eval, Act.put]; try omega) (by simp [Act.eval, Act.put]; try omega) (fun ty => happ ty) ?_)
   go_wp2; go_ret; exact HF.out
end Go.Proofs.YtifcelebfagjbaaGreatDoor
