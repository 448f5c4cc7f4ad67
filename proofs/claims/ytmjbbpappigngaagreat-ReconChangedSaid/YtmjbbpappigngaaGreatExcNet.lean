/-
  Layer 42 (agency): the walks of after and of Net's loop.
-/
import Derived.Test.YtmjbbpappigngaaGreatExcNetP
import Derived.Test.YtmjbbpappigngaaGreatExcCopy
import Derived.Test.YtmjbbpappigngaaGreatMap
import Derived.Deep.DeepCutAuto
import Derived.Deep.RegionHeld3
import Derived.WalkMore
import Derived.Outline
namespace Go.Tw.Exc
open Go.RowKit Go.Tw
theorem after_12 {n : Int} {r : Rec} (h : r.k = 1 ∨ r.k = 2) : afterC n r = n + r.c := by unfold afterC; rw [if_pos h]
theorem after_4 {n : Int} {r : Rec} (h : r.k = 4) : afterC n r = n - r.c := by unfold afterC; rw [if_neg (by omega), if_pos h]
theorem after_3 {n : Int} {r : Rec} (h : r.k = 3) : afterC n r = 0 := by unfold afterC; rw [if_neg (by omega), if_neg (by omega), if_pos h]
theorem after_no {n : Int} {r : Rec} (h1 : r.k ≠ 1) (h2 : r.k ≠ 2) (h3 : r.k ≠ 3) (h4 : r.k ≠ 4) : afterC n r = n := by unfold afterC; rw [if_neg (by omega), if_neg (by omega), if_neg (by omega)]
/-- a record's time and amount are set in a slice of the call's own -/
theorem OwnSl.setRec {w : World} {e : TypeId} {B g cap i : Nat} {l : List Rec} {t c : Int} (h : OwnSl tRec e B w (.slice (some ⟨g, 0, none⟩) l.length cap) l) (hi : i < l.length) (ht : i64ok t) (hc : i64ok c) :
    OwnSl tRec e B ((w.setCell ⟨g, i * 5 + 2, none⟩ (.int .i64 t)).setCell ⟨g, i * 5 + 3, none⟩ (.int .i64 c)) (.slice (some ⟨g, 0, none⟩) l.length cap) (l.set i { l[i] with t := t, c := c }) := by
  obtain ⟨css, h1, h2⟩ := h
  have hcss : css = l.map recCells ∧ ∀ r ∈ l, RecOk r := by
    clear h1 hi
    induction l generalizing css with
    | nil => cases css with
      | nil => exact ⟨rfl, fun _ h => by cases h⟩
      | cons _ _ => exact h2.elim
    | cons x l ih => cases css with
      | nil => exact h2.elim
      | cons cs css =>
        obtain ⟨e1, e2⟩ := tRec_is h2.1
        obtain ⟨e3, e4⟩ := ih css h2.2
        exact ⟨by rw [e1, e3]; rfl, fun r hr => by
          rcases List.mem_cons.1 hr with rfl | hr
          · exact e2
          · exact e4 r hr⟩
  obtain ⟨rfl, hok⟩ := hcss
  rcases h1.2 with ⟨q, -⟩ | ⟨g', cap', cur, q, q1, q2, q3, q4, q5, q6⟩
  · cases q
  simp only [Value.slice.injEq, Option.some.injEq, Addr.mk.injEq, and_true, true_and] at q
  obtain ⟨rfl, rfl⟩ := q
  have hlen : ∀ l : List Rec, (l.map recCells).flatten.length = l.length * 5 := fun l => by
    induction l with
    | nil => rfl
    | cons x l ih => rw [List.map_cons, List.flatten_cons, List.length_append, ih, List.length_cons]; show 5 + _ = _; omega
  have hflat : ∀ (l : List Rec) (i : Nat) (hi : i < l.length), ((l.map recCells).flatten.set (i * 5 + 2) (.int .i64 t)).set (i * 5 + 3) (.int .i64 c) = ((l.set i { l[i] with t := t, c := c }).map recCells).flatten := fun l => by
    induction l with
    | nil => exact fun i hi => absurd hi (Nat.not_lt_zero _)
    | cons x l ih =>
      intro i hi
      cases i with
      | zero => rfl
      | succ i =>
        have := ih i (by simpa using hi)
        rw [List.map_cons, List.flatten_cons, List.set_cons_succ, List.map_cons, List.flatten_cons]
        rw [List.set_append_right _ _ (by show 5 ≤ _; omega), List.set_append_right _ _ (by show 5 ≤ _; omega)]
        rw [show (i + 1) * 5 + 2 - (recCells x).length = i * 5 + 2 from by show (i + 1) * 5 + 2 - 5 = _; omega, show (i + 1) * 5 + 3 - (recCells x).length = i * 5 + 3 from by show (i + 1) * 5 + 3 - 5 = _; omega]
        rw [this]
        rfl
  have hall : ∀ l : List Rec, (∀ r ∈ l, RecOk r) → ∀ S w, AllIs tRec S w (l.map recCells) l := fun l => by
    induction l with
    | nil => exact fun _ _ _ => trivial
    | cons x l ih => exact fun h S w => ⟨tRec_mk (h x (by simp)), ih (fun r hr => h r (by simp [hr])) S w⟩
  refine ⟨(l.set i { l[i] with t := t, c := c }).map recCells, ⟨by rw [hlen, List.length_set]; rfl, .inr ⟨g, cap, _, by rw [List.length_set], q1, heap_setCell_same _ _ (i * 5 + 3) _ _ (.int .i64 c) (heap_setCell_same _ _ (i * 5 + 2) _ _ (.int .i64 t) q2), by rw [List.length_set]; exact q3, q4, by simpa using q5, ?_⟩⟩, hall _ (fun r hr => ?_) _ _⟩
  · rw [← hflat l i hi, ← q6, List.length_set]
    simp only [Array.toList_setIfInBounds]
    rw [List.take_set, List.take_set]
  · rcases List.mem_or_eq_of_mem_set hr with hr | e
    · exact hok r hr
    · have := hok _ (List.getElem_mem hi)
      rw [e]
      exact ⟨this.k, this.key, ht, hc, this.y⟩
end Go.Tw.Exc
namespace Go.Proofs.YtmjbbpappigngaaGreat
open Go.RowKit Go.Tw Go.Tw.Exc
set_option maxHeartbeats 1000000 in
theorem after_any (n : Int) (r : Rec) (w : World) (h1 : -4611686018427387904 ≤ n) (h2 : n ≤ 4611686018427387904) (h3 : -1125899906842624 ≤ r.c) (h4 : r.c ≤ 1125899906842624) :
    Calls Tryz.prog 74 #[.int .i64 n, .agg #[.int .i64 r.k, .string r.key, .int .i64 r.t, .int .i64 r.c, .int .i64 r.y]] w fun e w' => e = .returned (.int .i64 (afterC n r)) ∧ Below w.heap.size w w' := by
  have hw1 : IntKind.i64.wrap (n + r.c) = n + r.c := wrap_in (by omega) (by omega)
  have hw2 : IntKind.i64.wrap (n - r.c) = n - r.c := wrap_in (by omega) (by omega)
  by_cases k1 : r.k = 1
  · have HA := Lib.hid (after_12 (n := n) (r := r) (.inl k1))
    have q1 : (r.k == 1) = true := by simpa using k1
    clear k1
    go_enter Tryz.func74, Tryz.ntmps74
    go_wp2
    go_ret
    exact ⟨ret_int HA.out, bl_alloc (Below.refl _ _) _⟩
  have q1 : (r.k == 1) = false := by simpa using k1
  by_cases k2 : r.k = 2
  · have HA := Lib.hid (after_12 (n := n) (r := r) (.inr k2))
    have q2 : (r.k == 2) = true := by simpa using k2
    clear k1 k2
    go_enter Tryz.func74, Tryz.ntmps74
    go_wp2
    go_ret
    exact ⟨ret_int HA.out, bl_alloc (Below.refl _ _) _⟩
  have q2 : (r.k == 2) = false := by simpa using k2
  by_cases k4 : r.k = 4
  · have HA := Lib.hid (after_4 (n := n) (r := r) k4)
    have q4 : (r.k == 4) = true := by simpa using k4
    clear k1 k2 k4
    go_enter Tryz.func74, Tryz.ntmps74
    go_wp2
    go_ret
    exact ⟨ret_int HA.out, bl_alloc (Below.refl _ _) _⟩
  have q4 : (r.k == 4) = false := by simpa using k4
  by_cases k3 : r.k = 3
  · have HA := Lib.hid (after_3 (n := n) (r := r) k3)
    have q3 : (r.k == 3) = true := by simpa using k3
    clear k1 k2 k3 k4
    go_enter Tryz.func74, Tryz.ntmps74
    go_wp2
    go_ret
    exact ⟨ret_int HA.out, bl_alloc (Below.refl _ _) _⟩
  have q3 : (r.k == 3) = false := by simpa using k3
  have HA := Lib.hid (after_no (n := n) (r := r) k1 k2 k3 k4)
  clear k1 k2 k3 k4
  go_enter Tryz.func74, Tryz.ntmps74
  go_wp2
  go_ret
  exact ⟨ret_int HA.out, bl_alloc (Below.refl _ _) _⟩
end Go.Proofs.YtmjbbpappigngaaGreat
