/-
  Layer 6 (match): what a table holds while it is filled; the made rows as a table.
-/
import Derived.Test.YtepceaoccnmkiaaMatchBuildP
namespace Go.Tw.Match
open Go.RowKit
/-- rows of numbers: those behind row i are done, of row i the first k -/
def rowsF (f : Nat → Nat → Int) (n all i k : Nat) : List (List Int) := (List.range (n + 1)).map fun r => (List.range all).map fun q => if i < r ∨ (r = i ∧ q < k) then f r q else 0
theorem rowsF_len (f : Nat → Nat → Int) (n all i k : Nat) : (rowsF f n all i k).length = n + 1 := by simp [rowsF]
theorem rowsF_row (f : Nat → Nat → Int) {n all i k r : Nat} (hr : r < n + 1) : (rowsF f n all i k)[r]? = some ((List.range all).map fun q => if i < r ∨ (r = i ∧ q < k) then f r q else 0) := by
  simp [rowsF, hr]
def rowF (f : Nat → Nat → Int) (all i k r : Nat) : List Int := (List.range all).map fun q => if i < r ∨ (r = i ∧ q < k) then f r q else 0
theorem rowF_len (f : Nat → Nat → Int) (all i k r : Nat) : (rowF f all i k r).length = all := by simp [rowF]
theorem rowF_done (f : Nat → Nat → Int) {all i k r q : Nat} (h : i < r) (hq : q < (rowF f all i k r).length) : (rowF f all i k r)[q] = f r q := by
  simp [rowF, h]
theorem rowF_zero (f : Nat → Nat → Int) {all i k : Nat} (hq : k < (rowF f all i k i).length) : (rowF f all i k i)[k] = 0 := by
  simp [rowF]
theorem rowF_set (f : Nat → Nat → Int) {all i k : Nat} : (rowF f all i k i).set k (f i k) = rowF f all i (k + 1) i := by
  apply List.ext_getElem
  · simp [rowF]
  · intro q h1 h2
    rw [List.getElem_set]
    simp only [rowF, List.getElem_map, List.getElem_range]
    by_cases e : k = q
    · subst e
      rw [if_pos rfl, if_pos (.inr ⟨trivial, by omega⟩)]
    · rw [if_neg e]
      by_cases hq : q < k
      · rw [if_pos (.inr ⟨trivial, hq⟩), if_pos (.inr ⟨trivial, by omega⟩)]
      · rw [if_neg (by omega), if_neg (by omega)]
theorem rowsF_set (f : Nat → Nat → Int) {n all i k : Nat} : (rowsF f n all i k).set i (rowF f all i (k + 1) i) = rowsF f n all i (k + 1) := by
  apply List.ext_getElem
  · simp [rowsF]
  · intro r h1 h2
    rw [List.getElem_set]
    simp only [rowsF, List.getElem_map, List.getElem_range]
    by_cases e : i = r
    · subst e
      rw [if_pos rfl]
      rfl
    · rw [if_neg e]
      congr 1
      funext q
      by_cases hq : i < r
      · rw [if_pos (.inl hq), if_pos (.inl hq)]
      · rw [if_neg (by omega), if_neg (by omega)]
theorem rowsF_next (f : Nat → Nat → Int) {n all i : Nat} : rowsF f n all (i + 1) all = rowsF f n all i 0 := by
  unfold rowsF
  congr 1
  funext r
  apply List.map_congr_left
  intro q hq
  have hq' : q < all := List.mem_range.1 hq
  by_cases h : i < r
  · rw [if_pos (show i + 1 < r ∨ (r = i + 1 ∧ q < all) by omega), if_pos (show i < r ∨ (r = i ∧ q < 0) from .inl h)]
  · rw [if_neg (by omega), if_neg (by omega)]
theorem rowsF_start (f : Nat → Nat → Int) {n all : Nat} : List.replicate (n + 1) (List.replicate all 0) = rowsF f n all n 0 := by
  apply List.ext_getElem
  · simp [rowsF]
  · intro r h1 h2
    have hr : r < n + 1 := by simpa using h1
    simp only [rowsF, List.getElem_map, List.getElem_range, List.getElem_replicate]
    apply List.ext_getElem
    · simp
    · intro q h3 h4
      simp
      omega
/-- what they hold -/
def leastF (m : Mat) (F : List Int) (r q : Nat) : Int := mn (costs m F (m.row.length - r) r q)
def waysF (m : Mat) (F : List Int) (r q : Nat) : Int := tieN (costs m F (m.row.length - r) r q)
theorem leastF_last {m : Mat} (h : Ok m) (F : List Int) (q : Nat) : leastF m F m.row.length q = fin m q := by
  unfold leastF
  rw [Nat.sub_self, costs_zero]
  have := fin_range h q
  unfold mn
  rw [if_pos (.inl (by decide))]
theorem waysF_last {m : Mat} (h : Ok m) (F : List Int) (q : Nat) : waysF m F m.row.length q = 1 := by
  have hl := leastF_last h F q
  unfold leastF at hl
  unfold waysF tieN
  rw [hl, Nat.sub_self, costs_zero]
  simp
end Go.Tw.Match
namespace Go.Proofs.Ytepceaoccnmkiaa
open Go.RowKit Go.Tw Go.Tw.Match
theorem own_vals {e : TypeId} {B : Nat} {w : World} {v : Value} {l : List Value} (h : OwnSl tVal e B w v l) (h0 : 0 < l.length) :
    ∃ g cap, v = .slice (some ⟨g, 0, none⟩) l.length cap ∧ l.length ≤ cap ∧ cap ≤ maxLen ∧ B ≤ g ∧ v.ownBlock = some g ∧ ∀ k (hk : k < l.length), w.cell? ⟨g, k, none⟩ = some l[k] := by
  have hsl := h.sl
  obtain ⟨css, h1, h2⟩ := h
  rcases h1.2 with ⟨rfl, h'⟩ | ⟨g, cap, cur, rfl, hB, hg, h3, h4, _, h6⟩
  · omega
  · refine ⟨g, cap, rfl, h3, h4, hB, rfl, fun k hk => ?_⟩
    obtain ⟨ao, cap', b, off, hv, q1, q2, ho⟩ := hsl.openS
    obtain ⟨r1, -, -, cs, r2, rfl, -⟩ := ho w (SameOn.refl _ _) k hk
    simp only [Value.slice.injEq] at hv
    rw [← hv.1] at r1
    simp only [Option.some.injEq, Addr.mk.injEq, and_true] at r1
    obtain ⟨rfl, rfl⟩ := r1
    have := r2 0 (by show 0 < 1; decide)
    rw [show 0 + k * tVal.sz + 0 = k by show 0 + k * 1 + 0 = k; omega] at this
    exact this
theorem BSt.tab {p : Nat} {vc vr vl vf : Value} {all k : Nat} {vL vW : Value} {bl bw : List Nat} {w : World} (h : BSt p vc vr vl vf all vL vW bl bw w) (hl : bl.length = k) (hw : bw.length = k) (h0 : 0 < k) {B : Nat} (hB : B ≤ p) :
    ∃ gL cL gW cW, Tab B w p vc vr vl vf gL cL gW cW bl bw all (List.replicate k (List.replicate all 0)) (List.replicate k (List.replicate all 0)) := by
  obtain ⟨gL, cL, hvL, l1, l2, l3, l4, l5⟩ := own_vals h.rl.own (by simp; omega)
  obtain ⟨gW, cW, hvW, w1, w2, w3, w4, w5⟩ := own_vals h.rW.own (by simp; omega)
  rw [List.length_map] at hvL l1 hvW w1
  unfold maxLen at l2 w2
  refine ⟨gL, cL, gW, cW, ?_, ?_, ?_, ?_, ?_, by simp; omega, l2, by simp; omega, w2⟩
  · have := h.blk
    rw [hvL, hvW, hl, hw] at this
    simpa using this
  · refine ⟨by simp [hl], fun i hi => ?_, fun i hi h' => ?_, fun l hl => ?_⟩
    · have := l5 i (by simpa using hi)
      simpa [rowV] using this
    · rw [List.getElem_replicate]; exact h.rl.rows _ (List.getElem_mem hi)
    · rw [(List.mem_replicate.1 hl).2]; simp
  · refine ⟨by simp [hw], fun i hi => ?_, fun i hi h' => ?_, fun l hl => ?_⟩
    · have := w5 i (by simpa using hi)
      simpa [rowV] using this
    · rw [List.getElem_replicate]; exact h.rW.rows _ (List.getElem_mem hi)
    · rw [(List.mem_replicate.1 hl).2]; simp
  · simp only [List.nodup_cons, List.mem_cons, List.mem_append, not_or, List.nodup_append]
    refine ⟨⟨by omega, by omega, fun q => by have := h.rl.low p q; omega, fun q => by have := h.rW.low p q; omega⟩, ⟨fun e => ?_, h.rl.out gL l4, (h.sep gL (.inl l4)).2⟩, ⟨fun q => ?_, h.rW.out gW w4⟩, h.rl.nod, h.rW.nod, fun a ha b hb e => ?_⟩
    · exact (h.sep gL (.inl l4)).1 (by rw [e]; exact w4)
    · exact (h.sep gW (.inr q)).1 w4
    · subst e; exact (h.sep a (.inr ha)).2 hb
  · intro b hb
    simp only [List.mem_cons, List.mem_append] at hb
    rcases hb with rfl | rfl | rfl | hb | hb
    · exact hB
    · omega
    · omega
    · have := h.rl.low b hb; omega
    · have := h.rW.low b hb; omega
theorem BoxW.store {w wr : World} {vc vr vl v : Value} {d off : Nat} (h : BoxW w vc vr vl wr) (hd : w.heap.size + 1 ≤ d) : BoxW w vc vr vl (wr.setCell ⟨d, off, none⟩ v) :=
  ⟨(Below.heap_setCell wr ⟨d, off, none⟩ v w.heap.size (by show w.heap.size ≠ d; omega)).trans h.1, bl_set h.2 _ (by show w.heap.size ≤ d; omega)⟩
theorem Tab.mono {B B' : Nat} {w : World} {p : Nat} {vc vr vl vf : Value} {gl cl gw cw : Nat} {bl bw : List Nat} {all : Nat} {Ls Ws : List (List Int)} (h : Tab B w p vc vr vl vf gl cl gw cw bl bw all Ls Ws) (hB : B' ≤ B) : Tab B' w p vc vr vl vf gl cl gw cw bl bw all Ls Ws :=
  { h with low := fun b hb => Nat.le_trans hB (h.low b hb) }
theorem FS.done {B : Nat} {w : World} {p : Nat} {vc vr vl vf : Value} {gl cl gw cw : Nat} {bl bw : List Nat} {all n i q : Nat} {f g : Nat → Nat → Int} {x y : Int}
    (h : FS B w p vc vr vl vf gl cl gw cw bl bw all (rowsF f n all i q) (rowsF g n all i q) (rowF f all i q i) (rowF g all i q i) i q x y) (hx : x = f i q) (hy : y = g i q) : Tab B w p vc vr vl vf gl cl gw cw bl bw all (rowsF f n all i (q + 1)) (rowsF g n all i (q + 1)) := by
  have := h.tab
  subst hx hy
  rw [rowF_set, rowF_set, rowsF_set, rowsF_set] at this
  exact this
end Go.Proofs.Ytepceaoccnmkiaa
