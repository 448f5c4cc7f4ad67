/-
  Layer 6 (match): a table while its rows are made.
-/
import Derived.Test.YtepceaoccnmkiaaMatchFree
import Derived.Test.YtepceaoccnmkiaaMatchFill
namespace Go.Tw
open Go.RowKit
/-- a value of one cell, as it is -/
def tVal : Ty Value where
  sz := 1
  is := fun _ _ cs x => cs = [x] ∧ x.oneCell' = true
  len := fun h => by rw [h.1]; rfl
  keep := fun h _ _ => h
  one := fun h u hu => by rw [h.1] at hu; simp at hu; subst hu; exact h.2
  own := fun F _ cs x => F = [] ∧ cs = [x] ∧ x.oneCell' = true
  own_is := fun h => h.2
  own_keep := fun h _ => h
  own_lt := fun h b hb => by rw [h.1] at hb; cases hb
theorem flatVal : tVal.Flat := fun h => h
end Go.Tw
namespace Go.Proofs.Ytepceaoccnmkiaa
open Go.RowKit Go.Tw Go.Tw.Match
theorem slRow : SlT Try.prog 22 23 1 24 := SlT.of (z := .slice none 0 0) Try.underlying22 (by kernel_rfl) rfl (by decide)
/-- the value of a row in block b -/
def rowV (all : Nat) (b : Nat) : Value := .slice (some ⟨b, 0, none⟩) all all
/-- k rows of zeros: their slice v, their blocks bs -/
structure RSt (B all : Nat) (v : Value) (bs : List Nat) (w : World) : Prop where
  own : OwnSl tVal 23 B w v (bs.map (rowV all))
  rows : ∀ b ∈ bs, Cells w b (List.replicate all 0)
  low : ∀ b ∈ bs, B ≤ b
  nod : bs.Nodup
  out : ∀ g, v.ownBlock = some g → g ∉ bs
theorem RSt.start (B all : Nat) (w : World) : RSt B all (.slice none 0 0) [] w := ⟨OwnSl.nil _ _ _ _, (fun _ h => by cases h), (fun _ h => by cases h), List.nodup_nil, (fun _ _ => by simp)⟩
theorem RSt.below {B all : Nat} {v : Value} {bs : List Nat} {w w' : World} (h : RSt B all v bs w) (hb : Below w.heap.size w w') : RSt B all v bs w' :=
  { h with own := h.own.below hb, rows := fun b hbs => (h.rows b hbs).below hb }
/-- whatever writes outside of it -/
theorem RSt.keep {B all : Nat} {v : Value} {bs : List Nat} {w w' : World} (h : RSt B all v bs w) {row : Option Nat} (hg : w.grownBy w' row) (h1 : v.ownBlock = none ∨ v.ownBlock ≠ row) (h2 : ∀ b ∈ bs, some b ≠ row) : RSt B all v bs w' :=
  { h with
    own := h.own.grown hg h1 (fun css hc => AllIs.flat flatVal hc)
    rows := fun b hbs => by
      obtain ⟨A, t, e1, e2⟩ := h.rows b hbs
      exact ⟨A, t, grown_at hg e1 (h2 b hbs), e2⟩ }
/-- one more row, in block b, behind what the append gave -/
theorem RSt.push {B all b : Nat} {v v' : Value} {bs : List Nat} {w w1 w2 : World} (h : RSt B all v bs w) (hb : Below w.heap.size w w1) (hbn : w.heap.size ≤ b) (hb1 : b < w1.heap.size) (hB : B ≤ w.heap.size) (hc : Cells w1 b (List.replicate all 0))
    (ho : OwnSl tVal 23 B w2 v' (bs.map (rowV all) ++ [rowV all b])) (hg : w1.grownBy w2 v.ownBlock) (hor : v'.ownBlock = v.ownBlock ∨ v'.ownBlock = some w1.heap.size) : RSt B all v' (bs ++ [b]) w2 := by
  have hlt : ∀ c ∈ bs, c < w.heap.size := fun c hcs => (h.rows c hcs).lt
  have hvl : ∀ g, v.ownBlock = some g → g < w.heap.size := fun g e => (h.own.own_lt g e).2
  have hout : ∀ c, c = b ∨ c ∈ bs → some c ≠ v.ownBlock := fun c hc e => by
    rcases hc with rfl | hc
    · have := hvl c e.symm; omega
    · exact h.out c e.symm hc
  refine ⟨by rw [List.map_append]; exact ho, fun c hcs => ?_, fun c hcs => ?_, ?_, fun g e => ?_⟩
  · rcases List.mem_append.1 hcs with q | q
    · obtain ⟨A, t, e1, e2⟩ := (h.rows c q).below hb
      exact ⟨A, t, grown_at hg e1 (hout c (.inr q)), e2⟩
    · rw [List.mem_singleton.1 q]
      obtain ⟨A, t, e1, e2⟩ := hc
      exact ⟨A, t, grown_at hg e1 (hout b (.inl rfl)), e2⟩
  · rcases List.mem_append.1 hcs with q | q
    · exact h.low c q
    · rw [List.mem_singleton.1 q]; omega
  · refine List.nodup_append.2 ⟨h.nod, by simp, fun c hc d hd e => ?_⟩
    rw [List.mem_singleton.1 hd] at e
    have := hlt c hc
    omega
  · intro q
    rcases hor with r | r
    · rw [r] at e
      rcases List.mem_append.1 q with q | q
      · exact h.out g e q
      · rw [List.mem_singleton.1 q] at e
        have := hvl b e; omega
    · rw [r] at e
      injection e with e
      rcases List.mem_append.1 q with q | q
      · have := hlt g q
        have := hb.size
        omega
      · rw [List.mem_singleton.1 q] at e; omega
theorem one_val (w : World) (v : Value) (e : TypeId) (g : Nat) (hg : g = w.heap.size) (hv : v.oneCell' = true) : SlIs tVal (fun k => k = g) (w.alloc (.cells #[v] e)) (.slice (some ⟨g, 0, none⟩) 1 1) [v] := by
  subst hg
  exact SlIs.of_block (css := [[v]]) (l := [v]) (heap_alloc_new _ _) ⟨[], rfl⟩ ⟨⟨rfl, hv⟩, trivial⟩ rfl (by simp) (by decide)
theorem grown_store (w : World) (a : Addr) (u : Value) : w.grownBy (w.setCell a u) (some a.block) :=
  ⟨rfl, rfl, rfl, by simp, fun k _ hne => Below.heap_setCell w a u k (fun e => hne (by rw [e]))⟩
theorem RSt.store {B all p off : Nat} {v u : Value} {bs : List Nat} {w : World} (h : RSt B all v bs w) (hp : p < B) : RSt B all v bs (w.setCell ⟨p, off, none⟩ u) :=
  h.keep (grown_store w ⟨p, off, none⟩ u) (by
    cases e : v.ownBlock with
    | none => exact .inl rfl
    | some g =>
      have := (h.own.own_lt g e).1
      refine .inr fun q => ?_
      injection q with q
      have q' : g = p := q
      omega) (fun b hb q => by
    injection q with q
    have q' : b = p := q
    have := h.low b hb
    omega)
/-- while the rows are made: the table in block p, its two slices of rows -/
structure BSt (p : Nat) (vc vr vl vf : Value) (all : Nat) (vL vW : Value) (bl bw : List Nat) (w : World) : Prop where
  blk : TabB w p vc vr vl vf vL vW
  rl : RSt (p + 1) all vL bl w
  rW : RSt (p + 1) all vW bw w
  sep : ∀ g, (vL.ownBlock = some g ∨ g ∈ bl) → vW.ownBlock ≠ some g ∧ g ∉ bw
theorem BSt.pushL {p : Nat} {vc vr vl vf : Value} {all b : Nat} {vL vL' vW : Value} {bl bw : List Nat} {w w1 w2 : World} (h : BSt p vc vr vl vf all vL vW bl bw w) (hb : Below w.heap.size w w1) (hbn : w.heap.size ≤ b) (hb1 : b < w1.heap.size) (hc : Cells w1 b (List.replicate all 0))
    (ho : OwnSl tVal 23 (p + 1) w2 vL' (bl.map (rowV all) ++ [rowV all b])) (hg : w1.grownBy w2 vL.ownBlock) (hor : vL'.ownBlock = vL.ownBlock ∨ vL'.ownBlock = some w1.heap.size) :
    BSt p vc vr vl vf all vL' vW (bl ++ [b]) bw (w2.setCell ⟨p, 4, none⟩ vL') := by
  have hp := lt_of_heap h.blk
  have hgp : vL.ownBlock ≠ some p := fun e => by have := (h.rl.own.own_lt p e).1; omega
  have hwl : ∀ g, (vW.ownBlock = some g ∨ g ∈ bw) → g < w.heap.size := fun g hg => by
    rcases hg with q | q
    · exact (h.rW.own.own_lt g q).2
    · exact (h.rW.rows g q).lt
  have h1 := (h.rl.push hb hbn hb1 (by omega) hc ho hg hor)
  have h2 := (h.rW.below hb).keep hg (by
      cases e : vW.ownBlock with
      | none => exact .inl rfl
      | some g => exact .inr fun q => (h.sep g (.inl q.symm)).1 e) (fun c hcb e => (h.sep c (.inl e.symm)).2 hcb)
  have hsep : ∀ g, (vL'.ownBlock = some g ∨ g ∈ bl ++ [b]) → (vL.ownBlock = some g ∨ g ∈ bl) ∨ w.heap.size ≤ g := fun g hgg => by
    rcases hgg with q | q
    · rcases hor with r | r
      · exact .inl (.inl (by rw [← r]; exact q))
      · rw [r] at q
        injection q with q
        have := hb.size
        exact .inr (by omega)
    · rcases List.mem_append.1 q with q | q
      · exact .inl (.inr q)
      · rw [List.mem_singleton.1 q]; exact .inr hbn
  refine ⟨?_, h1.store (by omega), h2.store (by omega), fun g hgg => ?_⟩
  · have e2 : w2.heap[p]? = some (.cells #[vc, vr, vl, vf, vL, vW] 57 (0, 0)) := grown_at hg ((hb.block p hp).trans h.blk) (fun q => hgp q.symm)
    exact heap_setCell_same _ _ 4 _ _ vL' e2
  · rcases hsep g hgg with q | q
    · exact h.sep g q
    · refine ⟨fun e => ?_, fun e => ?_⟩
      · have := hwl g (.inl e); omega
      · have := hwl g (.inr e); omega
theorem BSt.pushW {p : Nat} {vc vr vl vf : Value} {all b : Nat} {vL vW vW' : Value} {bl bw : List Nat} {w w1 w2 : World} (h : BSt p vc vr vl vf all vL vW bl bw w) (hb : Below w.heap.size w w1) (hbn : w.heap.size ≤ b) (hb1 : b < w1.heap.size) (hc : Cells w1 b (List.replicate all 0))
    (ho : OwnSl tVal 23 (p + 1) w2 vW' (bw.map (rowV all) ++ [rowV all b])) (hg : w1.grownBy w2 vW.ownBlock) (hor : vW'.ownBlock = vW.ownBlock ∨ vW'.ownBlock = some w1.heap.size) :
    BSt p vc vr vl vf all vL vW' bl (bw ++ [b]) (w2.setCell ⟨p, 5, none⟩ vW') := by
  have hp := lt_of_heap h.blk
  have hgp : vW.ownBlock ≠ some p := fun e => by have := (h.rW.own.own_lt p e).1; omega
  have hll : ∀ g, (vL.ownBlock = some g ∨ g ∈ bl) → g < w.heap.size := fun g hg => by
    rcases hg with q | q
    · exact (h.rl.own.own_lt g q).2
    · exact (h.rl.rows g q).lt
  have h1 := (h.rW.push hb hbn hb1 (by omega) hc ho hg hor)
  have h2 := (h.rl.below hb).keep hg (by
      cases e : vL.ownBlock with
      | none => exact .inl rfl
      | some g => exact .inr fun q => (h.sep g (.inl e)).1 q.symm) (fun c hcb e => (h.sep c (.inr hcb)).1 e.symm)
  refine ⟨?_, h2.store (by omega), h1.store (by omega), fun g hgg => ⟨fun e => ?_, fun e => ?_⟩⟩
  · have e2 : w2.heap[p]? = some (.cells #[vc, vr, vl, vf, vL, vW] 57 (0, 0)) := grown_at hg ((hb.block p hp).trans h.blk) (fun q => hgp q.symm)
    exact heap_setCell_same _ _ 5 _ _ vW' e2
  · have hlg := hll g hgg
    rcases hor with r | r
    · rw [r] at e; exact (h.sep g hgg).1 e
    · rw [r] at e
      injection e with e
      have := hb.size
      omega
  · have hlg := hll g hgg
    rcases List.mem_append.1 e with q | q
    · exact (h.sep g hgg).2 q
    · rw [List.mem_singleton.1 q] at hlg; omega
theorem BSt.blkL {p : Nat} {vc vr vl vf : Value} {all : Nat} {vL vW : Value} {bl bw : List Nat} {w w1 w2 : World} (h : BSt p vc vr vl vf all vL vW bl bw w) (hb : Below w.heap.size w w1) (hg : w1.grownBy w2 vL.ownBlock) : TabB w2 p vc vr vl vf vL vW :=
  grown_at hg ((hb.block p (lt_of_heap h.blk)).trans h.blk) (fun e => by have := (h.rl.own.own_lt p e.symm).1; omega)
theorem BSt.blkW {p : Nat} {vc vr vl vf : Value} {all : Nat} {vL vW : Value} {bl bw : List Nat} {w w1 w2 : World} (h : BSt p vc vr vl vf all vL vW bl bw w) (hb : Below w.heap.size w w1) (hg : w1.grownBy w2 vW.ownBlock) : TabB w2 p vc vr vl vf vL vW :=
  grown_at hg ((hb.block p (lt_of_heap h.blk)).trans h.blk) (fun e => by have := (h.rW.own.own_lt p e.symm).1; omega)
theorem BoxW.pushed {w wr w1 w2 : World} {vc vr vl v : Value} {p off : Nat} {row : Option Nat} (h : BoxW w vc vr vl wr) (hb : Below wr.heap.size wr w1) (hg : w1.grownBy w2 row) (hrow : ∀ k, row = some k → w.heap.size < k) (hp : w.heap.size < p) : BoxW w vc vr vl (w2.setCell ⟨p, off, none⟩ v) := by
  have hs := hb.size
  have hl := lt_of_heap h.1
  have hb2 : Below (w.heap.size + 1) w1 w2 := Below.of_grown hg (by omega) (fun k e => hrow k e)
  have hb3 : Below (w.heap.size + 1) wr w2 := (hb.mono (by omega)).trans hb2
  exact ⟨(Below.heap_setCell _ _ _ _ (by show w.heap.size ≠ p; omega)).trans ((hb3.block _ (by omega)).trans h.1), bl_set (h.2.trans (hb3.mono (by omega))) _ (by show w.heap.size ≤ p; omega)⟩
theorem own_form {α : Type} {T : Ty α} {e : TypeId} {B : Nat} {w : World} {v : Value} {l : List α} (h : OwnSl T e B w v l) : ∃ ao n cap, v = .slice ao n cap := by
  obtain ⟨ao, cap, q, -, -⟩ := h.form
  exact ⟨ao, _, cap, q⟩
end Go.Proofs.Ytepceaoccnmkiaa
