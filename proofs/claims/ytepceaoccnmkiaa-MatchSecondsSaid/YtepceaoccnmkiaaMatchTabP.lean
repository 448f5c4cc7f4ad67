/-
  Layer 6 (match): a table in memory: two slices of rows of numbers.
-/
import Derived.Test.YtepceaoccnmkiaaMatchTab
namespace Go.Tw.Match
open Go.RowKit Go.Tw

theorem nodup_inj {l : List Nat} (h : l.Nodup) {i j : Nat} (hi : i < l.length) (hj : j < l.length) (e : l[i] = l[j]) : i = j := by
  have hp := List.pairwise_iff_getElem.1 h
  rcases Nat.lt_trichotomy i j with q | q | q
  · exact absurd e (hp i j hi hj q)
  · exact q
  · exact absurd e.symm (hp j i hj hi q)
/-- the rows Ls, each in its block, their slices in block g -/
structure Rows2 (w : World) (g : Nat) (bs : List Nat) (all : Nat) (Ls : List (List Int)) : Prop where
  len : bs.length = Ls.length
  outer : ∀ i (h : i < bs.length), w.cell? ⟨g, i, none⟩ = some (.slice (some ⟨bs[i], 0, none⟩) all all)
  row : ∀ i (h : i < bs.length) (h' : i < Ls.length), Cells w bs[i] Ls[i]
  rl : ∀ l ∈ Ls, l.length = all
theorem Rows2.keep {w w' : World} {g : Nat} {bs : List Nat} {all : Nat} {Ls : List (List Int)} (h : Rows2 w g bs all Ls) (hg : w'.heap[g]? = w.heap[g]?) (hb : ∀ b ∈ bs, w'.heap[b]? = w.heap[b]?) : Rows2 w' g bs all Ls where
  len := h.len
  outer := fun i hi => by
    rw [← h.outer i hi]
    simp only [World.cell?, hg]
  row := fun i hi h' => (h.row i hi h').keep (hb _ (List.getElem_mem hi))
  rl := h.rl
theorem Rows2.set {w : World} {g : Nat} {bs : List Nat} {all : Nat} {Ls : List (List Int)} (h : Rows2 w g bs all Ls) (nd : bs.Nodup) (hg : g ∉ bs) {i : Nat} (hi : i < bs.length) (hi' : i < Ls.length) (k : Nat) (x : Int) :
    Rows2 (w.setCell ⟨bs[i], k, none⟩ (.int .i64 x)) g bs all (Ls.set i (Ls[i].set k x)) where
  len := by rw [List.length_set]; exact h.len
  outer := fun j hj => by
    rw [← h.outer j hj]
    have := Below.heap_setCell w ⟨bs[i], k, none⟩ (.int .i64 x) g (fun (e : g = bs[i]) => hg (by rw [e]; exact List.getElem_mem hi))
    simp only [World.cell?, this]
  row := fun j hj hj' => by
    rw [List.getElem_set]
    have hjl : j < Ls.length := by rw [← h.len]; exact hj
    by_cases e : i = j
    · subst e
      rw [if_pos rfl]
      exact (h.row i hi hi').set k x
    · rw [if_neg e]
      exact (h.row j hj hjl).other (fun (q : bs[i] = bs[j]) => e (nodup_inj nd hi hj q)) _
  rl := fun l hl => by
    rcases List.mem_or_eq_of_mem_set hl with q | rfl
    · exact h.rl l q
    · rw [List.length_set]; exact h.rl _ (List.getElem_mem hi')
theorem Rows2.other {w : World} {g : Nat} {bs : List Nat} {all : Nat} {Ls : List (List Int)} (h : Rows2 w g bs all Ls) {a : Addr} (ha : a.block ≠ g) (hb : a.block ∉ bs) (v : Value) : Rows2 (w.setCell a v) g bs all Ls :=
  h.keep (Below.heap_setCell _ _ _ _ (fun e => ha e.symm)) (fun b hbb => Below.heap_setCell _ _ _ _ (fun e => hb (e ▸ hbb)))
end Go.Tw.Match
namespace Go.Proofs.Ytepceaoccnmkiaa
open Go.RowKit Go.Tw Go.Tw.Match
/-- a table of the call's own, made from block B on -/
structure Tab (B : Nat) (w : World) (p : Nat) (vc vr vl vf : Value) (gl cl gw cw : Nat) (bl bw : List Nat) (all : Nat) (Ls Ws : List (List Int)) : Prop where
  blk : TabB w p vc vr vl vf (.slice (some ⟨gl, 0, none⟩) Ls.length cl) (.slice (some ⟨gw, 0, none⟩) Ws.length cw)
  least : Rows2 w gl bl all Ls
  ways : Rows2 w gw bw all Ws
  nod : (p :: gl :: gw :: (bl ++ bw)).Nodup
  low : ∀ b ∈ p :: gl :: gw :: (bl ++ bw), B ≤ b
  hcl : Ls.length ≤ cl
  hcl2 : cl ≤ 9223372036854775807
  hcw : Ws.length ≤ cw
  hcw2 : cw ≤ 9223372036854775807
theorem Tab.keep {B : Nat} {w w' : World} {p : Nat} {vc vr vl vf : Value} {gl cl gw cw : Nat} {bl bw : List Nat} {all : Nat} {Ls Ws : List (List Int)} (h : Tab B w p vc vr vl vf gl cl gw cw bl bw all Ls Ws) (hk : ∀ b ∈ p :: gl :: gw :: (bl ++ bw), w'.heap[b]? = w.heap[b]?) : Tab B w' p vc vr vl vf gl cl gw cw bl bw all Ls Ws :=
  { h with
    blk := (hk p (by simp)).trans h.blk
    least := h.least.keep (hk gl (by simp)) (fun b hb => hk b (by simp [hb]))
    ways := h.ways.keep (hk gw (by simp)) (fun b hb => hk b (by simp [hb])) }
theorem Tab.lt {B : Nat} {w : World} {p : Nat} {vc vr vl vf : Value} {gl cl gw cw : Nat} {bl bw : List Nat} {all : Nat} {Ls Ws : List (List Int)} (h : Tab B w p vc vr vl vf gl cl gw cw bl bw all Ls Ws) (h0 : 0 < Ls.length) (h1 : 0 < Ws.length) : ∀ b ∈ p :: gl :: gw :: (bl ++ bw), b < w.heap.size := by
  intro b hb
  simp only [List.mem_cons, List.mem_append] at hb
  rcases hb with rfl | rfl | rfl | hb | hb
  · exact lt_of_heap h.blk
  · exact lt_of_cell (h.least.outer 0 (by rw [h.least.len]; exact h0))
  · exact lt_of_cell (h.ways.outer 0 (by rw [h.ways.len]; exact h1))
  · obtain ⟨i, hi, rfl⟩ := List.getElem_of_mem hb
    exact (h.least.row i hi (by rw [← h.least.len]; exact hi)).lt
  · obtain ⟨i, hi, rfl⟩ := List.getElem_of_mem hb
    exact (h.ways.row i hi (by rw [← h.ways.len]; exact hi)).lt
theorem Tab.below {B : Nat} {w w' : World} {p : Nat} {vc vr vl vf : Value} {gl cl gw cw : Nat} {bl bw : List Nat} {all : Nat} {Ls Ws : List (List Int)} (h : Tab B w p vc vr vl vf gl cl gw cw bl bw all Ls Ws) (h0 : 0 < Ls.length) (h1 : 0 < Ws.length) (hb : Below w.heap.size w w') : Tab B w' p vc vr vl vf gl cl gw cw bl bw all Ls Ws :=
  h.keep (fun b hbb => hb.block b (h.lt h0 h1 b hbb))
theorem Tab.setL {B : Nat} {w : World} {p : Nat} {vc vr vl vf : Value} {gl cl gw cw : Nat} {bl bw : List Nat} {all : Nat} {Ls Ws : List (List Int)} (h : Tab B w p vc vr vl vf gl cl gw cw bl bw all Ls Ws) {i : Nat} (hi : i < bl.length) (hi' : i < Ls.length) (k : Nat) (x : Int) :
    Tab B (w.setCell ⟨bl[i], k, none⟩ (.int .i64 x)) p vc vr vl vf gl cl gw cw bl bw all (Ls.set i (Ls[i].set k x)) Ws := by
  have nd := h.nod
  simp only [List.nodup_cons, List.mem_cons, List.mem_append, not_or, List.nodup_append] at nd
  obtain ⟨⟨n1, n2, n3, n4⟩, ⟨n5, n6, n7⟩, ⟨n8, n9⟩, n10, n11, n12⟩ := nd
  have hm := List.getElem_mem hi
  refine { h with blk := ?_, least := h.least.set n10 n6 hi hi' k x, ways := h.ways.other (fun e => n8 (e ▸ hm)) (fun e => n12 _ hm _ e rfl) _, hcl := by rw [List.length_set]; exact h.hcl }
  rw [List.length_set]
  exact (Below.heap_setCell w ⟨bl[i], k, none⟩ _ p (fun (e : p = bl[i]) => n3 (by rw [e]; exact hm))).trans h.blk
theorem Tab.setW {B : Nat} {w : World} {p : Nat} {vc vr vl vf : Value} {gl cl gw cw : Nat} {bl bw : List Nat} {all : Nat} {Ls Ws : List (List Int)} (h : Tab B w p vc vr vl vf gl cl gw cw bl bw all Ls Ws) {i : Nat} (hi : i < bw.length) (hi' : i < Ws.length) (k : Nat) (x : Int) :
    Tab B (w.setCell ⟨bw[i], k, none⟩ (.int .i64 x)) p vc vr vl vf gl cl gw cw bl bw all Ls (Ws.set i (Ws[i].set k x)) := by
  have nd := h.nod
  simp only [List.nodup_cons, List.mem_cons, List.mem_append, not_or, List.nodup_append] at nd
  obtain ⟨⟨n1, n2, n3, n4⟩, ⟨n5, n6, n7⟩, ⟨n8, n9⟩, n10, n11, n12⟩ := nd
  have hm := List.getElem_mem hi
  refine { h with blk := ?_, ways := h.ways.set n11 n9 hi hi' k x, least := h.least.other (fun e => n7 (e ▸ hm)) (fun e => n12 _ e _ hm rfl) _, hcw := by rw [List.length_set]; exact h.hcw }
  rw [List.length_set]
  exact (Below.heap_setCell w ⟨bw[i], k, none⟩ _ p (fun (e : p = bw[i]) => n4 (by rw [e]; exact hm))).trans h.blk
end Go.Proofs.Ytepceaoccnmkiaa
