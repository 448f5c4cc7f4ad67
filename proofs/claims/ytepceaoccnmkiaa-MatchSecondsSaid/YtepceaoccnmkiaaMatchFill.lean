/-
  Layer 6 (match): the walk of fill: one element of a table.
-/
import Derived.Test.YtepceaoccnmkiaaMatchTabP
import Derived.StillTailTactics
namespace Go.Proofs.Ytepceaoccnmkiaa
open Go.RowKit Go.Tw Go.Tw.Match

theorem keep_cell {w : World} {a b : Addr} {v u : Value} (h : w.cell? b = some u) (hne : b.block ≠ a.block) : (w.setCell a v).drew.cell? b = some u := by
  have := Below.heap_setCell w a v b.block hne
  rw [← h]
  show (w.setCell a v).cell? b = w.cell? b
  simp only [World.cell?, this]
theorem keep_cell2 {w : World} {a a' b : Addr} {v v' u : Value} (h : w.cell? b = some u) (hne : b.block ≠ a.block) (hne' : b.block ≠ a'.block) : ((w.setCell a v).setCell a' v').drew.cell? b = some u :=
  keep_cell (w := w.setCell a v) (keep_cell (v := v) h hne) hne'
/-- a table of which one element is being filled -/
structure FS (B : Nat) (w : World) (p : Nat) (vc vr vl vf : Value) (gl cl gw cw : Nat) (bl bw : List Nat) (all : Nat) (Ls Ws : List (List Int)) (L0 W0 : List Int) (i mask : Nat) (x y : Int) : Prop where
  tab : Tab B w p vc vr vl vf gl cl gw cw bl bw all (Ls.set i (L0.set mask x)) (Ws.set i (W0.set mask y))
section
variable {B : Nat} {w w' : World} {p : Nat} {vc vr vl vf : Value} {gl cl gw cw : Nat} {bl bw : List Nat} {all : Nat} {Ls Ws : List (List Int)} {L0 W0 L1 W1 : List Int} {i mask b0 b1 d0 d1 : Nat} {x y z : Int}
theorem FS.below (h : FS B w p vc vr vl vf gl cl gw cw bl bw all Ls Ws L0 W0 i mask x y) (hL : i < Ls.length) (hW : i < Ws.length) (hb : Below w.heap.size w w') : FS B w' p vc vr vl vf gl cl gw cw bl bw all Ls Ws L0 W0 i mask x y :=
  ⟨h.tab.below (by rw [List.length_set]; omega) (by rw [List.length_set]; omega) hb⟩
theorem FS.drewN (h : FS B w p vc vr vl vf gl cl gw cw bl bw all Ls Ws L0 W0 i mask x y) (n : Nat) : FS B (w.drewN n) p vc vr vl vf gl cl gw cw bl bw all Ls Ws L0 W0 i mask x y := ⟨h.tab.keep (fun _ _ => rfl)⟩
theorem FS.drew (h : FS B w p vc vr vl vf gl cl gw cw bl bw all Ls Ws L0 W0 i mask x y) : FS B w.drew p vc vr vl vf gl cl gw cw bl bw all Ls Ws L0 W0 i mask x y := ⟨h.tab.keep (fun _ _ => rfl)⟩
theorem FS.blk (h : FS B w p vc vr vl vf gl cl gw cw bl bw all Ls Ws L0 W0 i mask x y) : TabB w p vc vr vl vf (.slice (some ⟨gl, 0, none⟩) Ls.length cl) (.slice (some ⟨gw, 0, none⟩) Ws.length cw) := by
  have := h.tab.blk
  rwa [List.length_set, List.length_set] at this
theorem FS.cellsL (h : FS B w p vc vr vl vf gl cl gw cw bl bw all Ls Ws L0 W0 i mask x y) (hL0 : Ls[i]? = some L0) (hb0 : bl[i]? = some b0) (hm : mask < L0.length) :
    w.cell? ⟨gl, i, none⟩ = some (.slice (some ⟨b0, 0, none⟩) all all) ∧ w.cell? ⟨b0, mask, none⟩ = some (.int .i64 x) ∧ w.frozen? ⟨b0, mask, none⟩ = false := by
  obtain ⟨hi, e⟩ := List.getElem?_eq_some_iff.1 hb0
  obtain ⟨hl, e2⟩ := List.getElem?_eq_some_iff.1 hL0
  have h1 := h.tab.least.outer i hi
  have h2 := h.tab.least.row i hi (by rw [List.length_set]; exact hl)
  rw [e] at h1 h2
  rw [List.getElem_set_self] at h2
  have h3 := h2.cell (k := mask) (by rw [List.length_set]; exact hm)
  rw [List.getElem_set_self] at h3
  exact ⟨h1, h3, h2.free mask⟩
theorem FS.cellsW (h : FS B w p vc vr vl vf gl cl gw cw bl bw all Ls Ws L0 W0 i mask x y) (hW0 : Ws[i]? = some W0) (hd0 : bw[i]? = some d0) (hm : mask < W0.length) :
    w.cell? ⟨gw, i, none⟩ = some (.slice (some ⟨d0, 0, none⟩) all all) ∧ w.cell? ⟨d0, mask, none⟩ = some (.int .i64 y) ∧ w.frozen? ⟨d0, mask, none⟩ = false := by
  obtain ⟨hi, e⟩ := List.getElem?_eq_some_iff.1 hd0
  obtain ⟨hl, e2⟩ := List.getElem?_eq_some_iff.1 hW0
  have h1 := h.tab.ways.outer i hi
  have h2 := h.tab.ways.row i hi (by rw [List.length_set]; exact hl)
  rw [e] at h1 h2
  rw [List.getElem_set_self] at h2
  have h3 := h2.cell (k := mask) (by rw [List.length_set]; exact hm)
  rw [List.getElem_set_self] at h3
  exact ⟨h1, h3, h2.free mask⟩
theorem FS.nextL (h : FS B w p vc vr vl vf gl cl gw cw bl bw all Ls Ws L0 W0 i mask x y) (hL1 : Ls[i + 1]? = some L1) (hb1 : bl[i + 1]? = some b1) {q : Nat} (hq : q < L1.length) :
    w.cell? ⟨gl, i + 1, none⟩ = some (.slice (some ⟨b1, 0, none⟩) all all) ∧ w.cell? ⟨b1, q, none⟩ = some (.int .i64 L1[q]) := by
  obtain ⟨hi, e⟩ := List.getElem?_eq_some_iff.1 hb1
  obtain ⟨hl, e2⟩ := List.getElem?_eq_some_iff.1 hL1
  have h1 := h.tab.least.outer (i + 1) hi
  have h2 := h.tab.least.row (i + 1) hi (by rw [List.length_set]; exact hl)
  rw [e] at h1 h2
  rw [List.getElem_set_ne (by omega), e2] at h2
  exact ⟨h1, h2.cell hq⟩
theorem FS.nextW (h : FS B w p vc vr vl vf gl cl gw cw bl bw all Ls Ws L0 W0 i mask x y) (hW1 : Ws[i + 1]? = some W1) (hd1 : bw[i + 1]? = some d1) {q : Nat} (hq : q < W1.length) :
    w.cell? ⟨gw, i + 1, none⟩ = some (.slice (some ⟨d1, 0, none⟩) all all) ∧ w.cell? ⟨d1, q, none⟩ = some (.int .i64 W1[q]) := by
  obtain ⟨hi, e⟩ := List.getElem?_eq_some_iff.1 hd1
  obtain ⟨hl, e2⟩ := List.getElem?_eq_some_iff.1 hW1
  have h1 := h.tab.ways.outer (i + 1) hi
  have h2 := h.tab.ways.row (i + 1) hi (by rw [List.length_set]; exact hl)
  rw [e] at h1 h2
  rw [List.getElem_set_ne (by omega), e2] at h2
  exact ⟨h1, h2.cell hq⟩
theorem FS.storeL (h : FS B w p vc vr vl vf gl cl gw cw bl bw all Ls Ws L0 W0 i mask x y) (hL0 : Ls[i]? = some L0) (hb0 : bl[i]? = some b0) (z : Int) : FS B (w.setCell ⟨b0, mask, none⟩ (.int .i64 z)) p vc vr vl vf gl cl gw cw bl bw all Ls Ws L0 W0 i mask z y := by
  obtain ⟨hi, e⟩ := List.getElem?_eq_some_iff.1 hb0
  obtain ⟨hl, e2⟩ := List.getElem?_eq_some_iff.1 hL0
  have := h.tab.setL hi (by rw [List.length_set]; exact hl) mask z
  rw [e, List.getElem_set_self, List.set_set, List.set_set] at this
  exact ⟨this⟩
theorem FS.storeW (h : FS B w p vc vr vl vf gl cl gw cw bl bw all Ls Ws L0 W0 i mask x y) (hW0 : Ws[i]? = some W0) (hd0 : bw[i]? = some d0) (z : Int) : FS B (w.setCell ⟨d0, mask, none⟩ (.int .i64 z)) p vc vr vl vf gl cl gw cw bl bw all Ls Ws L0 W0 i mask x z := by
  obtain ⟨hi, e⟩ := List.getElem?_eq_some_iff.1 hd0
  obtain ⟨hl, e2⟩ := List.getElem?_eq_some_iff.1 hW0
  have := h.tab.setW hi (by rw [List.length_set]; exact hl) mask z
  rw [e, List.getElem_set_self, List.set_set, List.set_set] at this
  exact ⟨this⟩
theorem FS.start (h : Tab B w p vc vr vl vf gl cl gw cw bl bw all Ls Ws) (hL0 : Ls[i]? = some L0) (hW0 : Ws[i]? = some W0) (hL : mask < L0.length) (hW : mask < W0.length) : FS B w p vc vr vl vf gl cl gw cw bl bw all Ls Ws L0 W0 i mask L0[mask] W0[mask] := by
  obtain ⟨hl, e2⟩ := List.getElem?_eq_some_iff.1 hL0
  obtain ⟨hw, e3⟩ := List.getElem?_eq_some_iff.1 hW0
  refine ⟨?_⟩
  rw [List.set_getElem_self, List.set_getElem_self, ← e2, ← e3, List.set_getElem_self, List.set_getElem_self]
  exact h
theorem FS.apart (h : FS B w p vc vr vl vf gl cl gw cw bl bw all Ls Ws L0 W0 i mask x y) (hb0 : bl[i]? = some b0) (hd0 : bw[i]? = some d0) (hd1 : bw[i + 1]? = some d1) :
    p ≠ b0 ∧ gl ≠ b0 ∧ gw ≠ b0 ∧ d0 ≠ b0 ∧ d1 ≠ b0 ∧ p ≠ d0 ∧ gl ≠ d0 ∧ gw ≠ d0 ∧ d1 ≠ d0 := by
  have nd := h.tab.nod
  simp only [List.nodup_cons, List.mem_cons, List.mem_append, not_or, List.nodup_append] at nd
  obtain ⟨⟨n1, n2, n3, n4⟩, ⟨n5, n6, n7⟩, ⟨n8, n9⟩, n10, n11, n12⟩ := nd
  have m0 := List.mem_of_getElem? hb0
  have m1 := List.mem_of_getElem? hd0
  have m2 := List.mem_of_getElem? hd1
  refine ⟨fun e => n3 (e ▸ m0), fun e => n6 (e ▸ m0), fun e => n8 (e ▸ m0), fun e => n12 _ m0 _ m1 e.symm, fun e => n12 _ m0 _ m2 e.symm, fun e => n4 (e ▸ m1), fun e => n7 (e ▸ m1), fun e => n9 (e ▸ m1), fun e => ?_⟩
  obtain ⟨hi, q⟩ := List.getElem?_eq_some_iff.1 hd0
  obtain ⟨hi2, q2⟩ := List.getElem?_eq_some_iff.1 hd1
  have := nodup_inj n11 hi2 hi (by rw [q, q2]; exact e)
  omega
end
end Go.Proofs.Ytepceaoccnmkiaa
