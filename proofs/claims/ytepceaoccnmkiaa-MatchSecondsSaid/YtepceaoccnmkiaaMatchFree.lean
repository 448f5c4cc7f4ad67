/-
  Layer 6 (match): the walks of free and great.
-/
import Derived.Test.YtepceaoccnmkiaaMatchSmall
namespace Go.Tw.Match
open Go.RowKit
def openL (n k : Nat) : List Int := (List.range n).map fun j => if j < k then -2 else 0
theorem openL_len (n k : Nat) : (openL n k).length = n := by simp [openL]
theorem openL_start (n : Nat) : List.replicate n 0 = openL n 0 := by
  apply List.ext_getElem
  · simp [openL]
  · intro k h1 h2; simp [openL]
theorem openL_set {n k : Nat} : (openL n k).set k (-2) = openL n (k + 1) := by
  apply List.ext_getElem
  · simp [openL]
  · intro i h1 h2
    rw [List.getElem_set]
    simp only [openL, List.getElem_map, List.getElem_range]
    by_cases e : k = i
    · subst e; simp
    · rw [if_neg e]
      by_cases q : i < k
      · rw [if_pos q, if_pos (by omega)]
      · rw [if_neg q, if_neg (by omega)]
theorem openL_end (n : Nat) : openL n n = List.replicate n (-2) := by
  apply List.ext_getElem
  · simp [openL]
  · intro i h1 h2
    have : i < n := by simpa [openL] using h1
    simp [openL, this]
end Go.Tw.Match
namespace Go.Proofs.Ytepceaoccnmkiaa
open Go.RowKit Go.Tw Go.Tw.Match
theorem hmakeI (n : Nat) (hn : n ≤ 1000) (w : World) : (Instr.makeSlice 23 (.int .i64 (n : Int)) (.int .i64 (n : Int))).run Try.prog w = .ok (.slice (some ⟨w.heap.size, 0, none⟩) n n) (w.alloc (.cells (madeCells #[.int .i64 0] n) 3)) := by
  obtain ⟨i, hi, hz, hs, hb⟩ := info_parts (show (Try.prog.info? 3).map (fun i => (i.zero, i.size, i.bytes)) = some (some (.int .i64 0), 1, 8) by kernel_rfl)
  have := run_make (P := Try.prog) w 23 3 i (.int .i64 0) Try.underlying23 hi hz .i64 .i64 (n : Int) (n : Int) (by omega) (Int.le_refl _) (by rw [hb]; omega) (by omega)
  rw [this, show ((n : Int)).toNat = n by omega, hs, Nat.mul_one]
  rfl
/-- a list of numbers in a block of its own -/
def NewInts (l : List Int) (B : Nat) (w : World) (e : Ending) : Prop := ∃ g, e = .returned (.slice (some ⟨g, 0, none⟩) l.length l.length) ∧ B ≤ g ∧ Cells w g l
set_option maxHeartbeats 1000000 in
theorem free_any (m : Mat) (vc vr vl : Value) (w : World) (h : MatIs w vc vr vl m) (hn : m.row.length ≤ 8) :
    Calls Try.prog 29 #[.agg #[vc, vr, vl]] w fun e w' => NewInts (List.replicate m.row.length (-2)) w.heap.size w' e ∧ Below w.heap.size w w' := by
  obtain ⟨ac, cc, bc, oc, ar, cr, br, or, al, cl, bl, ol, rfl, rfl, rfl, hm⟩ := h.at
  clear h hm
  have hmk := hmakeI m.row.length (by omega)
  go_enter Try.func29, Try.ntmps29
  go_wp2
  clear hmk
  go_loopg [11] m.row.length (fun g i wr => ∃ k : Nat, k + g = m.row.length ∧ i = .int .i64 k ∧ Cells wr (w.heap.size + 1) (openL m.row.length k) ∧ Below w.heap.size w wr)
  case atStart =>
    refine ⟨0, by omega, rfl, ?_, bl_alloc (bl_alloc (Below.refl _ _) _) _⟩
    rw [← openL_start]
    have := Cells.made (w.alloc (.cells #[.slice ac m.cost.length cc, .slice ar m.row.length cr, .slice al m.col.length cl] 25)) m.row.length 3
    rwa [show (w.alloc (.cells #[.slice ac m.cost.length cc, .slice ar m.row.length cr, .slice al m.col.length cl] 25)).heap.size = w.heap.size + 1 by simp] at this
  case round =>
    obtain ⟨k, hk, rfl, hc, hb⟩ := hrel
    have HB := Lib.hid hb
    by_cases hlt : k < m.row.length
    · have k0 : (0 : Int) ≤ (k : Int) := by omega
      have k1 : (k : Int) < (m.row.length : Int) := by omega
      have y0 := hc.cell (k := k) (by rw [openL_len]; exact hlt)
      have y1 := hc.free k
      have HC := Lib.hid (hc.setR (i := k) (x := -2) openL_set)
      clear hc hb
      go_wp2
      go_roundg (m.row.length - (k + 1))
      case measure => omega
      case rel => exact ⟨k + 1, by omega, by go_num, HC.out, bl_set HB.out _ (by show w.heap.size ≤ w.heap.size + 1; omega)⟩
    · obtain rfl : k = m.row.length := by omega
      rw [openL_end] at hc
      have HR := Lib.hid (show NewInts (List.replicate m.row.length (-2)) w.heap.size wr (.returned (.slice (some ⟨w.heap.size + 1, 0, none⟩) m.row.length m.row.length)) from ⟨w.heap.size + 1, by rw [List.length_replicate], by omega, hc⟩)
      clear hc hb hlt hk
      go_wp2
      go_ret
      exact ⟨HR.out, HB.out⟩
def ABool (e : Ending) : Prop := ∃ b, e = .returned (.bool b)
set_option maxHeartbeats 1000000 in
theorem great_any (m : Mat) (vc vr vl : Value) (w : World) (h : MatIs w vc vr vl m) :
    Calls Try.prog 10 #[.agg #[vc, vr, vl]] w fun e w' => ABool e ∧ Below w.heap.size w w' := by
  obtain ⟨ac, cc, bc, oc, ar, cr, br, or, al, cl, bl, ol, rfl, rfl, rfl, hm⟩ := h.at
  obtain ⟨cc1, cc2, cr1, cr2, cl1, cl2, hcost, hrow, hcol⟩ := hm
  clear h hrow hcol
  have HT := Lib.hid (show ABool (.returned (.bool true)) from ⟨_, rfl⟩)
  have HF := Lib.hid (show ABool (.returned (.bool false)) from ⟨_, rfl⟩)
  have HB := Lib.hid (bl_alloc (Below.refl w.heap.size w) (.cells #[.slice ac m.cost.length cc, .slice ar m.row.length cr, .slice al m.col.length cl] 25))
  by_cases h1 : (20 : Int) < (m.cost.length : Int)
  · go_enter Try.func10, Try.ntmps10
    go_wp2
    go_ret
    exact ⟨HT.out, HB.out⟩
  by_cases h2 : (20 : Int) < (m.row.length : Int)
  · go_enter Try.func10, Try.ntmps10
    go_wp2
    go_ret
    exact ⟨HT.out, HB.out⟩
  by_cases h3 : (20 : Int) < (m.col.length : Int)
  · go_enter Try.func10, Try.ntmps10
    go_wp2
    go_ret
    exact ⟨HT.out, HB.out⟩
  go_enter Try.func10, Try.ntmps10
  go_wp2
  go_loopg [24] m.cost.length (fun g i wr => ∃ k : Nat, k + g = m.cost.length ∧ i = .int .i64 k ∧ wr = w.alloc (.cells #[.slice ac m.cost.length cc, .slice ar m.row.length cr, .slice al m.col.length cl] 25))
  case atStart => exact ⟨0, by omega, rfl, rfl⟩
  case round =>
    obtain ⟨k, hk, rfl, rfl⟩ := hrel
    by_cases hlt : k < m.cost.length
    · obtain ⟨rfl, hbc, a1, c1, b1, o1, hcell, k1, k2, -⟩ := hcost k hlt
      have hcell0 := hcell _ HB.out
      clear hcell hcost
      have hk1 : (k : Int) < (m.cost.length : Int) := by omega
      have hk0 : (0 : Int) ≤ (k : Int) := by omega
      by_cases h20 : (20 : Int) < (m.cost[k].length : Int)
      · go_wp2
        go_ret
        exact ⟨HT.out, HB.out⟩
      · go_wp2
        go_roundg (m.cost.length - (k + 1))
        case measure => omega
        case rel => exact ⟨k + 1, by omega, by go_num, rfl⟩
    · obtain rfl : k = m.cost.length := by omega
      clear hlt hk hcost
      go_wp2
      go_ret
      exact ⟨HF.out, HB.out⟩
end Go.Proofs.Ytepceaoccnmkiaa
