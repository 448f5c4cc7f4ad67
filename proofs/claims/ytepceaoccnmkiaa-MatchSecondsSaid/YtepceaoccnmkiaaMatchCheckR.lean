/-
  Layer 6 (match): the walk of the reference's Check and price.
-/
import Derived.Test.YtepceaoccnmkiaaMatchCheck
import Derived.Test.YtepceaoccnmkiaaMatchTotP
namespace Go.Proofs.Ytepceaoccnmkiaa
open Go.RowKit Go.Tw Go.Tw.Match

/-- the boxed matrix, and nothing changed below -/
def BoxW (w : World) (vc vr vl : Value) (wr : World) : Prop := wr.heap[w.heap.size]? = some (.cells #[vc, vr, vl] 25 (0, 0)) ∧ Below w.heap.size w wr
theorem BoxW.start (w : World) (vc vr vl : Value) : BoxW w vc vr vl (w.alloc (.cells #[vc, vr, vl] 25)) := ⟨heap_alloc_new _ _, bl_alloc (Below.refl _ _) _⟩
theorem BoxW.drewN {w wr : World} {vc vr vl : Value} (h : BoxW w vc vr vl wr) (n : Nat) : BoxW w vc vr vl (wr.drewN n) := ⟨h.1, bl_drewN h.2 n⟩
theorem BoxW.below {w wr w' : World} {vc vr vl : Value} (h : BoxW w vc vr vl wr) (hb : Below wr.heap.size wr w') : BoxW w vc vr vl w' := ⟨(hb.block _ (lt_of_heap h.1)).trans h.1, bl_trans h.2 hb⟩
set_option maxRecDepth 100000 in
set_option maxHeartbeats 4000000 in
theorem checkR_any (m : Mat) (vc vr vl : Value) (w : World) (h : MatIs w vc vr vl m) :
    Calls Try.prog 15 #[.agg #[vc, vr, vl]] w fun e w' => e = .returned (.int .i64 (chk m)) ∧ Below w.heap.size w w' := by
  obtain ⟨ac, cc, bc, oc, ar, cr, br, or, al, cl, bl, ol, rfl, rfl, rfl, hm⟩ := h.at
  obtain ⟨cc1, cc2, cr1, cr2, cl1, cl2, hcost, hrow, hcol⟩ := hm
  clear h
  have HB := Lib.hid (BoxW.start w (.slice ac m.cost.length cc) (.slice ar m.row.length cr) (.slice al m.col.length cl))
  by_cases h8 : 8 < m.row.length ∨ 8 < m.col.length
  · by_cases h81 : 8 < m.row.length
    · have h82 : (8 : Int) < (m.row.length : Int) := by omega
      go_enter Try.func15, Try.ntmps15
      go_wp2
      go_ret
      exact ⟨ret_int (chk_big h8), HB.out.2⟩
    · have h83 : 8 < m.col.length := by omega
      have h82 : ¬ (8 : Int) < (m.row.length : Int) := by omega
      have h84 : (8 : Int) < (m.col.length : Int) := by omega
      go_enter Try.func15, Try.ntmps15
      go_wp2
      go_ret
      exact ⟨ret_int (chk_big h8), HB.out.2⟩
  have H8 := Lib.hid h8
  have h82 : ¬ (8 : Int) < (m.row.length : Int) := by omega
  have h84 : ¬ (8 : Int) < (m.col.length : Int) := by omega
  clear h8
  by_cases he : m.cost.length = m.row.length
  case neg =>
    have hne : ((m.cost.length : Int) != (m.row.length : Int)) = true := by rw [bne_iff_ne]; omega
    have HN := Lib.hid (bad_len he); clear he
    go_enter Try.func15, Try.ntmps15
    go_wp2
    go_ret
    exact ⟨ret_int (chk_bad H8.out HN.out), HB.out.2⟩
  have hne : ((m.cost.length : Int) != (m.row.length : Int)) = false := by rw [bne_eq_false_iff_eq]; omega
  have HE := Lib.hid he; clear he
  go_enter Try.func15, Try.ntmps15
  go_wp2
  go_loopg [3] m.cost.length (fun g i wr => ∃ k : Nat, k + g = m.cost.length ∧ i = .int .i64 k ∧ RowsTo m k ∧ BoxW w (.slice ac m.cost.length cc) (.slice ar m.row.length cr) (.slice al m.col.length cl) wr)
  case atStart => exact ⟨0, by omega, rfl, RowsTo.zero m, HB.out⟩
  case round =>
    obtain ⟨wo, rfl⟩ : ∃ wo : World, wo = wr := ⟨_, rfl⟩
    obtain ⟨k, hk, rfl, hrt, hbx⟩ := hrel
    have HR := Lib.hid hrt; clear hrt
    clear HB
    have HB := Lib.hid hbx; clear hbx
    obtain ⟨x0, x1, x2, xf⟩ := blk3 HB.out.1
    by_cases hlt : k < m.cost.length
    · obtain ⟨rfl, hbc, a1, c1, b1, o1, hcell, k1, k2, hints⟩ := hcost k hlt
      have hcell0 := hcell _ HB.out.2
      unfold maxLen at k2
      have HCE := Lib.hid hcell
      clear hcell hcost
      have hk1 : (k : Int) < (m.cost.length : Int) := by omega
      have hk0 : (0 : Int) ≤ (k : Int) := by omega
      by_cases hl : m.cost[k].length = m.col.length
      case neg =>
        have hlb : ((m.cost[k].length : Int) != (m.col.length : Int)) = true := by rw [bne_iff_ne]; omega
        have HQ := Lib.hid (bad_row hlt (rowOk_len hl)); clear hl
        go_wp2_with (go_quiet (fail))
        go_ret
        exact ⟨ret_int (chk_bad H8.out HQ.out), bl_drewN HB.out.2 _⟩
      have hlb : ((m.cost[k].length : Int) != (m.col.length : Int)) = false := by rw [bne_eq_false_iff_eq]; omega
      have HL := Lib.hid hl; clear hl
      have hlc : m.cost[k].length ≤ m.col.length ∧ m.col.length ≤ m.cost[k].length := by have := HL.out; omega
      go_wp2_with (go_quiet (fail))
      go_loopg [4] m.col.length (fun g' i' wi => ∃ j : Nat, j + g' = m.col.length ∧ i' = .int .i64 j ∧ AllTo inC m.cost[k] j ∧ BoxW w (.slice (some ⟨bc, oc, none⟩) m.cost.length cc) (.slice ar m.row.length cr) (.slice al m.col.length cl) wi)
      case atStart => exact ⟨0, by omega, rfl, AllTo.zero _ _, HB.out.drewN _⟩
      case round =>
        obtain ⟨j, hj, rfl, ha, hbx⟩ := hrel
        have HA := Lib.hid ha; clear ha
        clear x0 x1 x2 xf HB
        have HB := Lib.hid hbx; clear hbx
        obtain ⟨x0, x1, x2, xf⟩ := blk3 HB.out.1
        have hcell1 := HCE.out _ HB.out.2
        by_cases hjl : j < m.col.length
        · have hjk : j < m.cost[k].length := by omega
          obtain ⟨rfl, hbb, y0, -⟩ := hints _ HB.out.2 j hjk
          have hj1 : (j : Int) < (m.cost[k].length : Int) := by omega
          have hj2 : (j : Int) < (m.col.length : Int) := by omega
          have hj0 : (0 : Int) ≤ (j : Int) := by omega
          by_cases q1 : m.cost[k][j] < -1
          · have HQ := Lib.hid (bad_row hlt (rowOk_at hjk (inC_lo q1)))
            go_wp2
            go_ret
            exact ⟨ret_int (chk_bad H8.out HQ.out), HB.out.2⟩
          · by_cases q2 : 2147483648 < m.cost[k][j]
            · have HQ := Lib.hid (bad_row hlt (rowOk_at hjk (inC_hi q2)))
              go_wp2
              go_ret
              exact ⟨ret_int (chk_bad H8.out HQ.out), HB.out.2⟩
            · have HQ := Lib.hid (inC_in q1 q2)
              go_wp2
              go_roundg (m.col.length - (j + 1))
              case measure => omega
              case rel => exact ⟨j + 1, by omega, by go_num, HA.out.succ hjk HQ.out, HB.out⟩
        · obtain rfl : j = m.col.length := by omega
          have hjd : decide ((m.col.length : Int) < (m.col.length : Int)) = false := by simp
          clear hjl hj
          go_wp2
          go_roundg (m.cost.length - (k + 1))
          case measure => omega
          case rel => exact ⟨k + 1, by omega, by go_num, HR.out.succ hlt (rowOk_of HL.out (fun j hj => HA.out j hj (by omega))), HB.out⟩
    · obtain rfl : k = m.cost.length := by omega
      have hkd : decide ((m.cost.length : Int) < (m.cost.length : Int)) = false := by simp
      clear hlt hk hcost
      go_wp2
      go_loopg [5] (m.row).length (fun g' i' wi => ∃ j : Nat, j + g' = (m.row).length ∧ i' = .int .i64 j ∧ AllTo inN (m.row) j ∧ BoxW w (.slice ac m.cost.length cc) (.slice ar m.row.length cr) (.slice al m.col.length cl) wi)
      case atStart => exact ⟨0, by omega, rfl, AllTo.zero _ _, HB.out⟩
      case round =>
        obtain ⟨j, hj, rfl, ha, hbx⟩ := hrel
        have HA := Lib.hid ha; clear ha
        have HB := Lib.hid hbx; clear hbx
        obtain ⟨x0, x1, x2, xf⟩ := blk3 HB.out.1
        by_cases hjl : j < (m.row).length
        · obtain ⟨rfl, hbb, y0, -⟩ := hrow _ HB.out.2 j hjl
          have hj1 : (j : Int) < ((m.row).length : Int) := by omega
          have hj0 : (0 : Int) ≤ (j : Int) := by omega
          by_cases q1 : (m.row)[j] < 0
          · have HQ := Lib.hid (bad_r hjl (inN_lo q1))
            go_wp2
            go_ret
            exact ⟨ret_int (chk_bad H8.out HQ.out), HB.out.2⟩
          · by_cases q2 : 2147483648 < (m.row)[j]
            · have HQ := Lib.hid (bad_r hjl (inN_hi q2))
              go_wp2
              go_ret
              exact ⟨ret_int (chk_bad H8.out HQ.out), HB.out.2⟩
            · have HQ := Lib.hid (inN_in q1 q2)
              go_wp2
              go_roundg ((m.row).length - (j + 1))
              case measure => omega
              case rel => exact ⟨j + 1, by omega, by go_num, HA.out.succ hjl HQ.out, HB.out⟩
        · obtain rfl : j = (m.row).length := by omega
          have hjd : decide (((m.row).length : Int) < ((m.row).length : Int)) = false := by simp
          clear hjl hj
          go_wp2
          have HRW := HA
          clear HA
          go_loopg [6] (m.col).length (fun g' i' wi => ∃ j : Nat, j + g' = (m.col).length ∧ i' = .int .i64 j ∧ AllTo inN (m.col) j ∧ BoxW w (.slice ac m.cost.length cc) (.slice ar m.row.length cr) (.slice al m.col.length cl) wi)
          case atStart => exact ⟨0, by omega, rfl, AllTo.zero _ _, HB.out⟩
          case round =>
            obtain ⟨j, hj, rfl, ha, hbx⟩ := hrel
            have HA := Lib.hid ha; clear ha
            have HB := Lib.hid hbx; clear hbx
            obtain ⟨x0, x1, x2, xf⟩ := blk3 HB.out.1
            by_cases hjl : j < (m.col).length
            · obtain ⟨rfl, hbb, y0, -⟩ := hcol _ HB.out.2 j hjl
              have hj1 : (j : Int) < ((m.col).length : Int) := by omega
              have hj0 : (0 : Int) ≤ (j : Int) := by omega
              by_cases q1 : (m.col)[j] < 0
              · have HQ := Lib.hid (bad_c hjl (inN_lo q1))
                go_wp2
                go_ret
                exact ⟨ret_int (chk_bad H8.out HQ.out), HB.out.2⟩
              · by_cases q2 : 2147483648 < (m.col)[j]
                · have HQ := Lib.hid (bad_c hjl (inN_hi q2))
                  go_wp2
                  go_ret
                  exact ⟨ret_int (chk_bad H8.out HQ.out), HB.out.2⟩
                · have HQ := Lib.hid (inN_in q1 q2)
                  go_wp2
                  go_roundg ((m.col).length - (j + 1))
                  case measure => omega
                  case rel => exact ⟨j + 1, by omega, by go_num, HA.out.succ hjl HQ.out, HB.out⟩
            · obtain rfl : j = (m.col).length := by omega
              have hjd : decide (((m.col).length : Int) < ((m.col).length : Int)) = false := by simp
              clear hjl hj
              go_wp2
              go_ret
              exact ⟨ret_int (chk_good H8.out (good HE.out (fun k hk => HR.out k hk hk) (fun k hk => HRW.out k hk hk) (fun k hk => HA.out k hk hk))), HB.out.2⟩

/-- the price of a choice -/
theorem price_at {m : Mat} (h : Ok m) {i : Nat} {j : Int} (hi : i < m.row.length) (hj : 0 ≤ j) (hjc : j < m.col.length) : ∃ (h1 : i < m.cost.length) (h2 : j.toNat < m.cost[i].length), price m i j = m.cost[i][j.toNat] := by
  have h1 : i < m.cost.length := by rw [h.rows]; exact hi
  have h2 : j.toNat < m.cost[i].length := by rw [h.cols _ (List.getElem_mem h1)]; omega
  refine ⟨h1, h2, ?_⟩
  unfold price
  rw [if_neg (by omega), List.getD_eq_getElem?_getD, List.getD_eq_getElem?_getD, List.getElem?_eq_getElem h1, Option.getD_some, List.getElem?_eq_getElem h2, Option.getD_some]
theorem price_row {m : Mat} {i : Nat} {j : Int} (hi : i < m.row.length) (hj : j < 0) : price m i j = m.row[i] := by
  unfold price
  rw [if_pos hj, List.getD_eq_getElem?_getD, List.getElem?_eq_getElem hi, Option.getD_some]
set_option maxRecDepth 100000 in
set_option maxHeartbeats 4000000 in
theorem price_any (m : Mat) (hok : Ok m) (vc vr vl : Value) (w : World) (i : Nat) (j : Int) (h : MatIs w vc vr vl m) (hi : i < m.row.length) (hj : -1 ≤ j) (hjc : j < m.col.length) :
    Calls Try.prog 27 #[.agg #[vc, vr, vl], .int .i64 i, .int .i64 j] w fun e w' => e = .returned (.int .i64 (price m i j)) ∧ Below w.heap.size w w' := by
  obtain ⟨ac, cc, bc, oc, ar, cr, br, or, al, cl, bl, ol, rfl, rfl, rfl, hm⟩ := h.at
  obtain ⟨cc1, cc2, cr1, cr2, cl1, cl2, hcost, hrow, hcol⟩ := hm
  clear h
  have HB := Lib.hid (BoxW.start w (.slice ac m.cost.length cc) (.slice ar m.row.length cr) (.slice al m.col.length cl))
  have i0 : (0 : Int) ≤ (i : Int) := by omega
  have i1 : (i : Int) < (m.row.length : Int) := by omega
  by_cases hneg : j < 0
  · have HP := Lib.hid (price_row hi hneg)
    obtain ⟨rfl, hb, x0, -⟩ := hrow _ HB.out.2 i hi
    clear hcost hrow hcol
    go_enter Try.func27, Try.ntmps27
    go_wp2
    go_ret
    exact ⟨ret_int HP.out, HB.out.2⟩
  · obtain ⟨h1, h2, hp⟩ := price_at hok hi (by omega) hjc
    have HP := Lib.hid hp
    obtain ⟨rfl, hbc, a1, c1, b1, o1, hcell, k1, k2, hints⟩ := hcost i h1
    have hcell0 := hcell _ HB.out.2
    obtain ⟨rfl, hb, x0, -⟩ := hints _ HB.out.2 j.toNat h2
    unfold maxLen at k2
    have i2 : (i : Int) < (m.cost.length : Int) := by omega
    have j0 : 0 ≤ j := by omega
    have j1 : j < (m.cost[i].length : Int) := by omega
    clear hcost hrow hcol hcell hints hp
    go_enter Try.func27, Try.ntmps27
    go_wp2
    go_ret
    exact ⟨ret_int HP.out, HB.out.2⟩
end Go.Proofs.Ytepceaoccnmkiaa
