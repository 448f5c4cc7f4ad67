/-
  Layer 6 (match): the walks of Check and of the reference's Check.
-/
import Derived.Test.YtepceaoccnmkiaaProg
import Derived.Test.YtepceaoccnmkiaaMatchRep
namespace Go.Proofs.Ytepceaoccnmkiaa
open Go.RowKit Go.Tw Go.Tw.Match

/-- all so far -/
def AllTo (p : Int → Bool) (l : List Int) (k : Nat) : Prop := ∀ j (hj : j < l.length), j < k → p l[j] = true
def RowsTo (m : Mat) (k : Nat) : Prop := ∀ j (hj : j < m.cost.length), j < k → rowOk m.col.length m.cost[j] = true
theorem AllTo.zero (p : Int → Bool) (l : List Int) : AllTo p l 0 := fun _ _ h => absurd h (Nat.not_lt_zero _)
theorem AllTo.succ {p : Int → Bool} {l : List Int} {k : Nat} (h : AllTo p l k) (hk : k < l.length) (hp : p l[k] = true) : AllTo p l (k + 1) := fun j hj hjk => by
  rcases Nat.lt_or_ge j k with q | q
  · exact h j hj q
  · obtain rfl : j = k := by omega
    exact hp
theorem RowsTo.zero (m : Mat) : RowsTo m 0 := fun _ _ h => absurd h (Nat.not_lt_zero _)
theorem RowsTo.succ {m : Mat} {k : Nat} (h : RowsTo m k) (hk : k < m.cost.length) (hp : rowOk m.col.length m.cost[k] = true) : RowsTo m (k + 1) := fun j hj hjk => by
  rcases Nat.lt_or_ge j k with q | q
  · exact h j hj q
  · obtain rfl : j = k := by omega
    exact hp

set_option maxRecDepth 100000 in
set_option maxHeartbeats 4000000 in
theorem check_any (m : Mat) (vc vr vl : Value) (w : World) (h : MatIs w vc vr vl m) :
    Calls Try.prog 14 #[.agg #[vc, vr, vl]] w fun e w' => e = .returned (.int .i64 (chk m)) ∧ Below w.heap.size w w' := by
  obtain ⟨ac, cc, bc, oc, ar, cr, br, or, al, cl, bl, ol, rfl, rfl, rfl, hm⟩ := h.at
  obtain ⟨cc1, cc2, cr1, cr2, cl1, cl2, hcost, hrow, hcol⟩ := hm
  clear h
  by_cases h8 : 8 < m.row.length ∨ 8 < m.col.length
  · have hB : Below w.heap.size w (w.alloc (.cells #[.slice ac m.cost.length cc, .slice ar m.row.length cr, .slice al m.col.length cl] 25)) := bl_alloc (Below.refl _ _) _
    have HB := Lib.hid hB; clear hB
    by_cases h81 : 8 < m.row.length
    · have h82 : (8 : Int) < (m.row.length : Int) := by omega
      go_enter Try.func14, Try.ntmps14
      go_wp2
      go_ret
      exact ⟨ret_int (chk_big h8), HB.out⟩
    · have h83 : 8 < m.col.length := by omega
      have h82 : ¬ (8 : Int) < (m.row.length : Int) := by omega
      have h84 : (8 : Int) < (m.col.length : Int) := by omega
      go_enter Try.func14, Try.ntmps14
      go_wp2
      go_ret
      exact ⟨ret_int (chk_big h8), HB.out⟩
  have H8 := Lib.hid h8
  have h82 : ¬ (8 : Int) < (m.row.length : Int) := by omega
  have h84 : ¬ (8 : Int) < (m.col.length : Int) := by omega
  clear h8
  by_cases he : m.cost.length = m.row.length
  case neg =>
    have hne : ((m.cost.length : Int) != (m.row.length : Int)) = true := by simp; omega
    have HN := Lib.hid (bad_len he); clear he
    go_enter Try.func14, Try.ntmps14
    go_wp2
    go_ret
    exact ⟨ret_int (chk_bad H8.out HN.out), bl_alloc (Below.refl _ _) _⟩
  have hne : ((m.cost.length : Int) != (m.row.length : Int)) = false := by simp; omega
  have HE := Lib.hid he; clear he
  go_enter Try.func14, Try.ntmps14
  go_wp2
  go_loopg [31] m.cost.length (fun g i wr => ∃ k : Nat, k + g = m.cost.length ∧ i = .int .i64 k ∧ RowsTo m k ∧ wr = w.alloc (.cells #[.slice ac m.cost.length cc, .slice ar m.row.length cr, .slice al m.col.length cl] 25))
  case atStart => exact ⟨0, by omega, rfl, RowsTo.zero m, rfl⟩
  case round =>
    obtain ⟨k, hk, rfl, hrt, rfl⟩ := hrel
    have HR := Lib.hid hrt; clear hrt
    have HB : Hid (Below w.heap.size w (w.alloc (.cells #[.slice ac m.cost.length cc, .slice ar m.row.length cr, .slice al m.col.length cl] 25))) := Lib.hid (bl_alloc (Below.refl _ _) _)
    by_cases hlt : k < m.cost.length
    · obtain ⟨rfl, hbc, a1, c1, b1, o1, hcell, k1, k2, hints⟩ := hcost k hlt
      have hcell0 := hcell _ HB.out
      unfold maxLen at k2
      clear hcell hcost
      have hk1 : (k : Int) < (m.cost.length : Int) := by omega
      have hk0 : (0 : Int) ≤ (k : Int) := by omega
      by_cases hl : m.cost[k].length = m.col.length
      case neg =>
        have hlb : ((m.cost[k].length : Int) != (m.col.length : Int)) = true := by simp; omega
        have HQ := Lib.hid (bad_row hlt (rowOk_len hl)); clear hl
        go_wp2
        go_ret
        exact ⟨ret_int (chk_bad H8.out HQ.out), HB.out⟩
      have hlb : ((m.cost[k].length : Int) != (m.col.length : Int)) = false := by simp; omega
      have HL := Lib.hid hl; clear hl
      go_wp2
      go_loopg [43] m.cost[k].length (fun g' i' wi => ∃ j : Nat, j + g' = m.cost[k].length ∧ i' = .int .i64 j ∧ AllTo inC m.cost[k] j ∧ wi = w.alloc (.cells #[.slice (some ⟨bc, oc, none⟩) m.cost.length cc, .slice ar m.row.length cr, .slice al m.col.length cl] 25))
      case atStart => exact ⟨0, by omega, rfl, AllTo.zero _ _, rfl⟩
      case round =>
        obtain ⟨j, hj, rfl, ha, rfl⟩ := hrel
        have HA := Lib.hid ha; clear ha
        by_cases hjl : j < m.cost[k].length
        · obtain ⟨rfl, hbx, x0, -⟩ := hints _ HB.out j hjl
          have hj1 : (j : Int) < (m.cost[k].length : Int) := by omega
          have hj0 : (0 : Int) ≤ (j : Int) := by omega
          by_cases q1 : m.cost[k][j] < -1
          · have HQ := Lib.hid (bad_row hlt (rowOk_at hjl (inC_lo q1)))
            go_wp2
            go_ret
            exact ⟨ret_int (chk_bad H8.out HQ.out), HB.out⟩
          · by_cases q2 : 2147483648 < m.cost[k][j]
            · have HQ := Lib.hid (bad_row hlt (rowOk_at hjl (inC_hi q2)))
              go_wp2
              go_ret
              exact ⟨ret_int (chk_bad H8.out HQ.out), HB.out⟩
            · have HQ := Lib.hid (inC_in q1 q2)
              go_wp2
              go_roundg (m.cost[k].length - (j + 1))
              case measure => omega
              case rel => exact ⟨j + 1, by omega, by go_num, HA.out.succ hjl HQ.out, rfl⟩
        · obtain rfl : j = m.cost[k].length := by omega
          clear hjl hj
          go_wp2
          go_roundg (m.cost.length - (k + 1))
          case measure => omega
          case rel => exact ⟨k + 1, by omega, by go_num, HR.out.succ hlt (rowOk_of HL.out (fun j hj => HA.out j hj hj)), rfl⟩
    · obtain rfl : k = m.cost.length := by omega
      clear hlt hk hcost
      go_wp2
      have HB2 : Hid (Below w.heap.size w ((w.alloc (.cells #[.slice ac m.cost.length cc, .slice ar m.row.length cr, .slice al m.col.length cl] 25)).alloc (.cells #[.slice ar m.row.length cr, .slice al m.col.length cl] 23))) := Lib.hid (bl_alloc HB.out _)
      clear HB
      have HB := HB2
      clear HB2
      go_loopg [61] 2 (fun g i wr => ∃ k : Int, 0 ≤ k ∧ k + g = 2 ∧ i = .int .i64 k ∧ (1 ≤ k → AllTo inN m.row m.row.length) ∧ (2 ≤ k → AllTo inN m.col m.col.length) ∧ wr = (w.alloc (.cells #[.slice ac m.cost.length cc, .slice ar m.row.length cr, .slice al m.col.length cl] 25)).alloc (.cells #[.slice ar m.row.length cr, .slice al m.col.length cl] 23))
      case atStart => exact ⟨0, by omega, by omega, rfl, fun h => by omega, fun h => by omega, rfl⟩
      case round =>
        obtain ⟨k, hk0, hk, rfl, hr1, hr2, hwr⟩ := hrel
        have HR1 := Lib.hid hr1; clear hr1
        have HR2 := Lib.hid hr2; clear hr2
        obtain ⟨wo, rfl⟩ : ∃ wo : World, wo = wr := ⟨_, rfl⟩
        subst hwr
        have hk3 : k = 0 ∨ k = 1 ∨ k = 2 := by omega
        rcases hk3 with rfl | rfl | rfl
        · go_wp2
          go_loopg [67] (m.row).length (fun g' i' wi => ∃ j : Nat, j + g' = (m.row).length ∧ i' = .int .i64 j ∧ AllTo inN (m.row) j ∧ wi = (w.alloc (.cells #[.slice ac m.cost.length cc, .slice ar m.row.length cr, .slice al m.col.length cl] 25)).alloc (.cells #[.slice ar m.row.length cr, .slice al m.col.length cl] 23))
          case atStart => exact ⟨0, by omega, rfl, AllTo.zero _ _, rfl⟩
          case round =>
            obtain ⟨j, hj, rfl, ha, rfl⟩ := hrel
            have HA := Lib.hid ha; clear ha
            by_cases hjl : j < (m.row).length
            · obtain ⟨rfl, hbx, x0, -⟩ := hrow _ HB.out j hjl
              have hj1 : (j : Int) < ((m.row).length : Int) := by omega
              have hj0 : (0 : Int) ≤ (j : Int) := by omega
              by_cases q1 : (m.row)[j] < 0
              · have HQ := Lib.hid (bad_r hjl (inN_lo q1))
                go_wp2
                go_ret
                exact ⟨ret_int (chk_bad H8.out HQ.out), HB.out⟩
              · by_cases q2 : 2147483648 < (m.row)[j]
                · have HQ := Lib.hid (bad_r hjl (inN_hi q2))
                  go_wp2
                  go_ret
                  exact ⟨ret_int (chk_bad H8.out HQ.out), HB.out⟩
                · have HQ := Lib.hid (inN_in q1 q2)
                  go_wp2
                  go_roundg ((m.row).length - (j + 1))
                  case measure => omega
                  case rel => exact ⟨j + 1, by omega, by go_num, HA.out.succ hjl HQ.out, rfl⟩
            · obtain rfl : j = (m.row).length := by omega
              clear hjl hj
              go_wp2
              go_roundg 1
              case measure => omega
              case rel => exact ⟨1, by omega, by omega, by go_num, fun _ => HA.out, fun h => by omega, rfl⟩
        · go_wp2
          go_loopg [67] (m.col).length (fun g' i' wi => ∃ j : Nat, j + g' = (m.col).length ∧ i' = .int .i64 j ∧ AllTo inN (m.col) j ∧ wi = (w.alloc (.cells #[.slice ac m.cost.length cc, .slice ar m.row.length cr, .slice al m.col.length cl] 25)).alloc (.cells #[.slice ar m.row.length cr, .slice al m.col.length cl] 23))
          case atStart => exact ⟨0, by omega, rfl, AllTo.zero _ _, rfl⟩
          case round =>
            obtain ⟨j, hj, rfl, ha, rfl⟩ := hrel
            have HA := Lib.hid ha; clear ha
            by_cases hjl : j < (m.col).length
            · obtain ⟨rfl, hbx, x0, -⟩ := hcol _ HB.out j hjl
              have hj1 : (j : Int) < ((m.col).length : Int) := by omega
              have hj0 : (0 : Int) ≤ (j : Int) := by omega
              by_cases q1 : (m.col)[j] < 0
              · have HQ := Lib.hid (bad_c hjl (inN_lo q1))
                go_wp2
                go_ret
                exact ⟨ret_int (chk_bad H8.out HQ.out), HB.out⟩
              · by_cases q2 : 2147483648 < (m.col)[j]
                · have HQ := Lib.hid (bad_c hjl (inN_hi q2))
                  go_wp2
                  go_ret
                  exact ⟨ret_int (chk_bad H8.out HQ.out), HB.out⟩
                · have HQ := Lib.hid (inN_in q1 q2)
                  go_wp2
                  go_roundg ((m.col).length - (j + 1))
                  case measure => omega
                  case rel => exact ⟨j + 1, by omega, by go_num, HA.out.succ hjl HQ.out, rfl⟩
            · obtain rfl : j = (m.col).length := by omega
              clear hjl hj
              go_wp2
              go_roundg 0
              case measure => omega
              case rel => exact ⟨2, by omega, by omega, by go_num, fun _ => HR1.out (by omega), fun _ => HA.out, rfl⟩
        · go_wp2
          go_ret
          exact ⟨ret_int (chk_good H8.out (good HE.out (fun k hk => HR.out k hk hk) (fun k hk => HR1.out (by omega) k hk hk) (fun k hk => HR2.out (by omega) k hk hk))), HB.out⟩
end Go.Proofs.Ytepceaoccnmkiaa
