/-
  Layer 6 (match): the walks of cost and Total.
-/
import Derived.Test.YtepceaoccnmkiaaMatchCheckR
namespace Go.Proofs.Ytepceaoccnmkiaa
open Go.RowKit Go.Tw Go.Tw.Match

theorem slInt : SlT Try.prog 23 3 1 8 := SlT.of (z := .int .i64 0) Try.underlying23 (by kernel_rfl) rfl (by decide)
theorem flatInt : tInt.Flat := fun h => h
theorem own_empty {e : TypeId} {B : Nat} (w : World) (g : Nat) (hg : g = w.heap.size) (hB : B ≤ w.heap.size) : OwnSl tInt e B (w.alloc (.cells #[] e)) (.slice (some ⟨g, 0, none⟩) 0 0) ([] : List Int) := by
  subst hg
  exact OwnSl.lit (cs := #[]) (css := []) (l := []) rfl trivial hB (by simp)
/-- the slice of the columns' costs -/
def FreeAt (B : Nat) (ao : Option Addr) (l : List Int) (w : World) : Prop := 0 < l.length → ∃ g, ao = some ⟨g, 0, none⟩ ∧ B ≤ g ∧ Cells w g l
theorem FreeAt.of_own {e : TypeId} {B : Nat} {w : World} {v : Value} {l : List Int} (h : OwnSl tInt e B w v l) : ∃ ao cap, v = .slice ao l.length cap ∧ l.length ≤ cap ∧ cap ≤ maxLen ∧ FreeAt B ao l w := by
  obtain ⟨ao, cap, rfl, h1, h2⟩ := h.form
  refine ⟨ao, cap, rfl, h1, h2, fun h0 => ?_⟩
  rcases own_ints h with ⟨-, rfl⟩ | ⟨g, cp, hv, -, -, hB, hc, -⟩
  · simp at h0
  · simp only [Value.slice.injEq] at hv
    exact ⟨g, hv.1, hB, hc⟩
set_option maxRecDepth 100000 in
set_option maxHeartbeats 4000000 in
theorem cost_any (m : Mat) (hok : Ok m) (a : List Int) (vc vr vl va : Value) (w : World) (h : MatIs w vc vr vl m) (ha : SlIs tInt (· < w.heap.size) w va a) (hlen : a.length = m.row.length) (hin : ∀ j ∈ a, -1 ≤ j ∧ j < m.col.length) :
    Calls Try.prog 26 #[.agg #[vc, vr, vl], va] w fun e w' => e = .returned (.int .i64 (costA m a)) ∧ Below w.heap.size w w' := by
  have HCOL := Lib.hid h.col
  obtain ⟨ac, cc, bc, oc, ar, cr, br, or, al, cl, bl, ol, rfl, rfl, rfl, hm⟩ := h.at
  obtain ⟨cc1, cc2, cr1, cr2, cl1, cl2, hcost, hrow, hcol⟩ := hm
  obtain ⟨aa, ca, ba, oa, rfl, ca1, ca2, hia⟩ := Go.Tw.Match.ints_at ha
  unfold maxLen at ca2
  clear h ha
  have h8 := hok.n8
  have c8 := hok.c8
  have HB := Lib.hid (BoxW.start w (.slice ac m.cost.length cc) (.slice ar m.row.length cr) (.slice al m.col.length cl))
  go_enter Try.func26, Try.ntmps26
  go_wp2_with (
    at_builtin
    refine wpList_append_old (.tmp 11) (.tmp 13) rfl 23 rfl slInt rfl (B := w.heap.size + 1) (own_empty _ _ (by simp) (by simp)) rfl (SlIs.keep HCOL.out (fun k (hk : k < w.heap.size) => by show k < w.heap.size + 1; omega) (SameOn.of_below (bl_alloc (bl_alloc (Below.refl _ _) _) _))) (by simp; omega) (by unfold maxLen; simp; omega) (by simp) ?_
    intro v' w1 ho1 hg1 hb1
    rw [List.nil_append] at ho1
    obtain ⟨ao, cf, rfl, cf1, cf2, hfr⟩ := FreeAt.of_own ho1
    have HFR := Lib.hid hfr
    have HB1 := Lib.hid (show BoxW w (.slice ac m.cost.length cc) (.slice ar m.row.length cr) (.slice al m.col.length cl) w1 from ⟨(hb1.block _ (by omega)).trans (alloc2_0 _ _ _), (bl_alloc (bl_alloc (Below.refl _ _) _) _).trans (hb1.mono (by omega))⟩)
    unfold maxLen at cf2
    clear ho1 hg1 hb1 hfr)
  go_loopg [17, 5] a.length (fun g i s wr => ∃ k : Nat, k + g = a.length ∧ i = .int .i64 k ∧ s = .int .i64 (rowsum m 0 (a.take k)) ∧ FreeAt (w.heap.size + 1) ao (zeroed (used (a.take k)) 0 m.col) wr ∧ BoxW w (.slice ac m.cost.length cc) (.slice ar m.row.length cr) (.slice al m.col.length cl) wr)
  case atStart => exact ⟨0, by omega, rfl, rfl, by rw [List.take_zero, zeroed_none]; exact HFR.out, HB1.out⟩
  case round =>
    obtain ⟨k, hk, rfl, rfl, hfr, hbx⟩ := hrel
    clear HB HB1 HFR
    have HB := Lib.hid hbx; clear hbx
    have HFR := Lib.hid hfr; clear hfr
    obtain ⟨x0, x1, x2, xf⟩ := blk3 HB.out.1
    have hsr := rowsum_range hok (a.take k) 0
    rw [List.length_take] at hsr
    by_cases hlt : k < a.length
    case neg =>
      obtain rfl : k = a.length := by omega
      rw [List.take_length]
      rw [List.take_length] at HFR
      clear hlt hk hcost hrow hcol hia
      have hzl : (zeroed (used a) 0 m.col).length = m.col.length := zeroed_len _ _ _
      have HZL := Lib.hid hzl; clear hzl
      have HZR := Lib.hid (zeroed_range (u := used a) 0 hok.lin)
      rw [List.take_length] at hsr
      go_wp2
      go_loopg [47, 5] m.col.length (fun g' i' s' wi => ∃ j : Nat, j + g' = m.col.length ∧ i' = .int .i64 j ∧ s' = .int .i64 (rowsum m 0 a + ((zeroed (used a) 0 m.col).take j).sum) ∧ wi = wr)
      case atStart => exact ⟨0, by omega, rfl, by simp, rfl⟩
      case round =>
        obtain ⟨wo, rfl⟩ : ∃ wo : World, wo = wr := ⟨_, rfl⟩
        obtain ⟨j, hj, rfl, rfl, hwr⟩ := hrel
        subst hwr
        have hsm := sum_range (l := (zeroed (used a) 0 m.col).take j) (fun x hx => HZR.out x (List.mem_of_mem_take hx))
        rw [List.length_take, HZL.out] at hsm
        by_cases hjl : j < m.col.length
        · have hjz : j < (zeroed (used a) 0 m.col).length := by rw [HZL.out]; exact hjl
          obtain ⟨g, rfl, hg, hcl⟩ := HFR.out (by omega)
          have y0 := hcl.cell hjz
          have HST := Lib.hid (sum_take_succ hjz)
          have hzr := HZR.out _ (List.getElem_mem hjz)
          have j0 : (0 : Int) ≤ (j : Int) := by omega
          have j1 : (j : Int) < (m.col.length : Int) := by omega
          clear hcl
          go_wp2
          go_roundg (m.col.length - (j + 1))
          case measure => omega
          case rel => exact ⟨j + 1, by omega, by go_num, by rw [HST.out]; congr 1; omega, rfl⟩
        · obtain rfl : j = m.col.length := by omega
          have HCO := Lib.hid (show costA m a = rowsum m 0 a + ((zeroed (used a) 0 m.col).take m.col.length).sum by
            rw [← HZL.out, List.take_length, zeroed_sum]; rfl)
          clear hjl hj
          go_wp2
          go_ret
          exact ⟨ret_int HCO.out, HB.out.2⟩
    have hkr : k < m.row.length := by omega
    obtain ⟨rfl, hby, y0, -⟩ := hia _ HB.out.2 k hlt
    have hra := hin _ (List.getElem_mem hlt)
    have HT := Lib.hid (List.take_succ_eq_append_getElem hlt)
    have HRS := Lib.hid (show rowsum m 0 (a.take (k + 1)) = rowsum m 0 (a.take k) + price m k a[k] by
      rw [List.take_succ_eq_append_getElem hlt, rowsum_snoc, List.length_take, Nat.min_eq_left (by omega), Nat.zero_add])
    have hpr := price_range hok k a[k]
    have k0 : (0 : Int) ≤ (k : Int) := by omega
    have k1 : (k : Int) < (a.length : Int) := by omega
    have k2 : (k : Int) < (m.row.length : Int) := by omega
    by_cases hneg : a[k] < 0
    · obtain ⟨rfl, hbr, z0, -⟩ := hrow _ HB.out.2 k hkr
      have HP := Lib.hid (price_row hkr hneg)
      have hzz : zeroed (used (a.take (k + 1))) 0 m.col = zeroed (used (a.take k)) 0 m.col := zeroed_congr _ _ (fun i _ => by rw [HT.out, used_snoc, decide_eq_false (by omega), Bool.or_false])
      have HZ := Lib.hid hzz; clear hzz
      rw [HP.out] at hpr
      clear hcost hcol hrow hia
      go_wp2
      go_roundg (a.length - (k + 1))
      case measure => omega
      case rel => exact ⟨k + 1, by omega, by go_num, by rw [HRS.out, HP.out], by rw [HZ.out]; exact HFR.out, HB.out⟩
    · obtain ⟨h1, h2, hp⟩ := price_at hok hkr (by omega) hra.2
      have HP := Lib.hid hp
      rw [hp] at hpr
      obtain ⟨rfl, hbc, a1, c1, b1, o1, hcell, q1, q2, hints⟩ := hcost k h1
      have hcell0 := hcell _ HB.out.2
      obtain ⟨rfl, hb, z0, -⟩ := hints _ HB.out.2 a[k].toNat h2
      unfold maxLen at q2
      obtain ⟨g, rfl, hg, hcl⟩ := HFR.out (by rw [zeroed_len]; omega)
      have hjz : a[k].toNat < (zeroed (used (a.take k)) 0 m.col).length := by rw [zeroed_len]; omega
      have u0 := hcl.cell hjz
      have uf := hcl.free a[k].toNat
      have HSET := Lib.hid (hcl.setR (i := a[k].toNat) (x := 0) (l' := zeroed (used (a.take (k + 1))) 0 m.col) (zeroed_set _ _ _ (fun i => by
        rw [HT.out, used_snoc]
        congr 2
        rw [Nat.zero_add]
        exact propext ⟨fun q => by omega, fun q => by omega⟩) (by omega)))
      have i2 : (k : Int) < (m.cost.length : Int) := by omega
      have j0 : 0 ≤ a[k] := by omega
      have j1 : a[k] < (m.cost[k].length : Int) := by omega
      have j2 := hra.2
      clear hcost hrow hcol hcell hints hcl hp hia
      go_wp2
      go_roundg (a.length - (k + 1))
      case measure => omega
      case rel =>
        refine ⟨k + 1, by omega, by go_num, by rw [HRS.out, HP.out], fun _ => ⟨g, rfl, hg, HSET.out⟩, ?_⟩
        exact ⟨(Below.heap_setCell _ _ _ _ (by show w.heap.size ≠ g; omega)).trans HB.out.1, bl_set HB.out.2 _ (by show w.heap.size ≤ g; omega)⟩
end Go.Proofs.Ytepceaoccnmkiaa
