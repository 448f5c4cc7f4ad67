/-
  Layer 6 (match): the walk of Total.
-/
import Derived.Test.YtepceaoccnmkiaaMatchCost
namespace Go.Tw.Match
open Go.RowKit
def flagsOf (a : List Int) (c : Nat) : List Bool := (List.range c).map (used a)
theorem flagsOf_len (a : List Int) (c : Nat) : (flagsOf a c).length = c := by simp [flagsOf]
theorem flagsOf_get (a : List Int) {c j : Nat} (h : j < c) : (flagsOf a c)[j]'(by rw [flagsOf_len]; exact h) = used a j := by simp [flagsOf]
theorem flagsOf_nil (c : Nat) : List.replicate c false = flagsOf [] c := by
  apply List.ext_getElem
  · simp [flagsOf]
  · intro k h1 h2
    simp [flagsOf, used]
theorem flagsOf_set (a : List Int) {c j : Nat} {x : Int} (hx : x = (j : Int)) : (flagsOf a c).set j true = flagsOf (a ++ [x]) c := by
  apply List.ext_getElem
  · simp [flagsOf]
  · intro k h1 h2
    have hk : k < c := by simpa [flagsOf] using h1
    rw [List.getElem_set, flagsOf_get (a ++ [x]) hk, used_snoc]
    by_cases e : j = k
    · subst e; rw [if_pos rfl, hx]; simp
    · rw [if_neg e, flagsOf_get a hk, decide_eq_false (by omega), Bool.or_false]
end Go.Tw.Match
namespace Go.Proofs.Ytepceaoccnmkiaa
open Go.RowKit Go.Tw Go.Tw.Match
theorem hmakeB (n : Nat) (hn : n ≤ 1000) (w : World) : (Instr.makeSlice 48 (.int .i64 (n : Int)) (.int .i64 (n : Int))).run Try.prog w = .ok (.slice (some ⟨w.heap.size, 0, none⟩) n n) (w.alloc (.cells (madeCells #[.bool false] n) 4)) := by
  obtain ⟨i, hi, hz, hs, hb⟩ := info_parts (show (Try.prog.info? 4).map (fun i => (i.zero, i.size, i.bytes)) = some (some (.bool false), 1, 1) by kernel_rfl)
  have := run_make (P := Try.prog) w 48 4 i (.bool false) Try.underlying48 hi hz .i64 .i64 (n : Int) (n : Int) (by omega) (Int.le_refl _) (by rw [hb]; omega) (by omega)
  rw [this, show ((n : Int)).toNat = n by omega, hs, Nat.mul_one]
  rfl
theorem ret_pair {a b : Int} {o : Int × Int} (h : o = (a, b)) : Ending.returned (.tuple #[.int .i64 a, .int .i64 b]) = .returned (.tuple #[.int .i64 o.1, .int .i64 o.2]) := by rw [h]
set_option maxRecDepth 100000 in
set_option maxHeartbeats 4000000 in
theorem total_any (m : Mat) (a : List Int) (vc vr vl va : Value) (w : World) (h : MatIs w vc vr vl m) (ha : SlIs tInt (· < w.heap.size) w va a) :
    Calls Try.prog 12 #[.agg #[vc, vr, vl], va] w fun e w' => e = .returned (.tuple #[.int .i64 (totC m a).1, .int .i64 (totC m a).2]) ∧ Below w.heap.size w w' := by
  have HM := Lib.hid h
  have HA0 := Lib.hid ha
  obtain ⟨ac, cc, bc, oc, ar, cr, br, or, al, cl, bl, ol, rfl, rfl, rfl, hm⟩ := h.at
  obtain ⟨cc1, cc2, cr1, cr2, cl1, cl2, hcost, hrow, hcol⟩ := hm
  obtain ⟨aa, ca, ba, oa, rfl, ca1, ca2, hia⟩ := Go.Tw.Match.ints_at ha
  unfold maxLen at ca2
  have HCOST := Lib.hid hcost
  have HIA := Lib.hid hia
  clear h ha hcost hrow hcol hia
  have HB := Lib.hid (BoxW.start w (.slice ac m.cost.length cc) (.slice ar m.row.length cr) (.slice al m.col.length cl))
  by_cases hc : chk m = 0
  case neg =>
    have hcn : (chk m != 0) = true := by rw [bne_iff_ne]; exact hc
    have HT := Lib.hid (show totC m a = (0, chk m) by unfold totC; rw [if_pos hc]); clear hc
    go_enter Try.func12, Try.ntmps12
    go_wp2_with (fail)
    refine (check_any m _ _ _ _ (HM.out.step (bl_alloc (Below.refl _ _) _))).mono ?_
    rintro e w1 ⟨rfl, hb1⟩
    have HB1 := Lib.hid (HB.out.below hb1); clear hb1
    go_wp2
    go_ret2
    exact ⟨ret_pair HT.out, HB1.out.2⟩
  have hcn : (chk m != 0) = false := by rw [bne_eq_false_iff_eq]; exact hc
  have hok := chk_ok.1 hc
  have HC := Lib.hid hc; clear hc
  by_cases hl : a.length = m.row.length
  case neg =>
    have hlb : ((a.length : Int) != (m.row.length : Int)) = true := by rw [bne_iff_ne]; omega
    have HT := Lib.hid (show totC m a = (0, 2) by unfold totC; rw [if_neg (by simp [HC.out]), if_pos hl]); clear hl
    go_enter Try.func12, Try.ntmps12
    go_wp2_with (fail)
    refine (check_any m _ _ _ _ (HM.out.step (bl_alloc (Below.refl _ _) _))).mono ?_
    rintro e w1 ⟨rfl, hb1⟩
    have HB1 := Lib.hid (HB.out.below hb1); clear hb1
    clear HB
    have HB := HB1
    clear HB1
    obtain ⟨x0, x1, x2, xf⟩ := blk3 HB.out.1
    go_wp2
    go_ret2
    exact ⟨ret_pair HT.out, HB.out.2⟩
  have hlb : ((a.length : Int) != (m.row.length : Int)) = false := by rw [bne_eq_false_iff_eq]; omega
  have HL := Lib.hid hl
  have h8 := hok.n8
  have c8 := hok.c8
  have ha8 : a.length ≤ 8 := by omega
  clear hl
  have hmk := hmakeB m.col.length (by omega)
  go_enter Try.func12, Try.ntmps12
  go_wp2_with (fail)
  refine (check_any m _ _ _ _ (HM.out.step (bl_alloc (Below.refl _ _) _))).mono ?_
  rintro e w1 ⟨rfl, hb1⟩
  have HB1 := Lib.hid (HB.out.below hb1); clear hb1
  clear HB
  have HB := HB1
  clear HB1
  obtain ⟨x0, x1, x2, xf⟩ := blk3 HB.out.1
  go_wp2
  clear x0 x1 x2 xf hmk
  have HW1 := Lib.hid HB.out.2
  have hsz1 := HB.out.2.size
  have hltb := lt_of_heap HB.out.1
  go_loopg [27] a.length (fun g i wr => ∃ k : Nat, k + g = a.length ∧ i = .int .i64 k ∧ errGo m [] a = errGo m (a.take k) (a.drop k) ∧ Flags wr w1.heap.size (flagsOf (a.take k) m.col.length) ∧ BoxW w (.slice ac m.cost.length cc) (.slice ar m.row.length cr) (.slice al m.col.length cl) wr)
  case atStart => exact ⟨0, by omega, rfl, rfl, by rw [List.take_zero, ← flagsOf_nil]; exact Flags.made _ _ _, HB.out.below (bl_alloc (Below.refl _ _) _)⟩
  case round =>
    obtain ⟨k, hk, rfl, he, hfl, hbx⟩ := hrel
    clear HB
    have HB := Lib.hid hbx; clear hbx
    have HE := Lib.hid he; clear he
    have HF := Lib.hid hfl; clear hfl
    obtain ⟨x0, x1, x2, xf⟩ := blk3 HB.out.1
    by_cases hlt : k < a.length
    case neg =>
      obtain rfl : k = a.length := by omega
      have hE0 : errGo m [] a = 0 := by rw [HE.out, errGo_end (Nat.le_refl _)]
      have hva := (valid_iff HL.out).1 hE0
      have HT := Lib.hid (show totC m a = (costA m a, 0) by unfold totC; rw [if_neg (by simp [HC.out]), if_neg (by simp [HL.out]), if_neg (by simp [hE0])])
      have HV := Lib.hid hva
      clear hE0 hva hlt hk
      go_wp2_with (fail)
      refine (cost_any m hok a _ _ _ _ _ (HM.out.step HB.out.2) (HA0.out.step HB.out.2) HL.out HV.out.rng).mono ?_
      rintro e w2 ⟨rfl, hb2⟩
      have HB2 := Lib.hid (bl_trans HB.out.2 hb2); clear hb2
      go_wp2
      go_ret2
      exact ⟨ret_pair HT.out, HB2.out⟩
    obtain ⟨rfl, hby, y0, -⟩ := HIA.out _ HB.out.2 k hlt
    have HD := Lib.hid (errGo_drop (m := m) hlt)
    have hTot : ∀ e : Int, e ≠ 0 → errGo m (a.take k) (a.drop k) = e → Hid (totC m a = (0, e)) := fun e he0 hee => by
      show totC m a = (0, e)
      have h1 : errGo m [] a = e := HE.out.trans hee
      unfold totC
      rw [if_neg (by simp [HC.out]), if_neg (by simp [HL.out]), if_pos (by rw [h1]; exact he0), h1]
    have HTOT := Lib.hid hTot; clear hTot
    have k0 : (0 : Int) ≤ (k : Int) := by omega
    have k1 : (k : Int) < (a.length : Int) := by omega
    by_cases q1 : a[k] < -1
    · have HR := HTOT.out 2 (by decide) (by rw [HD.out, if_pos (.inl q1)])
      go_wp2
      go_ret2
      exact ⟨ret_pair HR.out, HB.out.2⟩
    by_cases q2 : (m.col.length : Int) ≤ a[k]
    · have HR := HTOT.out 2 (by decide) (by rw [HD.out, if_pos (.inr q2)])
      go_wp2
      go_ret2
      exact ⟨ret_pair HR.out, HB.out.2⟩
    have hkr : k < m.row.length := by have := HL.out; omega
    have HTK := Lib.hid (List.take_succ_eq_append_getElem hlt)
    by_cases q3 : a[k] < 0
    · have HN := Lib.hid (show errGo m (a.take k) (a.drop k) = errGo m (a.take (k + 1)) (a.drop (k + 1)) by
        rw [HD.out, if_neg (by omega), if_neg (by omega), if_neg (by have := price_none hok k q3; omega)])
      have HF2 := Lib.hid (show flagsOf (a.take (k + 1)) m.col.length = flagsOf (a.take k) m.col.length by
        rw [HTK.out]
        apply List.ext_getElem
        · simp [flagsOf]
        · intro i h1 h2
          have hi : i < m.col.length := by simpa [flagsOf] using h1
          rw [flagsOf_get _ hi, flagsOf_get _ hi, used_snoc, decide_eq_false (by omega), Bool.or_false])
      go_wp2
      go_roundg (a.length - (k + 1))
      case measure => omega
      case rel => exact ⟨k + 1, by omega, by go_num, HE.out.trans HN.out, by rw [HF2.out]; exact HF.out, HB.out⟩
    have hjc : a[k].toNat < m.col.length := by omega
    have hfc := HF.out.cell (k := a[k].toNat) (by rw [flagsOf_len]; exact hjc)
    rw [flagsOf_get _ hjc] at hfc
    have hff := HF.out.free a[k].toNat
    have huse : used (a.take k) a[k].toNat = true ∨ used (a.take k) a[k].toNat = false := by cases used (a.take k) a[k].toNat <;> simp
    have j0 : 0 ≤ a[k] := by omega
    have j2 : a[k] < (m.col.length : Int) := by omega
    have HU := Lib.hid (show used (a.take k) a[k].toNat = decide (a[k] ∈ a.take k) by unfold used; rw [show ((a[k].toNat : Nat) : Int) = a[k] by omega])
    rcases huse with hu | hu
    · rw [hu] at hfc
      have HR := HTOT.out 9 (by decide) (by
        rw [HD.out, if_neg (by omega), if_pos ⟨j0, by have := HU.out; rw [hu] at this; exact of_decide_eq_true this.symm⟩])
      clear hu
      go_wp2
      go_ret2
      exact ⟨ret_pair HR.out, HB.out.2⟩
    rw [hu] at hfc
    have HNM := Lib.hid (show a[k] ∉ a.take k by have := HU.out; rw [hu] at this; exact of_decide_eq_false this.symm)
    clear hu
    obtain ⟨h1, h2, hp⟩ := price_at hok hkr j0 j2
    have HP := Lib.hid hp; clear hp
    obtain ⟨rfl, hbc, a1, c1, b1, o1, hcell, p1, p2, hints⟩ := HCOST.out k h1
    have hcell0 := hcell _ HB.out.2
    obtain ⟨rfl, hb, z0, -⟩ := hints _ HB.out.2 a[k].toNat h2
    unfold maxLen at p2
    have i2 : (k : Int) < (m.cost.length : Int) := by omega
    have j1 : a[k] < (m.cost[k].length : Int) := by omega
    clear hcell hints
    by_cases q4 : m.cost[k][a[k].toNat] < 0
    · have HR := HTOT.out 1 (by decide) (by
        rw [HD.out, if_neg (by omega), if_neg (fun q => HNM.out q.2), if_pos (by rw [HP.out]; exact q4)])
      go_wp2
      go_ret2
      exact ⟨ret_pair HR.out, HB.out.2⟩
    have HN := Lib.hid (show errGo m (a.take k) (a.drop k) = errGo m (a.take (k + 1)) (a.drop (k + 1)) by
      rw [HD.out, if_neg (by omega), if_neg (fun q => HNM.out q.2), if_neg (by rw [HP.out]; exact q4)])
    have HSET := Lib.hid (HF.out.setR (i := a[k].toNat) (x := true) (l' := flagsOf (a.take (k + 1)) m.col.length) (by rw [HTK.out]; exact flagsOf_set _ (by omega)))
    go_wp2
    go_roundg (a.length - (k + 1))
    case measure => omega
    case rel =>
      refine ⟨k + 1, by omega, by go_num, HE.out.trans HN.out, HSET.out, ?_⟩
      exact ⟨(Below.heap_setCell _ _ _ _ (by show w.heap.size ≠ w1.heap.size; omega)).trans HB.out.1, bl_set HB.out.2 _ hsz1⟩
end Go.Proofs.Ytepceaoccnmkiaa
