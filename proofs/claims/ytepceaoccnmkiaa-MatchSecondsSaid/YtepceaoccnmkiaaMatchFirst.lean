/-
  Layer 6 (match): the walk of first.
-/
import Derived.Test.YtepceaoccnmkiaaMatchWith
import Derived.Test.YtepceaoccnmkiaaMatchGreedyP
import Derived.WalkMore
import Derived.Outline
import Derived.Deep.LoopGhost
namespace Go.Tw.Match
open Go.RowKit
theorem find_drop {α : Type} {l : List α} {f : α → Bool} {t : Nat} (ht : t < l.length) (h : (l.drop t).find? f = l.find? f) (hf : f l[t] = false) : (l.drop (t + 1)).find? f = l.find? f := by
  rw [← h, List.drop_eq_getElem_cons ht, List.find?_cons, hf]
theorem find_here {α : Type} {l : List α} {f : α → Bool} {t : Nat} (ht : t < l.length) (h : (l.drop t).find? f = l.find? f) (hf : f l[t] = true) : l.find? f = some l[t] := by
  rw [← h, List.drop_eq_getElem_cons ht, List.find?_cons, hf]
end Go.Tw.Match
namespace Go.Proofs.Ytepceaoccnmkiaa
open Go.RowKit Go.Tw Go.Tw.Match
theorem Tab.drewN {B : Nat} {w : World} {p : Nat} {vc vr vl vf : Value} {gl cl gw cw : Nat} {bl bw : List Nat} {all : Nat} {Ls Ws : List (List Int)} (h : Tab B w p vc vr vl vf gl cl gw cw bl bw all Ls Ws) (n : Nat) : Tab B (w.drewN n) p vc vr vl vf gl cl gw cw bl bw all Ls Ws := h.keep (fun _ _ => rfl)
/-- row i, mask q of a filled table -/
theorem Tab.atL {B : Nat} {w : World} {p : Nat} {vc vr vl vf : Value} {gL cL gW cW : Nat} {bl bw : List Nat} {all n : Nat} {f g : Nat → Nat → Int} (T : Tab B w p vc vr vl vf gL cL gW cW bl bw all (rowsF f n all 0 all) (rowsF g n all 0 all)) (hl : bl.length = n + 1) {i q : Nat} (hi : i < n + 1) (hq : q < all) :
    ∃ b, w.cell? ⟨gL, i, none⟩ = some (.slice (some ⟨b, 0, none⟩) all all) ∧ w.cell? ⟨b, q, none⟩ = some (.int .i64 (f i q)) := by
  have h1 := T.least.outer i (by omega)
  have h2 := T.least.row i (by omega) (by rw [rowsF_len]; omega)
  have e : ∀ (h : i < (rowsF f n all 0 all).length), (rowsF f n all 0 all)[i] = (List.range all).map fun q => if 0 < i ∨ (i = 0 ∧ q < all) then f i q else 0 := fun h => by simp [rowsF]
  rw [e] at h2
  have c2 := h2.cell (k := q) (by simp; exact hq)
  have hc : 0 < i ∨ i = 0 := by omega
  simp [hq, hc] at c2
  exact ⟨_, h1, c2⟩
/-- the same, with one block for all masks of the row -/
theorem Tab.rowL {B : Nat} {w : World} {p : Nat} {vc vr vl vf : Value} {gL cL gW cW : Nat} {bl bw : List Nat} {all n : Nat} {f g : Nat → Nat → Int} (T : Tab B w p vc vr vl vf gL cL gW cW bl bw all (rowsF f n all 0 all) (rowsF g n all 0 all)) (hl : bl.length = n + 1) {i : Nat} (hi : i < n + 1) :
    ∃ b, w.cell? ⟨gL, i, none⟩ = some (.slice (some ⟨b, 0, none⟩) all all) ∧ ∀ q, q < all → w.cell? ⟨b, q, none⟩ = some (.int .i64 (f i q)) := by
  refine ⟨bl[i], T.least.outer i (by omega), fun q hq => ?_⟩
  obtain ⟨b, h1, h2⟩ := T.atL hl hi hq
  have h3 := T.least.outer i (by omega)
  rw [h3] at h1
  simp only [Option.some.injEq, Value.slice.injEq, Addr.mk.injEq, and_true] at h1
  rw [h1]
  exact h2
/-- what first returns -/
def FirstE (B : Nat) (m : Mat) (F : List Int) (w : World) (e : Ending) : Prop :=
  if mn (costs m F m.row.length 0 0) < 0 then e = .returned (.tuple #[.slice none 0 0, .bool false])
  else ∃ v, e = .returned (.tuple #[v, .bool true]) ∧ OwnSl tInt 3 B w v (greedy m F m.row.length 0 0)
set_option maxRecDepth 100000 in
set_option maxHeartbeats 1200000 in
theorem first_any (m : Mat) (hok : Ok m) (F : List Int) (w0 w : World) (hb : Below w0.heap.size w0 w) (p : Nat) (ac : Option Addr) (cc bc oc : Nat) (ar : Option Addr) (cr br or : Nat) (al : Option Addr) (cl bl ol : Nat) (af : Option Addr) (cf bf of : Nat)
    (hm : MatAt w0 ac cc bc oc ar cr br or al cl bl ol m) (hF : IntsAt w0.heap.size w0 af bf of F) (hFl : F.length = m.row.length) (hcf : F.length ≤ cf) (hcf2 : cf ≤ 9223372036854775807)
    (gL cL gW cW : Nat) (bL bW : List Nat) (all : Nat)
    (T : Tab w0.heap.size w p (.slice ac m.cost.length cc) (.slice ar m.row.length cr) (.slice al m.col.length cl) (.slice af F.length cf) gL cL gW cW bL bW all (rowsF (leastF m F) m.row.length all 0 all) (rowsF (waysF m F) m.row.length all 0 all))
    (hall : all = 2 ^ m.col.length) (hl : bL.length = m.row.length + 1) (hw : bW.length = m.row.length + 1) :
    Calls Try.prog 30 #[.pointer (some ⟨p, 0, none⟩)] w fun e w' => FirstE w.heap.size m F w' e ∧ Below w.heap.size w w' := by
  have c8 := hok.c8
  have n8 := hok.n8
  have hpos : 0 < all := by rw [hall]; exact Nat.two_pow_pos _
  have hal : all ≤ 256 := by rw [hall]; exact Nat.le_trans (Nat.pow_le_pow_right (by decide) c8) (by decide)
  have HALL := Lib.hid hall; clear hall
  have HT := Lib.hid T
  have hTl : (rowsF (leastF m F) m.row.length all 0 all).length = m.row.length + 1 := rowsF_len _ _ _ _ _
  have hTw : (rowsF (waysF m F) m.row.length all 0 all).length = m.row.length + 1 := rowsF_len _ _ _ _ _
  have c1 := T.hcl
  have c2 := T.hcl2
  rw [hTl] at c1
  obtain ⟨x0, x1, x2, x3, x4, x5, xf⟩ := blk6 T.blk
  rw [hTl] at x4
  obtain ⟨b, y0, y1⟩ := T.rowL hl (show 0 < m.row.length + 1 by omega)
  have y2 := y1 0 hpos
  have n0 : (0 : Int) < (m.row.length : Int) + 1 := by omega
  have a0 : (0 : Int) < (all : Int) := by omega
  have HTL := Lib.hid hTl
  have HTW := Lib.hid hTw
  have cr1 := hm.cr1
  have cr2 := hm.cr2
  have HMM := Lib.hid hm
  change w.cell? ⟨b, 0, none⟩ = some (.int .i64 (mn (costs m F m.row.length 0 0))) at y2
  obtain ⟨x, hx⟩ : ∃ x, mn (costs m F m.row.length 0 0) = x := ⟨_, rfl⟩
  have HX := Lib.hid hx
  rw [hx] at y2
  have HB := Lib.hid hb
  have HFL := Lib.hid hFl
  have HL := Lib.hid hl
  have HW := Lib.hid hw
  have HF := Lib.hid hF
  have HCF := Lib.hid hcf
  rw [hTw] at x5
  have hpl := lt_of_heap T.blk
  clear y1 hx T hTl hTw hm hb hFl hl hw hF hcf
  by_cases hneg : x < 0
  · go_enter Try.func30, Try.ntmps30
    go_wp2
    go_step3
    go_wp2
    try rw [Exit.noGoto_ret]
    go_ret2
    exact ⟨by unfold FirstE; rw [if_pos (by rw [HX.out]; exact hneg)]; rfl, Below.refl _ _⟩
  have HG := Lib.hid (show FirstE w.heap.size m F = fun w' e => ∃ v, e = .returned (.tuple #[v, .bool true]) ∧ OwnSl tInt 3 w.heap.size w' v (greedy m F m.row.length 0 0) by
    funext w' e; exact if_neg (by rw [HX.out]; exact hneg))
  go_enter Try.func30, Try.ntmps30
  go_wp2
  go_step3
  go_wp2
  go_step3
  go_wp2
  go_loopg [28, 4, 5] m.row.length (fun g ix v mk wr => ∃ (i mask k : Nat) (pre : List Int) (v0 : Value), v0 = v ∧ i + g = m.row.length ∧ i + k = m.row.length ∧ ix = .int .i64 i ∧ mk = .int .i64 mask ∧ mask < all ∧ pre.length = i ∧ pre ++ greedy m F k i mask = greedy m F m.row.length 0 0 ∧ 0 ≤ mn (costs m F k i mask) ∧ OwnSl tInt 3 w.heap.size wr v pre ∧ Below w.heap.size w wr)
  case atStart => exact ⟨0, 0, m.row.length, [], _, rfl, by omega, by omega, rfl, rfl, hpos, rfl, rfl, by rw [HX.out]; omega, own_empty _ _ (by simp) (by simp), bl_alloc (Below.refl _ _) _⟩
  case round =>
    obtain ⟨i, mask, k, pre, v0, rfl, hi, hik, rfl, rfl, hmask, hpl, hgr, hmn, hown, hbb⟩ := hrel
    have HOWN := Lib.hid hown
    have HBB := Lib.hid hbb
    have HGR := Lib.hid hgr
    have hsb := hbb.size
    clear hown hbb hgr
    by_cases hlt : i < m.row.length
    case neg =>
      obtain rfl : k = 0 := by omega
      obtain rfl : i = m.row.length := by omega
      have HR := Lib.hid (show pre = greedy m F m.row.length 0 0 by rw [← HGR.out, greedy, List.append_nil])
      clear hlt hi hpl hik
      go_wp2
      try rw [Exit.noGoto_ret]
      go_ret2
      exact ⟨by rw [HG.out]; exact ⟨_, rfl, by rw [← HR.out]; exact HOWN.out⟩, HBB.out⟩
    obtain ⟨k, rfl⟩ : ∃ k', k = k' + 1 := ⟨k - 1, by omega⟩
    obtain ⟨jj, hf, hjm, hld, hge⟩ := greedy_step hok hmn
    have HFD := Lib.hid hf
    have HGE := Lib.hid hge
    have HLD := Lib.hid hld
    have HMN := Lib.hid hmn
    clear hf hge hld hjm hmn
    have HTR := Lib.hid (HT.out.below (by rw [HTL.out]; omega) (by rw [HTW.out]; omega) HBB.out)
    have HB0 := Lib.hid (HB.out.trans (HBB.out.mono HB.out.size))
    go_wp2_with (fail)
    refine (choices_any m hok F w0 _ HB0.out p _ _ bc oc _ _ br or _ _ bl ol _ _ bf of _ _ HMM.out HF.out HFL.out HCF.out hcf2 HTR.out.blk).mono ?_
    rintro e w1 ⟨⟨g, cap, rfl, hc1, hc2, hg, hcells⟩, hbc⟩
    have HC := Lib.hid hcells
    have HT1 := Lib.hid (HTR.out.below (by rw [HTL.out]; omega) (by rw [HTW.out]; omega) hbc)
    have HBB1 := Lib.hid (HBB.out.trans (hbc.mono hsb))
    have HO1 := Lib.hid (HOWN.out.below hbc)
    clear HTR HBB HOWN hcells hbc HB0
    go_wp2
    go_loopg [34, 4, 5] (m.col.length + 1) (fun g' ix v' mk' wi => ∃ t : Nat, v0 = v' ∧ mk' = .int .i64 mask ∧ t + g' = m.col.length + 1 ∧ ix = .int .i64 t ∧ ((choices m.col.length).drop t).find? (leads m F k i mask) = (choices m.col.length).find? (leads m F k i mask) ∧ (∃ nn, wi = w1.drewN nn))
    case atStart => exact ⟨0, rfl, rfl, by omega, rfl, rfl, 0, rfl⟩
    case round =>
      obtain ⟨t, rfl, rfl, ht, rfl, hfi, nn, rfl⟩ := hrel
      have hlt2 : t < m.col.length + 1 := by
        refine Nat.lt_of_not_le fun q => ?_
        rw [List.drop_eq_nil_of_le (by rw [choices_len]; exact q), HFD.out] at hfi
        cases hfi
      have hcl : t < (choices m.col.length).length := by rw [choices_len]; exact hlt2
      obtain ⟨j, hjj⟩ : ∃ j, (choices m.col.length)[t]'hcl = j := ⟨_, rfl⟩
      have HC2 := Lib.hid (HC.out.drewN nn)
      have HT2 := Lib.hid (HT1.out.drewN nn)
      have HBB2 := Lib.hid (bl_drewN HBB1.out nn)
      have HO2 := Lib.hid (HO1.out.drewN nn)
      have hcx := HC2.out.cell hcl
      have hjm2 := choices_mem.1 (List.getElem_mem hcl)
      have hno := fun h => find_drop (f := leads m F k i mask) hcl hfi h
      have hyes := fun h => find_here (f := leads m F k i mask) hcl hfi h
      rw [hjj] at hcx hjm2 hno hyes
      have HNO := Lib.hid hno
      have HYES := Lib.hid hyes
      obtain ⟨hj1, hj2⟩ := hjm2
      clear hjj hno hyes hfi hcl
      obtain ⟨x0, x1, x2, x3, x4, x5, xf⟩ := blk6 HT2.out.blk
      obtain ⟨b0, e0, e1⟩ := HT2.out.rowL HL.out (show i < m.row.length + 1 by omega)
      obtain ⟨b1, f0, f1⟩ := HT2.out.rowL HL.out (show i + 1 < m.row.length + 1 by omega)
      have hmk : mask < 256 := by omega
      have t0 : (0 : Int) ≤ (t : Int) := by omega
      have t1 : (t : Int) < (m.col.length : Int) + 1 := by omega
      have HB2 := Lib.hid (HB.out.trans (HBB2.out.mono HB.out.size))
      have hal := allowed_any m hok F w0 _ HB2.out p _ _ bc oc _ _ br or _ _ bl ol _ _ bf of _ _ HMM.out HF.out HFL.out HCF.out hcf2 HT2.out.blk i j mask hlt hj1 hj2 hmk
      have HSTP := Lib.hid (fun (h2 : i < m.row.length) => step_any m hok F w0 _ HB2.out p _ _ bc oc _ _ br or _ _ bl ol _ _ bf of _ _ HMM.out HF.out HFL.out HCF.out hcf2 HT2.out.blk i j mask h2 hj1 hj2 hmk)
      have HAL := Lib.hid hal
      have HLT := Lib.hid hlt
      have HE1 := Lib.hid e1
      have HF1 := Lib.hid f1
      clear e1 f1
      have hgL := HTL.out
      rw [HTL.out] at x4
      clear hal xf x0 x1 x2 x3 x5 hgL hlt
      have i0 : (0 : Int) ≤ (i : Int) := by omega
      have i1 : (i : Int) < (m.row.length : Int) := by have := HLT.out; omega
      have i2 : (i : Int) + 1 < (m.row.length : Int) + 1 := by omega
      have i3 : (i : Int) < (m.row.length : Int) + 1 := by omega
      have m0 : (0 : Int) ≤ (mask : Int) := by omega
      have m1 : (mask : Int) < (all : Int) := by omega
      by_cases hokj : ok m F i j mask = true
      case neg =>
        rw [show ok m F i j mask = false by simpa using hokj] at HAL
        have HR := Lib.hid (HNO.out (by unfold leads; rw [show ok m F i j mask = false by simpa using hokj]; simp))
        clear hokj
        go_wp2_with (go_at_call 39; refine (HAL.out).mono ?_; rintro e w' ⟨rfl, rfl⟩)
        go_roundg (m.col.length + 1 - (t + 1))
        case measure => omega
        case rel => exact ⟨t + 1, rfl, rfl, by omega, by go_num, HR.out, nn, rfl⟩
      have HOKJ := Lib.hid hokj
      rw [hokj] at HAL
      have hnx : nxt mask j < all := by rw [HALL.out]; exact nxt_lt (by rw [← HALL.out]; exact hmask) hj2
      have n0' : (0 : Int) ≤ ((nxt mask j : Nat) : Int) := by omega
      have n1' : ((nxt mask j : Nat) : Int) < (all : Int) := by omega
      have hrr := mn_hi hok F k (i + 1) (nxt mask j)
      have hpr2 := price_range hok i j
      have hpr := ok_price hok hokj
      have hxr := mn_hi hok F (k + 1) i mask
      have hf := HF1.out (nxt mask j) hnx
      have he := HE1.out mask hmask
      unfold leastF at hf he
      rw [show m.row.length - (i + 1) = k by omega] at hf
      rw [show m.row.length - i = k + 1 by omega] at he
      obtain ⟨r, hr⟩ : ∃ r, mn (costs m F k (i + 1) (nxt mask j)) = r := ⟨_, rfl⟩
      obtain ⟨z, hz⟩ : ∃ z, mn (costs m F (k + 1) i mask) = z := ⟨_, rfl⟩
      obtain ⟨pc, hpc⟩ : ∃ pc, price m i j = pc := ⟨_, rfl⟩
      have HRr := Lib.hid hr
      have HZz := Lib.hid hz
      have HPp := Lib.hid hpc
      rw [hr] at hf hrr
      rw [hz] at he hxr
      rw [hpc] at hpr hpr2
      clear hokj hr hz hpc
      have hnum : 2147483648 * ((k : Int) + 1) ≤ 2147483648 * 8 := by omega
      have hcase : (decide (0 ≤ r) = false) ∨ (decide (0 ≤ r) = true ∧ (pc + r == z) = false) ∨ (decide (0 ≤ r) = true ∧ (pc + r == z) = true) := by
        simp
        omega
      have hlw : wrap64 (pc + r) = pc + r := IntWalk.wrap64_in _ ⟨by omega, by omega⟩
      have HLW := Lib.hid hlw
      clear hlw
      have r0 : -1 ≤ r := by omega
      have r1 : r ≤ 40000000000 := by omega
      clear hrr hxr hnum
      have HLD2 := Lib.hid (show (decide (0 ≤ r) = true ∧ (pc + r == z) = true) ↔ leads m F k i mask j = true by
        unfold leads
        rw [HOKJ.out, HRr.out, HPp.out, HZz.out]
        simp)
      rcases hcase with q | ⟨q, q2⟩ | ⟨q, q2⟩
      · have HR := Lib.hid (HNO.out (by cases h : leads m F k i mask j; rfl; have := HLD2.out.2 h; rw [q] at this; simp at this))
        go_wp2_with (first
          | (go_at_call 39; refine (HAL.out).mono ?_; rintro e w' ⟨rfl, rfl⟩)
          | (go_at_call 40
             refine (HSTP.out HLT.out).mono ?_
             rintro e w2 ⟨rfl, n2, hw2⟩
             rw [HPp.out]
             have HW2 := Lib.hid (show w2 = w1.drewN (nn + n2) by rw [hw2, World.drewN_drewN])
             have x4' : w2.cell? ⟨p, 2, none⟩ = none ∨ True := .inr trivial
             have y4 : w2.cell? ⟨p, 4, none⟩ = some (.slice (some ⟨gL, 0, none⟩) (m.row.length + 1) cL) := by rw [hw2]; exact x4
             have y5 : w2.cell? ⟨gL, i, none⟩ = some (.slice (some ⟨b0, 0, none⟩) all all) := by rw [hw2]; exact e0
             have y6 : w2.cell? ⟨gL, i + 1, none⟩ = some (.slice (some ⟨b1, 0, none⟩) all all) := by rw [hw2]; exact f0
             have y7 : w2.cell? ⟨b1, nxt mask j, none⟩ = some (.int .i64 r) := by rw [hw2]; exact hf
             have y8 : w2.cell? ⟨b0, mask, none⟩ = some (.int .i64 z) := by rw [hw2]; exact he
             clear hw2 x4'))
        go_roundg (m.col.length + 1 - (t + 1))
        case measure => omega
        case rel => exact ⟨t + 1, rfl, rfl, by omega, by go_num, HR.out, nn + n2, HW2.out⟩
      · have HR := Lib.hid (HNO.out (by cases h : leads m F k i mask j; rfl; have := HLD2.out.2 h; rw [q2] at this; simp at this))
        go_wp2_with (first
          | (go_at_call 39; refine (HAL.out).mono ?_; rintro e w' ⟨rfl, rfl⟩)
          | (go_at_call 40
             refine (HSTP.out HLT.out).mono ?_
             rintro e w2 ⟨rfl, n2, hw2⟩
             rw [HPp.out]
             have HW2 := Lib.hid (show w2 = w1.drewN (nn + n2) by rw [hw2, World.drewN_drewN])
             have x4' : w2.cell? ⟨p, 2, none⟩ = none ∨ True := .inr trivial
             have y4 : w2.cell? ⟨p, 4, none⟩ = some (.slice (some ⟨gL, 0, none⟩) (m.row.length + 1) cL) := by rw [hw2]; exact x4
             have y5 : w2.cell? ⟨gL, i, none⟩ = some (.slice (some ⟨b0, 0, none⟩) all all) := by rw [hw2]; exact e0
             have y6 : w2.cell? ⟨gL, i + 1, none⟩ = some (.slice (some ⟨b1, 0, none⟩) all all) := by rw [hw2]; exact f0
             have y7 : w2.cell? ⟨b1, nxt mask j, none⟩ = some (.int .i64 r) := by rw [hw2]; exact hf
             have y8 : w2.cell? ⟨b0, mask, none⟩ = some (.int .i64 z) := by rw [hw2]; exact he
             clear hw2 x4'))
        go_roundg (m.col.length + 1 - (t + 1))
        case measure => omega
        case rel => exact ⟨t + 1, rfl, rfl, by omega, by go_num, HR.out, nn + n2, HW2.out⟩
      · have HY := Lib.hid (HYES.out (HLD2.out.1 ⟨q, q2⟩))
        have HGG := Lib.hid (show (pre ++ [j]) ++ greedy m F k (i + 1) (nxt mask j) = greedy m F m.row.length 0 0 by
          have hjj : jj = j := by
            have := HFD.out
            rw [HY.out] at this
            simpa using this.symm
          rw [← HGR.out, HGE.out, hjj]; simp)
        have HM2 := Lib.hid (show 0 ≤ mn (costs m F k (i + 1) (nxt mask j)) by rw [HRr.out]; simpa using q)
        have hpre : pre.length + 1 ≤ 8 := by omega
        have j64 : i64ok j := by unfold i64ok; omega
        go_wp2_with (first
          | (go_at_call 39; refine (HAL.out).mono ?_; rintro e w' ⟨rfl, rfl⟩)
          | (go_at_call 40
             refine (HSTP.out HLT.out).mono ?_
             rintro e w2 ⟨rfl, n2, hw2⟩
             rw [HPp.out]
             have HW2 := Lib.hid (show w2 = w1.drewN (nn + n2) by rw [hw2, World.drewN_drewN])
             have x4' : w2.cell? ⟨p, 2, none⟩ = none ∨ True := .inr trivial
             have y4 : w2.cell? ⟨p, 4, none⟩ = some (.slice (some ⟨gL, 0, none⟩) (m.row.length + 1) cL) := by rw [hw2]; exact x4
             have y5 : w2.cell? ⟨gL, i, none⟩ = some (.slice (some ⟨b0, 0, none⟩) all all) := by rw [hw2]; exact e0
             have y6 : w2.cell? ⟨gL, i + 1, none⟩ = some (.slice (some ⟨b1, 0, none⟩) all all) := by rw [hw2]; exact f0
             have y7 : w2.cell? ⟨b1, nxt mask j, none⟩ = some (.int .i64 r) := by rw [hw2]; exact hf
             have y8 : w2.cell? ⟨b0, mask, none⟩ = some (.int .i64 z) := by rw [hw2]; exact he
             clear hw2 x4')
          | (at_builtin
             refine wpList_append_one (.tmp 81) (.tmp 83) rfl 23 rfl slInt rfl (show OwnSl tInt 3 w.heap.size w2 v0 pre by rw [HW2.out]; exact HO1.out.drewN _) rfl (S := fun _ => False) (y := j) ⟨rfl, j64⟩ (fun _ h => h.elim) (by omega) (by unfold maxLen; omega) (show w.heap.size ≤ w2.heap.size by rw [HW2.out]; exact (bl_drewN HBB1.out _).size) ?_
             intro v3 w3 ho3 hg3 hb3
             have HO3 := Lib.hid ho3
             have HB3 := Lib.hid (show Below w.heap.size w w3 from (show Below w.heap.size w w2 by rw [HW2.out]; exact bl_drewN HBB1.out _).trans hb3)
             clear ho3 hg3 hb3))
        go_roundg (m.row.length - (i + 1))
        case measure => omega
        case rel => exact ⟨i + 1, nxt mask j, k, pre ++ [j], _, rfl, by omega, by omega, by go_num, rfl, hnx, by rw [List.length_append, hpl]; rfl, HGG.out, HM2.out, HO3.out, HB3.out⟩
end Go.Proofs.Ytepceaoccnmkiaa
