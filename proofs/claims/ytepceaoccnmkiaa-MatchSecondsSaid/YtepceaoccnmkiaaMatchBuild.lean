/-
  Layer 6 (match): the walk of build: its rows are made.
-/
import Derived.Test.YtepceaoccnmkiaaMatchTabL
import Derived.Test.YtepceaoccnmkiaaMatchFill2
import Derived.Deep.DeepCutAuto
import Derived.Deep.RegionLaw
namespace Go.Proofs.Ytepceaoccnmkiaa
open Go.RowKit Go.Tw Go.Tw.Match
def MadeL (w : World) (p : Nat) (vc vr vl vf : Value) (all : Nat) (vW : Value) (bl bw : List Nat) (wx : World) : Prop := ∃ vL' b, BSt p vc vr vl vf all vL' vW (bl ++ [b]) bw wx ∧ BoxW w vc vr vl wx
/-- a table, filled -/
def Built (m : Mat) (F : List Int) (w : World) (vc vr vl vf : Value) (all : Nat) (w' : World) (e : Ending) : Prop := ∃ p gL cL gW cW bl bw, e = .returned (.pointer (some ⟨p, 0, none⟩)) ∧ w.heap.size ≤ p ∧
  Tab w.heap.size w' p vc vr vl vf gL cL gW cW bl bw all (rowsF (leastF m F) m.row.length all 0 all) (rowsF (waysF m F) m.row.length all 0 all) ∧ bl.length = m.row.length + 1 ∧ bw.length = m.row.length + 1
set_option maxRecDepth 100000 in
set_option maxHeartbeats 16000000 in
theorem build_any (m : Mat) (hok : Ok m) (F : List Int) (vc vr vl vf : Value) (w : World) (h : MatIs w vc vr vl m) (hf : SlIs tInt (· < w.heap.size) w vf F) (hFl : F.length = m.row.length) :
    Calls Try.prog 28 #[.agg #[vc, vr, vl], vf] w fun e w' => Built m F w vc vr vl vf (2 ^ m.col.length) w' e ∧ Below w.heap.size w w' := by
  have HM := Lib.hid h
  obtain ⟨ac, cc, bc, oc, ar, cr, br, or, al, cl, bl', ol, rfl, rfl, rfl, hm⟩ := h.at
  obtain ⟨af, cf, bf, of, rfl, cf1, cf2, hiF⟩ := Go.Tw.Match.ints_at hf
  unfold maxLen at cf2
  have c8 := hok.c8
  have n8 := hok.n8
  have cc1 := hm.cc1
  have cc2 := hm.cc2
  have cr1 := hm.cr1
  have cr2 := hm.cr2
  have cl1 := hm.cl1
  have cl2 := hm.cl2
  have HMA := Lib.hid hm
  have HFL := Lib.hid hFl
  have HIF := Lib.hid hiF
  obtain ⟨all, hall⟩ : ∃ all, 2 ^ m.col.length = all := ⟨_, rfl⟩
  have hal : all ≤ 256 := by rw [← hall]; exact Nat.le_trans (Nat.pow_le_pow_right (by decide) c8) (by decide)
  have HW := Lib.hid (show wrap64 (2 ^ m.col.length) = ((all : Nat) : Int) by
    have e : (2 : Int) ^ m.col.length = ((2 ^ m.col.length : Nat) : Int) := by simp
    rw [e, hall, IntWalk.wrap64_in _ ⟨by omega, by omega⟩])
  have HALL := Lib.hid hall
  have hmk := hmakeI all (by omega)
  have HMK := Lib.hid hmk
  clear h hf hm hiF hFl hall hmk
  go_enter Try.func28, Try.ntmps28
  go_wp2_with (fail)
  go_quiet (fail)
  rw [HW.out]
  go_wp2_with (fail)
  go_loopg [26] (m.row.length + 1) (fun g i wr => ∃ (k : Nat) (vL vW : Value) (bl bw : List Nat), k + g = m.row.length + 1 ∧ i = .int .i64 k ∧ bl.length = k ∧ bw.length = k ∧
    BSt (w.heap.size + 1) (.slice ac m.cost.length cc) (.slice ar m.row.length cr) (.slice al m.col.length cl) (.slice af F.length cf) all vL vW bl bw wr ∧ BoxW w (.slice ac m.cost.length cc) (.slice ar m.row.length cr) (.slice al m.col.length cl) wr)
  case atStart =>
    refine ⟨0, .slice none 0 0, .slice none 0 0, [], [], by omega, rfl, rfl, rfl, ⟨?_, RSt.start _ _ _, RSt.start _ _ _, fun g hg => by simp [Value.ownBlock] at hg ⊢⟩, ?_⟩
    · exact alloc2_1 _ _ _
    · exact ⟨alloc2_0 _ _ _, by (repeat (first | (with_reducible exact Below.refl _ _) | (with_reducible apply bl_drewN) | (with_reducible apply bl_alloc) | ((with_reducible refine bl_set ?_ _ ?_); rotate_left; focus (first | exact Nat.le_refl _ | (simp; done) | (simp; omega)))))⟩
  case round =>
    obtain ⟨k, vL, vW, bl, bw, hk, rfl, hbl, hbw, hst, hbx⟩ := hrel
    have HS := Lib.hid hst; clear hst
    have HB := Lib.hid hbx; clear hbx
    have HBL := Lib.hid hbl; clear hbl
    have HBW := Lib.hid hbw; clear hbw
    obtain ⟨x0, x1, x2, xf⟩ := blk3 HB.out.1
    obtain ⟨y0, y1, y2, y3, y4, y5, yf⟩ := blk6 HS.out.blk
    have hpl := lt_of_heap HS.out.blk
    have k0 : (0 : Int) ≤ (k : Int) := by omega
    by_cases hlt : k < m.row.length + 1
    case neg =>
      obtain rfl : k = m.row.length + 1 := by omega
      obtain ⟨gL, cL, gW, cW, T⟩ := HS.out.tab HBL.out HBW.out (by omega) (B := w.heap.size + 1) (by omega)
      have HLOW := Lib.hid T.low
      have T := T.mono (B' := w.heap.size) (by omega)
      have HT := Lib.hid (show Tab w.heap.size wr (w.heap.size + 1) (.slice ac m.cost.length cc) (.slice ar m.row.length cr) (.slice al m.col.length cl) (.slice af F.length cf) gL cL gW cW bl bw all (rowsF (leastF m F) m.row.length all m.row.length 0) (rowsF (waysF m F) m.row.length all m.row.length 0) by
        rw [← rowsF_start, ← rowsF_start]; exact T)
      clear T HS hlt hk x0 x1 x2 xf y0 y1 y2 y3 y4 y5 yf hpl k0
      have hd : decide ((m.row.length : Int) + 1 < (m.row.length : Int) + 1) = false := by simp
      obtain ⟨b0, Hb0⟩ : ∃ b, bl[m.row.length]? = some b := ⟨_, List.getElem?_eq_getElem (by rw [HBL.out]; omega)⟩
      obtain ⟨d0, Hd0⟩ : ∃ b, bw[m.row.length]? = some b := ⟨_, List.getElem?_eq_getElem (by rw [HBW.out]; omega)⟩
      have hb0l : w.heap.size + 1 ≤ b0 := HLOW.out b0 (by simp [List.mem_of_getElem? Hb0])
      have hd0l : w.heap.size + 1 ≤ d0 := HLOW.out d0 (by simp [List.mem_of_getElem? Hd0])
      have HB0 := Lib.hid Hb0
      have HD0 := Lib.hid Hd0
      clear Hb0 Hd0
      go_wp2
      clear hd
      go_loopg [52] all (fun g i wx => ∃ q : Nat, q + g = all ∧ i = .int .i64 q ∧ Tab w.heap.size wx (w.heap.size + 1) (.slice ac m.cost.length cc) (.slice ar m.row.length cr) (.slice al m.col.length cl) (.slice af F.length cf) gL cL gW cW bl bw all (rowsF (leastF m F) m.row.length all m.row.length q) (rowsF (waysF m F) m.row.length all m.row.length q) ∧ BoxW w (.slice ac m.cost.length cc) (.slice ar m.row.length cr) (.slice al m.col.length cl) wx)
      case atStart => exact ⟨0, by omega, rfl, HT.out, HB.out⟩
      case round =>
        obtain ⟨wo, rfl⟩ : ∃ wo : World, wo = wr := ⟨_, rfl⟩
        obtain ⟨q, hq, rfl, hT, hbx⟩ := hrel
        clear HT HB
        have HT := Lib.hid hT; clear hT
        have HB := Lib.hid hbx; clear hbx
        by_cases hql : q < all
        case neg =>
          obtain rfl : all = q := by omega
          have hqd : decide ((all : Int) < (all : Int)) = false := by simp
          clear hql hq
          go_wp2
          clear hqd
          go_loopg [11] m.row.length (fun g i wx => ∃ (r : Nat) (z : Int), r = g ∧ r ≤ m.row.length ∧ i = .int .i64 z ∧ z = (r : Int) - 1 ∧ Tab w.heap.size wx (w.heap.size + 1) (.slice ac m.cost.length cc) (.slice ar m.row.length cr) (.slice al m.col.length cl) (.slice af F.length cf) gL cL gW cW bl bw all (rowsF (leastF m F) m.row.length all r all) (rowsF (waysF m F) m.row.length all r all) ∧ Below w.heap.size w wx)
          case atStart => exact ⟨m.row.length, _, rfl, Nat.le_refl _, rfl, rfl, HT.out, HB.out.2⟩
          case round =>
            obtain ⟨r, z, rfl, hrn, rfl, hz, hT, hbb⟩ := hrel
            clear HT HB
            have HT := Lib.hid hT; clear hT
            have HB := Lib.hid hbb; clear hbb
            rcases Nat.eq_zero_or_pos r with hr0 | hr0
            · obtain rfl : z = -1 := by omega
              rw [hr0] at HT
              have HR := Lib.hid (show Built m F w (.slice ac m.cost.length cc) (.slice ar m.row.length cr) (.slice al m.col.length cl) (.slice af F.length cf) all wr (.returned (.pointer (some ⟨w.heap.size + 1, 0, none⟩))) from ⟨_, gL, cL, gW, cW, bl, bw, rfl, by omega, HT.out, HBL.out, HBW.out⟩)
              clear hr0 hz hrn
              go_wp2
              go_ret
              exact ⟨by rw [HALL.out]; exact HR.out, HB.out⟩
            · obtain ⟨s, rfl⟩ : ∃ s, r = s + 1 := ⟨r - 1, by omega⟩
              obtain rfl : z = (s : Int) := by omega
              have HT2 := Lib.hid (show Tab w.heap.size wr (w.heap.size + 1) (.slice ac m.cost.length cc) (.slice ar m.row.length cr) (.slice al m.col.length cl) (.slice af F.length cf) gL cL gW cW bl bw all (rowsF (leastF m F) m.row.length all s 0) (rowsF (waysF m F) m.row.length all s 0) by
                rw [← rowsF_next, ← rowsF_next]; exact HT.out)
              have s0 : (0 : Int) ≤ (s : Int) := by omega
              clear hr0 hz
              go_wp2
              go_loopg [99] all (fun g' ix wx => ∃ t : Nat, t + g' = all ∧ ix = .int .i64 t ∧ Tab w.heap.size wx (w.heap.size + 1) (.slice ac m.cost.length cc) (.slice ar m.row.length cr) (.slice al m.col.length cl) (.slice af F.length cf) gL cL gW cW bl bw all (rowsF (leastF m F) m.row.length all s t) (rowsF (waysF m F) m.row.length all s t) ∧ Below w.heap.size w wx)
              case atStart => exact ⟨0, by omega, rfl, HT2.out, HB.out⟩
              case round =>
                obtain ⟨wo, rfl⟩ : ∃ wo : World, wo = wr := ⟨_, rfl⟩
                obtain ⟨t, ht, rfl, hT, hbb⟩ := hrel
                clear HT HT2 HB
                have HT := Lib.hid hT; clear hT
                have HB := Lib.hid hbb; clear hbb
                by_cases htl : t < all
                · obtain ⟨b0', Hb0⟩ : ∃ b, bl[s]? = some b := ⟨_, List.getElem?_eq_getElem (by rw [HBL.out]; omega)⟩
                  obtain ⟨d0', Hd0⟩ : ∃ b, bw[s]? = some b := ⟨_, List.getElem?_eq_getElem (by rw [HBW.out]; omega)⟩
                  obtain ⟨b1', Hb1⟩ : ∃ b, bl[s + 1]? = some b := ⟨_, List.getElem?_eq_getElem (by rw [HBL.out]; omega)⟩
                  obtain ⟨d1', Hd1⟩ : ∃ b, bw[s + 1]? = some b := ⟨_, List.getElem?_eq_getElem (by rw [HBW.out]; omega)⟩
                  have HFI := Lib.hid (fill_any m hok F w wo HB.out (w.heap.size + 1) _ _ bc oc _ _ br or _ _ bl' ol _ _ bf of HMA.out HIF.out HFL.out cf1 cf2 gL cL gW cW bl bw all _ _ (rowF (leastF m F) all s t s) (rowF (waysF m F) all s t s) (rowF (leastF m F) all s t (s + 1)) (rowF (waysF m F) all s t (s + 1)) s (m.row.length - (s + 1)) t b0' b1' d0' d1'
                    HT.out HALL.out.symm (by omega) htl (rowsF_len _ _ _ _ _) (rowsF_len _ _ _ _ _) (rowsF_row _ (by omega)) (rowsF_row _ (by omega)) (rowsF_row _ (by omega)) (rowsF_row _ (by omega)) Hb0 Hb1 Hd0 Hd1
                    (fun q h => rowF_done _ (by omega) h) (fun q h => rowF_done _ (by omega) h) (fun h => rowF_zero _ h))
                  have HK := Lib.hid (show m.row.length - (s + 1) + 1 = m.row.length - s by omega)
                  have t0 : (0 : Int) ≤ (t : Int) := by omega
                  have t1 : (t : Int) < (all : Int) := by omega
                  clear Hb0 Hd0 Hb1 Hd1
                  go_wp2_with (go_at_call 37; refine (HFI.out).mono ?_; rintro e w2 ⟨rfl, hfs, hbb⟩; have HFS := Lib.hid hfs; have HBB := Lib.hid hbb; clear hfs hbb)
                  go_roundg (all - (t + 1))
                  case measure => omega
                  case rel => exact ⟨t + 1, by omega, by go_num, HFS.out.done (by rw [HK.out]; rfl) (by rw [HK.out]; rfl), HBB.out⟩
                · obtain rfl : all = t := by omega
                  have htd : decide ((all : Int) < (all : Int)) = false := by simp
                  clear htl ht
                  go_wp2
                  go_roundg s
                  case measure => omega
                  case rel => exact ⟨s, (s : Int) - 1, rfl, by omega, by go_num, rfl, HT.out, HB.out⟩
        have q0 : (0 : Int) ≤ (q : Int) := by omega
        have q1 : (q : Int) < (all : Int) := by omega
        have hR : ∀ f : Nat → Nat → Int, (rowsF f m.row.length all m.row.length q)[m.row.length]? = some (rowF f all m.row.length q m.row.length) := fun f => rowsF_row f (by omega)
        have HR := Lib.hid hR; clear hR
        have hS := FS.start (i := m.row.length) (mask := q) HT.out (HR.out _) (HR.out _) (by rw [rowF_len]; exact hql) (by rw [rowF_len]; exact hql)
        rw [rowF_zero, rowF_zero] at hS
        have HS := Lib.hid hS; clear hS
        obtain ⟨e0, e1, e2⟩ := HS.out.cellsL (HR.out _) HB0.out (by rw [rowF_len]; exact hql)
        obtain ⟨f0, f1, f2⟩ := HS.out.cellsW (HR.out _) HD0.out (by rw [rowF_len]; exact hql)
        obtain ⟨y0, y1, y2, y3, y4, y5, yf⟩ := blk6 HS.out.blk
        rw [rowsF_len] at y4 y5
        obtain ⟨x0, x1, x2, xf⟩ := blk3 HB.out.1
        have cL1 := HT.out.hcl
        have cL2 := HT.out.hcl2
        have cW1 := HT.out.hcw
        have cW2 := HT.out.hcw2
        rw [rowsF_len] at cL1 cW1
        have n0 : (0 : Int) ≤ (m.row.length : Int) := by omega
        have n1 : (m.row.length : Int) < (m.row.length : Int) + 1 := by omega
        have HS1 := Lib.hid (HS.out.storeW (HR.out _) HD0.out 1)
        have HB1 := Lib.hid (HB.out.store (d := d0) (off := q) (v := .int .i64 1) hd0l)
        obtain ⟨x0', x1', x2', xf'⟩ := blk3 HB1.out.1
        clear xf
        go_wp2
        clear x0 x1 x2 x0' x1' x2' xf' y0 y1 y2 y3 y4 y5 yf e0 e1 e2 f0 f1 f2
        go_loopg [67] m.col.length (fun g' i' wi => ∃ (j : Nat) (x : Int), j + g' = m.col.length ∧ i' = .int .i64 j ∧ x = freeS (fun t => q.testBit t) 0 (m.col.take j) ∧ FS w.heap.size wi (w.heap.size + 1) (.slice ac m.cost.length cc) (.slice ar m.row.length cr) (.slice al m.col.length cl) (.slice af F.length cf) gL cL gW cW bl bw all (rowsF (leastF m F) m.row.length all m.row.length q) (rowsF (waysF m F) m.row.length all m.row.length q) (rowF (leastF m F) all m.row.length q m.row.length) (rowF (waysF m F) all m.row.length q m.row.length) m.row.length q x 1 ∧ BoxW w (.slice ac m.cost.length cc) (.slice ar m.row.length cr) (.slice al m.col.length cl) wi)
        case atStart => exact ⟨0, 0, by omega, rfl, by simp [freeS], HS1.out, HB1.out⟩
        case round =>
          obtain ⟨j, x, hj, rfl, hx, hfs, hbx⟩ := hrel
          clear HS HS1 HB HB1 HT
          have HX := Lib.hid hx; clear hx
          have HS := Lib.hid hfs; clear hfs
          have HB := Lib.hid hbx; clear hbx
          by_cases hjl : j < m.col.length
          case neg =>
            obtain rfl : j = m.col.length := by omega
            rw [List.take_length] at HX
            have HT2 := Lib.hid (HS.out.done (HX.out.trans (leastF_last hok F q).symm) (waysF_last hok F q).symm)
            have hjd : decide ((m.col.length : Int) < (m.col.length : Int)) = false := by simp
            clear hjl hj
            go_wp2
            go_roundg (all - (q + 1))
            case measure => omega
            case rel => exact ⟨q + 1, by omega, by go_num, HT2.out, HB.out⟩
          obtain ⟨e0, e1, e2⟩ := HS.out.cellsL (HR.out _) HB0.out (by rw [rowF_len]; exact hql)
          obtain ⟨y0, y1, y2, y3, y4, y5, yf⟩ := blk6 HS.out.blk
          rw [rowsF_len] at y4 y5
          obtain ⟨rfl, hbc, z0, -⟩ := HMA.out.col _ HB.out.2 j hjl
          have hcj := hok.lin _ (List.getElem_mem hjl)
          have hxr := freeS_range (u := fun t => q.testBit t) (l := m.col.take j) 0 (fun x hx => hok.lin x (List.mem_of_mem_take hx))
          rw [← HX.out, List.length_take] at hxr
          have HF := Lib.hid (show freeS (fun t => q.testBit t) 0 (m.col.take (j + 1)) = freeS (fun t => q.testBit t) 0 (m.col.take j) + if q.testBit j then 0 else m.col[j] by
            rw [List.take_succ_eq_append_getElem hjl, freeS_snoc, List.length_take, Nat.min_eq_left (by omega), Nat.zero_add])
          have hbt := bit_test (mask := q) (by omega) (j := (j : Int)) (by omega)
          simp only [Int.toNat_natCast] at hbt
          have j0 : (0 : Int) ≤ (j : Int) := by omega
          have j1 : (j : Int) < (m.col.length : Int) := by omega
          have j2 : (j : Int) ≤ 64 := by omega
          cases htb : q.testBit j
          · rw [htb] at hbt
            have HSS := Lib.hid (HS.out.storeL (HR.out _) HB0.out (x + m.col[j]))
            have HBS := Lib.hid (HB.out.store (d := b0) (off := q) (v := .int .i64 (x + m.col[j])) hb0l)
            have HN := Lib.hid (show x + m.col[j] = freeS (fun t => q.testBit t) 0 (m.col.take (j + 1)) by rw [HF.out, htb, HX.out]; simp)
            clear htb
            go_wp2
            go_roundg (m.col.length - (j + 1))
            case measure => omega
            case rel => exact ⟨j + 1, x + m.col[j], by omega, by go_num, HN.out, HSS.out, HBS.out⟩
          · rw [htb] at hbt
            have HN := Lib.hid (show x = freeS (fun t => q.testBit t) 0 (m.col.take (j + 1)) by rw [HF.out, htb, HX.out]; simp)
            clear htb
            go_wp2
            go_roundg (m.col.length - (j + 1))
            case measure => omega
            case rel => exact ⟨j + 1, x, by omega, by go_num, HN.out, HS.out, HB.out⟩
    have k1 : (k : Int) < (m.row.length : Int) + 1 := by omega
    have hmk := HMK.out
    go_upto_region 5 with (fail)
    go_cut [5] (fun v wx => v = .pointer (some ⟨w.heap.size + 1, 0, none⟩) ∧ MadeL w (w.heap.size + 1) (.slice ac m.cost.length cc) (.slice ar m.row.length cr) (.slice al m.col.length cl) (.slice af F.length cf) all vW bl bw wx)
    case first =>
      have ya : ∀ o, (wr.alloc o).cell? ⟨w.heap.size + 1, 4, none⟩ = some vL := fun o => ((bl_alloc (Below.refl _ wr) o).cell (p := ⟨w.heap.size + 1, 4, none⟩) hpl).trans y4
      have yb : ∀ o o', ((wr.alloc o).alloc o').cell? ⟨w.heap.size + 1, 4, none⟩ = some vL := fun o o' => ((bl_alloc (bl_alloc (Below.refl _ wr) o) o').cell (p := ⟨w.heap.size + 1, 4, none⟩) hpl).trans y4
      go_region_law ((
        refine step_append_sl (.tmp 32) (.tmp 35) rfl 22 rfl slRow (by simp [Act.eval, Act.put]) ((HS.out.rl.own.drew.alloc _).alloc _) (by simp [Act.eval, Act.put]) (one_val _ (rowV all wr.heap.size) _ (wr.heap.size + 1) (by simp) rfl) (fun q hq => ⟨by simp; omega, fun e => by have := (HS.out.rl.own.own_lt q e.symm).2; omega⟩) (by simp [HBL.out]; omega) (by simp [HBL.out]; unfold maxLen; omega) (by simp; omega) ?_
        intro v' w2 ho hg hor
        obtain ⟨ao', n', cap', hv'⟩ := own_form ho
        subst hv'
        have hbb : Below wr.heap.size wr ((wr.drew.alloc (.cells (madeCells #[.int .i64 0] all) 3)).alloc (.cells #[rowV all wr.heap.size] 23)) := bl_alloc (bl_alloc (Below.drew (Below.refl _ _)) _) _
        obtain ⟨_, _, _, _, z4, z5, zf⟩ := blk6 (HS.out.blkL hbb hg)
        have hcm := (Cells.made wr.drew all 3).alloc (.cells #[rowV all wr.heap.size] 23)
        have HN := Lib.hid (HS.out.pushL hbb (b := wr.heap.size) (Nat.le_refl _) (by simp; omega) hcm ho hg hor)
        have HN2 := Lib.hid (HB.out.pushed (p := w.heap.size + 1) (off := 4) (v := .slice ao' n' cap') hbb hg (fun q e => by have := (HS.out.rl.own.own_lt q e).1; omega) (by omega))
        clear hbb ho hg hor hcm))
      all_goals
        go_wp2_with (fail)
        go_meet
        exact ⟨rfl, _, _, HN.out, HN2.out⟩
    case rest =>
      obtain ⟨rfl, vL', b, hst, hbx⟩ := hcut
      clear HS HB x0 x1 x2 xf y0 y1 y2 y3 y4 y5 yf hpl
      have HS := Lib.hid hst; clear hst
      have HB := Lib.hid hbx; clear hbx
      obtain ⟨x0, x1, x2, xf⟩ := blk3 HB.out.1
      obtain ⟨y0, y1, y2, y3, y4, y5, yf⟩ := blk6 HS.out.blk
      have hpl := lt_of_heap HS.out.blk
      have ya : ∀ o, (wc.alloc o).cell? ⟨w.heap.size + 1, 5, none⟩ = some vW := fun o => ((bl_alloc (Below.refl _ wc) o).cell (p := ⟨w.heap.size + 1, 5, none⟩) hpl).trans y5
      have yb : ∀ o o', ((wc.alloc o).alloc o').cell? ⟨w.heap.size + 1, 5, none⟩ = some vW := fun o o' => ((bl_alloc (bl_alloc (Below.refl _ wc) o) o').cell (p := ⟨w.heap.size + 1, 5, none⟩) hpl).trans y5
      go_wp2_with (fail)
      go_region_law ((
        refine step_append_sl (.tmp 43) (.tmp 46) rfl 22 rfl slRow (by simp [Act.eval]) ((HS.out.rW.own.drew.alloc _).alloc _) (by simp [Act.eval]) (one_val _ (rowV all wc.heap.size) _ (wc.heap.size + 1) (by simp) rfl) (fun q hq => ⟨by simp; omega, fun e => by have := (HS.out.rW.own.own_lt q e.symm).2; omega⟩) (by simp [HBW.out]; omega) (by simp [HBW.out]; unfold maxLen; omega) (by simp; omega) ?_
        intro v' w2 ho hg hor
        obtain ⟨ao', n', cap', hv'⟩ := own_form ho
        subst hv'
        have hbb : Below wc.heap.size wc ((wc.drew.alloc (.cells (madeCells #[.int .i64 0] all) 3)).alloc (.cells #[rowV all wc.heap.size] 23)) := bl_alloc (bl_alloc (Below.drew (Below.refl _ _)) _) _
        obtain ⟨_, _, _, _, z4, z5, zf⟩ := blk6 (HS.out.blkW hbb hg)
        have hcm := (Cells.made wc.drew all 3).alloc (.cells #[rowV all wc.heap.size] 23)
        have HN := Lib.hid (HS.out.pushW hbb (b := wc.heap.size) (Nat.le_refl _) (by simp; omega) hcm ho hg hor)
        have HN2 := Lib.hid (HB.out.pushed (p := w.heap.size + 1) (off := 5) (v := .slice ao' n' cap') hbb hg (fun q e => by have := (HS.out.rW.own.own_lt q e).1; omega) (by omega))
        clear hbb ho hg hor hcm))
      all_goals
        go_wp2_with (fail)
        go_roundg (m.row.length + 1 - (k + 1))
        case measure => omega
        case rel => exact ⟨k + 1, vL', _, _, _, by omega, by go_num, by rw [List.length_append, HBL.out]; rfl, by rw [List.length_append, HBW.out]; rfl, HN.out, HN2.out⟩
end Go.Proofs.Ytepceaoccnmkiaa
