/-
  Layer 6 (match): the walk of the reference's Total.
-/
import Derived.Test.YtepceaoccnmkiaaMatchTot
import Derived.Deep.RegionHeld3
namespace Go.Proofs.Ytepceaoccnmkiaa
open Go.RowKit Go.Tw Go.Tw.Match
set_option maxRecDepth 100000 in
set_option maxHeartbeats 8000000 in
theorem totalR_any (m : Mat) (a : List Int) (vc vr vl va : Value) (w : World) (h : MatIs w vc vr vl m) (ha : SlIs tInt (· < w.heap.size) w va a) :
    Calls Try.prog 13 #[.agg #[vc, vr, vl], va] w fun e w' => e = .returned (.tuple #[.int .i64 (totC m a).1, .int .i64 (totC m a).2]) ∧ Below w.heap.size w w' := by
  have HM := Lib.hid h
  obtain ⟨ac, cc, bc, oc, ar, cr, br, or, al, cl, bl, ol, rfl, rfl, rfl, hm⟩ := h.at
  obtain ⟨cc1, cc2, cr1, cr2, cl1, cl2, hcost, hrow, hcol⟩ := hm
  obtain ⟨aa, ca, ba, oa, rfl, ca1, ca2, hia⟩ := Go.Tw.Match.ints_at ha
  unfold maxLen at ca2
  have HIA := Lib.hid hia
  have HCOL := Lib.hid hcol
  clear h ha hcost hrow hcol hia
  have HB := Lib.hid (BoxW.start w (.slice ac m.cost.length cc) (.slice ar m.row.length cr) (.slice al m.col.length cl))
  by_cases hc : chk m = 0
  case neg =>
    have hcn : (chk m != 0) = true := by rw [bne_iff_ne]; exact hc
    have HT := Lib.hid (show totC m a = (0, chk m) by unfold totC; rw [if_pos hc]); clear hc
    go_enter Try.func13, Try.ntmps13
    go_wp2_with (fail)
    refine (checkR_any m _ _ _ _ (HM.out.step (bl_alloc (Below.refl _ _) _))).mono ?_
    rintro e w1 ⟨rfl, hb1⟩
    have HB1 := Lib.hid (HB.out.below hb1); clear hb1
    go_wp2
    go_ret2
    exact ⟨ret_pair HT.out, HB1.out.2⟩
  have hcn : (chk m != 0) = false := by rw [bne_eq_false_iff_eq]; exact hc
  have hok := chk_ok.1 hc
  have HC := Lib.hid hc; clear hc
  by_cases hl : a.length = m.row.length
  case neg =>
    have hlb : ((a.length : Int) != (m.row.length : Int)) = true := by rw [bne_iff_ne]; omega
    have HT := Lib.hid (show totC m a = (0, 2) by unfold totC; rw [if_neg (by simp [HC.out]), if_pos hl]); clear hl
    go_enter Try.func13, Try.ntmps13
    go_wp2_with (fail)
    refine (checkR_any m _ _ _ _ (HM.out.step (bl_alloc (Below.refl _ _) _))).mono ?_
    rintro e w1 ⟨rfl, hb1⟩
    have HB1 := Lib.hid (HB.out.below hb1); clear hb1
    clear HB
    have HB := HB1
    clear HB1
    obtain ⟨x0, x1, x2, xf⟩ := blk3 HB.out.1
    go_wp2
    go_ret2
    exact ⟨ret_pair HT.out, HB.out.2⟩
  have hlb : ((a.length : Int) != (m.row.length : Int)) = false := by rw [bne_eq_false_iff_eq]; omega
  have HL := Lib.hid hl
  have h8 := hok.n8
  have c8 := hok.c8
  have ha8 : a.length ≤ 8 := by omega
  clear hl
  go_enter Try.func13, Try.ntmps13
  go_wp2_with (fail)
  refine (checkR_any m _ _ _ _ (HM.out.step (bl_alloc (Below.refl _ _) _))).mono ?_
  rintro e w1 ⟨rfl, hb1⟩
  have HB1 := Lib.hid (HB.out.below hb1); clear hb1
  clear HB
  have HB := HB1
  clear HB1
  obtain ⟨x0, x1, x2, xf⟩ := blk3 HB.out.1
  go_wp2
  clear x0 x1 x2 xf
  go_loopg [8, 7] a.length (fun g i s wr => ∃ k : Nat, k + g = a.length ∧ i = .int .i64 k ∧ s = .int .i64 (rowsum m 0 (a.take k)) ∧ errGo m [] a = errGo m (a.take k) (a.drop k) ∧ BoxW w (.slice ac m.cost.length cc) (.slice ar m.row.length cr) (.slice al m.col.length cl) wr)
  case atStart => exact ⟨0, by omega, rfl, rfl, rfl, HB.out⟩
  case round =>
    obtain ⟨wo, rfl⟩ : ∃ wo : World, wo = wr := ⟨_, rfl⟩
    obtain ⟨k, hk, rfl, rfl, he, hbx⟩ := hrel
    clear HB
    have HB := Lib.hid hbx; clear hbx
    have HE := Lib.hid he; clear he
    obtain ⟨x0, x1, x2, xf⟩ := blk3 HB.out.1
    by_cases hlt : k < a.length
    case neg =>
      obtain rfl : k = a.length := by omega
      have hE0 : errGo m [] a = 0 := by rw [HE.out, errGo_end (Nat.le_refl _)]
      have HT := Lib.hid (show totC m a = (costA m a, 0) by unfold totC; rw [if_neg (by simp [HC.out]), if_neg (by simp [HL.out]), if_neg (by simp [hE0])])
      have hkd : decide ((a.length : Int) < (a.length : Int)) = false := by simp
      have hsr := rowsum_range hok a 0
      rw [List.take_length]
      clear hE0 hlt hk
      go_wp2
      clear x0 x1 x2 xf
      go_loopg [10, 7] m.col.length (fun g' i' s' wi => ∃ j : Nat, j + g' = m.col.length ∧ i' = .int .i64 j ∧ s' = .int .i64 (rowsum m 0 a + freeS (used a) 0 (m.col.take j)) ∧ BoxW w (.slice ac m.cost.length cc) (.slice ar m.row.length cr) (.slice al m.col.length cl) wi)
      case atStart => exact ⟨0, by omega, rfl, by simp [freeS], HB.out⟩
      case round =>
        obtain ⟨wo, rfl⟩ : ∃ wo : World, wo = wr := ⟨_, rfl⟩
        obtain ⟨j, hj, rfl, rfl, hbx⟩ := hrel
        clear HB
        have HB := Lib.hid hbx; clear hbx
        obtain ⟨x0, x1, x2, xf⟩ := blk3 HB.out.1
        have hfr := freeS_range (u := used a) (l := m.col.take j) 0 (fun x hx => hok.lin x (List.mem_of_mem_take hx))
        rw [List.length_take] at hfr
        by_cases hjl : j < m.col.length
        case neg =>
          obtain rfl : j = m.col.length := by omega
          have hjd : decide ((m.col.length : Int) < (m.col.length : Int)) = false := by simp
          rw [List.take_length]
          clear hjl hj
          go_wp2
          go_ret2
          exact ⟨ret_pair HT.out, HB.out.2⟩
        obtain ⟨rfl, hbc, z0, -⟩ := HCOL.out _ HB.out.2 j hjl
        have hcj := hok.lin _ (List.getElem_mem hjl)
        have HF := Lib.hid (show freeS (used a) 0 (m.col.take (j + 1)) = freeS (used a) 0 (m.col.take j) + if used a j then 0 else m.col[j] by
          rw [List.take_succ_eq_append_getElem hjl, freeS_snoc, List.length_take, Nat.min_eq_left (by omega), Nat.zero_add])
        have j0 : (0 : Int) ≤ (j : Int) := by omega
        have j1 : (j : Int) < (m.col.length : Int) := by omega
        go_wp2
        go_loopg [12, 11] a.length (fun g' i' u' wi => ∃ (i : Nat) (b : Bool), i + g' = a.length ∧ i' = .int .i64 i ∧ u' = .bool b ∧ b = used (a.take i) j ∧ wi = wo)
        case atStart => exact ⟨0, false, by omega, rfl, rfl, rfl, rfl⟩
        case round =>
          obtain ⟨i, b, hi, rfl, rfl, hbd, hwr⟩ := hrel
          subst hwr
          have HBD := Lib.hid hbd; clear hbd
          by_cases hil : i < a.length
          · obtain ⟨rfl, hby, y0, -⟩ := HIA.out _ HB.out.2 i hil
            have i0 : (0 : Int) ≤ (i : Int) := by omega
            have i1 : (i : Int) < (a.length : Int) := by omega
            have HUS := Lib.hid (show used (a.take (i + 1)) j = (used (a.take i) j || (a[i] == (j : Int))) by
              rw [List.take_succ_eq_append_getElem hil, used_snoc]
              congr 1
              rw [Bool.eq_iff_iff]
              simp
              exact ⟨fun h => h.symm, fun h => h.symm⟩)
            have hbb : b = true ∨ b = false := by cases b <;> simp
            have hee : (a[i] == (j : Int)) = true ∨ (a[i] == (j : Int)) = false := by cases a[i] == (j : Int) <;> simp
            rcases hbb with rfl | rfl
            · have HR := Lib.hid (show true = used (a.take (i + 1)) j by rw [HUS.out, ← HBD.out]; rfl)
              go_wp2
              go_roundg (a.length - (i + 1))
              case measure => omega
              case rel => exact ⟨i + 1, true, by omega, by go_num, rfl, HR.out, rfl⟩
            · rcases hee with hee | hee
              · have HR := Lib.hid (show true = used (a.take (i + 1)) j by rw [HUS.out, hee, Bool.or_true])
                go_wp2
                go_roundg (a.length - (i + 1))
                case measure => omega
                case rel => exact ⟨i + 1, true, by omega, by go_num, rfl, HR.out, rfl⟩
              · have HR := Lib.hid (show false = used (a.take (i + 1)) j by rw [HUS.out, hee, ← HBD.out]; rfl)
                go_wp2
                go_roundg (a.length - (i + 1))
                case measure => omega
                case rel => exact ⟨i + 1, false, by omega, by go_num, rfl, HR.out, rfl⟩
          · obtain rfl : i = a.length := by omega
            have hid : decide ((a.length : Int) < (a.length : Int)) = false := by simp
            rw [List.take_length] at HBD
            clear hil hi
            have hbb : b = true ∨ b = false := by cases b <;> simp
            rcases hbb with rfl | rfl
            · have HR := Lib.hid (show rowsum m 0 a + freeS (used a) 0 (m.col.take (j + 1)) = rowsum m 0 a + freeS (used a) 0 (m.col.take j) by
                rw [HF.out, ← HBD.out]; simp)
              go_wp2
              go_roundg (m.col.length - (j + 1))
              case measure => omega
              case rel => exact ⟨j + 1, by omega, by go_num, by rw [HR.out], HB.out⟩
            · have HR := Lib.hid (show rowsum m 0 a + freeS (used a) 0 (m.col.take (j + 1)) = rowsum m 0 a + freeS (used a) 0 (m.col.take j) + m.col[j] by
                rw [HF.out, ← HBD.out]; simp; omega)
              go_wp2
              go_roundg (m.col.length - (j + 1))
              case measure => omega
              case rel => exact ⟨j + 1, by omega, by go_num, by rw [HR.out], HB.out⟩
    obtain ⟨rfl, hby, y0, -⟩ := HIA.out _ HB.out.2 k hlt
    have hsr := rowsum_range hok (a.take k) 0
    rw [List.length_take] at hsr
    have HD := Lib.hid (errGo_drop (m := m) hlt)
    have hTot : ∀ e : Int, e ≠ 0 → errGo m (a.take k) (a.drop k) = e → Hid (totC m a = (0, e)) := fun e he0 hee => by
      show totC m a = (0, e)
      have h1 : errGo m [] a = e := HE.out.trans hee
      unfold totC
      rw [if_neg (by simp [HC.out]), if_neg (by simp [HL.out]), if_pos (by rw [h1]; exact he0), h1]
    have HTOT := Lib.hid hTot; clear hTot
    have k0 : (0 : Int) ≤ (k : Int) := by omega
    have k1 : (k : Int) < (a.length : Int) := by omega
    by_cases q1 : a[k] < -1
    · have HR := HTOT.out 2 (by decide) (by rw [HD.out, if_pos (.inl q1)])
      have q1d : decide (a[k] < -1) = true := by simpa using q1
      go_wp2_with (go_quiet (fail))
      go_ret2
      exact ⟨ret_pair HR.out, bl_drewN HB.out.2 _⟩
    have q1d : decide (a[k] < -1) = false := by simpa using q1
    by_cases q2 : (m.col.length : Int) ≤ a[k]
    · have HR := HTOT.out 2 (by decide) (by rw [HD.out, if_pos (.inr q2)])
      go_wp2_with (go_quiet (fail))
      go_ret2
      exact ⟨ret_pair HR.out, bl_drewN HB.out.2 _⟩
    have hkr : k < m.row.length := by have := HL.out; omega
    have HTK := Lib.hid (List.take_succ_eq_append_getElem hlt)
    have ha1 : -1 ≤ a[k] := by omega
    have ha2 : a[k] < (m.col.length : Int) := by omega
    go_wp2_with (go_quiet (fail))
    go_loopg [9] k (fun g' i' wi => ∃ j : Nat, j + g' = k ∧ i' = .int .i64 j ∧ Hid (0 ≤ a[k] → a[k] ∉ a.take j) ∧ BoxW w (.slice ac m.cost.length cc) (.slice ar m.row.length cr) (.slice al m.col.length cl) wi)
    case atStart => exact ⟨0, by omega, rfl, Lib.hid (fun _ h => by simp at h), HB.out.drewN _⟩
    case round =>
      obtain ⟨j, hj, rfl, HNM, hbx⟩ := hrel
      clear HB x0 x1 x2 xf y0
      have HB := Lib.hid hbx; clear hbx
      obtain ⟨x0, x1, x2, xf⟩ := blk3 HB.out.1
      have y0 := (HIA.out _ HB.out.2 k hlt).2.2.1
      by_cases hjl : j < k
      · have hja : j < a.length := by omega
        have y1 := (HIA.out _ HB.out.2 j hja).2.2.1
        have HTJ := Lib.hid (List.take_succ_eq_append_getElem hja)
        have j0 : (0 : Int) ≤ (j : Int) := by omega
        have j1 : (j : Int) < (a.length : Int) := by omega
        have j2 : decide ((j : Int) < (k : Int)) = true := by simp; omega
        by_cases q3 : 0 ≤ a[k]
        · have q3d : decide (0 ≤ a[k]) = true := by simpa using q3
          by_cases q4 : a[j] = a[k]
          · have HR := HTOT.out 9 (by decide) (by
              rw [HD.out, if_neg (by omega), if_pos ⟨q3, List.mem_take_iff_getElem.2 ⟨j, by omega, q4⟩⟩])
            have q4d : (a[j] == a[k]) = true := by simpa using q4
            clear q4
            go_wp2_with (go_quiet (fail))
            go_ret2
            exact ⟨ret_pair HR.out, bl_drewN HB.out.2 _⟩
          · have q4d : (a[j] == a[k]) = false := by simpa using q4
            have HN2 := Lib.hid (show 0 ≤ a[k] → a[k] ∉ a.take (j + 1) from fun h0 hm => by
              rw [HTJ.out] at hm
              rcases List.mem_append.1 hm with hm | hm
              · exact HNM.out h0 hm
              · exact q4 (List.mem_singleton.1 hm).symm)
            go_wp2_with (go_quiet (fail))
            go_roundg (k - (j + 1))
            case measure => omega
            case rel => exact ⟨j + 1, by omega, by go_num, HN2, HB.out.drewN _⟩
        · have q3d : decide (0 ≤ a[k]) = false := by simpa using q3
          have HN2 := Lib.hid (show 0 ≤ a[k] → a[k] ∉ a.take (j + 1) from fun h0 _ => q3 h0)
          go_wp2_with (go_quiet (fail))
          go_roundg (k - (j + 1))
          case measure => omega
          case rel => exact ⟨j + 1, by omega, by go_num, HN2, HB.out.drewN _⟩
      · obtain rfl : k = j := by omega
        have hjd : decide ((k : Int) < (k : Int)) = false := by simp
        have hpr := price_range hok k a[k]
        have HRS := Lib.hid (show rowsum m 0 (a.take (k + 1)) = rowsum m 0 (a.take k) + price m k a[k] by
          rw [List.take_succ_eq_append_getElem hlt, rowsum_snoc, List.length_take, Nat.min_eq_left (by omega), Nat.zero_add])
        have HWR := Lib.hid (show IntKind.i64.wrap (rowsum m 0 (a.take k) + price m k a[k]) = rowsum m 0 (a.take (k + 1)) by rw [wrap_in (by omega) (by omega), HRS.out])
        clear hjl hj
        by_cases q5 : price m k a[k] < 0
        · have HR := HTOT.out 1 (by decide) (by
            rw [HD.out, if_neg (by omega), if_neg (fun q => HNM.out q.1 q.2), if_pos q5])
          go_wp2_with (fail)
          go_region_held3 (fun w' => w'.cell? ⟨w.heap.size, 0, none⟩ = some (.slice ac m.cost.length cc) ∧ w'.cell? ⟨w.heap.size, 1, none⟩ = some (.slice ar m.row.length cr) ∧ w'.cell? ⟨w.heap.size, 2, none⟩ = some (.slice al m.col.length cl) ∧ w'.cell? ⟨ba, oa + k, none⟩ = some (.int .i64 a[k])) (go_keep)
            ((go_at_call 27
              refine (price_any m hok _ _ _ _ k a[k] (HM.out.step (Below.drew HB.out.2)) hkr ha1 ha2).mono ?_
              rintro e w4 ⟨rfl, hb4⟩
              have HB4 := Lib.hid (HB.out.below (Below.trans (b := World.drew wr) (Below.drew (Below.refl _ _)) hb4))
              obtain ⟨e0, e1, e2, -⟩ := blk3 HB4.out.1
              have e3 := ((HIA.out _ HB4.out.2 k hlt).2.2.1)
              clear hb4))
          all_goals
            go_wp2
            go_ret2
            exact ⟨ret_pair HR.out, HB4.out.2⟩
        · have HN := Lib.hid (show errGo m (a.take k) (a.drop k) = errGo m (a.take (k + 1)) (a.drop (k + 1)) by
            rw [HD.out, if_neg (by omega), if_neg (fun q => HNM.out q.1 q.2), if_neg q5])
          go_wp2_with (fail)
          go_region_held3 (fun w' => w'.cell? ⟨w.heap.size, 0, none⟩ = some (.slice ac m.cost.length cc) ∧ w'.cell? ⟨w.heap.size, 1, none⟩ = some (.slice ar m.row.length cr) ∧ w'.cell? ⟨w.heap.size, 2, none⟩ = some (.slice al m.col.length cl) ∧ w'.cell? ⟨ba, oa + k, none⟩ = some (.int .i64 a[k])) (go_keep)
            ((go_at_call 27
              refine (price_any m hok _ _ _ _ k a[k] (HM.out.step (Below.drew HB.out.2)) hkr ha1 ha2).mono ?_
              rintro e w4 ⟨rfl, hb4⟩
              have HB4 := Lib.hid (HB.out.below (Below.trans (b := World.drew wr) (Below.drew (Below.refl _ _)) hb4))
              obtain ⟨e0, e1, e2, -⟩ := blk3 HB4.out.1
              have e3 := ((HIA.out _ HB4.out.2 k hlt).2.2.1)
              clear hb4))
          all_goals
            clear HB x0 x1 x2 xf y0
            obtain ⟨wp, rfl⟩ : ∃ wp : World, wp = w4 := ⟨_, rfl⟩
            have HB := HB4
            clear HB4
            go_wp2_with (fail)
            go_region_held3 (fun w' => w'.cell? ⟨w.heap.size, 0, none⟩ = some (.slice ac m.cost.length cc) ∧ w'.cell? ⟨w.heap.size, 1, none⟩ = some (.slice ar m.row.length cr) ∧ w'.cell? ⟨w.heap.size, 2, none⟩ = some (.slice al m.col.length cl) ∧ w'.cell? ⟨ba, oa + k, none⟩ = some (.int .i64 a[k])) (go_keep)
              ((go_at_call 27
                refine (price_any m hok _ _ _ _ k a[k] (HM.out.step (Below.drew HB.out.2)) hkr ha1 ha2).mono ?_
                rintro e w4 ⟨rfl, hb4⟩
                have HB4 := Lib.hid (HB.out.below (Below.trans (b := World.drew wp) (Below.drew (Below.refl _ _)) hb4))
                obtain ⟨e0, e1, e2, -⟩ := blk3 HB4.out.1
                have e3 := ((HIA.out _ HB4.out.2 k hlt).2.2.1)
                clear hb4))
          all_goals
            go_wp2
            go_roundg (a.length - (k + 1))
            case measure => omega
            case rel => exact ⟨k + 1, by omega, by go_num, congrArg (Value.int .i64) HWR.out, HE.out.trans HN.out, HB4.out⟩
end Go.Proofs.Ytepceaoccnmkiaa
