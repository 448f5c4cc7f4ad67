/-
  Layer 14 (group): the reference's Lanes and Of.
-/
import Derived.Test.YtffpnbipacgidaaGrpR2
import Derived.Test.YtffpnbipacgidaaGrpLnP
namespace Go.Proofs.Ytffpnbipacgidaa
open Go.RowKit Go.Tw Go.Tw.Ord Go.Tw.Grp Go.Sort
theorem slIntG : SlT Try.prog 43 3 1 8 := SlT.of (z := .int .i64 0) Try.underlying43 (by kernel_rfl) rfl (by decide)
set_option maxRecDepth 100000 in
set_option maxHeartbeats 8000000 in
theorem lanesR_any (l : List Seen) (v : Value) (w : World) (h : SlIs tSeen (· < w.heap.size) w v l) (hl : l.length ≤ 1000) :
    Calls Try.prog 23 #[v] w fun e w' => (∃ v', e = .returned v' ∧ ∃ O, SlIs tInt (· < w'.heap.size) w' v' O ∧ LnSpec l O) ∧ Below w.heap.size w w' := by
  obtain ⟨ao, cp, b, o, rfl, h1, h2, ho⟩ := seen_row h
  unfold maxLen at h2
  have HO := Lib.hid ho
  clear h ho
  go_enter Try.func23, Try.ntmps23
  go_wp2
  go_loopg [3, 4] l.length (fun gx v i wr => ∃ (k : Nat) (O : List Int), k + gx = l.length ∧ i = .int .i64 k ∧ SlIs tInt (· < wr.heap.size) wr v O ∧ Hid (LnSpec (l.take k) O) ∧ O.length ≤ k ∧ Below w.heap.size w wr)
  case atStart => exact ⟨0, [], by omega, rfl, SlIs.nil, Lib.hid (by rw [List.take_zero]; exact LnSpec.nil), Nat.le_refl _, Below.refl _ _⟩
  case round =>
    obtain ⟨wo, rfl⟩ : ∃ wo : World, wo = wr := ⟨_, rfl⟩
    obtain ⟨k, O, hk, rfl, hs, HLS, hOk, hb⟩ := hrel
    by_cases hlt : k < l.length
    · obtain ⟨rfl, -, hbk, hok, hc⟩ := HO.out wo (.of_below hb) k hlt
      have HTK1 := Lib.hid (show l.take (k + 1) = l.take k ++ [l[k]] from List.take_succ_eq_append_getElem hlt)
      have HI1 := Lib.hid (fun (j : Nat) => @LnSpec.ins (l.take k) O l[k] j HLS.out)
      have HI2 := Lib.hid (@LnSpec.same (l.take k) O l[k] HLS.out)
      rw [← HTK1.out] at HI1 HI2
      have c9 := hc 9 (by decide)
      have hxo := hok.ln
      rw [show (sCells l[k])[9]? = some (.int .i64 l[k].ln) from rfl] at c9
      obtain ⟨x, hx⟩ : ∃ x, l[k].ln = x := ⟨_, rfl⟩
      rw [hx] at HI1 HI2 c9 hxo
      have HXO := Lib.hid hxo
      have HB := Lib.hid hb
      have HSL := Lib.hid hs
      have HCX := Lib.hid (show ∀ w', Below wo.heap.size wo w' → w'.cell? ⟨b, o + k * 11 + 9, none⟩ = some (.int .i64 x) from fun w' hw => (hw.cell (p := ⟨b, o + k * 11 + 9, none⟩) (Nat.lt_of_lt_of_le hbk hb.size)).trans c9)
      obtain ⟨av, cv, b2, o2, rfl, q1, q2, ho2⟩ := ints_open hs
      unfold maxLen at q2
      have HSC := Lib.hid ho2
      have k0 : (0 : Int) ≤ (k : Int) := by omega
      have k1 : (k : Int) < (l.length : Int) := by omega
      have hbb : b < wo.heap.size := Nat.lt_of_lt_of_le hbk hb.size
      clear hc hok hb hs ho2 hbk hx HTK1 c9 hxo HLS
      go_wp2
      go_loopg [5] O.length (fun gx i wx => ∃ j : Nat, j + gx = O.length ∧ i = .int .i64 j ∧ Hid (∀ j' (h : j' < O.length), j' < j → O[j'] < x) ∧ GrB wo wx)
      case atStart => exact ⟨0, by omega, rfl, Lib.hid (fun j' _ h => by omega), GrB.refl _⟩
      case round =>
        obtain ⟨wx, rfl⟩ : ∃ wx : World, wx = wr := ⟨_, rfl⟩
        obtain ⟨j, hj, rfl, HL, hg⟩ := hrel
        have HG := Lib.hid hg
        have gx1 := fun n os => cell_grown (w := wx) (a := ⟨b, o + k * 11 + 9, none⟩) (Nat.lt_of_lt_of_le hbb hg.below.size) (HCX.out wx hg.below) n os
        by_cases hjl : j < O.length
        · obtain ⟨rfl, hb2, hc2, hyo⟩ := HSC.out wx hg.below j hjl
          have HJ := Lib.hid (show O[j]? = some O[j] by simp [hjl])
          generalize O[j] = y at HJ hc2 hyo
          have gx2 := fun n os => cell_grown (w := wx) (a := ⟨b2, o2 + j, none⟩) (Nat.lt_of_lt_of_le hb2 hg.below.size) hc2 n os
          have j0 : (0 : Int) ≤ (j : Int) := by omega
          have j1 : (j : Int) < (O.length : Int) := by omega
          have HC2 := Lib.hid (show ∀ w', Below wx.heap.size wx w' → w'.cell? ⟨b2, o2 + j, none⟩ = some (.int .i64 y) from fun w' hw => (hw.cell (p := ⟨b2, o2 + j, none⟩) (Nat.lt_of_lt_of_le hb2 hg.below.size)).trans hc2)
          clear hc2 hyo
          by_cases hyx : y < x
          · have hcd : decide (y < x) = true := by simpa using hyx
            go_upto_region 6 with (fail)
            refine QW.regionG (by kernel_rfl) (by kernel_rfl) ?_
            (iterate 16 (refine QW.yes (by kernel_rfl) (fun K hK => ?_)
                         go_simp
                         (with_reducible refine hK _ ?_)
                         clear hK K))
            refine QW.nil ?_
            intro _ hw'
            obtain ⟨⟨nq, osq⟩, hw''⟩ := hw'
            subst hw''
            have HGQ := Lib.hid (show GrB wx (grow (wx.drewN nq) osq) from ⟨nq, osq, rfl⟩)
            clear gx1 gx2
            generalize grow (wx.drewN nq) osq = wq at HGQ ⊢
            go_wp2
            go_roundg (O.length - (j + 1))
            case measure => omega
            case rel => exact ⟨j + 1, by omega, by go_num, Lib.hid (fun j' h h' => by
              by_cases e : j' = j
              · subst e
                have := HJ.out
                rw [List.getElem?_eq_getElem hjl] at this
                rw [Option.some.inj this]
                exact hyx
              · exact HL.out j' h (by omega)), HG.out.trans HGQ.out⟩
          · have hcd : decide (y < x) = false := by simpa using hyx
            go_upto_region 6 with (fail)
            refine QW.regionG (by kernel_rfl) (by kernel_rfl) ?_
            (iterate 16 (refine QW.yes (by kernel_rfl) (fun K hK => ?_)
                         go_simp
                         (with_reducible refine hK _ ?_)
                         clear hK K))
            refine QW.nil ?_
            intro _ hw'
            obtain ⟨⟨nq, osq⟩, hw''⟩ := hw'
            subst hw''
            have HGQ := Lib.hid (show GrB wx (grow (wx.drewN nq) osq) from ⟨nq, osq, rfl⟩)
            clear gx1 gx2
            generalize grow (wx.drewN nq) osq = wq at HGQ ⊢
            have hbq : b < wq.heap.size := by have := HG.out.below.size; have := HGQ.out.below.size; omega
            have hb2q : b2 < wq.heap.size := by have := HG.out.below.size; have := HGQ.out.below.size; omega
            have gx1 := fun n os => cell_grown (w := wq) (a := ⟨b, o + k * 11 + 9, none⟩) hbq (HCX.out wq (HG.out.trans HGQ.out).below) n os
            have gx2 := fun n os => cell_grown (w := wq) (a := ⟨b2, o2 + j, none⟩) hb2q (HC2.out wq HGQ.out.below) n os
            by_cases he : y = x
            · have hce : (y == x) = true := by simpa using he
              have HIN := Lib.hid (HI2.out (by
                have := HJ.out
                rw [List.getElem?_eq_getElem hjl] at this
                rw [← he, ← Option.some.inj this]
                exact List.getElem_mem hjl))
              go_upto_region 8 with (fail)
              refine QW.regionG (by kernel_rfl) (by kernel_rfl) ?_
              (iterate 16 (refine QW.yes (by kernel_rfl) (fun K hK => ?_)
                           go_simp
                           (with_reducible refine hK _ ?_)
                           clear hK K))
              refine QW.nil ?_
              intro _ hw'
              obtain ⟨⟨nq, osq⟩, hw''⟩ := hw'
              subst hw''
              have HGR := Lib.hid (show GrB wq (grow (wq.drewN nq) osq) from ⟨nq, osq, rfl⟩)
              clear gx1 gx2
              generalize grow (wq.drewN nq) osq = wz at HGR ⊢
              go_wp2
              go_roundg (l.length - (k + 1))
              case measure => omega
              case rel => exact ⟨k + 1, O, by omega, by go_num, HSL.out.step (HG.out.trans (HGQ.out.trans HGR.out)).below, HIN, by omega, bl_trans HB.out (HG.out.trans (HGQ.out.trans HGR.out)).below⟩
            · have hce : (y == x) = false := by simpa using he
              have HIN := Lib.hid (HI1.out j HL.out (fun h => by
                have := HJ.out
                rw [List.getElem?_eq_getElem hjl] at this
                rw [Option.some.inj this]
                omega))
              have hct : ¬ cv = j := by omega
              have HDRF := Lib.hid (show ∀ w', SlIs tInt (· < w'.heap.size) w' (.slice (some ⟨b2, o2, none⟩) O.length cv) O → SlIs tInt (· < w'.heap.size) w' (.slice (some ⟨b2, o2 + j, none⟩) (O.length - j) (cv - j)) (O.drop j) from fun w' h => by
                have q := SlIs.drop (t := j) (k := j) h (by omega) (by show j = j * 1; omega)
                rw [if_neg hct, Option.map_some, add_offG] at q
                exact q)
              go_upto_region 8 with (fail)
              refine QW.regionG (by kernel_rfl) (by kernel_rfl) ?_
              (iterate 16 (refine QW.yes (by kernel_rfl) (fun K hK => ?_)
                           go_simp
                           (with_reducible refine hK _ ?_)
                           clear hK K))
              refine QW.nil ?_
              intro _ hw'
              obtain ⟨⟨nq, osq⟩, hw''⟩ := hw'
              subst hw''
              have HGR := Lib.hid (show GrB wq (grow (wq.drewN nq) osq) from ⟨nq, osq, rfl⟩)
              clear gx1 gx2
              generalize grow (wq.drewN nq) osq = wz at HGR ⊢
              clear HI1 HI2 HJ
              obtain ⟨wy, hwy⟩ : ∃ wy, wy = wz := ⟨_, rfl⟩
              have HWY := Lib.hid (show Below wo.heap.size wo wy from by rw [hwy]; exact (HG.out.trans (HGQ.out.trans HGR.out)).below)
              rw [← hwy]
              clear hwy
              have HKY := Lib.hid (HSL.out.step HWY.out)
              have HO0 := Lib.hid (OwnSl.nil tInt 3 wy.heap.size wy)
              have hb1 : (([] : List Int).length + (O.take j).length) * 8 ≤ 140737488355328 := by simp; omega
              have hb2 : ([] : List Int).length + (O.take j).length ≤ maxLen := by unfold maxLen; simp; omega
              have hb3 : (([] ++ O.take j : List Int).length + 1) * 8 ≤ 140737488355328 := by simp; omega
              have hb4 : ([] ++ O.take j : List Int).length + 1 ≤ maxLen := by unfold maxLen; simp; omega
              have hb5 : ((([] ++ O.take j) ++ [x] : List Int).length + (O.drop j).length) * 8 ≤ 140737488355328 := by simp; omega
              have hb6 : (([] ++ O.take j) ++ [x] : List Int).length + (O.drop j).length ≤ maxLen := by unfold maxLen; simp; omega
              have HTK := Lib.hid (show SlIs tInt (· < wy.heap.size) wy (.slice (some ⟨b2, o2, none⟩) j cv) (O.take j) from HKY.out.take (by omega))
              have HDR := Lib.hid (show SlIs tInt (· < wy.heap.size) wy (.slice (some ⟨b2, o2 + j, none⟩) (O.length - j) (cv - j)) (O.drop j) from HDRF.out wy HKY.out)
              have CXX := Lib.hid (show ∀ w', Below wy.heap.size wy w' → w'.cell? ⟨b, o + k * 11 + 9, none⟩ = some (.int .i64 x) from fun w' hw => HCX.out w' (bl_trans HWY.out hw))
              have j0 : (0 : Int) ≤ (j : Int) := by omega
              have j1 : (j : Int) ≤ (O.length : Int) := by omega
              clear HSC
              go_wp2_with (first
                | (at_builtin
                   refine wpList_append_old (.tmp 47) (.tmp 50) rfl 43 rfl slIntG rfl HO0.out rfl HTK.out hb1 hb2 (Nat.le_refl _) ?_
                   intro v5 w5 ho5 hg5 hb5'
                   have HO5 := Lib.hid ho5
                   have HB5 := Lib.hid hb5'
                   have hz5 := HB5.out.size
                   have x5 := CXX.out w5 HB5.out
                   clear ho5 hg5 hb5')
                | (at_builtin
                   refine wpList_append_one (.tmp 52) (.tmp 58) rfl 43 rfl slIntG rfl HO5.out rfl (S := fun _ => False) (y := x) ⟨rfl, HXO.out⟩ (fun _ h => h.elim) hb3 hb4 hz5 ?_
                   intro v6 w6 ho6 hg6 hb6'
                   have HO6 := Lib.hid ho6
                   have HB6 := Lib.hid (HB5.out.trans hb6')
                   have hz6 := HB6.out.size
                   clear ho6 hg6 hb6' x5)
                | (at_builtin
                   refine wpList_append_old (.tmp 60) (.tmp 63) rfl 43 rfl slIntG rfl HO6.out rfl (HDR.out.keep (fun _ h => h) (.of_below HB6.out)) hb5 hb6 hz6 ?_
                   intro v7 w7 ho7 hg7 hb7'
                   have HO7 := Lib.hid (show OwnSl tInt 3 wy.heap.size w7 v7 (O.take j ++ [x] ++ O.drop j) from by
                     have := ho7
                     simpa using this)
                   have HB7 := Lib.hid (HB6.out.trans hb7')
                   clear ho7 hg7 hb7'))
              all_goals
                go_roundg (l.length - (k + 1))
                case measure => omega
                case rel => exact ⟨k + 1, O.take j ++ [x] ++ O.drop j, by omega, by go_num, HO7.out.sl, HIN, by simp; omega, bl_trans HB.out (bl_trans HWY.out HB7.out)⟩
        · have hkl : ¬ (j : Int) < (O.length : Int) := by omega
          have HIN := Lib.hid (HI1.out j HL.out (fun h => absurd h hjl))
          have HDRF := Lib.hid (show ∀ w', SlIs tInt (· < w'.heap.size) w' (.slice av O.length cv) O → SlIs tInt (· < w'.heap.size) w' (.slice (if cv = j then av else Option.map (fun x => x.add j) av) (O.length - j) (cv - j)) (O.drop j) from fun w' h =>
            SlIs.drop (t := j) (k := j) h (by omega) (by show j = j * 1; omega))
          go_upto_region 6 with (fail)
          refine QW.regionG (by kernel_rfl) (by kernel_rfl) ?_
          (iterate 5 (refine QW.yes (by kernel_rfl) (fun K hK => ?_)
                      go_simp
                      (with_reducible refine hK _ ?_)
                      clear hK K))
          (iterate 10 (refine QW.no (by kernel_rfl) ?_
                       (try simp only [Act.put])
                       (try simp only [List.setIfInBounds_toArray])
                       (repeat (first | simp only [List.set_cons_succ] | simp only [List.set_cons_zero]))))
          (iterate 1 (refine QW.yes (by kernel_rfl) (fun K hK => ?_)
                      go_simp
                      (with_reducible refine hK _ ?_)
                      clear hK K))
          refine QW.nil ?_
          intro _ hw'
          obtain ⟨⟨nq, osq⟩, hw''⟩ := hw'
          subst hw''
          have HGQ := Lib.hid (show GrB wx (grow (wx.drewN nq) osq) from ⟨nq, osq, rfl⟩)
          generalize grow (wx.drewN nq) osq = wq at HGQ ⊢
          go_upto_region 8 with (fail)
          refine QW.regionG (by kernel_rfl) (by kernel_rfl) ?_
          (iterate 5 (refine QW.yes (by kernel_rfl) (fun K hK => ?_)
                      go_simp
                      (with_reducible refine hK _ ?_)
                      clear hK K))
          (iterate 10 (refine QW.no (by kernel_rfl) ?_
                       (try simp only [Act.put])
                       (try simp only [List.setIfInBounds_toArray])
                       (repeat (first | simp only [List.set_cons_succ] | simp only [List.set_cons_zero]))))
          (iterate 1 (refine QW.yes (by kernel_rfl) (fun K hK => ?_)
                      go_simp
                      (with_reducible refine hK _ ?_)
                      clear hK K))
          refine QW.nil ?_
          intro _ hw'
          obtain ⟨⟨nq, osq⟩, hw''⟩ := hw'
          subst hw''
          have HGR := Lib.hid (show GrB wq (grow (wq.drewN nq) osq) from ⟨nq, osq, rfl⟩)
          clear gx1
          generalize grow (wq.drewN nq) osq = wz at HGR ⊢
          clear HI1 HI2 hg
          obtain ⟨wy, hwy⟩ : ∃ wy, wy = wz := ⟨_, rfl⟩
          have HWY := Lib.hid (show Below wo.heap.size wo wy from by rw [hwy]; exact (HG.out.trans (HGQ.out.trans HGR.out)).below)
          rw [← hwy]
          clear hwy
          have HKY := Lib.hid (HSL.out.step HWY.out)
          have HO0 := Lib.hid (OwnSl.nil tInt 3 wy.heap.size wy)
          have hb1 : (([] : List Int).length + (O.take j).length) * 8 ≤ 140737488355328 := by simp; omega
          have hb2 : ([] : List Int).length + (O.take j).length ≤ maxLen := by unfold maxLen; simp; omega
          have hb3 : (([] ++ O.take j : List Int).length + 1) * 8 ≤ 140737488355328 := by simp; omega
          have hb4 : ([] ++ O.take j : List Int).length + 1 ≤ maxLen := by unfold maxLen; simp; omega
          have hb5 : ((([] ++ O.take j) ++ [x] : List Int).length + (O.drop j).length) * 8 ≤ 140737488355328 := by simp; omega
          have hb6 : (([] ++ O.take j) ++ [x] : List Int).length + (O.drop j).length ≤ maxLen := by unfold maxLen; simp; omega
          have HTK := Lib.hid (show SlIs tInt (· < wy.heap.size) wy (.slice av j cv) (O.take j) from HKY.out.take (by omega))
          have HDR := Lib.hid (show SlIs tInt (· < wy.heap.size) wy (.slice (if cv = j then av else Option.map (fun x => x.add j) av) (O.length - j) (cv - j)) (O.drop j) from HDRF.out wy HKY.out)
          have CXX := Lib.hid (show ∀ w', Below wy.heap.size wy w' → w'.cell? ⟨b, o + k * 11 + 9, none⟩ = some (.int .i64 x) from fun w' hw => HCX.out w' (bl_trans HWY.out hw))
          have j0 : (0 : Int) ≤ (j : Int) := by omega
          have j1 : (j : Int) ≤ (O.length : Int) := by omega
          clear HSC
          go_wp2_with (first
            | (at_builtin
               refine wpList_append_old (.tmp 47) (.tmp 50) rfl 43 rfl slIntG rfl HO0.out rfl HTK.out hb1 hb2 (Nat.le_refl _) ?_
               intro v5 w5 ho5 hg5 hb5'
               have HO5 := Lib.hid ho5
               have HB5 := Lib.hid hb5'
               have hz5 := HB5.out.size
               have x5 := CXX.out w5 HB5.out
               clear ho5 hg5 hb5')
            | (at_builtin
               refine wpList_append_one (.tmp 52) (.tmp 58) rfl 43 rfl slIntG rfl HO5.out rfl (S := fun _ => False) (y := x) ⟨rfl, HXO.out⟩ (fun _ h => h.elim) hb3 hb4 hz5 ?_
               intro v6 w6 ho6 hg6 hb6'
               have HO6 := Lib.hid ho6
               have HB6 := Lib.hid (HB5.out.trans hb6')
               have hz6 := HB6.out.size
               clear ho6 hg6 hb6' x5)
            | (at_builtin
               refine wpList_append_old (.tmp 60) (.tmp 63) rfl 43 rfl slIntG rfl HO6.out rfl (HDR.out.keep (fun _ h => h) (.of_below HB6.out)) hb5 hb6 hz6 ?_
               intro v7 w7 ho7 hg7 hb7'
               have HO7 := Lib.hid (show OwnSl tInt 3 wy.heap.size w7 v7 (O.take j ++ [x] ++ O.drop j) from by
                 have := ho7
                 simpa using this)
               have HB7 := Lib.hid (HB6.out.trans hb7')
               clear ho7 hg7 hb7'))
          all_goals
            go_roundg (l.length - (k + 1))
            case measure => omega
            case rel => exact ⟨k + 1, O.take j ++ [x] ++ O.drop j, by omega, by go_num, HO7.out.sl, HIN, by simp; omega, bl_trans HB.out (bl_trans HWY.out HB7.out)⟩
    · obtain rfl : k = l.length := by omega
      have hkl : ¬ (l.length : Int) < (l.length : Int) := by omega
      have HB := Lib.hid hb
      rw [List.take_length] at HLS
      have HS := Lib.hid hs
      obtain ⟨av, cv, b2, o2, rfl, -⟩ := id hs
      clear hlt hk hb hs
      go_wp2
      go_ret
      exact ⟨⟨_, rfl, O, HS.out, HLS.out⟩, HB.out⟩
set_option maxRecDepth 100000 in
set_option maxHeartbeats 4000000 in
theorem ofR_any (l : List Seen) (kd : Int) (v : Value) (w : World) (h : SlIs tSeen (· < w.heap.size) w v l) (hl : l.length ≤ 1000) :
    Calls Try.prog 28 #[v, .int .i64 kd] w fun e w' => (∃ v', e = .returned v' ∧ OwnSl tSeen 31 w.heap.size w' v' (l.filter fun x => x.kd == kd)) ∧ Below w.heap.size w w' := by
  obtain ⟨ao, cp, b, o, rfl, h1, h2, ho⟩ := seen_row h
  unfold maxLen at h2
  have HO := Lib.hid ho
  clear h ho
  go_enter Try.func28, Try.ntmps28
  go_wp2
  go_loopg [5, 6] l.length (fun gx sv i wr => ∃ k : Nat, k + gx = l.length ∧ i = .int .i64 k ∧ OwnSl tSeen 31 w.heap.size wr sv ((l.take k).filter fun x => x.kd == kd) ∧ Below w.heap.size w wr)
  case atStart => exact ⟨0, by omega, rfl, OwnSl.nil _ _ _ _, Below.refl _ _⟩
  case round =>
    obtain ⟨k, hk, rfl, hown, hb⟩ := hrel
    obtain ⟨av, cv, rfl, hv1, hv2⟩ := hown.form
    by_cases hlt : k < l.length
    · obtain ⟨rfl, -, hbk, hok, hc⟩ := HO.out wr (.of_below hb) k hlt
      have ld := load_seen (x := l[k]) Try.prog hc
      have HOW := Lib.hid hown
      have HB := Lib.hid hb
      have k0 : (0 : Int) ≤ (k : Int) := by omega
      have k1 : (k : Int) < (l.length : Int) := by omega
      obtain ⟨A, hA⟩ : ∃ A, (sCells l[k]).toArray = A := ⟨_, rfl⟩
      rw [hA] at ld
      have hs : A.size = 11 := by rw [← hA]; rfl
      have HA := Lib.hid hA
      have h1c := oneA hA
      have c10 := hc 10 (by decide)
      rw [show (sCells l[k])[10]? = some (.int .i64 l[k].kd) from rfl] at c10
      have HT := Lib.hid (show (l.take (k + 1)).filter (fun x => x.kd == kd) = (l.take k).filter (fun x => x.kd == kd) ++ (if l[k].kd == kd then [l[k]] else []) by
        rw [List.take_succ_eq_append_getElem hlt, List.filter_append]
        simp [List.filter_cons])
      have hfl : ((l.take k).filter (fun x => x.kd == kd)).length ≤ 1000 := Nat.le_trans (List.length_filter_le _ _) (by simp; omega)
      have HF := Lib.hid hfl
      have HOK := Lib.hid hok
      obtain ⟨m, hm⟩ : ∃ m, (l.take k).filter (fun x => x.kd == kd) = m := ⟨_, rfl⟩
      rw [hm] at HOW HT HF ⊢
      obtain ⟨z, hz⟩ : ∃ z, l[k].kd = z := ⟨_, rfl⟩
      rw [hz] at c10 HT
      clear hA hc hown hb hfl hok hm hz
      have hsB := HB.out.size
      by_cases hkd : z = kd
      · have hkd' : (z == kd) = true := by simpa using hkd
        have HKD := Lib.hid hkd
        clear hkd
        go_wp2_with (first
          | (refine wpList_loadA _ rfl 31 rfl Try.isAgg31 Try.sizeOf31 rfl (by with_reducible assumption) ?_)
          | (refine wpList_buildA _ rfl 22 rfl Try.underlying22 Try.sizeOf31 Try.zeroValue31 (by decide) (by decide) rfl (by with_reducible assumption) ?_)
          | (at_builtin
             refine wpList_append_one (.tmp 20) (.tmp 25) rfl 22 rfl slSeen (y := l[k]) (S := fun _ => False) rfl HOW.out rfl (by rw [← HA.out]; exact tSeen_mk HOK.out) (fun _ h => h.elim) (small_bytes (k := 1001) (by have := HF.out; omega) (by decide)) (by have := HF.out; unfold maxLen; omega) hsB ?_
             intro v' w1 ho1 hg1 hb1))
        go_roundg (l.length - (k + 1))
        case measure => omega
        case rel => exact ⟨k + 1, by omega, by go_num, by rw [HT.out, if_pos (by simpa using HKD.out)]; exact ho1, HB.out.trans hb1⟩
      · have hkd' : (z == kd) = false := by simpa using hkd
        have HKD := Lib.hid hkd
        clear hkd
        go_wp2_with (fail)
        go_roundg (l.length - (k + 1))
        case measure => omega
        case rel => exact ⟨k + 1, by omega, by go_num, by rw [HT.out, if_neg (by simpa using HKD.out), List.append_nil]; exact HOW.out, HB.out⟩
    · have hkl : ¬ (k : Int) < (l.length : Int) := by omega
      obtain rfl : k = l.length := by omega
      have HOW := Lib.hid hown
      have HB := Lib.hid hb
      clear hown hb hlt hk
      go_wp2
      go_ret
      refine ⟨⟨_, rfl, ?_⟩, HB.out⟩
      have := HOW.out
      rw [List.take_length] at this
      exact this
end Go.Proofs.Ytffpnbipacgidaa
