/-
  Layer 17 (passage): the reference's Has, Sort.
-/
import Derived.Test.YtbjhemglecllmaaDoorMgC
import Derived.Test.YtbjhemglecllmaaDoorMgB
import Derived.Test.YtbjhemglecllmaaDoorMgA
import Derived.Maps.Own
import Derived.Maps.OwnOps
import Derived.Deep.RegionWith
import Derived.Laws.RangeAny
import Derived.Laws.RangeString
import Derived.LoopTactic
namespace Go.Proofs.YtbjhemglecllmaaDoor
open Go.RowKit Go.Tw Go.Tw.Ord Go.Tw.Ps Go.Sort
theorem sl_emptyG {α : Type} {T : Ty α} {S S' : Nat → Prop} {w w' : World} {v : Value} (h : SlIs T S w v []) : SlIs T S' w' v [] := by
  obtain ⟨ao, cap, b, off, hv, h1, h2, h3, h4⟩ := h
  exact ⟨ao, cap, b, off, hv, h1, h2, h3, fun k hk => absurd hk (Nat.not_lt_zero _)⟩
set_option maxRecDepth 100000 in
set_option maxHeartbeats 4000000 in
theorem has_any (l : List Pas) (y : Pas) (v1 vy : Value) (w : World) (h1 : SlIs (tPas eS) (· < w.heap.size) w v1 l) (h2 : SlIs tSrc (· < w.heap.size) w vy y.src) (hy : PasOk y) :
    Calls Tryd.prog 33 #[v1, .agg (pCells y vy).toArray] w fun e w' => e = .returned (.bool (decide (y ∈ l))) ∧ GrB w w' := by
  obtain ⟨ao, cp, b, o, rfl, q1, q2, ho⟩ := pas_row h1
  unfold maxLen at q2
  obtain ⟨B, hB⟩ : ∃ B, (pCells y vy).toArray = B := ⟨_, rfl⟩
  have hb0 : GrB w (w.alloc (.cells B 24)) := (GrB.refl w).alloc _
  have n0 : PBox (w.alloc (.cells B 24)) w.heap.size B := heap_alloc_new _ _
  have HO := Lib.hid ho
  have HN0 := Lib.hid n0
  have HB0 := Lib.hid hb0
  have HBB := Lib.hid hB
  have HY := Lib.hid hy
  have H2 := Lib.hid h2
  rw [hB]
  clear h1 h2 ho hB hb0 n0 hy
  go_enter Tryd.func33, Tryd.ntmps33
  go_wp2
  generalize w.alloc (.cells B 24) = w0 at HN0 HB0 ⊢
  generalize hgb : w.heap.size = gb at HN0 ⊢
  have hgb0 : gb < w0.heap.size := by have := HN0.out; exact lt_of_heap this
  clear hgb
  go_loopg [5] l.length (fun gx i wr => ∃ k : Nat, k + gx = l.length ∧ i = .int .i64 k ∧ Hid (y ∉ l.take k) ∧ GrB w0 wr)
  case atStart => exact ⟨0, by omega, rfl, Lib.hid (by simp), GrB.refl _⟩
  case round =>
    obtain ⟨k, hk, rfl, HT, hb⟩ := hrel
    by_cases hlt : k < l.length
    · obtain ⟨rfl, -, hbk, hok, a, n, c, hsl, hc⟩ := HO.out wr (.of_below (HB0.out.trans hb).below) k hlt
      have HB := Lib.hid hb
      have k0 : (0 : Int) ≤ (k : Int) := by omega
      have k1 : (k : Int) < (l.length : Int) := by omega
      have HT1 := Lib.hid (show l.take (k + 1) = l.take k ++ [l[k]] from List.take_succ_eq_append_getElem hlt)
      have HM := Lib.hid (show l[k] ∈ l from List.getElem_mem hlt)
      generalize l[k] = x at HT1 HM hc hok hsl
      obtain ⟨A, hA⟩ : ∃ A, (pCells x (.slice a n c)).toArray = A := ⟨_, rfl⟩
      have LD1 := Lib.hid (show ∀ n os, Sem.run Tryd.prog (loadCellsFrom ⟨b, o + k * 8, none⟩ 0 8 #[]) (grow (wr.drewN n) os) = .ok A (grow (wr.drewN n) os) from fun n os => by
        rw [← hA]
        exact load_pas _ fun j hj => ((GrB.below ⟨n, os, rfl⟩).cell (p := ⟨b, o + k * 8 + j, none⟩) (Nat.lt_of_lt_of_le hbk (HB0.out.trans hb).below.size)).trans (hc j hj))
      have LD2 := Lib.hid (show ∀ n os, Sem.run Tryd.prog (loadCellsFrom ⟨gb, 0, none⟩ 0 8 #[]) (grow (wr.drewN n) os) = .ok B (grow (wr.drewN n) os) from fun n os =>
        ((HN0.out.step hb.below).step (GrB.below ⟨n, os, rfl⟩)).load HBB.out)
      obtain ⟨cl, hcl⟩ : ∃ c, decide (x = y) = c := ⟨_, rfl⟩
      have HON := Lib.hid (show ∀ n os, Calls Tryd.prog 30 #[.agg A, .agg B] (grow (wr.drewN n) os) fun e w' => e = .returned (.bool cl) ∧ ∃ q os', w' = grow ((grow (wr.drewN n) os).drewN q) os' from fun n os => by
        rw [← hA, ← HBB.out, ← hcl]
        exact oneR_any x y _ _ _ (sl_gr hsl (HB0.out.trans hb) ⟨n, os, rfl⟩) (H2.out.step ((HB0.out.trans hb).trans ⟨n, os, rfl⟩).below) hok HY.out)
      have HCL := Lib.hid hcl
      clear hA hc hok hb hbk hcl hsl
      go_upto_region 4 with (fail)
      refine wp_region_quiet_grown (by kernel_rfl) (by kernel_rfl) ?_
      (iterate 3 (quiet_step (fail)))
      refine wpQuiet_step (fun K hK => ?_)
      rw [if_pos (show _ = true by kernel_rfl)]
      refine quiet_loadA (A := A) rfl Tryd.isAgg24 Tryd.sizeOf24 rfl (fun w' hw' => ?_) (hK _ ?_)
      · obtain ⟨⟨nq, osq⟩, rfl⟩ := hw'
        exact LD1.out nq osq
      clear hK K
      refine wpQuiet_step (fun K hK => ?_)
      rw [if_pos (show _ = true by kernel_rfl)]
      refine quiet_loadA (A := B) rfl Tryd.isAgg24 Tryd.sizeOf24 rfl (fun w' hw' => ?_) (hK _ ?_)
      · obtain ⟨⟨nq, osq⟩, rfl⟩ := hw'
        exact LD2.out nq osq
      clear hK K
      quiet_step ((go_at_call 30; with_reducible exact Calls.grown_of (HON.out _ _)))
      refine wpQuiet_nil ?_
      intro _ hw'
      obtain ⟨⟨nq, osq⟩, hw''⟩ := hw'
      subst hw''
      have HGQ := Lib.hid (show GrB wr (grow (wr.drewN nq) osq) from ⟨nq, osq, rfl⟩)
      clear LD1 LD2 HON
      generalize grow (wr.drewN nq) osq = wq at HGQ ⊢
      cases cl with
      | false =>
        go_wp2
        go_roundg (l.length - (k + 1))
        case measure => omega
        case rel => exact ⟨k + 1, by omega, by go_num, Lib.hid (by
          rw [HT1.out, List.mem_append, List.mem_singleton]
          rintro (h | h)
          · exact HT.out h
          · exact of_decide_eq_false HCL.out h.symm), HB.out.trans HGQ.out⟩
      | true =>
        go_wp2
        go_ret
        refine ⟨ret_bool ?_, HB0.out.trans (HB.out.trans HGQ.out)⟩
        rw [decide_eq_true_eq, ← of_decide_eq_true HCL.out]
        exact HM.out
    · obtain rfl : k = l.length := by omega
      have hkl : ¬ (l.length : Int) < (l.length : Int) := by omega
      have HB := Lib.hid hb
      clear hlt hk hb
      go_wp2
      go_ret
      refine ⟨ret_bool ?_, HB0.out.trans HB.out⟩
      have h := HT.out
      rw [List.take_length] at h
      simp [h]
set_option maxRecDepth 100000 in
set_option maxHeartbeats 8000000 in
theorem sortR_any (l : List Pas) (v : Value) (w : World) (h : SlIs (tPas eS) (· < w.heap.size) w v l) (hl : l.length ≤ 1000) :
    Calls Tryd.prog 22 #[v] w fun e w' => (∃ v', e = .returned v' ∧ SlIs (tPas eS) (· < w'.heap.size) w' v' (sortP l)) ∧ Below w.heap.size w w' := by
  obtain ⟨ao, cp, b, o, rfl, h1, h2, ho⟩ := pas_row h
  unfold maxLen at h2
  have HO := Lib.hid ho
  clear h ho
  go_enter Tryd.func22, Tryd.ntmps22
  go_wp2
  go_loopg [3, 4] l.length (fun gx v i wo => ∃ k : Nat, k + gx = l.length ∧ i = .int .i64 k ∧ SlIs (tPas eS) (· < wo.heap.size) wo v (sortP (l.take k)) ∧ Below w.heap.size w wo)
  case atStart => exact ⟨0, by omega, rfl, by rw [List.take_zero, show sortP [] = [] from List.eq_nil_of_length_eq_zero (sortP_len [])]; exact SlIs.nil, Below.refl _ _⟩
  case round =>
    obtain ⟨wo, rfl⟩ : ∃ wo : World, wo = wr := ⟨_, rfl⟩
    obtain ⟨k, hk, rfl, hs, hb⟩ := hrel
    by_cases hlt : k < l.length
    · obtain ⟨rfl, -, hbk, hok, ax, nx, cx, hsx, hc⟩ := HO.out wo (.of_below hb) k hlt
      have HSX := Lib.hid (show SlIs tSrc (· < wo.heap.size) wo (.slice ax nx cx) l[k].src from hsx.keep (fun k hk => Nat.lt_of_lt_of_le hk hb.size) (fun _ _ => rfl))
      have HIN0 := Lib.hid (fun (j : Nat) => @insP_sort (l.take k) (l[k]) j)
      have hSl : (sortP (l.take k)).length = k := by rw [sortP_len, List.length_take]; omega
      have HTK1 := Lib.hid (show l.take (k + 1) = l.take k ++ [l[k]] from List.take_succ_eq_append_getElem hlt)
      rw [← HTK1.out] at HIN0
      generalize hx : l[k] = x at HIN0 hc hok HSX
      generalize sortP (l.take k) = S at HIN0 hSl hs
      have hSk : S.length ≤ 1000 := by omega
      clear hSl
      obtain ⟨A, hA⟩ : ∃ A, (pCells x (.slice ax nx cx)).toArray = A := ⟨_, rfl⟩
      have HA := Lib.hid hA
      have HOK := Lib.hid hok
      have HB := Lib.hid hb
      have HSL := Lib.hid hs
      have LDW := Lib.hid (show ∀ w', Below wo.heap.size wo w' → Sem.run Tryd.prog (loadCellsFrom ⟨b, o + k * 8, none⟩ 0 8 #[]) w' = .ok A w' from fun w' hw => by
        rw [← HA.out]
        exact load_pas _ fun jj hjj => (hw.cell (p := ⟨b, o + k * 8 + jj, none⟩) (Nat.lt_of_lt_of_le hbk hb.size)).trans (hc jj hjj))
      have hs1 : A.size = 8 := by rw [← hA]; rfl
      have h1c : ∀ u ∈ A.toList, u.oneCell' = true := by rw [← hA]; exact pCells_one
      obtain ⟨av, cv, b2, o2, rfl, q1, q2, ho2⟩ := pas_row hs
      unfold maxLen at q2
      have HSC := Lib.hid ho2
      have k0 : (0 : Int) ≤ (k : Int) := by omega
      have k1 : (k : Int) < (l.length : Int) := by omega
      clear hA hc hok hb hs ho2 hbk hx HTK1 hsx
      go_wp2
      go_loopg [5] S.length (fun gx i wx => ∃ j : Nat, j + gx = S.length ∧ i = .int .i64 j ∧ Hid (∀ j' (h : j' < S.length), j' < j → pasC S[j'] x ≤ 0) ∧ GrB wo wx)
      case atStart => exact ⟨0, by omega, rfl, Lib.hid (fun j' _ h => by omega), GrB.refl _⟩
      case round =>
        obtain ⟨wx, rfl⟩ : ∃ wx : World, wx = wr := ⟨_, rfl⟩
        obtain ⟨j, hj, rfl, HL, hg⟩ := hrel
        have HG := Lib.hid hg
        by_cases hjl : j < S.length
        · obtain ⟨rfl, hb2, -, hok2, ay, ny, cy, hsy, hc2⟩ := HSC.out wx (.of_below hg.below) j hjl
          have HJ := Lib.hid (show S[j]? = some S[j] by simp [hjl])
          generalize S[j] = y at HJ hok2 hc2 hsy
          obtain ⟨B, hB⟩ : ∃ B, (pCells y (.slice ay ny cy)).toArray = B := ⟨_, rfl⟩
          obtain ⟨c, hcc⟩ : ∃ c, pasC y x = c := ⟨_, rfl⟩
          have LD1 := Lib.hid (show ∀ n os, Sem.run Tryd.prog (loadCellsFrom ⟨b2, o2 + j * 8, none⟩ 0 8 #[]) (grow (wx.drewN n) os) = .ok B (grow (wx.drewN n) os) from fun n os => by
            rw [← hB]
            exact load_pas _ fun jj hjj => ((GrB.below ⟨n, os, rfl⟩).cell (p := ⟨b2, o2 + j * 8 + jj, none⟩) (Nat.lt_of_lt_of_le hb2 hg.below.size)).trans (hc2 jj hjj))
          have LD2 := Lib.hid (show ∀ n os, Sem.run Tryd.prog (loadCellsFrom ⟨b, o + k * 8, none⟩ 0 8 #[]) (grow (wx.drewN n) os) = .ok A (grow (wx.drewN n) os) from fun n os =>
            LDW.out _ (bl_trans HG.out.below (GrB.below ⟨n, os, rfl⟩)))
          have HCMP := Lib.hid (show ∀ n os, Calls Tryd.prog 31 #[.agg B, .agg A] (grow (wx.drewN n) os) fun e w' => e = .returned (.int .i64 c) ∧ ∃ q os', w' = grow ((grow (wx.drewN n) os).drewN q) os' from fun n os => by
            rw [← hB, ← HA.out, ← hcc]
            exact compareR_any y x _ _ _ (sl_gr hsy HG.out ⟨n, os, rfl⟩) (HSX.out.step (HG.out.trans ⟨n, os, rfl⟩).below) hok2 HOK.out)
          have HCC := Lib.hid hcc
          have j0 : (0 : Int) ≤ (j : Int) := by omega
          have j1 : (j : Int) < (S.length : Int) := by omega
          clear hB hcc hc2 hok2 hg hsy
          go_upto_region 6 with (fail)
          refine QW.regionG (by kernel_rfl) (by kernel_rfl) ?_
          (iterate 8 (refine QW.yes (by kernel_rfl) (fun K hK => ?_)
                      go_simp
                      (with_reducible refine hK _ ?_)
                      clear hK K))
          refine QW.yes (by kernel_rfl) (fun K hK => ?_)
          refine quiet_loadA (A := B) rfl Tryd.isAgg24 Tryd.sizeOf24 rfl (fun w' hw' => ?_) (hK _ ?_)
          · obtain ⟨⟨nq, osq⟩, rfl⟩ := hw'
            exact LD1.out nq osq
          clear hK K
          (iterate 3 (refine QW.yes (by kernel_rfl) (fun K hK => ?_)
                      go_simp
                      (with_reducible refine hK _ ?_)
                      clear hK K))
          refine QW.yes (by kernel_rfl) (fun K hK => ?_)
          refine quiet_loadA (A := A) rfl Tryd.isAgg24 Tryd.sizeOf24 rfl (fun w' hw' => ?_) (hK _ ?_)
          · obtain ⟨⟨nq, osq⟩, rfl⟩ := hw'
            exact LD2.out nq osq
          clear hK K
          (refine QW.yes (by kernel_rfl) (fun K hK => ?_)
           go_simp
           apply Exists.intro
           refine ⟨fun _ => ?_, hK _ ?_⟩
           (go_at_call 31; with_reducible exact Calls.grown_of (HCMP.out _ _))
           clear hK K)
          (iterate 2 (refine QW.yes (by kernel_rfl) (fun K hK => ?_)
                      go_simp
                      (with_reducible refine hK _ ?_)
                      clear hK K))
          refine QW.nil ?_
          intro _ hw'
          obtain ⟨⟨nq, osq⟩, hw''⟩ := hw'
          subst hw''
          have HGQ := Lib.hid (show GrB wx (grow (wx.drewN nq) osq) from ⟨nq, osq, rfl⟩)
          clear LD1 LD2 HCMP
          generalize grow (wx.drewN nq) osq = wq at HGQ ⊢
          by_cases hc0 : c ≤ 0
          · have hcd : decide (c ≤ 0) = true := by simpa using hc0
            go_wp2
            go_roundg (S.length - (j + 1))
            case measure => omega
            case rel => exact ⟨j + 1, by omega, by go_num, Lib.hid (fun j' h h' => by
              by_cases e : j' = j
              · subst e
                have := HJ.out
                rw [List.getElem?_eq_getElem hjl] at this
                rw [Option.some.inj this, HCC.out]
                exact hc0
              · exact HL.out j' h (by omega)), HG.out.trans HGQ.out⟩
          · have hcd : decide (c ≤ 0) = false := by simpa using hc0
            have HIN := Lib.hid (show sortP (l.take (k + 1)) = S.take j ++ [x] ++ S.drop j from (HIN0.out j HL.out (fun h => by
                have := HJ.out
                rw [List.getElem?_eq_getElem hjl] at this
                rw [Option.some.inj this, HCC.out]
                omega)).symm)
            have hct : ¬ cv = j := by omega
            have HDRF := Lib.hid (show ∀ w', SlIs (tPas eS) (· < w'.heap.size) w' (.slice (some ⟨b2, o2, none⟩) S.length cv) S → SlIs (tPas eS) (· < w'.heap.size) w' (.slice (some ⟨b2, o2 + j * 8, none⟩) (S.length - j) (cv - j)) (S.drop j) from fun w' h => by
              have q := SlIs.drop (t := j) (k := j * 8) h (by omega) rfl
              rw [if_neg hct, Option.map_some, add_offG] at q
              exact q)
            clear HIN0 HCC HJ
            obtain ⟨wy, hwy⟩ : ∃ wy, wy = wq := ⟨_, rfl⟩
            have HWY := Lib.hid (show Below wo.heap.size wo wy from by rw [hwy]; exact (HG.out.trans HGQ.out).below)
            rw [← hwy]
            clear hwy
            have HKY := Lib.hid (HSL.out.step HWY.out)
            have HO0 := Lib.hid (OwnSl.nil (tPas eS) 24 wy.heap.size wy)
            have hb1 : (([] : List Pas).length + (S.take j).length) * 112 ≤ 140737488355328 := by simp; omega
            have hb2 : ([] : List Pas).length + (S.take j).length ≤ maxLen := by unfold maxLen; simp; omega
            have hb3 : (([] ++ S.take j : List Pas).length + 1) * 112 ≤ 140737488355328 := by simp; omega
            have hb4 : ([] ++ S.take j : List Pas).length + 1 ≤ maxLen := by unfold maxLen; simp; omega
            have hb5 : ((([] ++ S.take j) ++ [x] : List Pas).length + (S.drop j).length) * 112 ≤ 140737488355328 := by simp; omega
            have hb6 : (([] ++ S.take j) ++ [x] : List Pas).length + (S.drop j).length ≤ maxLen := by unfold maxLen; simp; omega
            have HTK := Lib.hid (show SlIs (tPas eS) (· < wy.heap.size) wy (.slice (some ⟨b2, o2, none⟩) j cv) (S.take j) from HKY.out.take (by omega))
            have HDR := Lib.hid (show SlIs (tPas eS) (· < wy.heap.size) wy (.slice (some ⟨b2, o2 + j * 8, none⟩) (S.length - j) (cv - j)) (S.drop j) from HDRF.out wy HKY.out)
            have LDX := Lib.hid (show ∀ w', Below wy.heap.size wy w' → Sem.run Tryd.prog (loadCellsFrom ⟨b, o + k * 8, none⟩ 0 8 #[]) w' = .ok A w' from fun w' hw => LDW.out w' (bl_trans HWY.out hw))
            have HSXY := Lib.hid (show ∀ w', Below wy.heap.size wy w' → SlIs tSrc (· < wy.heap.size) w' (.slice ax nx cx) x.src from fun w' hw => HSX.out.keep (fun k hk => Nat.lt_of_lt_of_le hk HWY.out.size) (SameOn.of_below (bl_trans HWY.out hw)))
            have j0 : (0 : Int) ≤ (j : Int) := by omega
            have j1 : (j : Int) ≤ (S.length : Int) := by omega
            clear HL HSC LDW
            go_wp2_with (first
              | (at_builtin
                 refine wpList_append_old (.tmp 31) (.tmp 34) rfl 38 rfl slPas rfl HO0.out rfl HTK.out hb1 hb2 (Nat.le_refl _) ?_
                 intro v5 w5 ho5 hg5 hb5'
                 have HO5 := Lib.hid ho5
                 have HB5 := Lib.hid hb5'
                 have hz5 := HB5.out.size
                 have ld := LDX.out w5 HB5.out
                 clear ho5 hg5 hb5')
              | (refine wpList_loadA _ rfl 24 rfl Tryd.isAgg24 Tryd.sizeOf24 rfl (by with_reducible assumption) ?_)
              | (refine wpList_buildA _ rfl 38 rfl Tryd.underlying38 Tryd.sizeOf24 Tryd.zeroValue24 (by decide) (by decide) rfl (by with_reducible assumption) ?_)
              | (at_builtin
                 refine wpList_append_one (.tmp 36) (.tmp 41) rfl 38 rfl slPas rfl HO5.out rfl (S := (· < wy.heap.size)) (y := x) (by rw [← HA.out]; exact tPas_mk HOK.out (HSXY.out _ HB5.out)) (fun k hk => ⟨Nat.lt_of_lt_of_le hk hz5, fun e => Nat.lt_irrefl _ (Nat.lt_of_lt_of_le hk (HO5.out.own_lt k e.symm).1)⟩) hb3 hb4 hz5 ?_
                 intro v6 w6 ho6 hg6 hb6'
                 have HO6 := Lib.hid ho6
                 have HB6 := Lib.hid (HB5.out.trans hb6')
                 have hz6 := HB6.out.size
                 clear ho6 hg6 hb6' ld)
              | (at_builtin
                 refine wpList_append_old (.tmp 43) (.tmp 46) rfl 38 rfl slPas rfl HO6.out rfl (HDR.out.keep (fun _ h => h) (.of_below HB6.out)) hb5 hb6 hz6 ?_
                 intro v7 w7 ho7 hg7 hb7'
                 have HO7 := Lib.hid (show OwnSl (tPas eS) 24 wy.heap.size w7 v7 (sortP (l.take (k + 1))) from by
                   rw [HIN.out]
                   have := ho7
                   simpa using this)
                 have HB7 := Lib.hid (HB6.out.trans hb7')
                 clear ho7 hg7 hb7'))
            all_goals
              go_roundg (l.length - (k + 1))
              case measure => omega
              case rel => exact ⟨k + 1, by omega, by go_num, HO7.out.sl, bl_trans HB.out (bl_trans HWY.out HB7.out)⟩
        · have hkl : ¬ (j : Int) < (S.length : Int) := by omega
          have HIN := Lib.hid (show sortP (l.take (k + 1)) = S.take j ++ [x] ++ S.drop j from (HIN0.out j HL.out (fun h => absurd h hjl)).symm)
          have HDRF := Lib.hid (show ∀ w', SlIs (tPas eS) (· < w'.heap.size) w' (.slice av S.length cv) S → SlIs (tPas eS) (· < w'.heap.size) w' (.slice (if cv = j then av else Option.map (fun x => x.add (j * 8)) av) (S.length - j) (cv - j)) (S.drop j) from fun w' h =>
            SlIs.drop (t := j) (k := j * 8) h (by omega) rfl)
          clear HIN0 hg
          go_upto_region 6 with (fail)
          refine QW.regionG (by kernel_rfl) (by kernel_rfl) ?_
          (iterate 5 (refine QW.yes (by kernel_rfl) (fun K hK => ?_)
                      go_simp
                      (with_reducible refine hK _ ?_)
                      clear hK K))
          (iterate 10 (refine QW.no (by kernel_rfl) ?_
                       (try simp only [Act.put])
                       (try simp only [List.setIfInBounds_toArray])
                       (repeat (first | simp only [List.set_cons_succ] | simp only [List.set_cons_zero]))))
          (iterate 1 (refine QW.yes (by kernel_rfl) (fun K hK => ?_)
                      go_simp
                      (with_reducible refine hK _ ?_)
                      clear hK K))
          refine QW.nil ?_
          intro _ hw'
          obtain ⟨⟨nq, osq⟩, hw''⟩ := hw'
          subst hw''
          have HGQ := Lib.hid (show GrB wx (grow (wx.drewN nq) osq) from ⟨nq, osq, rfl⟩)
          generalize grow (wx.drewN nq) osq = wq at HGQ ⊢
          obtain ⟨wy, hwy⟩ : ∃ wy, wy = wq := ⟨_, rfl⟩
          have HWY := Lib.hid (show Below wo.heap.size wo wy from by rw [hwy]; exact (HG.out.trans HGQ.out).below)
          rw [← hwy]
          clear hwy
          have HKY := Lib.hid (HSL.out.step HWY.out)
          have HO0 := Lib.hid (OwnSl.nil (tPas eS) 24 wy.heap.size wy)
          have hb1 : (([] : List Pas).length + (S.take j).length) * 112 ≤ 140737488355328 := by simp; omega
          have hb2 : ([] : List Pas).length + (S.take j).length ≤ maxLen := by unfold maxLen; simp; omega
          have hb3 : (([] ++ S.take j : List Pas).length + 1) * 112 ≤ 140737488355328 := by simp; omega
          have hb4 : ([] ++ S.take j : List Pas).length + 1 ≤ maxLen := by unfold maxLen; simp; omega
          have hb5 : ((([] ++ S.take j) ++ [x] : List Pas).length + (S.drop j).length) * 112 ≤ 140737488355328 := by simp; omega
          have hb6 : (([] ++ S.take j) ++ [x] : List Pas).length + (S.drop j).length ≤ maxLen := by unfold maxLen; simp; omega
          have HTK := Lib.hid (show SlIs (tPas eS) (· < wy.heap.size) wy (.slice av j cv) (S.take j) from HKY.out.take (by omega))
          have HDR := Lib.hid (show SlIs (tPas eS) (· < wy.heap.size) wy (.slice (if cv = j then av else Option.map (fun x => x.add (j * 8)) av) (S.length - j) (cv - j)) (S.drop j) from HDRF.out wy HKY.out)
          have LDX := Lib.hid (show ∀ w', Below wy.heap.size wy w' → Sem.run Tryd.prog (loadCellsFrom ⟨b, o + k * 8, none⟩ 0 8 #[]) w' = .ok A w' from fun w' hw => LDW.out w' (bl_trans HWY.out hw))
          have HSXY := Lib.hid (show ∀ w', Below wy.heap.size wy w' → SlIs tSrc (· < wy.heap.size) w' (.slice ax nx cx) x.src from fun w' hw => HSX.out.keep (fun k hk => Nat.lt_of_lt_of_le hk HWY.out.size) (SameOn.of_below (bl_trans HWY.out hw)))
          have j0 : (0 : Int) ≤ (j : Int) := by omega
          have j1 : (j : Int) ≤ (S.length : Int) := by omega
          clear HL HSC LDW
          go_wp2_with (first
            | (at_builtin
               refine wpList_append_old (.tmp 31) (.tmp 34) rfl 38 rfl slPas rfl HO0.out rfl HTK.out hb1 hb2 (Nat.le_refl _) ?_
               intro v5 w5 ho5 hg5 hb5'
               have HO5 := Lib.hid ho5
               have HB5 := Lib.hid hb5'
               have hz5 := HB5.out.size
               have ld := LDX.out w5 HB5.out
               clear ho5 hg5 hb5')
            | (refine wpList_loadA _ rfl 24 rfl Tryd.isAgg24 Tryd.sizeOf24 rfl (by with_reducible assumption) ?_)
            | (refine wpList_buildA _ rfl 38 rfl Tryd.underlying38 Tryd.sizeOf24 Tryd.zeroValue24 (by decide) (by decide) rfl (by with_reducible assumption) ?_)
            | (at_builtin
               refine wpList_append_one (.tmp 36) (.tmp 41) rfl 38 rfl slPas rfl HO5.out rfl (S := (· < wy.heap.size)) (y := x) (by rw [← HA.out]; exact tPas_mk HOK.out (HSXY.out _ HB5.out)) (fun k hk => ⟨Nat.lt_of_lt_of_le hk hz5, fun e => Nat.lt_irrefl _ (Nat.lt_of_lt_of_le hk (HO5.out.own_lt k e.symm).1)⟩) hb3 hb4 hz5 ?_
               intro v6 w6 ho6 hg6 hb6'
               have HO6 := Lib.hid ho6
               have HB6 := Lib.hid (HB5.out.trans hb6')
               have hz6 := HB6.out.size
               clear ho6 hg6 hb6' ld)
            | (at_builtin
               refine wpList_append_old (.tmp 43) (.tmp 46) rfl 38 rfl slPas rfl HO6.out rfl (HDR.out.keep (fun _ h => h) (.of_below HB6.out)) hb5 hb6 hz6 ?_
               intro v7 w7 ho7 hg7 hb7'
               have HO7 := Lib.hid (show OwnSl (tPas eS) 24 wy.heap.size w7 v7 (sortP (l.take (k + 1))) from by
                 rw [HIN.out]
                 have := ho7
                 simpa using this)
               have HB7 := Lib.hid (HB6.out.trans hb7')
               clear ho7 hg7 hb7'))
          all_goals
            go_roundg (l.length - (k + 1))
            case measure => omega
            case rel => exact ⟨k + 1, by omega, by go_num, HO7.out.sl, bl_trans HB.out (bl_trans HWY.out HB7.out)⟩
    · obtain rfl : k = l.length := by omega
      have hkl : ¬ (l.length : Int) < (l.length : Int) := by omega
      have HB := Lib.hid hb
      rw [List.take_length] at hs
      have HS := Lib.hid hs
      obtain ⟨av, cv, b2, o2, rfl, -⟩ := id hs
      clear hlt hk hb hs
      go_wp2
      go_ret
      exact ⟨⟨_, rfl, HS.out⟩, HB.out⟩
end Go.Proofs.YtbjhemglecllmaaDoor
/-
  Layer 17 (passage): the reference's rest, Diff.
-/
namespace Go.Tw.Ps
open Go.RowKit Go.Sort Go.Tw.Ord
theorem sortP_diff {a b O : List Pas} (h1 : O.Nodup) (h2 : ∀ x, x ∈ O ↔ x ∈ a ∧ x ∉ b) : DiffSpec a b (sortP O) := by
  refine ⟨?_, fun x => (sortP_perm O).mem_iff.trans (h2 x)⟩
  have hn : (sortP O).Nodup := (sortP_perm O).nodup_iff.2 h1
  have hs := sortP_sorted O
  refine (List.pairwise_and_iff.2 ⟨hs, hn⟩).imp fun {x y} h => ?_
  have : pasC x y ≠ 0 := fun e => h.2 (pasC_zero e)
  have := h.1
  omega
end Go.Tw.Ps
namespace Go.Tw
open Go.RowKit
/-- a guarded load of a whole -/
theorem wp_loadA {P : Program} {o : Oper} {a : Act} {w : World} {K : Act → World → Prop} {Q : Exit → Act → World → Prop} (x : Operand) (t : TypeId) (ho : o.op = .load t x) {p : Addr} {A : Array Value} {n : Nat} (hag : ∀ w, (isAgg t).run P w = .ok true w) (hsz : ∀ w, (sizeOf t).run P w = .ok n w)
    (hx : a.eval x = .pointer (some p)) (hld : Sem.run P (loadCellsFrom p 0 n #[]) w = .ok A w) (h : K (a.put o.dst (.agg A)) w) : Oper.wp P o a w K Q := by
  unfold Oper.wp
  rw [exec_loadA ho hag hsz hx hld]
  exact h
end Go.Tw
namespace Go.Proofs.YtbjhemglecllmaaDoor
open Go.RowKit Go.Tw Go.Tw.Ord Go.Tw.Ps Go.Sort
set_option maxRecDepth 100000 in
set_option maxHeartbeats 8000000 in
theorem rest_any (a b : List Pas) (va vb : Value) (w : World) (h1 : SlIs (tPas eS) (· < w.heap.size) w va a) (h2 : SlIs (tPas eS) (· < w.heap.size) w vb b) (hl : a.length ≤ 1000) :
    Calls Tryd.prog 50 #[va, vb] w fun e w' => (∃ v', e = .returned v' ∧ ∃ O, DiffSpec a b O ∧ SlIs (tPas eS) (· < w'.heap.size) w' v' O) ∧ Below w.heap.size w w' := by
  obtain ⟨ao, cp, g, o, rfl, q1, q2, ho⟩ := pas_row h1
  unfold maxLen at q2
  have HO := Lib.hid ho
  have H2 := Lib.hid h2
  obtain ⟨bo, cb, _, _, rfl, -⟩ := id h2
  clear h1 ho h2
  go_enter Tryd.func50, Tryd.ntmps50
  go_wp2
  go_loopg [5, 6] a.length (fun gx v i wo => ∃ k O, k + gx = a.length ∧ i = .int .i64 (k : Nat) ∧ Hid (O.Nodup ∧ O.length ≤ k ∧ ∀ x, x ∈ O ↔ x ∈ a.take k ∧ x ∉ b) ∧ OwnSl (tPas eS) 24 w.heap.size wo v O ∧ Below w.heap.size w wo)
  case atStart => exact ⟨0, [], by omega, rfl, Lib.hid ⟨List.nodup_nil, Nat.le_refl _, fun x => by simp⟩, OwnSl.nil _ _ _ _, Below.refl _ _⟩
  case round =>
    obtain ⟨wo, rfl⟩ : ∃ wo : World, wo = wr := ⟨_, rfl⟩
    obtain ⟨k, O, hk, rfl, HI, hown, hb⟩ := hrel
    by_cases hlt : k < a.length
    · obtain ⟨rfl, -, hbk, hok, ax, nx, cx, hsx, hc⟩ := HO.out wo (.of_below hb) k hlt
      have HSX := Lib.hid (show ∀ w', Below wo.heap.size wo w' → SlIs tSrc (· < w.heap.size) w' (.slice ax nx cx) a[k].src from fun w' hw => hsx.keep (fun _ h => h) (SameOn.of_below (hw.mono hb.size)))
      have HTK1 := Lib.hid (show a.take (k + 1) = a.take k ++ [a[k]] from List.take_succ_eq_append_getElem hlt)
      generalize a[k] = x at HTK1 hc hok HSX
      obtain ⟨A, hA⟩ : ∃ A, (pCells x (.slice ax nx cx)).toArray = A := ⟨_, rfl⟩
      have HA := Lib.hid hA
      have HOK := Lib.hid hok
      have HB := Lib.hid hb
      have HOW := Lib.hid hown
      have LDW := Lib.hid (show ∀ w', Below wo.heap.size wo w' → Sem.run Tryd.prog (loadCellsFrom ⟨g, o + k * 8, none⟩ 0 8 #[]) w' = .ok A w' from fun w' hw => by
        rw [← HA.out]
        exact load_pas _ fun jj hjj => (hw.cell (p := ⟨g, o + k * 8 + jj, none⟩) (Nat.lt_of_lt_of_le hbk hb.size)).trans (hc jj hjj))
      have hs1 : A.size = 8 := by rw [← hA]; rfl
      have h1c : ∀ u ∈ A.toList, u.oneCell' = true := by rw [← hA]; exact pCells_one
      obtain ⟨c1, hc1⟩ : ∃ c, decide (x ∈ b) = c := ⟨_, rfl⟩
      obtain ⟨c2, hc2⟩ : ∃ c, decide (x ∈ O) = c := ⟨_, rfl⟩
      have HH1 := Lib.hid (show Calls Tryd.prog 33 #[.slice bo b.length cb, .agg A] wo fun e w' => e = .returned (.bool c1) ∧ GrB wo w' from by
        rw [← HA.out, ← hc1]
        exact has_any b x _ _ wo (H2.out.step hb) ((HSX.out wo (Below.refl _ _)).keep (fun _ h => Nat.lt_of_lt_of_le h hb.size) (fun _ _ => rfl)) HOK.out)
      obtain ⟨oo, co, _, _, rfl, -⟩ := id hown.sl
      have HH2 := Lib.hid (show ∀ w', Below wo.heap.size wo w' → Calls Tryd.prog 33 #[.slice oo O.length co, .agg A] w' fun e w'' => e = .returned (.bool c2) ∧ GrB w' w'' from fun w' hw => by
        rw [← HA.out, ← hc2]
        exact has_any O x _ _ w' (hown.below hw).sl ((HSX.out w' hw).keep (fun _ h => Nat.lt_of_lt_of_le h (Nat.le_trans hb.size hw.size)) (fun _ _ => rfl)) HOK.out)
      have HC1 := Lib.hid hc1
      have HC2 := Lib.hid hc2
      have hOl : O.length < 1000 := by have := HI.out.2.1; omega
      have ld0 := LDW.out wo (Below.refl _ _)
      have k0 : (0 : Int) ≤ (k : Int) := by omega
      have k1 : (k : Int) < (a.length : Int) := by omega
      clear hA hc hok hb hown hbk hc1 hc2 hsx
      cases c1 with
      | true =>
        go_wp2_with (first
          | (refine wpList_loadA _ rfl 24 rfl Tryd.isAgg24 Tryd.sizeOf24 rfl (by with_reducible assumption) ?_)
          | (go_at_call 33
             with_reducible refine HH1.out.mono ?_
             rintro e w1 ⟨rfl, hg1⟩
             have HG1 := Lib.hid hg1.below
             clear hg1 ld0))
        go_roundg (a.length - (k + 1))
        case measure => omega
        case rel => exact ⟨k + 1, O, by omega, by go_num, Lib.hid ⟨HI.out.1, Nat.le_succ_of_le HI.out.2.1, fun y => by
          rw [HTK1.out, List.mem_append, List.mem_singleton, HI.out.2.2]
          constructor
          · exact fun h => ⟨Or.inl h.1, h.2⟩
          · rintro ⟨h | rfl, h2⟩
            · exact ⟨h, h2⟩
            · exact absurd (of_decide_eq_true HC1.out) h2⟩, HOW.out.below HG1.out, bl_trans HB.out HG1.out⟩
      | false =>
        cases c2 with
        | true =>
          go_wp2_with (first
            | (refine wpList_loadA _ rfl 24 rfl Tryd.isAgg24 Tryd.sizeOf24 rfl (by with_reducible assumption) ?_)
            | (refine wpList_step (fun K hK => ?_)
               rw [if_pos (show _ = true by kernel_rfl)]
               refine wp_loadA _ 24 rfl Tryd.isAgg24 Tryd.sizeOf24 rfl (by with_reducible assumption) (hK _ _ ?_)
               clear hK K)
            | (go_at_call 33
               first
               | (with_reducible refine HH1.out.mono ?_
                  rintro e w1 ⟨rfl, hg1⟩
                  have HG1 := Lib.hid hg1.below
                  have ld1 := LDW.out w1 HG1.out
                  clear hg1 ld0)
               | (with_reducible refine (HH2.out w1 HG1.out).mono ?_
                  rintro e w2 ⟨rfl, hg2⟩
                  have HG2 := Lib.hid (bl_trans HG1.out hg2.below)
                  clear hg2 ld1)))
          go_roundg (a.length - (k + 1))
          case measure => omega
          case rel => exact ⟨k + 1, O, by omega, by go_num, Lib.hid ⟨HI.out.1, Nat.le_succ_of_le HI.out.2.1, fun y => by
            rw [HTK1.out, List.mem_append, List.mem_singleton, HI.out.2.2]
            constructor
            · exact fun h => ⟨Or.inl h.1, h.2⟩
            · rintro ⟨h | rfl, h2⟩
              · exact ⟨h, h2⟩
              · exact (HI.out.2.2 _).1 (of_decide_eq_true HC2.out)⟩, HOW.out.below HG2.out, bl_trans HB.out HG2.out⟩
        | false =>
          go_wp2_with (first
            | (refine wpList_loadA _ rfl 24 rfl Tryd.isAgg24 Tryd.sizeOf24 rfl (by with_reducible assumption) ?_)
            | (refine wpList_step (fun K hK => ?_)
               rw [if_pos (show _ = true by kernel_rfl)]
               refine wp_loadA _ 24 rfl Tryd.isAgg24 Tryd.sizeOf24 rfl (by with_reducible assumption) (hK _ _ ?_)
               clear hK K)
            | (refine wpList_buildA _ rfl 38 rfl Tryd.underlying38 Tryd.sizeOf24 Tryd.zeroValue24 (by decide) (by decide) rfl (by with_reducible assumption) ?_)
            | (go_at_call 33
               first
               | (with_reducible refine HH1.out.mono ?_
                  rintro e w1 ⟨rfl, hg1⟩
                  have HG1 := Lib.hid hg1.below
                  have ld1 := LDW.out w1 HG1.out
                  clear hg1 ld0)
               | (with_reducible refine (HH2.out w1 HG1.out).mono ?_
                  rintro e w2 ⟨rfl, hg2⟩
                  have HG2 := Lib.hid (bl_trans HG1.out hg2.below)
                  have ld2 := LDW.out w2 HG2.out
                  have HW2 := Lib.hid (HOW.out.below HG2.out)
                  have hz2 : w.heap.size ≤ w2.heap.size := Nat.le_trans HB.out.size HG2.out.size
                  have hb3 : (O.length + 1) * 112 ≤ 140737488355328 := by omega
                  have hb4 : O.length + 1 ≤ maxLen := by unfold maxLen; omega
                  clear hg2 ld1))
            | (at_builtin
               refine wpList_append_one (.tmp 29) (.tmp 34) rfl 38 rfl slPas rfl HW2.out rfl (S := (· < w.heap.size)) (y := x) (by rw [← HA.out]; exact tPas_mk HOK.out (HSX.out _ HG2.out)) (fun k hk => ⟨Nat.lt_of_lt_of_le hk hz2, fun e => Nat.lt_irrefl _ (Nat.lt_of_lt_of_le hk (HW2.out.own_lt k e.symm).1)⟩) hb3 hb4 hz2 ?_
               intro v6 w6 ho6 hg6 hb6
               have HO6 := Lib.hid ho6
               have HB6 := Lib.hid (Below.trans (bl_trans HB.out HG2.out) hb6)
               clear ho6 hg6 hb6 ld2))
          go_roundg (a.length - (k + 1))
          case measure => omega
          case rel => exact ⟨k + 1, O ++ [x], by omega, by go_num, Lib.hid ⟨by
            rw [List.nodup_append]
            refine ⟨HI.out.1, by simp, fun y hy z hz e => ?_⟩
            rw [List.mem_singleton] at hz
            subst hz e
            exact of_decide_eq_false HC2.out hy, by rw [List.length_append]; have := HI.out.2.1; simp; omega, fun y => by
            rw [HTK1.out, List.mem_append, List.mem_append, List.mem_singleton, HI.out.2.2]
            constructor
            · rintro (h | rfl)
              · exact ⟨Or.inl h.1, h.2⟩
              · exact ⟨Or.inr rfl, of_decide_eq_false HC1.out⟩
            · rintro ⟨h | rfl, h2⟩
              · exact Or.inl ⟨h, h2⟩
              · exact Or.inr rfl⟩, HO6.out, HB6.out⟩
    · obtain rfl : k = a.length := by omega
      have hkl : ¬ (a.length : Int) < (a.length : Int) := by omega
      have HB := Lib.hid hb
      rw [List.take_length] at HI
      have HD := Lib.hid (sortP_diff HI.out.1 HI.out.2.2)
      have HSR := Lib.hid (sortR_any O _ wo hown.sl (by have := HI.out.2.1; omega))
      clear hlt hk hb hown
      go_wp2_with (go_at_call 22
                   with_reducible refine HSR.out.mono ?_
                   rintro e w5 ⟨⟨v5, rfl, hs5⟩, hb5⟩
                   have HS5 := Lib.hid hs5
                   have HB5 := Lib.hid (bl_trans HB.out hb5)
                   clear hs5 hb5)
      go_ret
      exact ⟨⟨_, rfl, _, HD.out, HS5.out⟩, HB5.out⟩
set_option maxHeartbeats 2000000 in
theorem diffR_any (a b : List Pas) (va vb : Value) (w : World) (h1 : SlIs (tPas eS) (· < w.heap.size) w va a) (h2 : SlIs (tPas eS) (· < w.heap.size) w vb b) (hl : a.length ≤ 1000) (hl2 : b.length ≤ 1000) :
    Calls Tryd.prog 24 #[va, vb] w fun e w' => (∃ v1, ∃ v2, e = .returned (.tuple #[v1, v2]) ∧ ∃ O O', DiffSpec a b O ∧ DiffSpec b a O' ∧ SlIs (tPas eS) (· < w'.heap.size) w' v1 O ∧ SlIs (tPas eS) (· < w'.heap.size) w' v2 O') ∧ Below w.heap.size w w' := by
  have H1 := Lib.hid (rest_any a b va vb w h1 h2 hl)
  have H2 := Lib.hid (show ∀ w', Below w.heap.size w w' → Calls Tryd.prog 50 #[vb, va] w' fun e w'' => (∃ v', e = .returned v' ∧ ∃ O, DiffSpec b a O ∧ SlIs (tPas eS) (· < w''.heap.size) w'' v' O) ∧ Below w'.heap.size w' w'' from fun w' hw => rest_any b a vb va w' (h2.step hw) (h1.step hw) hl2)
  clear h1 h2
  go_enter Tryd.func24, Tryd.ntmps24
  go_wp2_with (go_at_call 50
               first
               | (with_reducible refine H1.out.mono ?_
                  rintro e w1 ⟨⟨v1, rfl, O, hd1, hs1⟩, hb1⟩
                  have HD1 := Lib.hid hd1
                  have HS1 := Lib.hid hs1
                  have HB1 := Lib.hid hb1
                  clear hd1 hs1 hb1)
               | (with_reducible refine (H2.out w1 HB1.out).mono ?_
                  rintro e w2 ⟨⟨v2, rfl, O2, hd2, hs2⟩, hb2⟩
                  have HD2 := Lib.hid hd2
                  have HS2 := Lib.hid hs2
                  have HS3 := Lib.hid (HS1.out.step hb2)
                  have HB2 := Lib.hid (bl_trans HB1.out hb2)
                  clear hd2 hs2 hb2))
  go_ret2
  exact ⟨⟨_, _, rfl, _, _, HD1.out, HD2.out, HS3.out, HS2.out⟩, HB2.out⟩
end Go.Proofs.YtbjhemglecllmaaDoor
/-
  Layer 17 (passage): the reference's Belongs.
-/
namespace Go.Tw.Ps
open Go.RowKit Go.Sort Go.Tw.Ord
theorem es_nil : es.toList = [] := by rw [Lib.toList_data]; rfl
theorem emp_iff {s : ByteArray} : s.toList.isEmpty = decide (s = es) := by
  rw [← eq_str, es_nil]
  cases s.toList <;> rfl
theorem tagsOf_snoc (l : List Pas) (y : Pas) (p : ByteArray) : tagsOf (l ++ [y]) p = tagsOf l p ++ (if y.plt = p ∧ y.tag ≠ es then [y.tag] else []) := by
  unfold tagsOf
  rw [List.filter_append, List.map_append]
  congr 1
  by_cases h1 : y.plt = p <;> by_cases h2 : y.tag = es <;> simp [h1, h2]
theorem tagsOf_ne {l : List Pas} {p u : ByteArray} (h : u ∈ tagsOf l p) : u ≠ es := by
  unfold tagsOf at h
  simp only [List.mem_map, List.mem_filter, Bool.and_eq_true, Bool.not_eq_true', decide_eq_true_eq, decide_eq_false_iff_not] at h
  obtain ⟨x, ⟨_, _, h⟩, rfl⟩ := h
  exact h
theorem onlyTag_one {l : List Pas} {p t : ByteArray} (h : ∀ u ∈ tagsOf l p, u = t) (h0 : t = es ↔ tagsOf l p = []) : onlyTag l p = t := by
  unfold onlyTag
  split
  · rename_i e
    exact (h0.2 e).symm
  · rename_i u r e
    rw [e] at h
    have h1 : u = t := h u (by simp)
    subst h1
    rw [if_pos]
    rw [List.all_eq_true]
    exact fun v hv => decide_eq_true (h v (by simp [hv]))
theorem onlyTag_two {l : List Pas} {p u v : ByteArray} (h1 : u ∈ tagsOf l p) (h2 : v ∈ tagsOf l p) (h : u ≠ v) : onlyTag l p = es := by
  unfold onlyTag
  split
  · rfl
  · rename_i t r e
    rw [if_neg]
    rw [List.all_eq_true]
    intro ha
    rw [e] at h1 h2
    have hh : ∀ z ∈ t :: r, z = t := fun z hz => by
      rcases List.mem_cons.1 hz with rfl | hz
      · rfl
      · exact of_decide_eq_true (ha z hz)
    exact h ((hh u h1).trans (hh v h2).symm)
theorem tagsOf_mono {l m : List Pas} {p u : ByteArray} (h : u ∈ tagsOf l p) (hs : l.Sublist m) : u ∈ tagsOf m p := by
  unfold tagsOf at h ⊢
  exact ((hs.filter _).map _).mem h
end Go.Tw.Ps
namespace Go.Proofs.YtbjhemglecllmaaDoor
open Go.RowKit Go.Tw Go.Tw.Ord Go.Tw.Ps Go.Sort
theorem ret_str {a b : ByteArray} (h : a = b) : Ending.returned (.string b) = .returned (.string a) := by rw [h]
set_option maxRecDepth 100000 in
set_option maxHeartbeats 4000000 in
theorem belongsR_any (l : List Pas) (x : Pas) (v vx : Value) (w : World) (h1 : SlIs (tPas eS) (· < w.heap.size) w v l) (hl : l.length ≤ 1000) :
    Calls Tryd.prog 53 #[v, .agg (pCells x vx).toArray] w fun e w' => e = .returned (.string (ownP l x)) ∧ GrB w w' := by
  obtain ⟨ao, cp, b, o, rfl, q1, q2, ho⟩ := pas_row h1
  unfold maxLen at q2
  obtain ⟨B, hB⟩ : ∃ B, (pCells x vx).toArray = B := ⟨_, rfl⟩
  have hb0 : GrB w (w.alloc (.cells B 24)) := (GrB.refl w).alloc _
  have n0 : PBox (w.alloc (.cells B 24)) w.heap.size B := heap_alloc_new _ _
  have b3 := n0.cell 3 (v := .string x.tag) (by rw [← hB]; rfl)
  have b4 := n0.cell 4 (v := .string x.plt) (by rw [← hB]; rfl)
  have HO := Lib.hid ho
  have HN0 := Lib.hid n0
  have HB0 := Lib.hid hb0
  have HBB := Lib.hid hB
  rw [hB]
  clear h1 ho hB hb0 n0
  by_cases ht : x.tag = es
  · have e1 : x.tag.toList.isEmpty = true := by rw [emp_iff]; simpa using ht
    have HT := Lib.hid ht
    clear ht
    by_cases hp : x.plt = es
    · have e2 : x.plt.toList.isEmpty = true := by rw [emp_iff]; simpa using hp
      have HP := Lib.hid hp
      clear hp
      go_enter Tryd.func53, Tryd.ntmps53
      go_wp2
      go_ret
      refine ⟨ret_str ?_, HB0.out⟩
      unfold ownP
      rw [if_pos HT.out, if_pos HP.out, HT.out]
    · have e2 : x.plt.toList.isEmpty = false := by rw [emp_iff]; simpa using hp
      have HP := Lib.hid hp
      clear hp
      go_enter Tryd.func53, Tryd.ntmps53
      go_wp2
      generalize w.alloc (.cells B 24) = w0 at HN0 HB0 b3 b4 ⊢
      generalize hgb : w.heap.size = gb at HN0 b3 b4 ⊢
      have HGB := Lib.hid hgb
      clear hgb b3 b4
      go_loopg [5, 6] l.length (fun gx vt i wr => ∃ (k : Nat) (t : ByteArray), k + gx = l.length ∧ vt = .string t ∧ i = .int .i64 k ∧ Hid ((∀ u ∈ tagsOf (l.take k) x.plt, u = t) ∧ (t = es ↔ tagsOf (l.take k) x.plt = [])) ∧ GrB w0 wr)
      case atStart => exact ⟨0, es, by omega, rfl, rfl, Lib.hid ⟨fun u hu => by simp [tagsOf] at hu, by simp [tagsOf]⟩, GrB.refl _⟩
      case round =>
        obtain ⟨wo, rfl⟩ : ∃ wo : World, wo = wr := ⟨_, rfl⟩
        obtain ⟨k, t, hk, rfl, rfl, HI, hb⟩ := hrel
        have HB := Lib.hid hb
        by_cases hlt : k < l.length
        · obtain ⟨rfl, -, hbk, -, ay, ny, cy, -, hc⟩ := HO.out wo (.of_below (HB0.out.trans hb).below) k hlt
          have HTK := Lib.hid (show l.take (k + 1) = l.take k ++ [l[k]] from List.take_succ_eq_append_getElem hlt)
          generalize l[k] = y at HTK hc
          have HTG := Lib.hid (show tagsOf (l.take (k + 1)) x.plt = tagsOf (l.take k) x.plt ++ (if y.plt = x.plt ∧ y.tag ≠ es then [y.tag] else []) from by rw [HTK.out, tagsOf_snoc])
          have hbo : b < wo.heap.size := Nat.lt_of_lt_of_le hbk (HB0.out.trans hb).below.size
          have HC3 := Lib.hid (show ∀ w', GrB wo w' → w'.cell? ⟨b, o + k * 8 + 3, none⟩ = some (.string y.tag) from fun w' hw => (hw.below.cell (p := ⟨b, o + k * 8 + 3, none⟩) hbo).trans (hc 3 (by decide)))
          have a3 : ∀ n os, (grow (wo.drewN n) os).cell? ⟨b, o + k * 8 + 3, none⟩ = some (.string y.tag) := fun n os => HC3.out _ ⟨n, os, rfl⟩
          have a4 : ∀ n os, (grow (wo.drewN n) os).cell? ⟨b, o + k * 8 + 4, none⟩ = some (.string y.plt) := fun n os => ((GrB.below ⟨n, os, rfl⟩).cell (p := ⟨b, o + k * 8 + 4, none⟩) hbo).trans (hc 4 (by decide))
          have HN := Lib.hid (show ∀ w', GrB wo w' → w'.cell? ⟨gb, 4, none⟩ = some (.string x.plt) from fun w' hw => PBox.cell (HN0.out.step (HB.out.trans hw).below) 4 (by rw [← HBB.out]; rfl))
          have b4 : ∀ n os, (grow (wo.drewN n) os).cell? ⟨gb, 4, none⟩ = some (.string x.plt) := fun n os => HN.out _ ⟨n, os, rfl⟩
          have k0 : (0 : Int) ≤ (k : Int) := by omega
          have k1 : (k : Int) < (l.length : Int) := by omega
          have HLE := Lib.hid (show (l.take (k + 1)).Sublist l from List.take_sublist _ _)
          clear hc hb hbk hbo
          by_cases d1 : y.plt = x.plt
          · have e3 : (y.plt.toList == x.plt.toList) = true := by rw [eq_str]; simpa using d1
            have D1 := Lib.hid d1
            clear d1
            by_cases d2 : y.tag = es
            · have e4 : y.tag.toList.isEmpty = true := by rw [emp_iff]; simpa using d2
              have D2 := Lib.hid d2
              clear d2
              go_upto_region 7 with (fail)
              refine QW.regionG (by kernel_rfl) (by kernel_rfl) ?_
              (iterate 9 (refine QW.yes (by kernel_rfl) (fun K hK => ?_)
                          go_simp
                          (with_reducible refine hK _ ?_)
                          clear hK K))
              (iterate 6 (refine QW.yes (by kernel_rfl) (fun K hK => ?_)
                          go_simp
                          (with_reducible refine hK _ ?_)
                          clear hK K))
              (refine QW.yes (by kernel_rfl) (fun K hK => ?_)
               go_simp
               (with_reducible refine hK _ ?_)
               clear hK K)
              refine QW.nil ?_
              intro _ hw'
              obtain ⟨⟨nq, osq⟩, hw''⟩ := hw'
              subst hw''
              have HGQ := Lib.hid (show GrB wo (grow (wo.drewN nq) osq) from ⟨nq, osq, rfl⟩)
              have z3 := HC3.out _ HGQ.out
              have z4 := HN.out _ HGQ.out
              clear a3 a4 b4
              generalize grow (wo.drewN nq) osq = wq at HGQ z3 z4 ⊢
              go_wp2
              go_roundg (l.length - (k + 1))
              case measure => omega
              case rel => exact ⟨k + 1, t, by omega, rfl, by go_num, Lib.hid (by
                rw [HTG.out, if_neg (fun h => h.2 D2.out), List.append_nil]
                exact HI.out), HB.out.trans HGQ.out⟩
            · have e4 : y.tag.toList.isEmpty = false := by rw [emp_iff]; simpa using d2
              have D2 := Lib.hid d2
              clear d2
              by_cases d3 : t = es
              · have e5 : t.toList.isEmpty = true := by rw [emp_iff]; simpa using d3
                have D3 := Lib.hid d3
                clear d3
                go_upto_region 7 with (fail)
                refine QW.regionG (by kernel_rfl) (by kernel_rfl) ?_
                (iterate 9 (refine QW.yes (by kernel_rfl) (fun K hK => ?_)
                            go_simp
                            (with_reducible refine hK _ ?_)
                            clear hK K))
                (iterate 6 (refine QW.yes (by kernel_rfl) (fun K hK => ?_)
                            go_simp
                            (with_reducible refine hK _ ?_)
                            clear hK K))
                (refine QW.yes (by kernel_rfl) (fun K hK => ?_)
                 go_simp
                 (with_reducible refine hK _ ?_)
                 clear hK K)
                refine QW.nil ?_
                intro _ hw'
                obtain ⟨⟨nq, osq⟩, hw''⟩ := hw'
                subst hw''
                have HGQ := Lib.hid (show GrB wo (grow (wo.drewN nq) osq) from ⟨nq, osq, rfl⟩)
                have z3 := HC3.out _ HGQ.out
                have z4 := HN.out _ HGQ.out
                clear a3 a4 b4
                generalize grow (wo.drewN nq) osq = wq at HGQ z3 z4 ⊢
                go_wp2
                go_roundg (l.length - (k + 1))
                case measure => omega
                case rel => exact ⟨k + 1, y.tag, by omega, rfl, by go_num, Lib.hid (by
                  rw [HTG.out, if_pos ⟨D1.out, D2.out⟩, HI.out.2.1 D3.out]
                  refine ⟨fun u hu => by simpa using hu, fun h => absurd h D2.out, fun h => by simp at h⟩), HB.out.trans HGQ.out⟩
              · have e5 : t.toList.isEmpty = false := by rw [emp_iff]; simpa using d3
                have D3 := Lib.hid d3
                clear d3
                by_cases d4 : t = y.tag
                · have e6 : (t.toList == y.tag.toList) = true := by rw [eq_str]; simpa using d4
                  have D4 := Lib.hid d4
                  clear d4
                  go_upto_region 7 with (fail)
                  refine QW.regionG (by kernel_rfl) (by kernel_rfl) ?_
                  (iterate 9 (refine QW.yes (by kernel_rfl) (fun K hK => ?_)
                              go_simp
                              (with_reducible refine hK _ ?_)
                              clear hK K))
                  (iterate 6 (refine QW.yes (by kernel_rfl) (fun K hK => ?_)
                              go_simp
                              (with_reducible refine hK _ ?_)
                              clear hK K))
                  (refine QW.yes (by kernel_rfl) (fun K hK => ?_)
                   go_simp
                   (with_reducible refine hK _ ?_)
                   clear hK K)
                  refine QW.nil ?_
                  intro _ hw'
                  obtain ⟨⟨nq, osq⟩, hw''⟩ := hw'
                  subst hw''
                  have HGQ := Lib.hid (show GrB wo (grow (wo.drewN nq) osq) from ⟨nq, osq, rfl⟩)
                  have z3 := HC3.out _ HGQ.out
                  have z4 := HN.out _ HGQ.out
                  clear a3 a4 b4
                  generalize grow (wo.drewN nq) osq = wq at HGQ z3 z4 ⊢
                  go_wp2
                  go_roundg (l.length - (k + 1))
                  case measure => omega
                  case rel => exact ⟨k + 1, y.tag, by omega, rfl, by go_num, Lib.hid (by
                    rw [HTG.out, if_pos ⟨D1.out, D2.out⟩]
                    refine ⟨fun u hu => ?_, fun h => absurd h D2.out, fun h => by simp at h⟩
                    rcases List.mem_append.1 hu with hu | hu
                    · rw [← D4.out]; exact HI.out.1 u hu
                    · simpa using hu), HB.out.trans HGQ.out⟩
                · have e6 : (t.toList == y.tag.toList) = false := by rw [eq_str]; simpa using d4
                  have D4 := Lib.hid d4
                  clear d4
                  go_upto_region 7 with (fail)
                  refine QW.regionG (by kernel_rfl) (by kernel_rfl) ?_
                  (iterate 9 (refine QW.yes (by kernel_rfl) (fun K hK => ?_)
                              go_simp
                              (with_reducible refine hK _ ?_)
                              clear hK K))
                  (iterate 6 (refine QW.yes (by kernel_rfl) (fun K hK => ?_)
                              go_simp
                              (with_reducible refine hK _ ?_)
                              clear hK K))
                  (refine QW.yes (by kernel_rfl) (fun K hK => ?_)
                   go_simp
                   (with_reducible refine hK _ ?_)
                   clear hK K)
                  refine QW.nil ?_
                  intro _ hw'
                  obtain ⟨⟨nq, osq⟩, hw''⟩ := hw'
                  subst hw''
                  have HGQ := Lib.hid (show GrB wo (grow (wo.drewN nq) osq) from ⟨nq, osq, rfl⟩)
                  have z3 := HC3.out _ HGQ.out
                  have z4 := HN.out _ HGQ.out
                  clear a3 a4 b4
                  generalize grow (wo.drewN nq) osq = wq at HGQ z3 z4 ⊢
                  go_wp2
                  go_ret
                  refine ⟨ret_str ?_, HB0.out.trans (HB.out.trans HGQ.out)⟩
                  have hne : tagsOf (l.take k) x.plt ≠ [] := fun h => D3.out (HI.out.2.2 h)
                  obtain ⟨u, r, hur⟩ := List.exists_cons_of_ne_nil hne
                  have hu : u ∈ tagsOf (l.take k) x.plt := by rw [hur]; simp
                  have hut := HI.out.1 u hu
                  rw [hut] at hu
                  have h1 : t ∈ tagsOf l x.plt := tagsOf_mono hu (List.take_sublist _ _)
                  have h2 : y.tag ∈ tagsOf l x.plt := tagsOf_mono (l := l.take (k + 1)) (by rw [HTG.out, if_pos ⟨D1.out, D2.out⟩]; simp) HLE.out
                  unfold ownP
                  rw [if_pos HT.out, if_neg HP.out, if_pos (onlyTag_two h1 h2 D4.out)]
          · have e3 : (y.plt.toList == x.plt.toList) = false := by rw [eq_str]; simpa using d1
            have D1 := Lib.hid d1
            clear d1
            go_upto_region 7 with (fail)
            refine QW.regionG (by kernel_rfl) (by kernel_rfl) ?_
            (iterate 9 (refine QW.yes (by kernel_rfl) (fun K hK => ?_)
                        go_simp
                        (with_reducible refine hK _ ?_)
                        clear hK K))
            (iterate 6 (refine QW.no (by kernel_rfl) ?_
                        (try simp only [Act.put])
                        (try simp only [List.setIfInBounds_toArray])
                        (repeat (first | simp only [List.set_cons_succ] | simp only [List.set_cons_zero]))))
            (refine QW.yes (by kernel_rfl) (fun K hK => ?_)
             go_simp
             (with_reducible refine hK _ ?_)
             clear hK K)
            refine QW.nil ?_
            intro _ hw'
            obtain ⟨⟨nq, osq⟩, hw''⟩ := hw'
            subst hw''
            have HGQ := Lib.hid (show GrB wo (grow (wo.drewN nq) osq) from ⟨nq, osq, rfl⟩)
            have z3 := HC3.out _ HGQ.out
            have z4 := HN.out _ HGQ.out
            clear a3 a4 b4
            generalize grow (wo.drewN nq) osq = wq at HGQ z3 z4 ⊢
            go_wp2
            go_roundg (l.length - (k + 1))
            case measure => omega
            case rel => exact ⟨k + 1, t, by omega, rfl, by go_num, Lib.hid (by
              rw [HTG.out, if_neg (fun h => D1.out h.1), List.append_nil]
              exact HI.out), HB.out.trans HGQ.out⟩
        · obtain rfl : k = l.length := by omega
          have hkl : ¬ (l.length : Int) < (l.length : Int) := by omega
          have z4 : wo.cell? ⟨gb, 4, none⟩ = some (.string x.plt) := PBox.cell (HN0.out.step HB.out.below) 4 (by rw [← HBB.out]; rfl)
          rw [List.take_length] at HI
          have HQ := Lib.hid (onlyTag_one HI.out.1 HI.out.2)
          clear hlt hk hb
          by_cases d3 : t = es
          · have e5 : t.toList.isEmpty = true := by rw [emp_iff]; simpa using d3
            have D3 := Lib.hid d3
            clear d3
            go_wp2
            go_ret
            refine ⟨ret_str ?_, HB0.out.trans HB.out⟩
            unfold ownP
            rw [if_pos HT.out, if_neg HP.out, if_pos (HQ.out.trans D3.out)]
          · have e5 : t.toList.isEmpty = false := by rw [emp_iff]; simpa using d3
            have D3 := Lib.hid d3
            clear d3
            go_wp2
            go_ret
            refine ⟨ret_str ?_, HB0.out.trans HB.out⟩
            unfold ownP
            rw [if_pos HT.out, if_neg HP.out, HQ.out, if_neg D3.out]
  · have e1 : x.tag.toList.isEmpty = false := by rw [emp_iff]; simpa using ht
    have HT := Lib.hid ht
    clear ht
    go_enter Tryd.func53, Tryd.ntmps53
    go_wp2
    go_ret
    refine ⟨ret_str ?_, HB0.out⟩
    unfold ownP
    rw [if_neg HT.out]
end Go.Proofs.YtbjhemglecllmaaDoor
/-
  Maps of the call's own, with keys that are numbers or strings: what they hold, as a function. No program in sight.
-/
namespace Go.Tw
open Go.RowKit

/-- a key type: numbers, strings -/
structure KeyTy (κ : Type) [DecidableEq κ] where
  val : κ → Value
  d : TypeDesc
  plain : ∀ (P : Program) (kt : TypeId) (b : Bool) (w : World) (x : κ), P.underlying kt = some d → (Instr.checkKey b 10000 kt (val x)).run P w = .ok () w
  same : ∀ a b, Instr.sameNow d (val a) (val b) = some (decide (a = b))
  bits : ∀ a, Instr.sameBits 10000 (val a) (val a) = true
  inj : ∀ a b, val a = val b → a = b

def kInt : KeyTy Int where
  val := .int .i64
  d := .int .i64
  plain := fun P kt b w x h => by rw [show (10000 : Nat) = 9999 + 1 from rfl, Instr.checkKey]; simp [run_underlying h]
  same := fun a b => by simp only [Instr.sameNow, if_true]; by_cases h : a = b <;> simp [h]
  bits := fun a => by simp [Instr.sameBits]
  inj := fun a b h => by simpa using h
theorem bytes_beq_eq (a b : ByteArray) : (a == b) = decide (a = b) := by
  by_cases h : a = b
  · rw [decide_eq_true h]; exact (MapKept.bytes_beq a b).2 h
  · rw [decide_eq_false h]
    cases e : a == b with
    | false => rfl
    | true => exact absurd ((MapKept.bytes_beq a b).1 e) h
/-- two strings, as the walk compares them -/
theorem str_eq (a b : ByteArray) : (a.toList == b.toList) = decide (a = b) := by rw [← bytes_beq_eq, beq_toListBytes]
def kStr : KeyTy ByteArray where
  val := .string
  d := .string
  plain := fun P kt b w x h => by rw [show (10000 : Nat) = 9999 + 1 from rfl, Instr.checkKey]; simp [run_underlying h]
  same := fun a b => by simp only [Instr.sameNow, bytes_beq_eq]
  bits := fun a => by rw [show (10000 : Nat) = 9999 + 1 from rfl]; simp [Instr.sameBits, bytes_beq_eq]
  inj := fun a b h => by simpa using h

section
variable {κ : Type} [DecidableEq κ] {K : KeyTy κ} {P : Program} {w : World} {b n : Nat} {f : κ → Option Value}

/-- block b is a map of at most n entries that holds f -/
def MapIs (K : KeyTy κ) (w : World) (b : Nat) (f : κ → Option Value) (n : Nat) : Prop :=
  ∃ es clock, w.heap[b]? = some (.map es clock) ∧ es.size ≤ n ∧ ∃ l : List (κ × Value), es.toList.map (fun e => (e.key, e.val)) = l.map (fun p => (K.val p.1, p.2)) ∧ ∀ x, f x = (l.find? fun p => decide (x = p.1)).map (·.2)

theorem MapIs.lt (h : MapIs K w b f n) : b < w.heap.size := by
  obtain ⟨es, clock, h, _⟩ := h
  exact lt_of_heap h
theorem MapIs.mono (h : MapIs K w b f n) {m : Nat} (hm : n ≤ m) : MapIs K w b f m := by
  obtain ⟨es, clock, h1, h2, h3⟩ := h
  exact ⟨es, clock, h1, Nat.le_trans h2 hm, h3⟩
theorem MapIs.kept {w' : World} (h : MapIs K w b f n) (hk : w'.heap[b]? = w.heap[b]?) : MapIs K w' b f n := by
  obtain ⟨es, clock, h1, h2⟩ := h
  exact ⟨es, clock, hk.trans h1, h2⟩
theorem MapIs.alloc (h : MapIs K w b f n) (o : Obj) : MapIs K (w.alloc o) b f n := h.kept (Below.heap_alloc _ _ _ h.lt)
theorem MapIs.below {w' : World} (h : MapIs K w b f n) (hb : Below w.heap.size w w') : MapIs K w' b f n := h.kept (hb.block _ h.lt)
theorem MapIs.drewN (h : MapIs K w b f n) (m : Nat) : MapIs K (w.drewN m) b f n := h.below (below_drewN (Below.refl _ _) m)
theorem MapIs.made (w : World) : MapIs K (w.alloc (.map #[] 0)) w.heap.size (fun _ => none) 0 :=
  ⟨#[], 0, heap_alloc_new _ _, Nat.le_refl _, [], rfl, fun _ => rfl⟩
theorem MapIs.ext {g : κ → Option Value} (h : MapIs K w b f n) (hfg : ∀ x, f x = g x) : MapIs K w b g n := by
  obtain ⟨es, clock, h1, h2, l, h3, h4⟩ := h
  exact ⟨es, clock, h1, h2, l, h3, fun x => (hfg x).symm.trans (h4 x)⟩

theorem findNow_eq (x : κ) : ∀ (es : List MapEntry) (l : List (κ × Value)) (i : Nat), es.map (fun e => (e.key, e.val)) = l.map (fun p => (K.val p.1, p.2)) →
    ∃ r, Instr.findNow K.d (K.val x) es i = some r ∧ r.map (·.2) = (l.find? fun p => decide (x = p.1)).map (·.2) ∧
      ∀ j v, r = some (j, v) → i ≤ j ∧ ∃ e p, es[j - i]? = some e ∧ l[j - i]? = some p ∧ e.key = K.val x ∧ p.1 = x ∧ ∀ q ∈ l.take (j - i), q.1 ≠ x
  | [], [], i, _ => ⟨none, rfl, rfl, fun j v h => (by cases h)⟩
  | e :: es, p :: l, i, h => by
    simp only [List.map_cons, List.cons.injEq, Prod.mk.injEq] at h
    obtain ⟨⟨h1, h2⟩, h3⟩ := h
    rw [Instr.findNow, h1, K.same]
    by_cases hx : x = p.1
    · simp only [hx, decide_true]
      exact ⟨some (i, e.val), rfl, by simp [h2], fun j v hj => by
        simp only [Option.some.injEq, Prod.mk.injEq] at hj
        obtain ⟨rfl, rfl⟩ := hj
        exact ⟨Nat.le_refl _, e, p, by simp, by simp, h1, rfl, fun q hq => by simp at hq⟩⟩
    · simp only [hx, decide_false]
      obtain ⟨r, r1, r2, r3⟩ := findNow_eq x es l (i + 1) h3
      refine ⟨r, r1, by rw [r2, List.find?_cons_of_neg (by simpa using hx)], fun j v hj => ?_⟩
      obtain ⟨g1, e', p', g2, g3, g4, g5, g6⟩ := r3 j v hj
      have ej : j - i = (j - (i + 1)) + 1 := by omega
      refine ⟨by omega, e', p', by rw [ej]; simpa using g2, by rw [ej]; simpa using g3, g4, g5, fun q hq => ?_⟩
      rw [ej, List.take_succ_cons] at hq
      rcases List.mem_cons.1 hq with rfl | hq
      · exact fun e => hx e.symm
      · exact g6 q hq
  | [], _ :: _, _, h => by simp at h
  | _ :: _, [], _, h => by simp at h

theorem MapIs.look (h : MapIs K w b f n) {t kt e : TypeId} (ht : P.underlying t = some (.map kt e)) (hk : P.underlying kt = some K.d) {z : Value} (hz : (zeroValue e).run P w = .ok z w) (x : κ) (ok : Bool) :
    (Instr.lookup t (.map (some b)) (K.val x) ok).run P w = .ok (if ok then .tuple #[(f x).getD z, .bool (f x).isSome] else (f x).getD z) w := by
  obtain ⟨es, clock, h1, h2, l, h3, h4⟩ := h
  obtain ⟨r, r1, r2, r3⟩ := findNow_eq (K := K) x es.toList l 0 h3
  have hget : (getObj b).run P w = .ok (.map es clock) w := by simp [getObj, Sem.run, h1]
  have hc := K.plain P kt es.isEmpty w x hk
  rw [h4 x, ← r2]
  cases r with
  | none => simp [Instr.lookup, run_underlying ht, hget, hc, Instr.findKey, run_underlying hk, r1, hz]
  | some q => simp [Instr.lookup, run_underlying ht, hget, hc, Instr.findKey, run_underlying hk, r1]

theorem MapIs.put (h : MapIs K w b f n) {t kt e : TypeId} (ht : P.underlying t = some (.map kt e)) (hk : P.underlying kt = some K.d) (x : κ) (v : Value) :
    ∃ w', (Instr.mapUpdate t (.map (some b)) (K.val x) v).run P w = .ok () w' ∧ MapIs K w' b (fun y => if y = x then some v else f y) (n + 1) ∧ w.grownBy w' (some b) := by
  obtain ⟨es, clock, h1, h2, l, h3, h4⟩ := h
  obtain ⟨r, r1, r2, r3⟩ := findNow_eq (K := K) x es.toList l 0 h3
  have hget : (getObj b).run P w = .ok (.map es clock) w := by simp [getObj, Sem.run, h1]
  have hc := K.plain P kt false w x hk
  have hset : ∀ o, (setObj b o).run P w = .ok () { w with heap := w.heap.setIfInBounds b o } := fun o => by simp [setObj, Sem.run, h1]
  have hlt := lt_of_heap h1
  have fin : ∀ o, w.grownBy { w with heap := w.heap.setIfInBounds b o } (some b) := fun o => ⟨rfl, rfl, rfl, by simp, fun k _ hne => by
    simp only
    rw [Array.getElem?_setIfInBounds, if_neg (fun e => hne (by rw [e]))]⟩
  cases r with
  | none =>
    refine ⟨{ w with heap := w.heap.setIfInBounds b (.map (es.push { key := K.val x, val := v, born := clock }) (clock + 1)) }, ?_, ⟨es.push { key := K.val x, val := v, born := clock }, clock + 1, ?_, ?_, l ++ [(x, v)], ?_, fun y => ?_⟩, fin _⟩
    · simp [Instr.mapUpdate, run_underlying ht, hget, hc, Instr.findKey, run_underlying hk, r1, hset]
    · simp [hlt]
    · simp; omega
    · simp [h3]
    · have hn : (l.find? fun p => decide (x = p.1)) = none := by
        cases hf : l.find? fun p => decide (x = p.1) with
        | none => rfl
        | some q => rw [hf] at r2; simp at r2
      simp only
      by_cases hy : y = x
      · subst hy
        rw [if_pos rfl, List.find?_append, hn]; simp
      · rw [if_neg hy, h4 y, List.find?_append]
        cases l.find? fun p => decide (y = p.1) with
        | some q => rfl
        | none => simp [hy]
  | some q =>
    obtain ⟨j, v0⟩ := q
    obtain ⟨_, e0, p0, g2, g3, g4, g5, g6⟩ := r3 j v0 rfl
    simp only [Nat.sub_zero] at g2 g3 g6
    have hjl : j < es.size := by
      have := (List.getElem?_eq_some_iff.1 g2).1
      simpa using this
    have hej : es[j]? = some e0 := by rw [← g2]; simp
    refine ⟨{ w with heap := w.heap.setIfInBounds b (.map (es.modify j fun e => { e with key := K.val x, val := v }) clock) }, ?_, ⟨es.modify j fun e => { e with key := K.val x, val := v }, clock, ?_, ?_, l.set j (x, v), ?_, fun y => ?_⟩, fin _⟩
    · simp [Instr.mapUpdate, run_underlying ht, hget, hc, Instr.findKey, run_underlying hk, r1, Instr.keyThatStays, hej, g4, K.bits, hset]
    · simp [hlt]
    · simp; omega
    · apply List.ext_getElem?
      intro i
      have hi := congrArg (fun z => z[i]?) h3
      simp only [List.getElem?_map] at hi
      simp only [Array.toList_modify, List.getElem?_map, List.getElem?_modify, List.getElem?_set]
      by_cases e : j = i
      · subst e
        have hjl' : j < l.length := (List.getElem?_eq_some_iff.1 g3).1
        rw [if_pos rfl, g2, if_pos hjl']
        simp
      · rw [if_neg e]
        simp only [if_neg e]
        simpa [Option.map_map] using hi
    · have hjl' : j < l.length := (List.getElem?_eq_some_iff.1 g3).1
      have hsplit : l = l.take j ++ p0 :: l.drop (j + 1) := by
        have : l[j] = p0 := (List.getElem?_eq_some_iff.1 g3).2
        rw [← this, ← List.drop_eq_getElem_cons hjl', List.take_append_drop]
      have hset2 : l.set j (x, v) = l.take j ++ (x, v) :: l.drop (j + 1) := by rw [List.set_eq_take_append_cons_drop, if_pos hjl']
      rw [hset2, List.find?_append]
      have hno : (l.take j).find? (fun p => decide (x = p.1)) = none := by
        rw [List.find?_eq_none]
        intro q hq
        have := g6 q hq
        simpa using fun e => this e.symm
      simp only
      by_cases hy : y = x
      · subst hy
        rw [if_pos rfl, hno]; simp
      · rw [if_neg hy, h4 y]
        conv => lhs; rw [hsplit]
        rw [List.find?_append]
        congr 2
        rw [List.find?_cons_of_neg (by simp [g5, hy]), List.find?_cons_of_neg (by simp [hy])]
end

theorem wpList_put {κ : Type} [DecidableEq κ] {K : KeyTy κ} {P : Program} {w : World} {b n : Nat} {f : κ → Option Value} {ops : Array Oper} {rest : List Oper} {o : Oper} {a : Act} {Q : Exit → Act → World → Prop}
    (m x v : Operand) (hg : o.guard = none) (t : TypeId) (hop : o.op = Op.mapUpdate t m x v) {kt e : TypeId} (ht : P.underlying t = some (.map kt e)) (hk : P.underlying kt = some K.d) (h : MapIs K w b f n)
    (hm : a.eval m = .map (some b)) (key : κ) (kv val : Value) (hkv : K.val key = kv) (hx : a.eval x = kv) (hv : a.eval v = val)
    (hK : ∀ w', MapIs K w' b (fun y => if y = key then some val else f y) (n + 1) → w.grownBy w' (some b) → wpList P ops Q rest (a.put o.dst undef) w') : wpList P ops Q (o :: rest) a w := by
  refine wpList_plain hg fun K' hK' => ?_
  subst hkv
  obtain ⟨w', hrun, r1, r2⟩ := h.put ht hk key val
  unfold Oper.wp
  simp [execOp, hop, hm, hx, hv, hrun, Result.andThen]
  exact hK' _ _ (hK w' r1 r2)

end Go.Tw
/-
  Layer 17 (passage): text.Name and tollwayref01.Name.
-/
namespace Go.Tw.Ps
open Go.RowKit Go.Tw
def nb (i : Nat) (b : UInt8) : Prop := (97 ≤ b.toNat ∧ b.toNat ≤ 122) ∨ (0 < i ∧ (b.toNat = 45 ∨ (48 ≤ b.toNat ∧ b.toNat ≤ 57)))
def nameP (s : ByteArray) : Prop := 1 ≤ s.size ∧ s.size ≤ 12 ∧ ∀ i (h : i < s.size), nb i s[i]
open Classical in
noncomputable def nameC (s : ByteArray) : Bool := decide (nameP s)
theorem name_yes {s : ByteArray} (h : nameP s) : nameC s = true := by simp [nameC, h]
theorem name_no {s : ByteArray} (h : ¬ nameP s) : nameC s = false := by simp [nameC, h]
end Go.Tw.Ps
namespace Go.Proofs.YtbjhemglecllmaaDoor
open Go.RowKit Go.Tw Go.Tw.Ps

set_option maxRecDepth 100000 in
set_option maxHeartbeats 1000000 in
theorem Name_any (s : ByteArray) (w : World) : Calls Tryd.prog 36 #[.string s] w fun e w' => e = .returned (.bool (nameC s)) ∧ Below w.heap.size w w' := by
  by_cases h0 : s.size = 0
  · have hs : s = ByteArray.empty := by
      apply ByteArray.ext
      exact Array.eq_empty_of_size_eq_zero h0
    subst hs
    go_enter Tryd.func36, Tryd.ntmps36
    go_wp2
    go_ret
    exact ⟨ret_bool (name_no (fun h => by have := h.1; simp at this)), Below.refl _ _⟩
  have hn1 : (s.toList == ByteArray.toList ByteArray.empty) = false := by
    rw [str_eq]
    simp
    rintro rfl
    exact h0 rfl
  have hne : s.toList.isEmpty = false := by
    cases h : s.toList with
    | nil => rw [h] at hn1; exact absurd hn1 (by rw [show ByteArray.empty.toList = [] by unfold ByteArray.toList ByteArray.toList.loop; rfl]; simp)
    | cons _ _ => rfl
  clear hn1
  by_cases h12 : 12 < s.size
  · have hlt : (12 : Int) < (s.size : Int) := by omega
    go_enter Tryd.func36, Tryd.ntmps36
    go_wp2
    go_ret
    exact ⟨ret_bool (name_no (fun h => by have := h.2.1; omega)), Below.refl _ _⟩
  have hle : ¬ (12 : Int) < (s.size : Int) := by omega
  go_enter Tryd.func36, Tryd.ntmps36
  go_wp2
  go_loopw [3] (fun n w' => ∃ (pos : Nat), w' = w.iter s pos ∧ pos ≤ s.size ∧ (∀ i (h : i < pos) (h2 : i < s.size), nb i s[i])) (fun _ w' => s.size - w'.iterPos w.heap.size)
  case atStart => exact ⟨0, rfl, Nat.zero_le _, fun i h => absurd h (Nat.not_lt_zero _)⟩
  case round =>
    obtain ⟨pos, rfl, hps, hall⟩ := hrel
    have HA := Lib.hid hall; clear hall
    by_cases hp : pos < s.size
    case neg =>
      have hnx : ∀ ty, (Instr.next (.pointer (some ⟨w.heap.size, 0, none⟩)) true ty).run Tryd.prog (w.iter s pos) = _ := fun ty => run_next_end w s pos ty hp
      go_wp2
      go_ret
      exact ⟨ret_bool (name_yes ⟨by omega, by omega, fun i h => HA.out i (by omega) h⟩), bl_alloc (Below.refl _ _) _⟩
    by_cases ha : (s[pos]'hp).toNat < 128
    case neg =>
      have hnx : ∀ ty, (Instr.next (.pointer (some ⟨w.heap.size, 0, none⟩)) true ty).run Tryd.prog (w.iter s pos) = _ := fun ty => run_next_any w s pos ty hp
      have hd := (decode_high s pos hp (by omega)).1
      generalize Utf8.decode s pos = r at hnx hd
      have g1 : (97 : Int) ≤ (r.1 : Int) := by omega
      have g2 : (122 : Int) < (r.1 : Int) := by omega
      have hbad : nameC s = false := name_no (fun h => by have := h.2.2 pos hp; unfold nb at this; omega)
      have HB := Lib.hid hbad; clear hbad
      by_cases p0 : pos = 0
      · have hp0 : ((pos : Int) == 0) = true := by simp [p0]
        clear p0
        go_wp2
        all_goals first
          | (go_ret; exact ⟨ret_bool HB.out, bl_alloc (Below.refl _ _) _⟩)
          | (exfalso; rename_i hh; simp at hh; omega)
      · have hp0 : ((pos : Int) == 0) = false := by simp [p0]
        have g3 : ((r.1 : Int) != 45) = true := by simp; omega
        have g4 : ¬ (r.1 : Int) < 48 := by omega
        have g5 : (57 : Int) < (r.1 : Int) := by omega
        clear p0
        go_wp2
        all_goals first
          | (go_ret; exact ⟨ret_bool HB.out, bl_alloc (Below.refl _ _) _⟩)
          | (exfalso; rename_i hh; simp at hh; omega)
    have hnx : ∀ ty, (Instr.next (.pointer (some ⟨w.heap.size, 0, none⟩)) true ty).run Tryd.prog (w.iter s pos) = _ := fun ty => run_next_ascii w s pos ty hp ha
    obtain ⟨b, hb⟩ : ∃ b : Nat, b = (s[pos]'hp).toNat := ⟨_, rfl⟩
    rw [← hb] at hnx
    have HN := Lib.hid hb; clear hb
    by_cases hz : (97 ≤ b ∧ b ≤ 122)
    · obtain ⟨z1, z2⟩ := hz
      have g1 : (97 : Int) ≤ (b : Int) := by omega
      have g2 : (b : Int) ≤ 122 := by omega
      go_wp2
      go_roundw
      case measure => simp; omega
      case rel =>
        refine ⟨pos + 1, rfl, by omega, fun i h h2 => ?_⟩
        by_cases e : i = pos
        · subst e; exact .inl ⟨by have := HN.out; omega, by have := HN.out; omega⟩
        · exact HA.out i (by omega) h2
    by_cases p0 : pos = 0
    · have hbad : nameC s = false := name_no (fun h => by have h1 := h.2.2 pos hp; have h2 := HN.out; unfold nb at h1; omega)
      have HB := Lib.hid hbad; clear hbad
      have hp0 : ((pos : Int) == 0) = true := by simp [p0]
      clear p0
      have g12 : (b : Int) < 97 ∨ (122 : Int) < (b : Int) := by omega
      clear hz
      rcases g12 with g1 | g1
      all_goals
        have g2 : ((97 : Int) ≤ (b : Int)) ∨ ((b : Int) < 97) := by omega
        rcases g2 with g2 | g2
        all_goals
          go_wp2
          all_goals first
            | (go_ret; exact ⟨ret_bool HB.out, bl_alloc (Below.refl _ _) _⟩)
            | (exfalso; rename_i hh; simp at hh; omega)
    have hp0 : ((pos : Int) == 0) = false := by simp [p0]
    by_cases hq : b = 45 ∨ (48 ≤ b ∧ b ≤ 57)
    · have g1 : (b : Int) < 97 := by omega
      have g3 : ((b : Int) != 45) = false ∨ (((b : Int) != 45) = true ∧ (48 : Int) ≤ (b : Int) ∧ (b : Int) ≤ 57) := by
        by_cases e : b = 45
        · exact .inl (by simp [e])
        · exact .inr ⟨by simp; omega, by omega, by omega⟩
      have HQ := Lib.hid hq
      have HP := Lib.hid p0
      clear hq p0 hz
      rcases g3 with g3 | ⟨g3, g4, g5⟩
      all_goals
        go_wp2
        go_roundw
        case measure => simp; omega
        case rel =>
          refine ⟨pos + 1, rfl, by omega, fun i h h2 => ?_⟩
          by_cases e : i = pos
          · subst e
            exact .inr ⟨by have := HP.out; omega, by have := HN.out; have := HQ.out; omega⟩
          · exact HA.out i (by omega) h2
    · have hbad : nameC s = false := name_no (fun h => by have h1 := h.2.2 pos hp; have h2 := HN.out; unfold nb at h1; omega)
      have HB := Lib.hid hbad; clear hbad
      have g3 : ((b : Int) != 45) = true := by simp; omega
      have g45 : (b : Int) < 48 ∨ ((48 : Int) ≤ (b : Int) ∧ (57 : Int) < (b : Int)) := by omega
      have g12 : (b : Int) < 97 ∨ ((97 : Int) ≤ (b : Int) ∧ (122 : Int) < (b : Int)) := by omega
      clear hq hz p0
      rcases g45 with g4 | ⟨g4, g4'⟩
      all_goals
        rcases g12 with g1 | ⟨g1, g1'⟩
        all_goals
          go_wp2
          all_goals first
            | (go_ret; exact ⟨ret_bool HB.out, bl_alloc (Below.refl _ _) _⟩)
            | (exfalso; rename_i hh; simp at hh; omega)

set_option maxRecDepth 100000 in
set_option maxHeartbeats 1000000 in
theorem NameR_any (s : ByteArray) (w : World) : Calls Tryd.prog 68 #[.string s] w fun e w' => e = .returned (.bool (nameC s)) ∧ Below w.heap.size w w' := by
  by_cases h0 : s.size = 0
  · have hlt : (s.size : Int) < 1 := by omega
    go_enter Tryd.func68, Tryd.ntmps68
    go_wp2
    go_ret
    exact ⟨ret_bool (name_no (fun h => by have := h.1; omega)), Below.refl _ _⟩
  have hn1 : ¬ (s.size : Int) < 1 := by omega
  by_cases h12 : 12 < s.size
  · have hlt : (12 : Int) < (s.size : Int) := by omega
    go_enter Tryd.func68, Tryd.ntmps68
    go_wp2
    go_ret
    exact ⟨ret_bool (name_no (fun h => by have := h.2.1; omega)), Below.refl _ _⟩
  have hle : ¬ (12 : Int) < (s.size : Int) := by omega
  go_enter Tryd.func68, Tryd.ntmps68
  go_wp2
  go_loopg [3] s.size (fun g i wr => ∃ k : Nat, k + g = s.size ∧ i = .int .i64 k ∧ Hid (∀ i (h : i < k) (h2 : i < s.size), nb i s[i]) ∧ w = wr)
  case atStart => exact ⟨0, by omega, rfl, Lib.hid (fun i h => absurd h (Nat.not_lt_zero _)), rfl⟩
  case round =>
    obtain ⟨k, hk, rfl, HA, rfl⟩ := hrel
    by_cases hlt : k < s.size
    case neg =>
      go_wp2
      go_ret
      exact ⟨ret_bool (name_yes ⟨by omega, by omega, fun i h => HA.out i (by omega) h⟩), Below.refl _ _⟩
    have k0 : (0 : Int) ≤ (k : Int) := by omega
    have k1 : (k : Int) < (s.size : Int) := by omega
    have hb := s[k].toNat_lt
    obtain ⟨b, hbb⟩ : ∃ b : Nat, b = s[k].toNat := ⟨_, rfl⟩
    have HBB := Lib.hid hbb
    have hz : (97 ≤ b ∧ b ≤ 122) ∨ (b = 45) ∨ (48 ≤ b ∧ b ≤ 57) ∨ (b < 48 ∧ b ≠ 45) ∨ (57 < b ∧ b < 97) ∨ (122 < b) := by omega
    rcases hz with ⟨q1, q2⟩ | q1 | ⟨q1, q2⟩ | ⟨q1, q2⟩ | ⟨q1, q2⟩ | q1
    · have g1 : (97 : Int) ≤ (s[k].toNat : Int) := by omega
      have g2 : (s[k].toNat : Int) ≤ 122 := by omega
      have g3 : (48 : Int) ≤ (s[k].toNat : Int) := by omega
      have g4 : decide ((s[k].toNat : Int) ≤ 57) = false := by simp; omega
      have g5 : ((s[k].toNat : Int) == 45) = false := by simp; omega
      have HQ := Lib.hid (show nb k s[k] by unfold nb; omega)
      clear q1 q2 hb hbb
      go_wp2
      go_roundg (s.size - (k + 1))
      case measure => omega
      case rel =>
        refine ⟨k + 1, by omega, by go_num, Lib.hid (fun i h h2 => ?_), rfl⟩
        by_cases e : i = k
        · subst e; exact HQ.out
        · exact HA.out i (by omega) h2
    · have g1 : (s[k].toNat : Int) < 97 := by omega
      have g3 : (s[k].toNat : Int) < 48 := by omega
      have g5 : ((s[k].toNat : Int) == 45) = true := by simp; omega
      by_cases kz : k = 0
      · have kz' : ((k : Int) == 0) = true := by simp [kz]
        have HN := Lib.hid (show nameC s = false from name_no (fun h => by have := h.2.2 k hlt; unfold nb at this; omega))
        clear q1 hb hbb kz
        (try clear q2)
        go_wp2
        go_ret
        exact ⟨ret_bool HN.out, Below.refl _ _⟩
      · have kz' : ((k : Int) == 0) = false := by simp; omega
        have HQ := Lib.hid (show nb k s[k] by unfold nb; omega)
        clear q1 hb hbb kz
        (try clear q2)
        go_wp2
        go_roundg (s.size - (k + 1))
        case measure => omega
        case rel =>
          refine ⟨k + 1, by omega, by go_num, Lib.hid (fun i h h2 => ?_), rfl⟩
          by_cases e : i = k
          · subst e; exact HQ.out
          · exact HA.out i (by omega) h2
    · have g1 : (s[k].toNat : Int) < 97 := by omega
      have g3 : (48 : Int) ≤ (s[k].toNat : Int) := by omega
      have g4 : (s[k].toNat : Int) ≤ 57 := by omega
      by_cases kz : k = 0
      · have kz' : ((k : Int) == 0) = true := by simp [kz]
        have HN := Lib.hid (show nameC s = false from name_no (fun h => by have := h.2.2 k hlt; unfold nb at this; omega))
        clear q1 hb hbb kz
        (try clear q2)
        go_wp2
        go_ret
        exact ⟨ret_bool HN.out, Below.refl _ _⟩
      · have kz' : ((k : Int) == 0) = false := by simp; omega
        have HQ := Lib.hid (show nb k s[k] by unfold nb; omega)
        clear q1 hb hbb kz
        (try clear q2)
        go_wp2
        go_roundg (s.size - (k + 1))
        case measure => omega
        case rel =>
          refine ⟨k + 1, by omega, by go_num, Lib.hid (fun i h h2 => ?_), rfl⟩
          by_cases e : i = k
          · subst e; exact HQ.out
          · exact HA.out i (by omega) h2
    · have g1 : (s[k].toNat : Int) < 97 := by omega
      have g3 : (s[k].toNat : Int) < 48 := by omega
      have g5 : ((s[k].toNat : Int) == 45) = false := by simp; omega
      have HN := Lib.hid (show nameC s = false from name_no (fun h => by have := h.2.2 k hlt; unfold nb at this; omega))
      clear q1 hb hbb
      (try clear q2)
      by_cases kz : k = 0
      · have kz' : ((k : Int) == 0) = true := by simp [kz]
        clear kz
        go_wp2
        go_ret
        exact ⟨ret_bool HN.out, Below.refl _ _⟩
      · have kz' : ((k : Int) == 0) = false := by simp; omega
        clear kz
        go_wp2
        go_ret
        exact ⟨ret_bool HN.out, Below.refl _ _⟩
    · have g1 : (s[k].toNat : Int) < 97 := by omega
      have g3 : (48 : Int) ≤ (s[k].toNat : Int) := by omega
      have g4 : decide ((s[k].toNat : Int) ≤ 57) = false := by simp; omega
      have g5 : ((s[k].toNat : Int) == 45) = false := by simp; omega
      have HN := Lib.hid (show nameC s = false from name_no (fun h => by have := h.2.2 k hlt; unfold nb at this; omega))
      clear q1 hb hbb
      (try clear q2)
      by_cases kz : k = 0
      · have kz' : ((k : Int) == 0) = true := by simp [kz]
        clear kz
        go_wp2
        go_ret
        exact ⟨ret_bool HN.out, Below.refl _ _⟩
      · have kz' : ((k : Int) == 0) = false := by simp; omega
        clear kz
        go_wp2
        go_ret
        exact ⟨ret_bool HN.out, Below.refl _ _⟩
    · have g1 : (97 : Int) ≤ (s[k].toNat : Int) := by omega
      have g2 : decide ((s[k].toNat : Int) ≤ 122) = false := by simp; omega
      have g3 : (48 : Int) ≤ (s[k].toNat : Int) := by omega
      have g4 : decide ((s[k].toNat : Int) ≤ 57) = false := by simp; omega
      have g5 : ((s[k].toNat : Int) == 45) = false := by simp; omega
      have HN := Lib.hid (show nameC s = false from name_no (fun h => by have := h.2.2 k hlt; unfold nb at this; omega))
      clear q1 hb hbb
      (try clear q2)
      by_cases kz : k = 0
      · have kz' : ((k : Int) == 0) = true := by simp [kz]
        clear kz
        go_wp2
        go_ret
        exact ⟨ret_bool HN.out, Below.refl _ _⟩
      · have kz' : ((k : Int) == 0) = false := by simp; omega
        clear kz
        go_wp2
        go_ret
        exact ⟨ret_bool HN.out, Below.refl _ _⟩
end Go.Proofs.YtbjhemglecllmaaDoor
/-
  Layer 17 (passage): cmp.Or at strings, Vehicle.
-/
namespace Go.Tw.Ps
/-- the first string that is not empty, or the empty one -/
def orS : List ByteArray → ByteArray
  | [] => es
  | a :: l => if a = es then orS l else a
end Go.Tw.Ps
namespace Go.Proofs.YtbjhemglecllmaaDoor
open Go.RowKit Go.Tw Go.Tw.Ord Go.Tw.Ps Go.Sort
set_option maxHeartbeats 1000000 in
theorem Or_str (l : List ByteArray) (g : Nat) (w : World) (h : w.heap[g]? = some (.cells (l.map Value.string).toArray 9 (0, 0))) (hl : l.length ≤ 100) :
    Calls Tryd.prog 45 #[.slice (some ⟨g, 0, none⟩) l.length l.length] w fun e w' => e = .returned (.string (orS l)) ∧ w' = w := by
  have HC := Lib.hid h
  clear h
  go_enter Tryd.func45, Tryd.ntmps45
  go_wp2
  go_loopg [8] l.length (fun gx i wr => ∃ k : Nat, k + gx = l.length ∧ i = .int .i64 k ∧ orS l = orS (l.drop k) ∧ wr = w)
  case atStart => exact ⟨0, by omega, rfl, rfl, rfl⟩
  case round =>
    obtain ⟨k, hk, rfl, he, rfl⟩ := hrel
    have HE := Lib.hid he
    clear he
    by_cases hlt : k < l.length
    · have k0 : (0 : Int) ≤ (k : Int) := by omega
      have k1 : (k : Int) < (l.length : Int) := by omega
      have c0 : wr.cell? ⟨g, k, none⟩ = some (.string l[k]) := by
        rw [cell_of_row _ _ _ _ _ _ HC.out]
        simp [hlt]
      have HD := Lib.hid (show orS (l.drop k) = if l[k] = es then orS (l.drop (k + 1)) else l[k] by rw [List.drop_eq_getElem_cons hlt, orS])
      obtain ⟨y, hy⟩ : ∃ y, l[k] = y := ⟨_, rfl⟩
      rw [hy] at c0 HD
      clear hy
      by_cases hz : y = es
      · have e1 : y.toList.isEmpty = true := by rw [emp_iff]; simpa using hz
        have HZ := Lib.hid hz
        clear hz
        go_wp2
        go_roundg (l.length - (k + 1))
        case measure => omega
        case rel => exact ⟨k + 1, by omega, by go_num, by rw [HE.out, HD.out, if_pos HZ.out], rfl⟩
      · have e1 : y.toList.isEmpty = false := by rw [emp_iff]; simpa using hz
        have HZ := Lib.hid hz
        clear hz
        go_wp2
        go_ret
        exact ⟨ret_str (HE.out.trans (HD.out.trans (if_neg HZ.out))), rfl⟩
    · have hkl : ¬ (k : Int) < (l.length : Int) := by omega
      have HN := Lib.hid (show orS l = es by rw [HE.out, List.drop_eq_nil_of_le (by omega), orS])
      go_wp2
      go_ret
      exact ⟨ret_str HN.out, rfl⟩
/-- the vehicle of a passage -/
def vehP (x : Pas) : ByteArray := if x.tag = es then x.plt else x.tag
set_option maxHeartbeats 1000000 in
theorem vehicle_any (x : Pas) (vx : Value) (w : World) : Calls Tryd.prog 17 #[.agg (pCells x vx).toArray] w fun e w' => e = .returned (.string (vehP x)) ∧ GrB w w' := by
  obtain ⟨B, hB⟩ : ∃ B, (pCells x vx).toArray = B := ⟨_, rfl⟩
  have n0 : PBox (w.alloc (.cells B 24)) w.heap.size B := heap_alloc_new _ _
  have b3 := n0.cell 3 (v := .string x.tag) (by rw [← hB]; rfl)
  have b4 := n0.cell 4 (v := .string x.plt) (by rw [← hB]; rfl)
  have HOR := Lib.hid (show ∀ (W : World) (g : Nat), g = W.heap.size → Calls Tryd.prog 45 #[.slice (some ⟨g, 0, none⟩) 2 2] (W.alloc (.cells #[.string x.tag, .string x.plt] 9)) fun e w' => e = .returned (.string (vehP x)) ∧ w' = W.alloc (.cells #[.string x.tag, .string x.plt] 9) from fun W g hg => by
    subst hg
    have h := Or_str [x.tag, x.plt] W.heap.size (W.alloc (.cells #[.string x.tag, .string x.plt] 9)) (heap_alloc_new _ _) (by simp)
    have e : orS [x.tag, x.plt] = vehP x := by
      unfold orS orS orS vehP
      by_cases q : x.tag = es
      · rw [if_pos q, if_pos q]
        by_cases q2 : x.plt = es
        · rw [if_pos q2, q2]
        · rw [if_neg q2]
      · rw [if_neg q, if_neg q]
    rw [e] at h
    exact h)
  rw [hB]
  clear hB n0
  go_enter Tryd.func17, Tryd.ntmps17
  go_wp2_with (go_at_call 45
               with_reducible refine (HOR.out _ _ (by simp)).mono ?_
               rintro e w1 ⟨rfl, rfl⟩)
  go_ret
  exact ⟨rfl, ((GrB.refl w).alloc _).alloc _⟩
end Go.Proofs.YtbjhemglecllmaaDoor
/-
  Layer 17 (passage): the program's owner; what its map of tags holds.
-/
namespace Go.Tw.Ps
open Go.RowKit Go.Sort Go.Tw.Ord
/-- what the program's map of tags holds -/
def tagM (l : List Pas) (p : ByteArray) : Option Value := if p = es ∨ tagsOf l p = [] then none else some (.string (onlyTag l p))
theorem onlyTag_nil {l : List Pas} {p : ByteArray} (h : tagsOf l p = []) : onlyTag l p = es := by
  unfold onlyTag
  rw [h]
theorem onlyTag_cons {l : List Pas} {p t : ByteArray} {r : List ByteArray} (h : tagsOf l p = t :: r) : onlyTag l p = if r.all (fun u => decide (u = t)) = true then t else es := by
  unfold onlyTag
  rw [h]
theorem tagM_get {l : List Pas} {p : ByteArray} (h : p ≠ es) : (tagM l p).getD (.string es) = .string (onlyTag l p) := by
  unfold tagM
  by_cases q : tagsOf l p = []
  · rw [if_pos (Or.inr q), onlyTag_nil q]; rfl
  · rw [if_neg (by simp [h, q])]; rfl
theorem tagM_same {l : List Pas} {y : Pas} (h : y.tag = es ∨ y.plt = es) (p : ByteArray) : tagM l p = tagM (l ++ [y]) p := by
  unfold tagM
  by_cases hp : p = es
  · rw [if_pos (Or.inl hp), if_pos (Or.inl hp)]
  · have e : tagsOf (l ++ [y]) p = tagsOf l p := by
      rw [tagsOf_snoc, if_neg, List.append_nil]
      rintro ⟨h1, h2⟩
      rcases h with h | h
      · exact h2 h
      · exact hp (h1.symm.trans h)
    unfold onlyTag
    rw [e]
theorem tagM_other {l : List Pas} {y : Pas} {p : ByteArray} (h : p ≠ y.plt) : tagM (l ++ [y]) p = tagM l p := by
  have e : tagsOf (l ++ [y]) p = tagsOf l p := by
    rw [tagsOf_snoc, if_neg (fun q => h q.1.symm), List.append_nil]
  unfold tagM onlyTag
  rw [e]
theorem onlyTag_snoc {l : List Pas} {y : Pas} (hy : y.tag ≠ es) : onlyTag (l ++ [y]) y.plt = if tagsOf l y.plt = [] ∨ onlyTag l y.plt = y.tag then y.tag else es := by
  have e : tagsOf (l ++ [y]) y.plt = tagsOf l y.plt ++ [y.tag] := by rw [tagsOf_snoc, if_pos ⟨rfl, hy⟩]
  cases ht : tagsOf l y.plt with
  | nil =>
    rw [ht, List.nil_append] at e
    rw [if_pos (Or.inl rfl), onlyTag_cons e]
    rfl
  | cons t r =>
    rw [ht, List.cons_append] at e
    rw [onlyTag_cons e, onlyTag_cons ht, List.all_append]
    by_cases ha : r.all (fun u => decide (u = t)) = true
    · rw [if_pos ha, ha]
      by_cases hb : t = y.tag
      · simp [hb]
      · have hb' : ¬ y.tag = t := fun q => hb q.symm
        rw [if_neg, if_neg]
        · rintro (q | q)
          · exact absurd q (by simp)
          · exact hb q
        · simp [hb']
    · rw [if_neg ha]
      have h2 : ¬ es = y.tag := fun q => hy q.symm
      have h3 : ¬ (r.all (fun u => decide (u = t)) && [y.tag].all (fun u => decide (u = t))) = true := fun q => by
        rw [Bool.and_eq_true] at q
        exact ha q.1
      rw [if_neg h3, if_neg]
      rintro (q | q)
      · exact absurd q (by simp)
      · exact h2 q
theorem tagM_snoc {l : List Pas} {y : Pas} (hy : y.tag ≠ es) (hp : y.plt ≠ es) : tagM (l ++ [y]) y.plt = some (.string (if tagsOf l y.plt = [] ∨ onlyTag l y.plt = y.tag then y.tag else es)) := by
  unfold tagM
  rw [onlyTag_snoc hy, if_neg]
  rw [tagsOf_snoc, if_pos ⟨rfl, hy⟩]
  simp [hp]
end Go.Tw.Ps
namespace Go.Proofs.YtbjhemglecllmaaDoor
open Go.RowKit Go.Tw Go.Tw.Ord Go.Tw.Ps Go.Sort
set_option maxHeartbeats 1000000 in
theorem owner_any (l : List Pas) (x : Pas) (vx : Value) (b n : Nat) (w : World) (hm : MapIs kStr w b (tagM l) n) : Calls Tryd.prog 52 #[.agg (pCells x vx).toArray, .map (some b)] w fun e w' => e = .returned (.string (ownP l x)) ∧ GrB w w' := by
  obtain ⟨B, hB⟩ : ∃ B, (pCells x vx).toArray = B := ⟨_, rfl⟩
  have n0 : PBox (w.alloc (.cells B 24)) w.heap.size B := heap_alloc_new _ _
  have b3 := n0.cell 3 (v := .string x.tag) (by rw [← hB]; rfl)
  have b4 := n0.cell 4 (v := .string x.plt) (by rw [← hB]; rfl)
  have HM := Lib.hid (hm.alloc (.cells B 24))
  rw [hB]
  clear hB n0 hm
  by_cases ht : x.tag = es
  · have e1 : x.tag.toList.isEmpty = true := by rw [emp_iff]; simpa using ht
    have HT := Lib.hid ht
    clear ht
    by_cases hp : x.plt = es
    · have e2 : x.plt.toList.isEmpty = true := by rw [emp_iff]; simpa using hp
      have HP := Lib.hid hp
      clear hp
      go_enter Tryd.func52, Tryd.ntmps52
      go_wp2
      go_ret
      refine ⟨ret_str ?_, (GrB.refl w).alloc _⟩
      unfold ownP
      rw [if_pos HT.out, if_pos HP.out, HT.out]
    · have e2 : x.plt.toList.isEmpty = false := by rw [emp_iff]; simpa using hp
      have hlk : (Instr.lookup 70 (.map (some b)) (.string x.plt) false).run Tryd.prog (w.alloc (.cells B 24)) = .ok (.string (onlyTag l x.plt)) (w.alloc (.cells B 24)) := by
        have := HM.out.look Tryd.underlying70 Tryd.underlying9 (z := .string ByteArray.empty) (by kernel_rfl) x.plt false
        rw [tagM_get hp] at this
        exact this
      have HQ := Lib.hid (show orS [onlyTag l x.plt, x.plt] = ownP l x from by
        unfold orS orS orS ownP
        rw [if_pos HT.out, if_neg hp]
        simp [hp])
      have HOR := Lib.hid (show ∀ (W : World) (g : Nat), g = W.heap.size → Calls Tryd.prog 45 #[.slice (some ⟨g, 0, none⟩) 2 2] (W.alloc (.cells #[.string (onlyTag l x.plt), .string x.plt] 9)) fun e w' => e = .returned (.string (ownP l x)) ∧ w' = W.alloc (.cells #[.string (onlyTag l x.plt), .string x.plt] 9) from fun W g hg => by
        subst hg
        have h := Or_str [onlyTag l x.plt, x.plt] W.heap.size (W.alloc (.cells #[.string (onlyTag l x.plt), .string x.plt] 9)) (heap_alloc_new _ _) (by simp)
        rw [HQ.out] at h
        exact h)
      clear hp
      go_enter Tryd.func52, Tryd.ntmps52
      go_wp2_with (go_at_call 45
                   with_reducible refine (HOR.out _ _ (by simp)).mono ?_
                   rintro e w1 ⟨rfl, rfl⟩)
      go_ret
      exact ⟨rfl, ((GrB.refl w).alloc _).alloc _⟩
  · have e1 : x.tag.toList.isEmpty = false := by rw [emp_iff]; simpa using ht
    have HT := Lib.hid ht
    clear ht
    go_enter Tryd.func52, Tryd.ntmps52
    go_wp2
    go_ret
    refine ⟨ret_str ?_, (GrB.refl w).alloc _⟩
    unfold ownP
    rw [if_neg HT.out]
end Go.Proofs.YtbjhemglecllmaaDoor
/-
  Layer 17 (passage): the program's tags.
-/
namespace Go.Proofs.YtbjhemglecllmaaDoor
open Go.RowKit Go.Tw Go.Tw.Ord Go.Tw.Ps Go.Sort
set_option maxRecDepth 100000 in
set_option maxHeartbeats 2000000 in
theorem tags_any (l : List Pas) (v : Value) (w : World) (h1 : SlIs (tPas eS) (· < w.heap.size) w v l) :
    Calls Tryd.prog 51 #[v] w fun e w' => (e = .returned (.map (some w.heap.size)) ∧ MapIs kStr w' w.heap.size (tagM l) l.length) ∧ Below w.heap.size w w' := by
  obtain ⟨ao, cp, g, o, rfl, q1, q2, ho⟩ := pas_row h1
  unfold maxLen at q2
  have HO := Lib.hid ho
  have HM0 := Lib.hid (MapIs.made (K := kStr) w)
  clear h1 ho
  have hmm := @run_makeMap Tryd.prog
  go_enter Tryd.func51, Tryd.ntmps51
  go_wp2
  clear hmm
  go_loopg [11] l.length (fun gx i wo => ∃ k : Nat, k + gx = l.length ∧ i = .int .i64 k ∧ MapIs kStr wo w.heap.size (tagM (l.take k)) k ∧ Below w.heap.size w wo)
  case atStart => exact ⟨0, by omega, rfl, HM0.out.ext (fun p => by unfold tagM; rw [if_pos (Or.inr (by simp [tagsOf]))]), bl_alloc (Below.refl _ _) _⟩
  case round =>
    obtain ⟨wo, rfl⟩ : ∃ wo : World, wo = wr := ⟨_, rfl⟩
    obtain ⟨k, hk, rfl, hm, hb⟩ := hrel
    by_cases hlt : k < l.length
    · obtain ⟨rfl, -, hbk, -, ay, ny, cy, -, hc⟩ := HO.out wo (.of_below hb) k hlt
      have HTK := Lib.hid (show l.take (k + 1) = l.take k ++ [l[k]] from List.take_succ_eq_append_getElem hlt)
      generalize l[k] = y at HTK hc
      obtain ⟨A, hA⟩ : ∃ A, (pCells y (.slice ay ny cy)).toArray = A := ⟨_, rfl⟩
      have ld : Sem.run Tryd.prog (loadCellsFrom ⟨g, o + k * 8, none⟩ 0 8 #[]) wo = .ok A wo := by
        rw [← hA]
        exact load_pas _ fun jj hjj => hc jj hjj
      have hs : A.size = 8 := by rw [← hA]; rfl
      have h1c : ∀ u ∈ A.toList, u.oneCell' = true := by rw [← hA]; exact pCells_one
      have n0 : PBox (wo.alloc (.cells A 24)) wo.heap.size A := heap_alloc_new _ _
      have b3 := n0.cell 3 (v := .string y.tag) (by rw [← hA]; rfl)
      have b4 := n0.cell 4 (v := .string y.plt) (by rw [← hA]; rfl)
      have HMA := Lib.hid (hm.alloc (.cells A 24))
      have HBA := Lib.hid (hb.trans ((bl_alloc (Below.refl wo.heap.size wo) (.cells A 24)).mono hb.size))
      have k0 : (0 : Int) ≤ (k : Int) := by omega
      have k1 : (k : Int) < (l.length : Int) := by omega
      clear hA hc hm hb hbk n0
      by_cases d1 : y.tag = es
      · have e1 : y.tag.toList.isEmpty = true := by rw [emp_iff]; simpa using d1
        have HS := Lib.hid (fun p => HTK.out ▸ tagM_same (l := l.take k) (y := y) (Or.inl d1) p)
        clear d1
        go_wp2_with (first
          | (refine wpList_loadA _ rfl 24 rfl Tryd.isAgg24 Tryd.sizeOf24 rfl (by with_reducible assumption) ?_)
          | (refine wpList_newA 5 rfl (.tmp 14) rfl rfl 24 rfl rfl rfl Tryd.sizeOf24 Tryd.zeroValue24 rfl (by with_reducible assumption) (by with_reducible assumption) (by simp [Act.put]) rfl ?_))
        go_roundg (l.length - (k + 1))
        case measure => omega
        case rel => exact ⟨k + 1, by omega, by go_num, (HMA.out.ext HS.out).mono (Nat.le_succ _), HBA.out⟩
      · have e1 : y.tag.toList.isEmpty = false := by rw [emp_iff]; simpa using d1
        by_cases d2 : y.plt = es
        · have e2 : y.plt.toList.isEmpty = true := by rw [emp_iff]; simpa using d2
          have HS := Lib.hid (fun p => HTK.out ▸ tagM_same (l := l.take k) (y := y) (Or.inr d2) p)
          clear d1 d2
          go_wp2_with (first
            | (refine wpList_loadA _ rfl 24 rfl Tryd.isAgg24 Tryd.sizeOf24 rfl (by with_reducible assumption) ?_)
            | (refine wpList_newA 5 rfl (.tmp 14) rfl rfl 24 rfl rfl rfl Tryd.sizeOf24 Tryd.zeroValue24 rfl (by with_reducible assumption) (by with_reducible assumption) (by simp [Act.put]) rfl ?_))
          go_roundg (l.length - (k + 1))
          case measure => omega
          case rel => exact ⟨k + 1, by omega, by go_num, (HMA.out.ext HS.out).mono (Nat.le_succ _), HBA.out⟩
        · have e2 : y.plt.toList.isEmpty = false := by rw [emp_iff]; simpa using d2
          have HSN := Lib.hid (tagM_snoc (l := l.take k) d1 d2)
          have hlk := HMA.out.look Tryd.underlying70 Tryd.underlying9 (z := .string ByteArray.empty) (by kernel_rfl) y.plt true
          rw [tagM_get d2] at hlk
          by_cases d3 : tagsOf (l.take k) y.plt = []
          · have HPUT := Lib.hid (show ∀ p, (if p = y.plt then some (Value.string y.tag) else tagM (l.take k) p) = tagM (l.take (k + 1)) p from fun p => by
              rw [HTK.out]
              by_cases q : p = y.plt
              · rw [if_pos q, q, HSN.out, if_pos (Or.inl d3)]
              · rw [if_neg q, tagM_other q])
            have hn : tagM (l.take k) y.plt = none := by unfold tagM; rw [if_pos (Or.inr d3)]
            rw [hn] at hlk
            have hlk' : (Instr.lookup 70 (.map (some w.heap.size)) (.string y.plt) true).run Tryd.prog (wo.alloc (.cells A 24)) = .ok (.tuple #[.string (onlyTag (l.take k) y.plt), .bool false]) (wo.alloc (.cells A 24)) := hlk
            clear d1 d2 d3 hn hlk
            go_wp2_with (first
              | (refine wpList_loadA _ rfl 24 rfl Tryd.isAgg24 Tryd.sizeOf24 rfl (by with_reducible assumption) ?_)
              | (refine wpList_newA 5 rfl (.tmp 14) rfl rfl 24 rfl rfl rfl Tryd.sizeOf24 Tryd.zeroValue24 rfl (by with_reducible assumption) (by with_reducible assumption) (by simp [Act.put]) rfl ?_)
              | (at_mapUpdate
                 refine wpList_put (.tmp 40) (.tmp 42) (.tmp 44) rfl 70 rfl Tryd.underlying70 Tryd.underlying9 HMA.out rfl y.plt (.string y.plt) (.string y.tag) rfl rfl rfl ?_
                 intro w2 hm2 hg2
                 have HM2 := Lib.hid (hm2.ext HPUT.out)
                 have HB2 := Lib.hid (HBA.out.trans (Below.of_grown hg2 HBA.out.size (fun k hk => by cases hk; exact Nat.le_refl _)))
                 clear hm2 hg2))
            go_roundg (l.length - (k + 1))
            case measure => omega
            case rel => exact ⟨k + 1, by omega, by go_num, HM2.out, HB2.out⟩
          · have hn : tagM (l.take k) y.plt = some (.string (onlyTag (l.take k) y.plt)) := by unfold tagM; rw [if_neg (by simp [d2, d3])]
            rw [hn] at hlk
            have hlk' : (Instr.lookup 70 (.map (some w.heap.size)) (.string y.plt) true).run Tryd.prog (wo.alloc (.cells A 24)) = .ok (.tuple #[.string (onlyTag (l.take k) y.plt), .bool true]) (wo.alloc (.cells A 24)) := hlk
            clear hlk hn
            by_cases d4 : onlyTag (l.take k) y.plt = y.tag
            · have HPUT := Lib.hid (show ∀ p, (if p = y.plt then some (Value.string y.tag) else tagM (l.take k) p) = tagM (l.take (k + 1)) p from fun p => by
                rw [HTK.out]
                by_cases q : p = y.plt
                · rw [if_pos q, q, HSN.out, if_pos (Or.inr d4)]
                · rw [if_neg q, tagM_other q])
              have e3 : ((onlyTag (l.take k) y.plt).toList == y.tag.toList) = true := by rw [eq_str]; simpa using d4
              clear d1 d2 d3 d4
              generalize onlyTag (l.take k) y.plt = t at hlk' e3
              go_wp2_with (first
                | (refine wpList_loadA _ rfl 24 rfl Tryd.isAgg24 Tryd.sizeOf24 rfl (by with_reducible assumption) ?_)
                | (refine wpList_newA 5 rfl (.tmp 14) rfl rfl 24 rfl rfl rfl Tryd.sizeOf24 Tryd.zeroValue24 rfl (by with_reducible assumption) (by with_reducible assumption) (by simp [Act.put]) rfl ?_)
                | (at_mapUpdate
                   refine wpList_put (.tmp 40) (.tmp 42) (.tmp 44) rfl 70 rfl Tryd.underlying70 Tryd.underlying9 HMA.out rfl y.plt (.string y.plt) (.string y.tag) rfl rfl rfl ?_
                   intro w2 hm2 hg2
                   have HM2 := Lib.hid (hm2.ext HPUT.out)
                   have HB2 := Lib.hid (HBA.out.trans (Below.of_grown hg2 HBA.out.size (fun k hk => by cases hk; exact Nat.le_refl _)))
                   clear hm2 hg2))
              go_roundg (l.length - (k + 1))
              case measure => omega
              case rel => exact ⟨k + 1, by omega, by go_num, HM2.out, HB2.out⟩
            · have HPUT := Lib.hid (show ∀ p, (if p = y.plt then some (Value.string es) else tagM (l.take k) p) = tagM (l.take (k + 1)) p from fun p => by
                rw [HTK.out]
                by_cases q : p = y.plt
                · rw [if_pos q, q, HSN.out, if_neg (by simp [d3, d4])]
                · rw [if_neg q, tagM_other q])
              have e3 : ((onlyTag (l.take k) y.plt).toList == y.tag.toList) = false := by rw [eq_str]; simpa using d4
              clear d1 d2 d3 d4
              generalize onlyTag (l.take k) y.plt = t at hlk' e3
              go_wp2_with (first
                | (refine wpList_loadA _ rfl 24 rfl Tryd.isAgg24 Tryd.sizeOf24 rfl (by with_reducible assumption) ?_)
                | (refine wpList_newA 5 rfl (.tmp 14) rfl rfl 24 rfl rfl rfl Tryd.sizeOf24 Tryd.zeroValue24 rfl (by with_reducible assumption) (by with_reducible assumption) (by simp [Act.put]) rfl ?_)
                | (at_mapUpdate
                   refine wpList_put (.tmp 37) (.tmp 39) (.const (.string ⟨#[]⟩)) rfl 70 rfl Tryd.underlying70 Tryd.underlying9 HMA.out rfl y.plt (.string y.plt) (.string es) rfl rfl rfl ?_
                   intro w2 hm2 hg2
                   have HM2 := Lib.hid (hm2.ext HPUT.out)
                   have HB2 := Lib.hid (HBA.out.trans (Below.of_grown hg2 HBA.out.size (fun k hk => by cases hk; exact Nat.le_refl _)))
                   clear hm2 hg2))
              go_roundg (l.length - (k + 1))
              case measure => omega
              case rel => exact ⟨k + 1, by omega, by go_num, HM2.out, HB2.out⟩
    · obtain rfl : k = l.length := by omega
      have hkl : ¬ (l.length : Int) < (l.length : Int) := by omega
      have HB := Lib.hid hb
      rw [List.take_length] at hm
      have HM := Lib.hid hm
      clear hlt hk hb hm
      go_wp2
      go_ret
      exact ⟨⟨rfl, HM.out⟩, HB.out⟩
end Go.Proofs.YtbjhemglecllmaaDoor
