/-
  Layer 14: the walk of the reference's Sort.
-/
import Derived.Test.YtffpnbipacgidaaGrpR
import Derived.Test.YtffpnbipacgidaaGrpRP
import Derived.Test.YtffpnbipacgidaaGrpN2
import Derived.Test.YtffpnbipacgidaaIf
namespace Go.Tw
open Go.RowKit Go.Sort
theorem QW.regionG {P : Program} {id : Nat} {Q : Exit → Act → World → Prop} {a : Act} {w : World} {l : List Oper} (hm : P.follows .mixedOrders = true) (hB : Region.lexB .any l.toArray = true)
    (h : QW P l.toArray (fun w' => ∃ p : GrownBy, w' = grow (w.drewN p.n) p.os) (fun a' => ∀ w', (∃ p : GrownBy, w' = grow (w.drewN p.n) p.os) → Q .normal a' w') l a) : (Code.region id l.toArray true).wp P Q a w :=
  wp_region_quiet_grown hm hB h.out
end Go.Tw
namespace Go.Proofs.Ytffpnbipacgidaa
open Go.RowKit Go.Tw Go.Tw.Ord Go.Tw.Grp Go.Sort
theorem add_offG (b o j : Nat) : (⟨b, o, none⟩ : Addr).add j = ⟨b, o + j, none⟩ := by
  unfold Addr.add
  split
  · rename_i h
    have h0 : j = 0 := by simpa using h
    subst h0
    rfl
  · rfl
theorem sl_emptyG {α : Type} {T : Ty α} {S S' : Nat → Prop} {w w' : World} {v : Value} (h : SlIs T S w v []) : SlIs T S' w' v [] := by
  obtain ⟨ao, cap, b, off, hv, h1, h2, h3, h4⟩ := h
  exact ⟨ao, cap, b, off, hv, h1, h2, h3, fun k hk => absurd hk (Nat.not_lt_zero _)⟩
set_option maxRecDepth 100000 in
set_option maxHeartbeats 8000000 in
theorem sortR_any (l : List Seen) (v : Value) (w : World) (h : SlIs tSeen (· < w.heap.size) w v l) (hl : l.length ≤ 1000) :
    Calls Try.prog 30 #[v] w fun e w' => (∃ v', e = .returned v' ∧ SlIs tSeen (· < w'.heap.size) w' v' (sortS l)) ∧ Below w.heap.size w w' := by
  obtain ⟨ao, cp, b, o, rfl, h1, h2, ho⟩ := seen_row h
  unfold maxLen at h2
  have HO := Lib.hid ho
  clear h ho
  go_enter Try.func30, Try.ntmps30
  go_wp2
  go_loopg [3, 4] l.length (fun gx v i wo => ∃ k : Nat, k + gx = l.length ∧ i = .int .i64 k ∧ SlIs tSeen (· < wo.heap.size) wo v (sortS (l.take k)) ∧ Below w.heap.size w wo)
  case atStart => exact ⟨0, by omega, rfl, by rw [List.take_zero, show sortS [] = [] from List.eq_nil_of_length_eq_zero (sortS_len [])]; exact SlIs.nil, Below.refl _ _⟩
  case round =>
    obtain ⟨wo, rfl⟩ : ∃ wo : World, wo = wr := ⟨_, rfl⟩
    obtain ⟨k, hk, rfl, hs, hb⟩ := hrel
    by_cases hlt : k < l.length
    · obtain ⟨rfl, -, hbk, hok, hc⟩ := HO.out wo (.of_below hb) k hlt
      have HIN0 := Lib.hid (fun (j : Nat) => @ins_sort (l.take k) (l[k]) j)
      have hSl : (sortS (l.take k)).length = k := by rw [sortS_len, List.length_take]; omega
      have HTK1 := Lib.hid (show l.take (k + 1) = l.take k ++ [l[k]] from List.take_succ_eq_append_getElem hlt)
      rw [← HTK1.out] at HIN0
      generalize hx : l[k] = x at HIN0 hc hok
      generalize sortS (l.take k) = S at HIN0 hSl hs
      have hSk : S.length ≤ 1000 := by omega
      clear hSl
      obtain ⟨A, hA⟩ : ∃ A, (sCells x).toArray = A := ⟨_, rfl⟩
      have HA := Lib.hid hA
      have HOK := Lib.hid hok
      have HB := Lib.hid hb
      have HSL := Lib.hid hs
      have LDW := Lib.hid (show ∀ w', Below wo.heap.size wo w' → Sem.run Try.prog (loadCellsFrom ⟨b, o + k * 11, none⟩ 0 11 #[]) w' = .ok A w' from fun w' hw => by
        rw [← HA.out]
        exact load_seen _ fun jj hjj => (hw.cell (p := ⟨b, o + k * 11 + jj, none⟩) (Nat.lt_of_lt_of_le hbk hb.size)).trans (hc jj hjj))
      have hs1 : A.size = 11 := by rw [← hA]; rfl
      have h1c := oneA hA
      obtain ⟨av, cv, b2, o2, rfl, q1, q2, ho2⟩ := seen_row hs
      unfold maxLen at q2
      have HSC := Lib.hid ho2
      have k0 : (0 : Int) ≤ (k : Int) := by omega
      have k1 : (k : Int) < (l.length : Int) := by omega
      clear hA hc hok hb hs ho2 hbk hx HTK1
      go_wp2
      go_loopg [5] S.length (fun gx i wx => ∃ j : Nat, j + gx = S.length ∧ i = .int .i64 j ∧ Hid (∀ j' (h : j' < S.length), j' < j → seenC S[j'] x ≤ 0) ∧ GrB wo wx)
      case atStart => exact ⟨0, by omega, rfl, Lib.hid (fun j' _ h => by omega), GrB.refl _⟩
      case round =>
        obtain ⟨wx, rfl⟩ : ∃ wx : World, wx = wr := ⟨_, rfl⟩
        obtain ⟨j, hj, rfl, HL, hg⟩ := hrel
        have HG := Lib.hid hg
        by_cases hjl : j < S.length
        · obtain ⟨rfl, hb2, -, hok2, hc2⟩ := HSC.out wx (.of_below hg.below) j hjl
          have HJ := Lib.hid (show S[j]? = some S[j] by simp [hjl])
          generalize S[j] = y at HJ hok2 hc2
          obtain ⟨B, hB⟩ : ∃ B, (sCells y).toArray = B := ⟨_, rfl⟩
          obtain ⟨c, hcc⟩ : ∃ c, seenC y x = c := ⟨_, rfl⟩
          have LD1 := Lib.hid (show ∀ n os, Sem.run Try.prog (loadCellsFrom ⟨b2, o2 + j * 11, none⟩ 0 11 #[]) (grow (wx.drewN n) os) = .ok B (grow (wx.drewN n) os) from fun n os => by
            rw [← hB]
            exact load_seen _ fun jj hjj => ((GrB.below ⟨n, os, rfl⟩).cell (p := ⟨b2, o2 + j * 11 + jj, none⟩) (Nat.lt_of_lt_of_le hb2 hg.below.size)).trans (hc2 jj hjj))
          have LD2 := Lib.hid (show ∀ n os, Sem.run Try.prog (loadCellsFrom ⟨b, o + k * 11, none⟩ 0 11 #[]) (grow (wx.drewN n) os) = .ok A (grow (wx.drewN n) os) from fun n os =>
            LDW.out _ (bl_trans HG.out.below (GrB.below ⟨n, os, rfl⟩)))
          have HCMP := Lib.hid (show ∀ n os, Calls Try.prog 48 #[.agg B, .agg A] (grow (wx.drewN n) os) fun e w' => e = .returned (.int .i64 c) ∧ ∃ q os', w' = grow ((grow (wx.drewN n) os).drewN q) os' from fun n os => by
            rw [← hB, ← HA.out, ← hcc]
            exact seenR_cmp y x _ hok2 HOK.out)
          have HCC := Lib.hid hcc
          have j0 : (0 : Int) ≤ (j : Int) := by omega
          have j1 : (j : Int) < (S.length : Int) := by omega
          clear hB hcc hc2 hok2 hg
          go_upto_region 6 with (fail)
          refine QW.regionG (by kernel_rfl) (by kernel_rfl) ?_
          (iterate 8 (refine QW.yes (by kernel_rfl) (fun K hK => ?_)
                      go_simp
                      (with_reducible refine hK _ ?_)
                      clear hK K))
          refine QW.yes (by kernel_rfl) (fun K hK => ?_)
          refine quiet_loadA (A := B) rfl Try.isAgg31 Try.sizeOf31 rfl (fun w' hw' => ?_) (hK _ ?_)
          · obtain ⟨⟨nq, osq⟩, rfl⟩ := hw'
            exact LD1.out nq osq
          clear hK K
          (iterate 3 (refine QW.yes (by kernel_rfl) (fun K hK => ?_)
                      go_simp
                      (with_reducible refine hK _ ?_)
                      clear hK K))
          refine QW.yes (by kernel_rfl) (fun K hK => ?_)
          refine quiet_loadA (A := A) rfl Try.isAgg31 Try.sizeOf31 rfl (fun w' hw' => ?_) (hK _ ?_)
          · obtain ⟨⟨nq, osq⟩, rfl⟩ := hw'
            exact LD2.out nq osq
          clear hK K
          (refine QW.yes (by kernel_rfl) (fun K hK => ?_)
           go_simp
           apply Exists.intro
           refine ⟨fun _ => ?_, hK _ ?_⟩
           (go_at_call 48; with_reducible exact Calls.grown_of (HCMP.out _ _))
           clear hK K)
          (iterate 2 (refine QW.yes (by kernel_rfl) (fun K hK => ?_)
                      go_simp
                      (with_reducible refine hK _ ?_)
                      clear hK K))
          refine QW.nil ?_
          intro _ hw'
          obtain ⟨⟨nq, osq⟩, hw''⟩ := hw'
          subst hw''
          have HGQ := Lib.hid (show GrB wx (grow (wx.drewN nq) osq) from ⟨nq, osq, rfl⟩)
          clear LD1 LD2 HCMP
          generalize grow (wx.drewN nq) osq = wq at HGQ ⊢
          by_cases hc0 : c ≤ 0
          · have hcd : decide (c ≤ 0) = true := by simpa using hc0
            go_wp2
            go_roundg (S.length - (j + 1))
            case measure => omega
            case rel => exact ⟨j + 1, by omega, by go_num, Lib.hid (fun j' h h' => by
              by_cases e : j' = j
              · subst e
                have := HJ.out
                rw [List.getElem?_eq_getElem hjl] at this
                rw [Option.some.inj this, HCC.out]
                exact hc0
              · exact HL.out j' h (by omega)), HG.out.trans HGQ.out⟩
          · have hcd : decide (c ≤ 0) = false := by simpa using hc0
            have HIN := Lib.hid (show sortS (l.take (k + 1)) = S.take j ++ [x] ++ S.drop j from (HIN0.out j HL.out (fun h => by
                have := HJ.out
                rw [List.getElem?_eq_getElem hjl] at this
                rw [Option.some.inj this, HCC.out]
                omega)).symm)
            have hct : ¬ cv = j := by omega
            have HDRF := Lib.hid (show ∀ w', SlIs tSeen (· < w'.heap.size) w' (.slice (some ⟨b2, o2, none⟩) S.length cv) S → SlIs tSeen (· < w'.heap.size) w' (.slice (some ⟨b2, o2 + j * 11, none⟩) (S.length - j) (cv - j)) (S.drop j) from fun w' h => by
              have q := SlIs.drop (t := j) (k := j * 11) h (by omega) rfl
              rw [if_neg hct, Option.map_some, add_offG] at q
              exact q)
            clear HIN0 HCC HJ
            obtain ⟨wy, hwy⟩ : ∃ wy, wy = wq := ⟨_, rfl⟩
            have HWY := Lib.hid (show Below wo.heap.size wo wy from by rw [hwy]; exact (HG.out.trans HGQ.out).below)
            rw [← hwy]
            clear hwy
            have HKY := Lib.hid (HSL.out.step HWY.out)
            have HO0 := Lib.hid (OwnSl.nil tSeen 31 wy.heap.size wy)
            have hb1 : (([] : List Seen).length + (S.take j).length) * 120 ≤ 140737488355328 := by simp; omega
            have hb2 : ([] : List Seen).length + (S.take j).length ≤ maxLen := by unfold maxLen; simp; omega
            have hb3 : (([] ++ S.take j : List Seen).length + 1) * 120 ≤ 140737488355328 := by simp; omega
            have hb4 : ([] ++ S.take j : List Seen).length + 1 ≤ maxLen := by unfold maxLen; simp; omega
            have hb5 : ((([] ++ S.take j) ++ [x] : List Seen).length + (S.drop j).length) * 120 ≤ 140737488355328 := by simp; omega
            have hb6 : (([] ++ S.take j) ++ [x] : List Seen).length + (S.drop j).length ≤ maxLen := by unfold maxLen; simp; omega
            have HTK := Lib.hid (show SlIs tSeen (· < wy.heap.size) wy (.slice (some ⟨b2, o2, none⟩) j cv) (S.take j) from HKY.out.take (by omega))
            have HDR := Lib.hid (show SlIs tSeen (· < wy.heap.size) wy (.slice (some ⟨b2, o2 + j * 11, none⟩) (S.length - j) (cv - j)) (S.drop j) from HDRF.out wy HKY.out)
            have LDX := Lib.hid (show ∀ w', Below wy.heap.size wy w' → Sem.run Try.prog (loadCellsFrom ⟨b, o + k * 11, none⟩ 0 11 #[]) w' = .ok A w' from fun w' hw => LDW.out w' (bl_trans HWY.out hw))
            have j0 : (0 : Int) ≤ (j : Int) := by omega
            have j1 : (j : Int) ≤ (S.length : Int) := by omega
            clear HL HSC LDW
            go_wp2_with (first
              | (at_builtin
                 refine wpList_append_old (.tmp 31) (.tmp 34) rfl 22 rfl slSeen rfl HO0.out rfl HTK.out hb1 hb2 (Nat.le_refl _) ?_
                 intro v5 w5 ho5 hg5 hb5'
                 have HO5 := Lib.hid ho5
                 have HB5 := Lib.hid hb5'
                 have hz5 := HB5.out.size
                 have ld := LDX.out w5 HB5.out
                 clear ho5 hg5 hb5')
              | (refine wpList_loadA _ rfl 31 rfl Try.isAgg31 Try.sizeOf31 rfl (by with_reducible assumption) ?_)
              | (refine wpList_buildA _ rfl 22 rfl Try.underlying22 Try.sizeOf31 Try.zeroValue31 (by decide) (by decide) rfl (by with_reducible assumption) ?_)
              | (at_builtin
                 refine wpList_append_one (.tmp 36) (.tmp 41) rfl 22 rfl slSeen rfl HO5.out rfl (S := fun _ => False) (y := x) (by rw [← HA.out]; exact tSeen_mk HOK.out) (fun _ h => h.elim) hb3 hb4 hz5 ?_
                 intro v6 w6 ho6 hg6 hb6'
                 have HO6 := Lib.hid ho6
                 have HB6 := Lib.hid (HB5.out.trans hb6')
                 have hz6 := HB6.out.size
                 clear ho6 hg6 hb6' ld)
              | (at_builtin
                 refine wpList_append_old (.tmp 43) (.tmp 46) rfl 22 rfl slSeen rfl HO6.out rfl (HDR.out.keep (fun _ h => h) (.of_below HB6.out)) hb5 hb6 hz6 ?_
                 intro v7 w7 ho7 hg7 hb7'
                 have HO7 := Lib.hid (show OwnSl tSeen 31 wy.heap.size w7 v7 (sortS (l.take (k + 1))) from by
                   rw [HIN.out]
                   have := ho7
                   simpa using this)
                 have HB7 := Lib.hid (HB6.out.trans hb7')
                 clear ho7 hg7 hb7'))
            all_goals
              go_roundg (l.length - (k + 1))
              case measure => omega
              case rel => exact ⟨k + 1, by omega, by go_num, HO7.out.sl, bl_trans HB.out (bl_trans HWY.out HB7.out)⟩
        · have hkl : ¬ (j : Int) < (S.length : Int) := by omega
          have HIN := Lib.hid (show sortS (l.take (k + 1)) = S.take j ++ [x] ++ S.drop j from (HIN0.out j HL.out (fun h => absurd h hjl)).symm)
          have HDRF := Lib.hid (show ∀ w', SlIs tSeen (· < w'.heap.size) w' (.slice av S.length cv) S → SlIs tSeen (· < w'.heap.size) w' (.slice (if cv = j then av else Option.map (fun x => x.add (j * 11)) av) (S.length - j) (cv - j)) (S.drop j) from fun w' h =>
            SlIs.drop (t := j) (k := j * 11) h (by omega) rfl)
          clear HIN0 hg
          go_upto_region 6 with (fail)
          refine QW.regionG (by kernel_rfl) (by kernel_rfl) ?_
          (iterate 5 (refine QW.yes (by kernel_rfl) (fun K hK => ?_)
                      go_simp
                      (with_reducible refine hK _ ?_)
                      clear hK K))
          (iterate 10 (refine QW.no (by kernel_rfl) ?_
                       (try simp only [Act.put])
                       (try simp only [List.setIfInBounds_toArray])
                       (repeat (first | simp only [List.set_cons_succ] | simp only [List.set_cons_zero]))))
          (iterate 1 (refine QW.yes (by kernel_rfl) (fun K hK => ?_)
                      go_simp
                      (with_reducible refine hK _ ?_)
                      clear hK K))
          refine QW.nil ?_
          intro _ hw'
          obtain ⟨⟨nq, osq⟩, hw''⟩ := hw'
          subst hw''
          have HGQ := Lib.hid (show GrB wx (grow (wx.drewN nq) osq) from ⟨nq, osq, rfl⟩)
          generalize grow (wx.drewN nq) osq = wq at HGQ ⊢
          obtain ⟨wy, hwy⟩ : ∃ wy, wy = wq := ⟨_, rfl⟩
          have HWY := Lib.hid (show Below wo.heap.size wo wy from by rw [hwy]; exact (HG.out.trans HGQ.out).below)
          rw [← hwy]
          clear hwy
          have HKY := Lib.hid (HSL.out.step HWY.out)
          have HO0 := Lib.hid (OwnSl.nil tSeen 31 wy.heap.size wy)
          have hb1 : (([] : List Seen).length + (S.take j).length) * 120 ≤ 140737488355328 := by simp; omega
          have hb2 : ([] : List Seen).length + (S.take j).length ≤ maxLen := by unfold maxLen; simp; omega
          have hb3 : (([] ++ S.take j : List Seen).length + 1) * 120 ≤ 140737488355328 := by simp; omega
          have hb4 : ([] ++ S.take j : List Seen).length + 1 ≤ maxLen := by unfold maxLen; simp; omega
          have hb5 : ((([] ++ S.take j) ++ [x] : List Seen).length + (S.drop j).length) * 120 ≤ 140737488355328 := by simp; omega
          have hb6 : (([] ++ S.take j) ++ [x] : List Seen).length + (S.drop j).length ≤ maxLen := by unfold maxLen; simp; omega
          have HTK := Lib.hid (show SlIs tSeen (· < wy.heap.size) wy (.slice av j cv) (S.take j) from HKY.out.take (by omega))
          have HDR := Lib.hid (show SlIs tSeen (· < wy.heap.size) wy (.slice (if cv = j then av else Option.map (fun x => x.add (j * 11)) av) (S.length - j) (cv - j)) (S.drop j) from HDRF.out wy HKY.out)
          have LDX := Lib.hid (show ∀ w', Below wy.heap.size wy w' → Sem.run Try.prog (loadCellsFrom ⟨b, o + k * 11, none⟩ 0 11 #[]) w' = .ok A w' from fun w' hw => LDW.out w' (bl_trans HWY.out hw))
          have j0 : (0 : Int) ≤ (j : Int) := by omega
          have j1 : (j : Int) ≤ (S.length : Int) := by omega
          clear HL HSC LDW
          go_wp2_with (first
            | (at_builtin
               refine wpList_append_old (.tmp 31) (.tmp 34) rfl 22 rfl slSeen rfl HO0.out rfl HTK.out hb1 hb2 (Nat.le_refl _) ?_
               intro v5 w5 ho5 hg5 hb5'
               have HO5 := Lib.hid ho5
               have HB5 := Lib.hid hb5'
               have hz5 := HB5.out.size
               have ld := LDX.out w5 HB5.out
               clear ho5 hg5 hb5')
            | (refine wpList_loadA _ rfl 31 rfl Try.isAgg31 Try.sizeOf31 rfl (by with_reducible assumption) ?_)
            | (refine wpList_buildA _ rfl 22 rfl Try.underlying22 Try.sizeOf31 Try.zeroValue31 (by decide) (by decide) rfl (by with_reducible assumption) ?_)
            | (at_builtin
               refine wpList_append_one (.tmp 36) (.tmp 41) rfl 22 rfl slSeen rfl HO5.out rfl (S := fun _ => False) (y := x) (by rw [← HA.out]; exact tSeen_mk HOK.out) (fun _ h => h.elim) hb3 hb4 hz5 ?_
               intro v6 w6 ho6 hg6 hb6'
               have HO6 := Lib.hid ho6
               have HB6 := Lib.hid (HB5.out.trans hb6')
               have hz6 := HB6.out.size
               clear ho6 hg6 hb6' ld)
            | (at_builtin
               refine wpList_append_old (.tmp 43) (.tmp 46) rfl 22 rfl slSeen rfl HO6.out rfl (HDR.out.keep (fun _ h => h) (.of_below HB6.out)) hb5 hb6 hz6 ?_
               intro v7 w7 ho7 hg7 hb7'
               have HO7 := Lib.hid (show OwnSl tSeen 31 wy.heap.size w7 v7 (sortS (l.take (k + 1))) from by
                 rw [HIN.out]
                 have := ho7
                 simpa using this)
               have HB7 := Lib.hid (HB6.out.trans hb7')
               clear ho7 hg7 hb7'))
          all_goals
            go_roundg (l.length - (k + 1))
            case measure => omega
            case rel => exact ⟨k + 1, by omega, by go_num, HO7.out.sl, bl_trans HB.out (bl_trans HWY.out HB7.out)⟩
    · obtain rfl : k = l.length := by omega
      have hkl : ¬ (l.length : Int) < (l.length : Int) := by omega
      have HB := Lib.hid hb
      rw [List.take_length] at hs
      have HS := Lib.hid hs
      obtain ⟨av, cv, b2, o2, rfl, -⟩ := id hs
      clear hlt hk hb hs
      go_wp2
      go_ret
      exact ⟨⟨_, rfl, HS.out⟩, HB.out⟩
end Go.Proofs.Ytffpnbipacgidaa
