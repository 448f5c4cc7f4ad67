/-
  Layer 14: the walks of the reference's All and Insert.
-/
import Derived.Test.YtffpnbipacgidaaGrpR3
import Derived.Test.YtffpnbipacgidaaGrpM
namespace Go.Proofs.Ytffpnbipacgidaa
open Go.RowKit Go.Tw Go.Tw.Ord Go.Tw.Grp Go.Sort
set_option maxRecDepth 100000 in
set_option maxHeartbeats 4000000 in
theorem all_any (l : List (List Seen)) (v : Value) (w : World) (h : SlIs tFrm (· < w.heap.size) w v l) (hl : l.flatten.length ≤ 1000) :
    Calls Try.prog 38 #[v] w fun e w' => (∃ v', e = .returned v' ∧ OwnSl tSeen 31 w.heap.size w' v' l.flatten) ∧ Below w.heap.size w w' := by
  obtain ⟨ao, cp, b, o, rfl, q1, q2, ho⟩ := frm_row h
  unfold maxLen at q2
  have HO := Lib.hid ho
  have HL := Lib.hid hl
  clear h ho hl
  go_enter Try.func38, Try.ntmps38
  go_wp2
  go_loopg [3, 4] l.length (fun gx sv i wr => ∃ k : Nat, k + gx = l.length ∧ i = .int .i64 k ∧ OwnSl tSeen 31 w.heap.size wr sv (l.take k).flatten ∧ Below w.heap.size w wr)
  case atStart => exact ⟨0, by omega, rfl, by simpa using OwnSl.nil _ _ _ _, Below.refl _ _⟩
  case round =>
    obtain ⟨k, hk, rfl, hown, hb⟩ := hrel
    have HFE := Lib.hid (show k = l.length → (l.take k).flatten = l.flatten by rintro rfl; rw [List.take_length])
    have HTK := Lib.hid (fun h : k < l.length => flat_take h)
    generalize (l.take k).flatten = F at hown HFE HTK
    obtain ⟨av, cv, rfl, hv1, hv2⟩ := hown.form
    by_cases hlt : k < l.length
    · obtain ⟨rfl, -, hbk, hv, hc, hs⟩ := HO.out wr (.of_below hb) k hlt
      have k0 : (0 : Int) ≤ (k : Int) := by omega
      have k1 : (k : Int) < (l.length : Int) := by omega
      have HT := Lib.hid (HTK.out hlt)
      have HF := Lib.hid (flat_le l (k + 1))
      clear HTK
      obtain ⟨a1, c1, _, _, rfl, -, -, -⟩ := id hs
      generalize l[k] = x at HT hc hs
      have HS := Lib.hid hs
      have HOW := Lib.hid hown
      have HB := Lib.hid hb
      have hlx := hown.own_lt
      have HLX := Lib.hid hlx
      clear hs hown hb hv1 hv2 hlx
      go_wp2_with (
        at_builtin
        have hbs := HB.out.size
        have hln : F.length + x.length ≤ 1000 := by have := HF.out; have := HL.out; rw [HT.out, List.length_append] at *; omega
        refine wpList_append_sl (.tmp 11) (.tmp 15) rfl 22 rfl slSeen rfl HOW.out rfl HS.out (fun k (hk : k < w.heap.size) => ⟨by omega, fun e => by have := (HLX.out k e.symm).1; omega⟩) (small_bytes (k := 1001) (by omega) (by decide)) (by unfold maxLen; omega) (by omega) ?_
        intro v7 w7 ho7 hg7 hr7
        have HO7 := Lib.hid ho7
        have HB7 := Lib.hid (HB.out.trans (Below.of_grown hg7 (by omega) (fun k' hk' => (HLX.out k' hk').1)))
        clear ho7 hg7 hr7 hbs hln)
      go_roundg (l.length - (k + 1))
      case measure => omega
      case rel => exact ⟨k + 1, by omega, by go_num, by rw [HT.out]; exact HO7.out, HB7.out⟩
    · obtain rfl : k = l.length := by omega
      have hkl : ¬ (l.length : Int) < (l.length : Int) := by omega
      obtain rfl : F = l.flatten := HFE.out rfl
      have HOW := Lib.hid hown
      have HB := Lib.hid hb
      clear hlt hk hown hb HFE HTK
      obtain ⟨F2, hF2⟩ : ∃ F2, l.flatten = F2 := ⟨_, rfl⟩
      rw [hF2] at HOW ⊢
      have HF2 := Lib.hid hF2
      clear hF2
      go_wp2
      go_ret
      refine ⟨⟨_, rfl, ?_⟩, HB.out⟩
      rw [HF2.out]
      exact HOW.out
theorem idxF_at {R : List (List Seen)} {s : Seen} {i : Nat} (hi : i < R.length) (hm : s ∈ R[i]) (hn : ∀ j (h : j < R.length), j < i → ∀ x ∈ R[j], x ≠ s) : idxF R s = i := by
  unfold idxF
  have : R.findIdx? (fun f => f.any fun x => s == x) = some i := by
    rw [List.findIdx?_eq_some_iff_getElem]
    refine ⟨hi, List.any_eq_true.2 ⟨s, hm, by simp⟩, fun j hj => ?_⟩
    have := hn j (by omega) hj
    simp only [Bool.not_eq_true, List.any_eq_false]
    intro x hx
    have := this x hx
    simp
    exact fun e => this e.symm
  rw [this]
set_option maxRecDepth 100000 in
set_option maxHeartbeats 8000000 in
theorem insertR_any (l : List (List Seen)) (s : Seen) (g : Int) (v : Value) (w : World) (h : SlIs tFrm (· < w.heap.size) w v l) (hs : SeenOk s) (hl : l.flatten.length < 59) (hg : i64ok g) :
    Calls Try.prog 16 #[v, .agg (sCells s).toArray, .int .i64 g] w fun e w' => (∃ v', e = .returned (.tuple #[v', .int .i64 (idxF (framesC g (l.flatten ++ [s])) s)]) ∧ SlIs tFrm (· < w'.heap.size) w' v' (framesC g (l.flatten ++ [s]))) ∧ Below w.heap.size w w' := by
  obtain ⟨ao, cp, _, _, rfl, -, -, -⟩ := id h
  have n0 : SBox (w.alloc (.cells (sCells s).toArray 31)) w.heap.size s := heap_alloc_new _ _
  have hb0 : Below w.heap.size w (w.alloc (.cells (sCells s).toArray 31)) := bl_alloc (Below.refl _ _) _
  have HS0 := Lib.hid (SlIs.step h hb0)
  have hsr : s ∈ (framesC g (l.flatten ++ [s])).flatten := (framesC_perm g _).mem_iff.2 (by simp)
  obtain ⟨F, hF⟩ : ∃ F, l.flatten = F := ⟨_, rfl⟩
  obtain ⟨M, hM⟩ : ∃ M, F ++ [s] = M := ⟨_, rfl⟩
  obtain ⟨R, hR⟩ : ∃ R, framesC g M = R := ⟨_, rfl⟩
  rw [hF] at hl
  have hml : M.length < 60 := by rw [← hM, List.length_append, List.length_singleton]; omega
  have HFM := Lib.hid (fun (v : Value) (w' : World) (h : SlIs tSeen (· < w'.heap.size) w' v M) => FramesR_any M g v w' h hml hg)
  have HCC := Lib.hid (fun (w' : World) (h : SlIs tFrm (· < w'.heap.size) w' (.slice ao l.length cp) l) => all_any l _ w' h (by rw [hF]; omega))
  rw [hF] at HCC hsr ⊢
  rw [hM, hR] at hsr ⊢
  rw [hR] at HFM
  have HSR := Lib.hid hsr
  obtain ⟨A, hA⟩ : ∃ A, (sCells s).toArray = A := ⟨_, rfl⟩
  rw [hA] at n0 hb0 HS0 ⊢
  have HA := Lib.hid hA
  have hsz : A.size = 11 := by rw [← hA]; rfl
  have HN := Lib.hid n0
  have HB0 := Lib.hid hb0
  have HOK := Lib.hid hs
  have HL := Lib.hid (show F.length < 59 from hl)
  have HM := Lib.hid hM
  clear n0 hb0 h hs hl hg hA hF hM hR hml hsr
  go_enter Try.func16, Try.ntmps16
  go_upto_region 1 with (fail)
  obtain ⟨wb, hwb⟩ : ∃ wb, w.alloc (.cells A 31) = wb := ⟨_, rfl⟩
  have hbs : w.heap.size < wb.heap.size := by rw [← hwb]; simp
  rw [hwb] at HN HB0 HS0 ⊢
  obtain ⟨bs, hbb⟩ : ∃ b, w.heap.size = b := ⟨_, rfl⟩
  have HBB := Lib.hid hbb
  rw [hbb] at HN hbs ⊢
  clear hwb hbb
  have LD := Lib.hid (show ∀ w', Below wb.heap.size wb w' → Sem.run Try.prog (loadCellsFrom ⟨bs, 0, none⟩ 0 11 #[]) w' = .ok A w' from fun w' hw => by
    rw [← HA.out]
    exact (HN.out.step hw).load)
  have HC := Lib.hid (show ∀ w', Below wb.heap.size wb w' → _ from fun w' hw => HCC.out w' (SlIs.step HS0.out hw))
  clear hbs
  refine wp_region_E 7 (fun w' => Below wb.heap.size wb w') (by kernel_rfl) ((by (repeat (first | (with_reducible exact Below.refl _ _) | (with_reducible apply bl_drewN) | (with_reducible apply bl_alloc) | (with_reducible apply Below.drew))); done)) (fun hHeld => ?_)
  refine wpE_take (i := 0) (v := ?_) rfl (by kernel_rfl) (fun _ _ _ h => h) (Or.inl ⟨by kernel_rfl, ?_⟩) (by assumption) ?_
  rotate_left
  focus (intro w9 hS9; (try dsimp only at hS9); go_simp; (try with_reducible rfl))
  (try simp only [List.getElem_toArray, List.getElem_cons_succ, List.getElem_cons_zero])
  (try simp only [Act.put])
  (try simp only [List.setIfInBounds_toArray])
  (repeat (first | simp only [List.set_cons_succ] | simp only [List.set_cons_zero]))
  refine wpE_take (i := 5) (v := ?_) rfl (by kernel_rfl) (fun _ _ _ h => h) (Or.inl ⟨by kernel_rfl, ?_⟩) (by assumption) ?_
  rotate_left
  focus (intro w9 hS9; (try dsimp only at hS9); go_simp; (try with_reducible rfl))
  (try simp only [List.getElem_toArray, List.getElem_cons_succ, List.getElem_cons_zero])
  (try simp only [Act.put])
  (try simp only [List.setIfInBounds_toArray])
  (repeat (first | simp only [List.set_cons_succ] | simp only [List.set_cons_zero]))
  refine wpE_take (i := 2) (v := ?_) rfl (by kernel_rfl) (fun _ _ _ h => h) (Or.inl ⟨by kernel_rfl, ?_⟩) (by assumption) ?_
  rotate_left
  focus (intro w9 hS9; refine exec_loadA (t := 31) (x := Operand.tmp 4) (p := ⟨bs, 0, none⟩) (A := A) ?_ Try.isAgg31 Try.sizeOf31 ?_ (LD.out w9 hS9); rfl; go_simp; (try rfl))
  (try simp only [List.getElem_toArray, List.getElem_cons_succ, List.getElem_cons_zero])
  (try simp only [Act.put])
  (try simp only [List.setIfInBounds_toArray])
  (repeat (first | simp only [List.set_cons_succ] | simp only [List.set_cons_zero]))
  refine wpE_ready (rs := [1, 3]) (by kernel_rfl) (by kernel_rfl) ?_
  refine AllReadyE.cons rfl (fun K hK => ?_) (AllReadyE.cons rfl (fun K hK => ?_) AllReadyE.nil)
  · obtain ⟨wd, hwd⟩ : ∃ wd, wb.drew = wd := ⟨_, rfl⟩
    rw [hwd] at hHeld ⊢
    have HWD := Lib.hid (show Below wb.heap.size wb wd from by rw [← hwd]; exact Below.drew (Below.refl _ _))
    clear hwd
    rw [if_pos (show _ = true by kernel_rfl)]
    go_simp
    go_wp2_with (go_at_call 38
                 refine (HC.out _ HWD.out).mono ?_
                 rintro e w2 ⟨⟨v2, rfl, ho2⟩, hb2⟩
                 have HO2 := Lib.hid ho2
                 have HW := Lib.hid (bl_trans HWD.out hb2)
                 have HLT := Lib.hid ho2.own_lt
                 have HS2 := Lib.hid hb2.size
                 obtain ⟨a2, c2, rfl, -⟩ := ho2.form
                 clear ho2 hb2)
    clear hHeld
    refine hK.out _ _ (HW.out) (fun hHeld => ?_)
    clear hK K
    refine wpE_ready (rs := [3]) (by kernel_rfl) (by kernel_rfl) ?_
    refine AllReadyE.cons rfl (fun K hK => ?_) AllReadyE.nil
    rw [if_pos (show _ = true by kernel_rfl)]
    refine wp_buildA (A := A) (.tmp 13) 22 rfl Try.underlying22 Try.sizeOf31 Try.zeroValue31 (by decide) (by decide) (by go_simp) hsz ?_
    have HX := Lib.hid (show SBox (w2.alloc (.cells A 31)) w2.heap.size s from by rw [← HA.out]; exact heap_alloc_new _ _)
    have HO3 := Lib.hid (HO2.out.alloc (.cells A 31))
    have HB3 := Lib.hid (bl_alloc HW.out (.cells A 31))
    have HZ3 := Lib.hid (show wb.heap.size ≤ w2.heap.size from HW.out.size)
    have HZB := Lib.hid (show wd.heap.size ≤ (w2.alloc (.cells A 31)).heap.size from by rw [World.size_alloc]; have := HS2.out; omega)
    (try simp only [List.getElem_toArray, List.getElem_cons_succ, List.getElem_cons_zero])
    (try simp only [Act.put])
    (try simp only [List.setIfInBounds_toArray])
    (repeat (first | simp only [List.set_cons_succ] | simp only [List.set_cons_zero]))
    clear hHeld
    refine hK.out _ _ (HB3.out) (fun hHeld => ?_)
    clear hK K
    have hsne : ∀ k, k = w2.heap.size → k < (w2.alloc (.cells A 31)).heap.size ∧ some k ≠ (Value.slice a2 F.length c2).ownBlock := fun k e => ⟨by rw [World.size_alloc]; omega, fun e2 => by have := (HLT.out k e2.symm).2; omega⟩
    have HNE := Lib.hid hsne
    have HLO := Lib.hid (show ∀ k, (Value.slice a2 F.length c2).ownBlock = some k → wb.heap.size ≤ k from fun k e => Nat.le_trans HWD.out.size (HLT.out k e).1)
    clear hsne
    generalize w2.alloc (.cells A 31) = w3 at HX HO3 HB3 HNE HZB hHeld ⊢
    generalize w2.heap.size = b3 at HX HNE HZ3 ⊢
    clear HO2 HW HLT HS2
    refine wpE_ready (rs := [4]) (by kernel_rfl) (by kernel_rfl) ?_
    refine AllReadyE.cons rfl (fun K hK => ?_) AllReadyE.nil
    rw [if_pos (show _ = true by kernel_rfl)]
    refine wp_append_sl (v := .slice a2 F.length c2) (.tmp 12) (.tmp 14) 22 rfl slSeen (by go_simp) HO3.out (by go_simp) (sl_single HX.out HOK.out) HNE.out (small_bytes (k := 1001) (by have := HL.out; simp; omega) (by decide)) (by have := HL.out; unfold maxLen; simp; omega) HZB.out ?_
    intro v5 w5 ho5 hg5 _
    rw [HM.out] at ho5
    have HO5 := Lib.hid ho5
    have HB5 := Lib.hid (HB3.out.trans (Below.of_grown hg5 HB3.out.size (fun k hk => HLO.out k hk)))
    (try simp only [List.getElem_toArray, List.getElem_cons_succ, List.getElem_cons_zero])
    (try simp only [Act.put])
    (try simp only [List.setIfInBounds_toArray])
    (repeat (first | simp only [List.set_cons_succ] | simp only [List.set_cons_zero]))
    obtain ⟨a5, c5, rfl, -⟩ := ho5.form
    clear ho5 hg5
    clear hHeld
    refine hK.out _ _ (HB5.out) (fun hHeld => ?_)
    clear hK K
    clear HO3 HB3 HX HNE HLO HZ3 HZB
    refine wpE_ready (rs := [6]) (by kernel_rfl) (by kernel_rfl) ?_
    refine AllReadyE.cons rfl (fun K hK => ?_) AllReadyE.nil
    rw [if_pos (show _ = true by kernel_rfl)]
    go_simp
    go_wp2_with (go_at_call 12
                 refine (HFM.out _ w5 HO5.out.sl).mono ?_
                 rintro e w6 ⟨⟨v6, rfl, hn6⟩, hb6⟩
                 have HN6 := Lib.hid (hn6.mono (Nat.le_trans HB0.out.size HB5.out.size))
                 have HB6 := Lib.hid (bl_trans HB5.out hb6)
                 obtain ⟨a6, c6, rfl, -⟩ := hn6.form
                 clear hn6 hb6)
    clear hHeld
    refine hK.out _ _ (HB6.out) (fun hHeld => ?_)
    clear hK K
    clear hHeld
    refine wpE_out (by kernel_rfl) ?_
    refine wpAny_ready (rs := [7]) (by kernel_rfl) (by simp) ?_
    refine AllReady.cons rfl (fun K hK => ?_) AllReady.nil
    rw [if_pos (show _ = true by kernel_rfl)]
    go_simp
    refine hK _ _ ?_
    clear hK K
    refine wpAny_done (by kernel_rfl) ?_ _
    clear HO5 HB5
    have HX6 := Lib.hid (HN.out.step HB6.out)
    have HBW := Lib.hid (HB0.out.trans (HB6.out.mono HB0.out.size))
    have HS6 := Lib.hid HN6.out.sl'
    obtain ⟨ar, cr, br, orr, hvr, r1, r2, hro⟩ := frm_row HS6.out
    injection hvr with e1 _ e3
    subst e1
    subst e3
    unfold maxLen at r2
    have HRO := Lib.hid hro
    clear hro
    go_wp2_with (fail)
    go_loopg [9] R.length (fun gx i wr => ∃ k : Nat, k + gx = R.length ∧ i = .int .i64 k ∧ Hid (∀ j (h : j < R.length), j < k → ∀ x ∈ R[j], x ≠ s) ∧ GrB w6 wr)
    case atStart => exact ⟨0, by omega, rfl, Lib.hid (fun j _ h => by omega), GrB.refl _⟩
    case round =>
      obtain ⟨wo, rfl⟩ : ∃ wo : World, wo = wr := ⟨_, rfl⟩
      obtain ⟨i, hi, rfl, HT, hg⟩ := hrel
      have HGO := Lib.hid hg
      clear hg
      by_cases hil : i < R.length
      · have i0 : (0 : Int) ≤ (i : Int) := by omega
        have i1 : (i : Int) < (R.length : Int) := by omega
        have HMT := Lib.hid (show ∀ x, x ∈ R[i] → x = s → idxF R s = i from fun x hx e => idxF_at hil (e ▸ hx) HT.out)
        have HTN := Lib.hid (show (∀ x ∈ R[i], x ≠ s) → ∀ j (h : j < R.length), j < i + 1 → ∀ x ∈ R[j], x ≠ s from fun h j hj hji x hx => by
          by_cases e : j = i
          · subst e; exact h x hx
          · exact HT.out j hj (by omega) x hx)
        have HRI := Lib.hid (fun w' hw => HRO.out w' hw i hil)
        generalize R[i] = f at HMT HTN HRI
        go_wp2_with (fail)
        go_loopg [10] f.length (fun gx k wr => ∃ j : Nat, j + gx = f.length ∧ k = .int .i64 j ∧ Hid (∀ k' (h : k' < f.length), k' < j → f[k'] ≠ s) ∧ GrB w6 wr)
        case atStart => exact ⟨0, by omega, rfl, Lib.hid (fun j _ h => by omega), HGO.out⟩
        case round =>
          obtain ⟨wi, rfl⟩ : ∃ wi : World, wi = wr := ⟨_, rfl⟩
          obtain ⟨k, hk, rfl, HF, hg⟩ := hrel
          have HGI := Lib.hid hg
          obtain ⟨rfl, -, hbr, hv, hc, hs⟩ := HRI.out wi (.of_below hg.below)
          obtain ⟨af, cf, bf, of, rfl, f1, f2, hfo⟩ := seen_row hs
          unfold maxLen at f2
          have HFO := Lib.hid hfo
          have hbr2 : br < wi.heap.size := Nat.lt_of_lt_of_le hbr hg.below.size
          have HSZ := Lib.hid hg.below.size
          clear hs hfo hg
          by_cases hkl : k < f.length
          · obtain ⟨rfl, hbf, -, hok, hcs⟩ := HFO.out wi (SameOn.refl _ _) k hkl
            have HMK := Lib.hid (show f[k] ∈ f from List.getElem_mem hkl)
            have HGK := Lib.hid (show ∀ k' (h : k' < f.length), k' = k → f[k'] = f[k] from fun k' h e => by subst e; rfl)
            generalize f[k] = y at hok hcs HMK HGK
            obtain ⟨Bv, hB⟩ : ∃ B, (sCells y).toArray = B := ⟨_, rfl⟩
            have hbf2 : bf < wi.heap.size := Nat.lt_of_lt_of_le hbf HSZ.out
            have g1 := fun n os => cell_grown (w := wi) (a := ⟨br, orr + i, none⟩) hbr2 hc n os
            have LD1 := Lib.hid (show ∀ n os, Sem.run Try.prog (loadCellsFrom ⟨bf, of + k * 11, none⟩ 0 11 #[]) (grow (wi.drewN n) os) = .ok Bv (grow (wi.drewN n) os) from fun n os => by
              rw [← hB]
              exact load_seen _ fun jj hjj => ((GrB.below ⟨n, os, rfl⟩).cell (p := ⟨bf, of + k * 11 + jj, none⟩) hbf2).trans (hcs jj hjj))
            have LD2 := Lib.hid (show ∀ n os, Sem.run Try.prog (loadCellsFrom ⟨bs, 0, none⟩ 0 11 #[]) (grow (wi.drewN n) os) = .ok A (grow (wi.drewN n) os) from fun n os => by
              rw [← HA.out]
              exact (HX6.out.step (bl_trans HGI.out.below (GrB.below ⟨n, os, rfl⟩))).load)
            have hq := fun w => run_seen_eql y s w
            rw [HA.out, hB] at hq
            obtain ⟨cl, hcl⟩ : ∃ c, decide (y = s) = c := ⟨_, rfl⟩
            rw [hcl] at hq
            have HCL := Lib.hid hcl
            have k0 : (0 : Int) ≤ (k : Int) := by omega
            have k1 : (k : Int) < (f.length : Int) := by omega
            clear hok hcs hB hcl
            go_upto_region 8 with (fail)
            clear hc
            refine wp_region_quiet_grown (by kernel_rfl) (by kernel_rfl) ?_
            (iterate 6 (quiet_step (fail)))
            refine wpQuiet_step (fun K hK => ?_)
            rw [if_pos (show _ = true by kernel_rfl)]
            refine quiet_loadA (A := Bv) rfl Try.isAgg31 Try.sizeOf31 rfl (fun w' hw' => ?_) (hK _ ?_)
            · obtain ⟨⟨nq, osq⟩, rfl⟩ := hw'
              exact LD1.out nq osq
            clear hK K
            refine wpQuiet_step (fun K hK => ?_)
            rw [if_pos (show _ = true by kernel_rfl)]
            refine quiet_loadA (A := A) rfl Try.isAgg31 Try.sizeOf31 rfl (fun w' hw' => ?_) (hK _ ?_)
            · obtain ⟨⟨nq, osq⟩, rfl⟩ := hw'
              exact LD2.out nq osq
            clear hK K
            refine wpQuiet_step (fun K hK => ?_)
            rw [if_pos (show _ = true by kernel_rfl)]
            refine quiet_binA rfl Try.eqGuardType31 rfl rfl hq (hK _ ?_)
            clear hK K
            refine wpQuiet_nil ?_
            intro _ hw'
            obtain ⟨⟨nq, osq⟩, hw''⟩ := hw'
            subst hw''
            have HGQ := Lib.hid (show GrB wi (grow (wi.drewN nq) osq) from ⟨nq, osq, rfl⟩)
            clear LD1 LD2 hq g1
            generalize grow (wi.drewN nq) osq = wq at HGQ ⊢
            cases cl with
            | false =>
              go_wp2_with (fail)
              go_roundg (f.length - (k + 1))
              case measure => omega
              case rel => exact ⟨k + 1, by omega, by go_num, Lib.hid (fun k' h h' => by
                by_cases e : k' = k
                · rw [HGK.out k' h e]; exact of_decide_eq_false HCL.out
                · exact HF.out k' h (by omega)), HGI.out.trans HGQ.out⟩
            | true =>
              have HE := Lib.hid (HMT.out y HMK.out (of_decide_eq_true HCL.out))
              go_wp2_with (fail)
              go_ret2
              rw [HE.out]
              exact ⟨⟨_, rfl, sl_gr HS6.out (GrB.refl _) (HGI.out.trans HGQ.out)⟩, HBW.out.trans (((HGI.out.trans HGQ.out).below).mono HBW.out.size)⟩
          · have hkn : ¬ (k : Int) < (f.length : Int) := by omega
            have HTN2 := Lib.hid (HTN.out (fun x hx => by
              obtain ⟨k', hk', rfl⟩ := List.getElem_of_mem hx
              exact HF.out k' hk' (by omega)))
            go_wp2_with (fail)
            go_roundg (R.length - (i + 1))
            case measure => omega
            case rel => exact ⟨i + 1, by omega, by go_num, HTN2, HGI.out⟩
      · exfalso
        obtain ⟨f, hf, hsf⟩ := List.mem_flatten.1 HSR.out
        obtain ⟨j, hj, rfl⟩ := List.getElem_of_mem hf
        exact HT.out j hj (by omega) s hsf rfl
  · obtain ⟨wd, hwd⟩ : ∃ wd, wb.drew = wd := ⟨_, rfl⟩
    rw [hwd] at hHeld ⊢
    have HWD := Lib.hid (show Below wb.heap.size wb wd from by rw [← hwd]; exact Below.drew (Below.refl _ _))
    clear hwd
    rw [if_pos (show _ = true by kernel_rfl)]
    refine wp_buildA (A := A) (.tmp 13) 22 rfl Try.underlying22 Try.sizeOf31 Try.zeroValue31 (by decide) (by decide) (by go_simp) hsz ?_
    have HX0 := Lib.hid (show SBox (wd.alloc (.cells A 31)) wd.heap.size s from by rw [← HA.out]; exact heap_alloc_new _ _)
    have HB2 := Lib.hid (bl_alloc HWD.out (.cells A 31))
    have HZ2 := Lib.hid (show (wd.alloc (.cells A 31)).heap.size = wd.heap.size + 1 by simp)
    have HZD := Lib.hid (show wb.heap.size ≤ wd.heap.size from HWD.out.size)
    (try simp only [List.getElem_toArray, List.getElem_cons_succ, List.getElem_cons_zero])
    (try simp only [Act.put])
    (try simp only [List.setIfInBounds_toArray])
    (repeat (first | simp only [List.set_cons_succ] | simp only [List.set_cons_zero]))
    clear hHeld
    refine hK.out _ _ (HB2.out) (fun hHeld => ?_)
    clear hK K
    generalize wd.alloc (.cells A 31) = w2 at HX0 HB2 HZ2 hHeld ⊢
    refine wpE_ready (rs := [1]) (by kernel_rfl) (by kernel_rfl) ?_
    refine AllReadyE.cons rfl (fun K hK => ?_) AllReadyE.nil
    rw [if_pos (show _ = true by kernel_rfl)]
    go_simp
    go_wp2_with (go_at_call 38
                 refine (HC.out _ HB2.out).mono ?_
                 rintro e w3 ⟨⟨v2, rfl, ho2⟩, hb2⟩
                 have HO3 := Lib.hid ho2
                 have HB3 := Lib.hid (bl_trans HB2.out hb2)
                 have HX := Lib.hid (HX0.out.step hb2)
                 have HLT := Lib.hid ho2.own_lt
                 have HS3 := Lib.hid hb2.size
                 obtain ⟨a2, c2, rfl, -⟩ := ho2.form
                 clear ho2 hb2)
    clear hHeld
    refine hK.out _ _ (HB3.out) (fun hHeld => ?_)
    clear hK K
    have HNE := Lib.hid (show ∀ k, k = wd.heap.size → k < w3.heap.size ∧ some k ≠ (Value.slice a2 F.length c2).ownBlock from fun k e => ⟨by have := HS3.out; have := HZ2.out; omega, fun e2 => by have := (HLT.out k e2.symm).1; have := HZ2.out; omega⟩)
    have HLO := Lib.hid (show ∀ k, (Value.slice a2 F.length c2).ownBlock = some k → wb.heap.size ≤ k from fun k e => by have := (HLT.out k e).1; have := HZ2.out; have := HZD.out; omega)
    have HZ3 := HZD
    have HZB := Lib.hid (show w2.heap.size ≤ w3.heap.size from HS3.out)
    clear HLT HS3
    refine wpE_ready (rs := [4]) (by kernel_rfl) (by kernel_rfl) ?_
    refine AllReadyE.cons rfl (fun K hK => ?_) AllReadyE.nil
    rw [if_pos (show _ = true by kernel_rfl)]
    refine wp_append_sl (v := .slice a2 F.length c2) (.tmp 12) (.tmp 14) 22 rfl slSeen (by go_simp) HO3.out (by go_simp) (sl_single HX.out HOK.out) HNE.out (small_bytes (k := 1001) (by have := HL.out; simp; omega) (by decide)) (by have := HL.out; unfold maxLen; simp; omega) HZB.out ?_
    intro v5 w5 ho5 hg5 _
    rw [HM.out] at ho5
    have HO5 := Lib.hid ho5
    have HB5 := Lib.hid (HB3.out.trans (Below.of_grown hg5 HB3.out.size (fun k hk => HLO.out k hk)))
    (try simp only [List.getElem_toArray, List.getElem_cons_succ, List.getElem_cons_zero])
    (try simp only [Act.put])
    (try simp only [List.setIfInBounds_toArray])
    (repeat (first | simp only [List.set_cons_succ] | simp only [List.set_cons_zero]))
    obtain ⟨a5, c5, rfl, -⟩ := ho5.form
    clear ho5 hg5
    clear hHeld
    refine hK.out _ _ (HB5.out) (fun hHeld => ?_)
    clear hK K
    clear HO3 HB3 HX HNE HLO HZ3 HZB
    refine wpE_ready (rs := [6]) (by kernel_rfl) (by kernel_rfl) ?_
    refine AllReadyE.cons rfl (fun K hK => ?_) AllReadyE.nil
    rw [if_pos (show _ = true by kernel_rfl)]
    go_simp
    go_wp2_with (go_at_call 12
                 refine (HFM.out _ w5 HO5.out.sl).mono ?_
                 rintro e w6 ⟨⟨v6, rfl, hn6⟩, hb6⟩
                 have HN6 := Lib.hid (hn6.mono (Nat.le_trans HB0.out.size HB5.out.size))
                 have HB6 := Lib.hid (bl_trans HB5.out hb6)
                 obtain ⟨a6, c6, rfl, -⟩ := hn6.form
                 clear hn6 hb6)
    clear hHeld
    refine hK.out _ _ (HB6.out) (fun hHeld => ?_)
    clear hK K
    clear hHeld
    refine wpE_out (by kernel_rfl) ?_
    refine wpAny_ready (rs := [7]) (by kernel_rfl) (by simp) ?_
    refine AllReady.cons rfl (fun K hK => ?_) AllReady.nil
    rw [if_pos (show _ = true by kernel_rfl)]
    go_simp
    refine hK _ _ ?_
    clear hK K
    refine wpAny_done (by kernel_rfl) ?_ _
    clear HO5 HB5
    have HX6 := Lib.hid (HN.out.step HB6.out)
    have HBW := Lib.hid (HB0.out.trans (HB6.out.mono HB0.out.size))
    have HS6 := Lib.hid HN6.out.sl'
    obtain ⟨ar, cr, br, orr, hvr, r1, r2, hro⟩ := frm_row HS6.out
    injection hvr with e1 _ e3
    subst e1
    subst e3
    unfold maxLen at r2
    have HRO := Lib.hid hro
    clear hro
    go_wp2_with (fail)
    go_loopg [9] R.length (fun gx i wr => ∃ k : Nat, k + gx = R.length ∧ i = .int .i64 k ∧ Hid (∀ j (h : j < R.length), j < k → ∀ x ∈ R[j], x ≠ s) ∧ GrB w6 wr)
    case atStart => exact ⟨0, by omega, rfl, Lib.hid (fun j _ h => by omega), GrB.refl _⟩
    case round =>
      obtain ⟨wo, rfl⟩ : ∃ wo : World, wo = wr := ⟨_, rfl⟩
      obtain ⟨i, hi, rfl, HT, hg⟩ := hrel
      have HGO := Lib.hid hg
      clear hg
      by_cases hil : i < R.length
      · have i0 : (0 : Int) ≤ (i : Int) := by omega
        have i1 : (i : Int) < (R.length : Int) := by omega
        have HMT := Lib.hid (show ∀ x, x ∈ R[i] → x = s → idxF R s = i from fun x hx e => idxF_at hil (e ▸ hx) HT.out)
        have HTN := Lib.hid (show (∀ x ∈ R[i], x ≠ s) → ∀ j (h : j < R.length), j < i + 1 → ∀ x ∈ R[j], x ≠ s from fun h j hj hji x hx => by
          by_cases e : j = i
          · subst e; exact h x hx
          · exact HT.out j hj (by omega) x hx)
        have HRI := Lib.hid (fun w' hw => HRO.out w' hw i hil)
        generalize R[i] = f at HMT HTN HRI
        go_wp2_with (fail)
        go_loopg [10] f.length (fun gx k wr => ∃ j : Nat, j + gx = f.length ∧ k = .int .i64 j ∧ Hid (∀ k' (h : k' < f.length), k' < j → f[k'] ≠ s) ∧ GrB w6 wr)
        case atStart => exact ⟨0, by omega, rfl, Lib.hid (fun j _ h => by omega), HGO.out⟩
        case round =>
          obtain ⟨wi, rfl⟩ : ∃ wi : World, wi = wr := ⟨_, rfl⟩
          obtain ⟨k, hk, rfl, HF, hg⟩ := hrel
          have HGI := Lib.hid hg
          obtain ⟨rfl, -, hbr, hv, hc, hs⟩ := HRI.out wi (.of_below hg.below)
          obtain ⟨af, cf, bf, of, rfl, f1, f2, hfo⟩ := seen_row hs
          unfold maxLen at f2
          have HFO := Lib.hid hfo
          have hbr2 : br < wi.heap.size := Nat.lt_of_lt_of_le hbr hg.below.size
          have HSZ := Lib.hid hg.below.size
          clear hs hfo hg
          by_cases hkl : k < f.length
          · obtain ⟨rfl, hbf, -, hok, hcs⟩ := HFO.out wi (SameOn.refl _ _) k hkl
            have HMK := Lib.hid (show f[k] ∈ f from List.getElem_mem hkl)
            have HGK := Lib.hid (show ∀ k' (h : k' < f.length), k' = k → f[k'] = f[k] from fun k' h e => by subst e; rfl)
            generalize f[k] = y at hok hcs HMK HGK
            obtain ⟨Bv, hB⟩ : ∃ B, (sCells y).toArray = B := ⟨_, rfl⟩
            have hbf2 : bf < wi.heap.size := Nat.lt_of_lt_of_le hbf HSZ.out
            have g1 := fun n os => cell_grown (w := wi) (a := ⟨br, orr + i, none⟩) hbr2 hc n os
            have LD1 := Lib.hid (show ∀ n os, Sem.run Try.prog (loadCellsFrom ⟨bf, of + k * 11, none⟩ 0 11 #[]) (grow (wi.drewN n) os) = .ok Bv (grow (wi.drewN n) os) from fun n os => by
              rw [← hB]
              exact load_seen _ fun jj hjj => ((GrB.below ⟨n, os, rfl⟩).cell (p := ⟨bf, of + k * 11 + jj, none⟩) hbf2).trans (hcs jj hjj))
            have LD2 := Lib.hid (show ∀ n os, Sem.run Try.prog (loadCellsFrom ⟨bs, 0, none⟩ 0 11 #[]) (grow (wi.drewN n) os) = .ok A (grow (wi.drewN n) os) from fun n os => by
              rw [← HA.out]
              exact (HX6.out.step (bl_trans HGI.out.below (GrB.below ⟨n, os, rfl⟩))).load)
            have hq := fun w => run_seen_eql y s w
            rw [HA.out, hB] at hq
            obtain ⟨cl, hcl⟩ : ∃ c, decide (y = s) = c := ⟨_, rfl⟩
            rw [hcl] at hq
            have HCL := Lib.hid hcl
            have k0 : (0 : Int) ≤ (k : Int) := by omega
            have k1 : (k : Int) < (f.length : Int) := by omega
            clear hok hcs hB hcl
            go_upto_region 8 with (fail)
            clear hc
            refine wp_region_quiet_grown (by kernel_rfl) (by kernel_rfl) ?_
            (iterate 6 (quiet_step (fail)))
            refine wpQuiet_step (fun K hK => ?_)
            rw [if_pos (show _ = true by kernel_rfl)]
            refine quiet_loadA (A := Bv) rfl Try.isAgg31 Try.sizeOf31 rfl (fun w' hw' => ?_) (hK _ ?_)
            · obtain ⟨⟨nq, osq⟩, rfl⟩ := hw'
              exact LD1.out nq osq
            clear hK K
            refine wpQuiet_step (fun K hK => ?_)
            rw [if_pos (show _ = true by kernel_rfl)]
            refine quiet_loadA (A := A) rfl Try.isAgg31 Try.sizeOf31 rfl (fun w' hw' => ?_) (hK _ ?_)
            · obtain ⟨⟨nq, osq⟩, rfl⟩ := hw'
              exact LD2.out nq osq
            clear hK K
            refine wpQuiet_step (fun K hK => ?_)
            rw [if_pos (show _ = true by kernel_rfl)]
            refine quiet_binA rfl Try.eqGuardType31 rfl rfl hq (hK _ ?_)
            clear hK K
            refine wpQuiet_nil ?_
            intro _ hw'
            obtain ⟨⟨nq, osq⟩, hw''⟩ := hw'
            subst hw''
            have HGQ := Lib.hid (show GrB wi (grow (wi.drewN nq) osq) from ⟨nq, osq, rfl⟩)
            clear LD1 LD2 hq g1
            generalize grow (wi.drewN nq) osq = wq at HGQ ⊢
            cases cl with
            | false =>
              go_wp2_with (fail)
              go_roundg (f.length - (k + 1))
              case measure => omega
              case rel => exact ⟨k + 1, by omega, by go_num, Lib.hid (fun k' h h' => by
                by_cases e : k' = k
                · rw [HGK.out k' h e]; exact of_decide_eq_false HCL.out
                · exact HF.out k' h (by omega)), HGI.out.trans HGQ.out⟩
            | true =>
              have HE := Lib.hid (HMT.out y HMK.out (of_decide_eq_true HCL.out))
              go_wp2_with (fail)
              go_ret2
              rw [HE.out]
              exact ⟨⟨_, rfl, sl_gr HS6.out (GrB.refl _) (HGI.out.trans HGQ.out)⟩, HBW.out.trans (((HGI.out.trans HGQ.out).below).mono HBW.out.size)⟩
          · have hkn : ¬ (k : Int) < (f.length : Int) := by omega
            have HTN2 := Lib.hid (HTN.out (fun x hx => by
              obtain ⟨k', hk', rfl⟩ := List.getElem_of_mem hx
              exact HF.out k' hk' (by omega)))
            go_wp2_with (fail)
            go_roundg (R.length - (i + 1))
            case measure => omega
            case rel => exact ⟨i + 1, by omega, by go_num, HTN2, HGI.out⟩
      · exfalso
        obtain ⟨f, hf, hsf⟩ := List.mem_flatten.1 HSR.out
        obtain ⟨j, hj, rfl⟩ := List.getElem_of_mem hf
        exact HT.out j hj (by omega) s hsf rfl
end Go.Proofs.Ytffpnbipacgidaa
