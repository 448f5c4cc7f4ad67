/-
  Layer 14 (group): Insert.
-/
import Derived.Test.YtffpnbipacgidaaGrpN
import Derived.Test.YtffpnbipacgidaaHeld
namespace Go.Proofs.Ytffpnbipacgidaa
open Go.RowKit Go.Tw Go.Tw.Ord Go.Tw.Grp Go.Sort
theorem wp_buildA {P : Program} {o : Oper} {a : Act} {w : World} {K : Act → World → Prop} {Q : Exit → Act → World → Prop} (x : Operand) (ty : TypeId) (ho : o.op = .buildSlice ty 1 #[(0, x)]) {e : TypeId} {n : Nat} {z A : Array Value} (hu : P.underlying ty = some (.slice e)) (hsz : ∀ w, (sizeOf e).run P w = .ok n w) (hzv : ∀ w, (zeroValue e).run P w = .ok (.agg z) w) (hn : 0 < n) (hn2 : n ≤ 1000)
    (hx : a.eval x = .agg A) (hA : A.size = n) (h : K (a.put o.dst (.slice (some ⟨w.heap.size, 0, none⟩) 1 1)) (w.alloc (.cells A e))) : o.wp P a w K Q := by
  have e1 : (execOp a.eval o).run P w = .ok (.value (.slice (some ⟨w.heap.size, 0, none⟩) 1 1)) (w.alloc (.cells A e)) := by
    unfold execOp
    simp only [ho, hx, Sem.run_bind, Sem.run_pure, Result.andThen_ok, List.map_toArray, List.map_cons, List.map_nil, run_buildA hu hsz hzv hn hn2 hA]
  unfold Oper.wp
  rw [e1]
  exact h
theorem sl_single {w : World} {b : Nat} {s : Seen} (h : SBox w b s) (hs : SeenOk s) : SlIs tSeen (· = b) w (.slice (some ⟨b, 0, none⟩) 1 1) [s] := by
  refine ⟨_, _, b, 0, rfl, Nat.le_refl _, by unfold maxLen; decide, fun h => by simp at h, fun k hk => ?_⟩
  have hk0 : k = 0 := by simpa using hk
  subst hk0
  refine ⟨rfl, rfl, (Array.getElem?_eq_some_iff.1 h).1, sCells s, fun j hj => ?_, tSeen_mk hs⟩
  rw [cell_of_row _ _ _ _ _ _ h]
  simp
set_option maxRecDepth 100000 in
set_option maxHeartbeats 4000000 in
theorem insert_any (l : List (List Seen)) (s : Seen) (g : Int) (v : Value) (w : World) (h : SlIs tFrm (· < w.heap.size) w v l) (hs : SeenOk s) (hl : l.flatten.length < 59) (hg : i64ok g) :
    Calls Try.prog 15 #[v, .agg (sCells s).toArray, .int .i64 g] w fun e w' => (∃ v', e = .returned (.tuple #[v', .int .i64 (idxF (framesC g (l.flatten ++ [s])) s)]) ∧ NewL tFrm 22 w.heap.size w' v' (framesC g (l.flatten ++ [s]))) ∧ Below w.heap.size w w' := by
  obtain ⟨ao, cp, _, _, rfl, -, -, -⟩ := id h
  have n0 : SBox (w.alloc (.cells (sCells s).toArray 31)) w.heap.size s := heap_alloc_new _ _
  have hb0 : Below w.heap.size w (w.alloc (.cells (sCells s).toArray 31)) := bl_alloc (Below.refl _ _) _
  have HS0 := Lib.hid (SlIs.step h hb0)
  obtain ⟨F, hF⟩ : ∃ F, l.flatten = F := ⟨_, rfl⟩
  obtain ⟨M, hM⟩ : ∃ M, F ++ [s] = M := ⟨_, rfl⟩
  obtain ⟨R, hR⟩ : ∃ R, framesC g M = R := ⟨_, rfl⟩
  rw [hF] at hl
  have hml : M.length < 60 := by rw [← hM, List.length_append, List.length_singleton]; omega
  have HFM := Lib.hid (fun (v : Value) (w' : World) (h : SlIs tSeen (· < w'.heap.size) w' v M) => Frames_any M g v w' h hml hg)
  have HCC := Lib.hid (fun (w' : World) (h : SlIs tFrm (· < w'.heap.size) w' (.slice ao l.length cp) l) => concat_any l _ w' h (by rw [hF]; omega))
  rw [hF] at HCC ⊢
  rw [hM, hR]
  rw [hR] at HFM
  obtain ⟨A, hA⟩ : ∃ A, (sCells s).toArray = A := ⟨_, rfl⟩
  rw [hA] at n0 hb0 HS0 ⊢
  have HA := Lib.hid hA
  have hsz : A.size = 11 := by rw [← hA]; rfl
  have HN := Lib.hid n0
  have HB0 := Lib.hid hb0
  have HOK := Lib.hid hs
  have HL := Lib.hid (show F.length < 59 from hl)
  have HM := Lib.hid hM
  clear n0 hb0 h hs hl hg hA hF hM hR hml
  go_enter Try.func15, Try.ntmps15
  go_upto_region 1 with (fail)
  obtain ⟨wb, hwb⟩ : ∃ wb, w.alloc (.cells A 31) = wb := ⟨_, rfl⟩
  have hbs : w.heap.size < wb.heap.size := by rw [← hwb]; simp
  rw [hwb] at HN HB0 HS0 ⊢
  obtain ⟨bs, hbb⟩ : ∃ b, w.heap.size = b := ⟨_, rfl⟩
  have HBB := Lib.hid hbb
  rw [hbb] at HN hbs ⊢
  clear hwb hbb
  have LD := Lib.hid (show ∀ w', Below wb.heap.size wb w' → Sem.run Try.prog (loadCellsFrom ⟨bs, 0, none⟩ 0 11 #[]) w' = .ok A w' from fun w' hw => by
    rw [← HA.out]
    exact (HN.out.step hw).load)
  have HC := Lib.hid (show ∀ w', Below wb.heap.size wb w' → _ from fun w' hw => HCC.out w' (SlIs.step HS0.out hw))
  clear hbs
  refine wp_region_E 7 (fun w' => Below wb.heap.size wb w') (by kernel_rfl) ((by (repeat (first | (with_reducible exact Below.refl _ _) | (with_reducible exact HW.out) | (with_reducible apply bl_drewN) | (with_reducible apply bl_alloc) | (with_reducible apply Below.drew))); done)) (fun hHeld => ?_)
  refine wpE_take (i := 0) (v := ?_) rfl (by kernel_rfl) (fun _ _ _ h => h) (Or.inl ⟨by kernel_rfl, ?_⟩) (by assumption) ?_
  rotate_left
  focus (intro w9 hS9; (try dsimp only at hS9); go_simp; (try with_reducible rfl))
  (try simp only [Act.put])
  (try simp only [List.setIfInBounds_toArray])
  (repeat (first | simp only [List.set_cons_succ] | simp only [List.set_cons_zero]))
  refine wpE_take (i := 5) (v := ?_) rfl (by kernel_rfl) (fun _ _ _ h => h) (Or.inl ⟨by kernel_rfl, ?_⟩) (by assumption) ?_
  rotate_left
  focus (intro w9 hS9; (try dsimp only at hS9); go_simp; (try with_reducible rfl))
  (try simp only [Act.put])
  (try simp only [List.setIfInBounds_toArray])
  (repeat (first | simp only [List.set_cons_succ] | simp only [List.set_cons_zero]))
  refine wpE_take (i := 2) (v := ?_) rfl (by kernel_rfl) (fun _ _ _ h => h) (Or.inl ⟨by kernel_rfl, ?_⟩) (by assumption) ?_
  rotate_left
  focus (intro w9 hS9; refine exec_loadA (t := 31) (x := Operand.tmp 4) (p := ⟨bs, 0, none⟩) (A := A) ?_ Try.isAgg31 Try.sizeOf31 ?_ (LD.out w9 hS9); rfl; rfl)
  (try simp only [Act.put])
  (try simp only [List.setIfInBounds_toArray])
  (repeat (first | simp only [List.set_cons_succ] | simp only [List.set_cons_zero]))
  refine wpE_ready (rs := [1, 3]) (by kernel_rfl) (by kernel_rfl) ?_
  refine AllReadyE.cons rfl (fun K hK => ?_) (AllReadyE.cons rfl (fun K hK => ?_) AllReadyE.nil)
  · obtain ⟨wd, hwd⟩ : ∃ wd, wb.drew = wd := ⟨_, rfl⟩
    rw [hwd] at hHeld ⊢
    have HWD := Lib.hid (show Below wb.heap.size wb wd from by rw [← hwd]; exact Below.drew (Below.refl _ _))
    clear hwd
    rw [if_pos (show _ = true by kernel_rfl)]
    go_simp
    go_wp2_with (go_at_call 34
                 refine (HC.out _ HWD.out).mono ?_
                 rintro e w2 ⟨⟨v2, rfl, ho2⟩, hb2⟩
                 have HO2 := Lib.hid ho2
                 have HW := Lib.hid (bl_trans HWD.out hb2)
                 have HLT := Lib.hid ho2.own_lt
                 have HS2 := Lib.hid hb2.size
                 obtain ⟨a2, c2, rfl, -⟩ := ho2.form
                 clear ho2 hb2)
    clear hHeld
    refine hK.out _ _ (HW.out) (fun hHeld => ?_)
    clear hK K
    refine wpE_ready (rs := [3]) (by kernel_rfl) (by kernel_rfl) ?_
    refine AllReadyE.cons rfl (fun K hK => ?_) AllReadyE.nil
    rw [if_pos (show _ = true by kernel_rfl)]
    refine wp_buildA (.tmp 11) 22 rfl Try.underlying22 Try.sizeOf31 Try.zeroValue31 (by decide) (by decide) rfl hsz ?_
    have HX := Lib.hid (show SBox (w2.alloc (.cells A 31)) w2.heap.size s from by rw [← HA.out]; exact heap_alloc_new _ _)
    have HO3 := Lib.hid (HO2.out.alloc (.cells A 31))
    have HB3 := Lib.hid (bl_alloc HW.out (.cells A 31))
    have HZ3 := Lib.hid (show wb.heap.size ≤ w2.heap.size from HW.out.size)
    have HZB := Lib.hid (show wd.heap.size ≤ (w2.alloc (.cells A 31)).heap.size from by rw [World.size_alloc]; have := HS2.out; omega)
    (try simp only [Act.put])
    (try simp only [List.setIfInBounds_toArray])
    (repeat (first | simp only [List.set_cons_succ] | simp only [List.set_cons_zero]))
    clear hHeld
    refine hK.out _ _ (HB3.out) (fun hHeld => ?_)
    clear hK K
    have hsne : ∀ k, k = w2.heap.size → k < (w2.alloc (.cells A 31)).heap.size ∧ some k ≠ (Value.slice a2 F.length c2).ownBlock := fun k e => ⟨by rw [World.size_alloc]; omega, fun e2 => by have := (HLT.out k e2.symm).2; omega⟩
    have HNE := Lib.hid hsne
    have HLO := Lib.hid (show ∀ k, (Value.slice a2 F.length c2).ownBlock = some k → wb.heap.size ≤ k from fun k e => Nat.le_trans HWD.out.size (HLT.out k e).1)
    clear hsne
    generalize w2.alloc (.cells A 31) = w3 at HX HO3 HB3 HNE HZB hHeld ⊢
    generalize w2.heap.size = b3 at HX HNE HZ3 ⊢
    clear HO2 HW HLT HS2
    refine wpE_ready (rs := [4]) (by kernel_rfl) (by kernel_rfl) ?_
    refine AllReadyE.cons rfl (fun K hK => ?_) AllReadyE.nil
    rw [if_pos (show _ = true by kernel_rfl)]
    refine wp_append_sl (.tmp 10) (.tmp 12) 22 rfl slSeen rfl HO3.out rfl (sl_single HX.out HOK.out) HNE.out (small_bytes (k := 1001) (by have := HL.out; simp; omega) (by decide)) (by have := HL.out; unfold maxLen; simp; omega) HZB.out ?_
    intro v5 w5 ho5 hg5 _
    rw [HM.out] at ho5
    have HO5 := Lib.hid ho5
    have HB5 := Lib.hid (HB3.out.trans (Below.of_grown hg5 HB3.out.size (fun k hk => HLO.out k hk)))
    obtain ⟨a5, c5, rfl, -⟩ := ho5.form
    clear ho5 hg5
    (try simp only [Act.put])
    (try simp only [List.setIfInBounds_toArray])
    (repeat (first | simp only [List.set_cons_succ] | simp only [List.set_cons_zero]))
    clear hHeld
    refine hK.out _ _ (HB5.out) (fun hHeld => ?_)
    clear hK K
    clear HO3 HB3 HX HNE HLO HZ3 HZB
    refine wpE_ready (rs := [6]) (by kernel_rfl) (by kernel_rfl) ?_
    refine AllReadyE.cons rfl (fun K hK => ?_) AllReadyE.nil
    rw [if_pos (show _ = true by kernel_rfl)]
    go_simp
    go_wp2_with (go_at_call 11
                 refine (HFM.out _ w5 HO5.out.sl).mono ?_
                 rintro e w6 ⟨⟨v6, rfl, hn6⟩, hb6⟩
                 have HN6 := Lib.hid (hn6.mono (Nat.le_trans HB0.out.size HB5.out.size))
                 have HB6 := Lib.hid (bl_trans HB5.out hb6)
                 obtain ⟨a6, c6, rfl, -⟩ := hn6.form
                 clear hn6 hb6)
    clear hHeld
    refine hK.out _ _ (HB6.out) (fun hHeld => ?_)
    clear hK K
    clear hHeld
    refine wpE_out (by kernel_rfl) ?_
    refine wpAny_ready (rs := [7]) (by kernel_rfl) (by simp) ?_
    refine AllReady.cons rfl (fun K hK => ?_) AllReady.nil
    rw [if_pos (show _ = true by kernel_rfl)]
    go_simp
    refine hK _ _ ?_
    clear hK K
    refine wpAny_done (by kernel_rfl) ?_ _
    clear HO5 HB5
    go_wp2_with (go_at_call 35
                 refine (indexF_any R s bs _ w6 HN6.out.sl' (HN.out.step HB6.out)).mono ?_
                 rintro e w7 ⟨rfl, hg7⟩
                 have HG7 := Lib.hid hg7
                 clear hg7)
    go_ret2
    exact ⟨⟨_, rfl, HN6.out.below HG7.out.below⟩, HB0.out.trans ((bl_trans HB6.out HG7.out.below).mono HB0.out.size)⟩
  · obtain ⟨wd, hwd⟩ : ∃ wd, wb.drew = wd := ⟨_, rfl⟩
    rw [hwd] at hHeld ⊢
    have HWD := Lib.hid (show Below wb.heap.size wb wd from by rw [← hwd]; exact Below.drew (Below.refl _ _))
    clear hwd
    rw [if_pos (show _ = true by kernel_rfl)]
    refine wp_buildA (.tmp 11) 22 rfl Try.underlying22 Try.sizeOf31 Try.zeroValue31 (by decide) (by decide) rfl hsz ?_
    have HX0 := Lib.hid (show SBox (wd.alloc (.cells A 31)) wd.heap.size s from by rw [← HA.out]; exact heap_alloc_new _ _)
    have HB2 := Lib.hid (bl_alloc HWD.out (.cells A 31))
    have HZ2 := Lib.hid (show (wd.alloc (.cells A 31)).heap.size = wd.heap.size + 1 by simp)
    have HZD := Lib.hid (show wb.heap.size ≤ wd.heap.size from HWD.out.size)
    (try simp only [Act.put])
    (try simp only [List.setIfInBounds_toArray])
    (repeat (first | simp only [List.set_cons_succ] | simp only [List.set_cons_zero]))
    clear hHeld
    refine hK.out _ _ (HB2.out) (fun hHeld => ?_)
    clear hK K
    generalize wd.alloc (.cells A 31) = w2 at HX0 HB2 HZ2 hHeld ⊢
    refine wpE_ready (rs := [1]) (by kernel_rfl) (by kernel_rfl) ?_
    refine AllReadyE.cons rfl (fun K hK => ?_) AllReadyE.nil
    rw [if_pos (show _ = true by kernel_rfl)]
    go_simp
    go_wp2_with (go_at_call 34
                 refine (HC.out _ HB2.out).mono ?_
                 rintro e w3 ⟨⟨v2, rfl, ho2⟩, hb2⟩
                 have HO3 := Lib.hid ho2
                 have HB3 := Lib.hid (bl_trans HB2.out hb2)
                 have HX := Lib.hid (HX0.out.step hb2)
                 have HLT := Lib.hid ho2.own_lt
                 have HS3 := Lib.hid hb2.size
                 obtain ⟨a2, c2, rfl, -⟩ := ho2.form
                 clear ho2 hb2)
    clear hHeld
    refine hK.out _ _ (HB3.out) (fun hHeld => ?_)
    clear hK K
    have HNE := Lib.hid (show ∀ k, k = wd.heap.size → k < w3.heap.size ∧ some k ≠ (Value.slice a2 F.length c2).ownBlock from fun k e => ⟨by have := HS3.out; have := HZ2.out; omega, fun e2 => by have := (HLT.out k e2.symm).1; have := HZ2.out; omega⟩)
    have HLO := Lib.hid (show ∀ k, (Value.slice a2 F.length c2).ownBlock = some k → wb.heap.size ≤ k from fun k e => by have := (HLT.out k e).1; have := HZ2.out; have := HZD.out; omega)
    have HZ3 := HZD
    have HZB := Lib.hid (show w2.heap.size ≤ w3.heap.size from HS3.out)
    clear HLT HS3
    refine wpE_ready (rs := [4]) (by kernel_rfl) (by kernel_rfl) ?_
    refine AllReadyE.cons rfl (fun K hK => ?_) AllReadyE.nil
    rw [if_pos (show _ = true by kernel_rfl)]
    refine wp_append_sl (.tmp 10) (.tmp 12) 22 rfl slSeen rfl HO3.out rfl (sl_single HX.out HOK.out) HNE.out (small_bytes (k := 1001) (by have := HL.out; simp; omega) (by decide)) (by have := HL.out; unfold maxLen; simp; omega) HZB.out ?_
    intro v5 w5 ho5 hg5 _
    rw [HM.out] at ho5
    have HO5 := Lib.hid ho5
    have HB5 := Lib.hid (HB3.out.trans (Below.of_grown hg5 HB3.out.size (fun k hk => HLO.out k hk)))
    obtain ⟨a5, c5, rfl, -⟩ := ho5.form
    clear ho5 hg5
    (try simp only [Act.put])
    (try simp only [List.setIfInBounds_toArray])
    (repeat (first | simp only [List.set_cons_succ] | simp only [List.set_cons_zero]))
    clear hHeld
    refine hK.out _ _ (HB5.out) (fun hHeld => ?_)
    clear hK K
    clear HO3 HB3 HX HNE HLO HZ3 HZB
    refine wpE_ready (rs := [6]) (by kernel_rfl) (by kernel_rfl) ?_
    refine AllReadyE.cons rfl (fun K hK => ?_) AllReadyE.nil
    rw [if_pos (show _ = true by kernel_rfl)]
    go_simp
    go_wp2_with (go_at_call 11
                 refine (HFM.out _ w5 HO5.out.sl).mono ?_
                 rintro e w6 ⟨⟨v6, rfl, hn6⟩, hb6⟩
                 have HN6 := Lib.hid (hn6.mono (Nat.le_trans HB0.out.size HB5.out.size))
                 have HB6 := Lib.hid (bl_trans HB5.out hb6)
                 obtain ⟨a6, c6, rfl, -⟩ := hn6.form
                 clear hn6 hb6)
    clear hHeld
    refine hK.out _ _ (HB6.out) (fun hHeld => ?_)
    clear hK K
    clear hHeld
    refine wpE_out (by kernel_rfl) ?_
    refine wpAny_ready (rs := [7]) (by kernel_rfl) (by simp) ?_
    refine AllReady.cons rfl (fun K hK => ?_) AllReady.nil
    rw [if_pos (show _ = true by kernel_rfl)]
    go_simp
    refine hK _ _ ?_
    clear hK K
    refine wpAny_done (by kernel_rfl) ?_ _
    clear HO5 HB5
    go_wp2_with (go_at_call 35
                 refine (indexF_any R s bs _ w6 HN6.out.sl' (HN.out.step HB6.out)).mono ?_
                 rintro e w7 ⟨rfl, hg7⟩
                 have HG7 := Lib.hid hg7
                 clear hg7)
    go_ret2
    exact ⟨⟨_, rfl, HN6.out.below HG7.out.below⟩, HB0.out.trans ((bl_trans HB6.out HG7.out.below).mono HB0.out.size)⟩
end Go.Proofs.Ytffpnbipacgidaa
