/-
  Layer 14 (group): the law GroupSteps.
-/
import Derived.Test.YtffpnbipacgidaaGrpV
namespace Go.Proofs.Ytffpnbipacgidaa
open Go.RowKit Go.Tw Go.Tw.Ord Go.Tw.Grp Go.Sort Go.ChangeShapes Go.WideShapes
theorem frames_step (g : Int) (m : List Seen) (s : Seen) : framesC g ((framesC g m).flatten ++ [s]) = framesC g (m ++ [s]) := framesC_congr ((framesC_perm g m).append_right _)
theorem idxF_some {R : List (List Seen)} {s : Seen} (h : s ∈ R.flatten) : ∃ (j : Nat) (hj : j < R.length), idxF R s = j ∧ s ∈ R[j] := by
  unfold idxF
  cases e : R.findIdx? (fun f => f.any fun x => s == x) with
  | none =>
    rw [List.findIdx?_eq_none_iff] at e
    obtain ⟨f, hf, hs⟩ := List.mem_flatten.1 h
    have := e f hf
    rw [List.any_eq_false] at this
    exact ((this s hs) (by simp)).elim
  | some j =>
    rw [List.findIdx?_eq_some_iff_getElem] at e
    obtain ⟨hj, h1, -⟩ := e
    refine ⟨j, hj, rfl, ?_⟩
    obtain ⟨x, hx, hxs⟩ := List.any_eq_true.1 h1
    have : s = x := by simpa using hxs
    rw [this]
    exact hx
theorem framesC_nil (g : Int) : framesC g [] = [] := by
  have := framesC_perm g []
  have h : sortS [] = [] := List.eq_nil_of_length_eq_zero (sortS_len [])
  unfold framesC
  rw [h]
  rfl
set_option maxRecDepth 100000 in
set_option maxHeartbeats 16000000 in
theorem steps_walk : LawWalk Try.prog 7 Try.f7 := by
  intro H enc W base args ds ps hval hA hsz
  rw [Try.params7] at hA hval
  obtain ⟨v0, v1, d0, d1, p0, p1, rfl, rfl, rfl, h0, h1⟩ := trodAll_two hA
  obtain ⟨l, hl⟩ := arg_slice Try.underlying22 (opensSeens (e := 31)) (hval 0 _ _ rfl rfl) h0
  obtain ⟨g, rfl, hg⟩ := arg_int Try.underlying3 (hval 1 _ _ rfl rfl) h1
  clear hA hval h0 h1 hsz
  obtain ⟨ao, cp, b, o, rfl, q1, q2, ho⟩ := seen_row hl
  unfold maxLen at q2
  have HO := Lib.hid ho
  have HLL := Lib.hid hl
  have HG := Lib.hid hg
  clear ho hl hg
  go_enter Try.func7, Try.ntmps7
  by_cases hmost : (l.length : Int) > 40
  · go_wp2_with (fail)
    go_ret
    exact ⟨rfl, Below.refl _ _⟩
  · have HL40 := Lib.hid (show l.length ≤ 40 by omega)
    go_wp2_with (fail)
    go_loopg [5, 6] l.length (fun gx f i wr => ∃ k : Nat, k + gx = l.length ∧ i = .int .i64 k ∧ SlIs tFrm (· < wr.heap.size) wr f (framesC g (l.take k)) ∧ Below W.heap.size W wr)
    case atStart => exact ⟨0, by omega, rfl, by rw [List.take_zero, framesC_nil]; exact SlIs.nil, Below.refl _ _⟩
    case round =>
      obtain ⟨k, hk, rfl, hf, hb⟩ := hrel
      by_cases hlt : k < l.length
      · obtain ⟨rfl, -, hbk, hok, hc⟩ := HO.out wr (.of_below hb) k hlt
        have k0 : (0 : Int) ≤ (k : Int) := by omega
        have k1 : (k : Int) < (l.length : Int) := by omega
        have hT : framesC g ((framesC g (l.take k)).flatten ++ [l[k]]) = framesC g (l.take (k + 1)) := by rw [frames_step, ← List.take_succ_eq_append_getElem hlt]
        have hmem : l[k] ∈ (framesC g (l.take (k + 1))).flatten := (framesC_perm g _).mem_iff.2 (by rw [List.take_succ_eq_append_getElem hlt]; exact List.mem_append_right _ (List.mem_singleton.2 rfl))
        have hfl : (framesC g (l.take k)).flatten.length < 59 := by rw [(framesC_perm g _).length_eq]; have := HL40.out; simp; omega
        generalize l[k] = s at hc hok hT hmem
        have HRT := Lib.hid (show ∃ R, R = framesC g (l.take (k + 1)) from ⟨_, rfl⟩)
        obtain ⟨R, hR⟩ := HRT.out
        clear HRT
        rw [← hR] at hT hmem
        obtain ⟨j, hj, hij, hsj⟩ := idxF_some hmem
        obtain ⟨A, hA⟩ : ∃ A, (sCells s).toArray = A := ⟨_, rfl⟩
        have ld := load_seen (x := s) Try.prog hc
        rw [hA] at ld
        have hsz : A.size = 11 := by rw [← hA]; rfl
        have HIN := Lib.hid (fun (v : Value) (w : World) (h : SlIs tFrm (· < w.heap.size) w v (framesC g (l.take k))) => insert_lit (k := R.length) h hok hA hfl HG.out hT rfl hij)
        generalize framesC g (l.take k) = F at hf HIN
        obtain ⟨af, cf, _, _, rfl, -, -, -⟩ := id hf
        have LD := Lib.hid (show ∀ w', Below wr.heap.size wr w' → Sem.run Try.prog (loadCellsFrom ⟨b, o + k * 11, none⟩ 0 11 #[]) w' = .ok A w' from fun w' hw => by
          rw [← hA]
          exact load_seen _ fun jj hjj => (hw.cell (p := ⟨b, o + k * 11 + jj, none⟩) (Nat.lt_of_lt_of_le hbk hb.size)).trans (hc jj hjj))
        have HF := Lib.hid hf
        have HB := Lib.hid hb
        have HR := Lib.hid hR
        have HA := Lib.hid hA
        have HSJ := Lib.hid hsj
        have j0 : (0 : Int) ≤ (j : Int) := by omega
        have j1 : (j : Int) < (R.length : Int) := by omega
        have j2 : decide ((j : Int) < 0) = false := by simp
        have j3 : ¬ (R.length ≤ j) := by omega
        have j4 : j < R.length := hj
        have HRJ := Lib.hid (show R[j]? = some R[j] by simp [hj])
        generalize R[j] = fj at HSJ HRJ
        clear hT hmem hfl hc hok hf hb hR hA hij hsj hj hbk
        go_upto_region 8 with (first
          | (refine wpList_loadA _ rfl 31 rfl Try.isAgg31 Try.sizeOf31 rfl (by with_reducible assumption) ?_)
          | (go_at_call 15
             refine (HIN.out _ _ HF.out).mono ?_
             rintro e w1 ⟨⟨a1, c1, rfl, hn1⟩, hb1⟩
             have HB1 := Lib.hid hb1
             have HN1 := Lib.hid hn1
             clear hn1 hb1))
        obtain ⟨b9, o9, hv9, hc9, rfl, hx9⟩ := frm_at HN1.out.sl' (i := j) (f := fj) (n := fj.length) HRJ.out rfl
        have HX9 := Lib.hid hx9
        have HC9 := Lib.hid (show ∀ w', Below w1.heap.size w1 w' → w'.cell? ⟨b9, o9 + j, none⟩ = some (.slice hv9 fj.length hc9) from fun w' hw => (hx9 w' hw).1)
        have LD2 := Lib.hid (show ∀ w', Below w1.heap.size w1 w' → Sem.run Try.prog (loadCellsFrom ⟨b, o + k * 11, none⟩ 0 11 #[]) w' = .ok A w' from fun w' hw => LD.out w' (bl_trans HB1.out hw))
        obtain ⟨cn, hcn⟩ : ∃ c, cntS fj s = c := ⟨_, rfl⟩
        have hcp : 0 < cn := by rw [← hcn]; exact cntS_pos HSJ.out
        have HCN := Lib.hid (fun (v : Value) (w : World) (h : SlIs tSeen (· < w.heap.size) w v fj) => count_any fj s v w h)
        rw [HA.out, hcn] at HCN
        have hcz : ¬ (cn = 0) := by omega
        clear hx9 hcn hcp HF HIN LD j4
        refine wp_region_E 19 (fun w' => Below w1.heap.size w1 w') (by kernel_rfl) ((by (repeat (first | (with_reducible exact Below.refl _ _) | (with_reducible exact HW.out) | (with_reducible apply bl_drewN) | (with_reducible apply bl_alloc) | (with_reducible apply Below.drew))); done)) (fun hHeld => ?_)
        refine wpE_take (i := 0) (v := ?_) rfl (by kernel_rfl) (fun _ _ _ h => h) (Or.inl ⟨by kernel_rfl, ?_⟩) (by assumption) ?_
        rotate_left
        focus (intro w9 hS9; (try dsimp only at hS9); go_simp; (try with_reducible rfl))
        (try simp only [Act.put])
        (try simp only [List.setIfInBounds_toArray])
        (repeat (first | simp only [List.set_cons_succ] | simp only [List.set_cons_zero]))
        refine wpE_take (i := 1) (v := ?_) rfl (by kernel_rfl) (fun _ _ _ h => h) (Or.inl ⟨by kernel_rfl, ?_⟩) (by assumption) ?_
        rotate_left
        focus (intro w9 hS9; (try dsimp only at hS9); go_simp; (try with_reducible rfl))
        (try simp only [Act.put])
        (try simp only [List.setIfInBounds_toArray])
        (repeat (first | simp only [List.set_cons_succ] | simp only [List.set_cons_zero]))
        refine wpE_take (i := 2) (v := ?_) rfl (by kernel_rfl) (fun _ _ _ h => h) (Or.inl ⟨by kernel_rfl, ?_⟩) (by assumption) ?_
        rotate_left
        focus (intro w9 hS9; (try dsimp only at hS9); go_simp; (try with_reducible rfl))
        (try simp only [Act.put])
        (try simp only [List.setIfInBounds_toArray])
        (repeat (first | simp only [List.set_cons_succ] | simp only [List.set_cons_zero]))
        refine wpE_take (i := 3) (v := ?_) rfl (by kernel_rfl) (fun _ _ _ h => h) (Or.inl ⟨by kernel_rfl, ?_⟩) (by assumption) ?_
        rotate_left
        focus (intro w9 hS9; (try dsimp only at hS9); go_simp; (try with_reducible rfl))
        (try simp only [Act.put])
        (try simp only [List.setIfInBounds_toArray])
        (repeat (first | simp only [List.set_cons_succ] | simp only [List.set_cons_zero]))
        refine wpE_take (i := 4) (v := ?_) rfl (by kernel_rfl) (fun _ _ _ h => h) (Or.inl ⟨by kernel_rfl, ?_⟩) (by assumption) ?_
        rotate_left
        focus (intro w9 hS9; (try dsimp only at hS9); go_simp; (try with_reducible rfl))
        (try simp only [Act.put])
        (try simp only [List.setIfInBounds_toArray])
        (repeat (first | simp only [List.set_cons_succ] | simp only [List.set_cons_zero]))
        refine wpE_take (i := 5) (v := ?_) rfl (by kernel_rfl) (fun _ _ _ h => h) (Or.inl ⟨by kernel_rfl, ?_⟩) (by assumption) ?_
        rotate_left
        focus (intro w9 hS9; (try dsimp only at hS9); go_simp; (try with_reducible rfl))
        (try simp only [Act.put])
        (try simp only [List.setIfInBounds_toArray])
        (repeat (first | simp only [List.set_cons_succ] | simp only [List.set_cons_zero]))
        refine wpE_take (i := 6) (v := ?_) rfl (by kernel_rfl) (fun _ _ _ h => h) (Or.inl ⟨by kernel_rfl, ?_⟩) (by assumption) ?_
        rotate_left
        focus (intro w9 hS9; (try dsimp only at hS9); go_simp; (try with_reducible rfl))
        (try simp only [Act.put])
        (try simp only [List.setIfInBounds_toArray])
        (repeat (first | simp only [List.set_cons_succ] | simp only [List.set_cons_zero]))
        refine wpE_take (i := 7) (v := ?_) rfl (by kernel_rfl) (fun _ _ _ h => h) (Or.inl ⟨by kernel_rfl, ?_⟩) (by assumption) ?_
        rotate_left
        focus (intro w9 hS9; (try dsimp only at hS9); go_simp; (try with_reducible rfl))
        (try simp only [Act.put])
        (try simp only [List.setIfInBounds_toArray])
        (repeat (first | simp only [List.set_cons_succ] | simp only [List.set_cons_zero]))
        refine wpE_take (i := 8) (v := ?_) rfl (by kernel_rfl) (fun _ _ _ h => h) (Or.inl ⟨by kernel_rfl, ?_⟩) (by assumption) ?_
        rotate_left
        focus (intro w9 hS9; (try dsimp only at hS9); go_simp; (try with_reducible rfl))
        (try simp only [Act.put])
        (try simp only [List.setIfInBounds_toArray])
        (repeat (first | simp only [List.set_cons_succ] | simp only [List.set_cons_zero]))
        refine wpE_take (i := 9) (v := ?_) rfl (by kernel_rfl) (fun _ _ _ h => h) (Or.inl ⟨by kernel_rfl, ?_⟩) (by assumption) ?_
        rotate_left
        focus (intro w9 hS9; (try dsimp only at hS9); go_simp; (try with_reducible rfl))
        (try simp only [Act.put])
        (try simp only [List.setIfInBounds_toArray])
        (repeat (first | simp only [List.set_cons_succ] | simp only [List.set_cons_zero]))
        refine wpE_take (i := 10) (v := ?_) rfl (by kernel_rfl) (fun _ _ _ h => h) (Or.inl ⟨by kernel_rfl, ?_⟩) (by assumption) ?_
        rotate_left
        focus (intro w9 hS9; (try dsimp only at hS9); go_simp; (try with_reducible rfl))
        (try simp only [Act.put])
        (try simp only [List.setIfInBounds_toArray])
        (repeat (first | simp only [List.set_cons_succ] | simp only [List.set_cons_zero]))
        refine wpE_take (i := 11) (v := ?_) rfl (by kernel_rfl) (fun _ _ _ h => h) (Or.inl ⟨by kernel_rfl, ?_⟩) (by assumption) ?_
        rotate_left
        focus (intro w9 hS9; (try dsimp only at hS9); go_simp; (try with_reducible rfl))
        (try simp only [Act.put])
        (try simp only [List.setIfInBounds_toArray])
        (repeat (first | simp only [List.set_cons_succ] | simp only [List.set_cons_zero]))
        refine wpE_take (i := 12) (v := ?_) rfl (by kernel_rfl) (fun _ _ _ h => h) (Or.inl ⟨by kernel_rfl, ?_⟩) (by assumption) ?_
        rotate_left
        focus (intro w9 hS9; have z0 := HC9.out w9 hS9; clear hS9; go_simp; (try with_reducible rfl))
        (try simp only [Act.put])
        (try simp only [List.setIfInBounds_toArray])
        (repeat (first | simp only [List.set_cons_succ] | simp only [List.set_cons_zero]))
        refine wpE_take (i := 13) (v := ?_) rfl (by kernel_rfl) (fun _ _ _ h => h) (Or.inl ⟨by kernel_rfl, ?_⟩) (by assumption) ?_
        rotate_left
        focus (intro w9 hS9; (try dsimp only at hS9); go_simp; (try with_reducible rfl))
        (try simp only [Act.put])
        (try simp only [List.setIfInBounds_toArray])
        (repeat (first | simp only [List.set_cons_succ] | simp only [List.set_cons_zero]))
        refine wpE_take (i := 14) (v := ?_) rfl (by kernel_rfl) (fun _ _ _ h => h) (Or.inl ⟨by kernel_rfl, ?_⟩) (by assumption) ?_
        rotate_left
        focus (intro w9 hS9; (try dsimp only at hS9); go_simp; (try with_reducible rfl))
        (try simp only [Act.put])
        (try simp only [List.setIfInBounds_toArray])
        (repeat (first | simp only [List.set_cons_succ] | simp only [List.set_cons_zero]))
        refine wpE_take (i := 15) (v := ?_) rfl (by kernel_rfl) (fun _ _ _ h => h) (Or.inl ⟨by kernel_rfl, ?_⟩) (by assumption) ?_
        rotate_left
        focus (intro w9 hS9; (try dsimp only at hS9); go_simp; (try with_reducible rfl))
        (try simp only [Act.put])
        (try simp only [List.setIfInBounds_toArray])
        (repeat (first | simp only [List.set_cons_succ] | simp only [List.set_cons_zero]))
        refine wpE_take (i := 16) (v := ?_) rfl (by kernel_rfl) (fun _ _ _ h => h) (Or.inl ⟨by kernel_rfl, ?_⟩) (by assumption) ?_
        rotate_left
        focus (intro w9 hS9; refine exec_loadA (t := 31) (x := Operand.tmp 43) (p := ⟨b, o + k * 11, none⟩) (A := A) ?_ Try.isAgg31 Try.sizeOf31 ?_ (LD2.out w9 hS9); rfl; go_simp; (try rfl))
        (try simp only [Act.put])
        (try simp only [List.setIfInBounds_toArray])
        (repeat (first | simp only [List.set_cons_succ] | simp only [List.set_cons_zero]))
        refine wpE_ready (rs := [17]) (by kernel_rfl) (by kernel_rfl) ?_
        refine AllReadyE.cons rfl (fun K hK => ?_) AllReadyE.nil
        rw [if_pos (show _ = true by kernel_rfl)]
        go_simp
        go_wp2_with (go_at_call 18
                     refine (HCN.out _ _ (HX9.out _ (by (repeat (first | (with_reducible exact Below.refl _ _) | (with_reducible exact HW.out) | (with_reducible apply bl_drewN) | (with_reducible apply bl_alloc) | (with_reducible apply Below.drew))); done)).2).mono ?_
                     rintro e w2 ⟨rfl, hg2⟩
                     have HW := Lib.hid (show Below w1.heap.size w1 w2 from by (refine bl_trans ?_ hg2.below; exact (by (repeat (first | (with_reducible exact Below.refl _ _) | (with_reducible exact HW.out) | (with_reducible apply bl_drewN) | (with_reducible apply bl_alloc) | (with_reducible apply Below.drew))); done)))
                     clear hg2)
        clear hHeld
        refine hK.out _ _ (HW.out) (fun hHeld => ?_)
        clear hK K
        refine wpE_take (i := 18) (v := ?_) rfl (by kernel_rfl) (fun _ _ _ h => h) (Or.inl ⟨by kernel_rfl, ?_⟩) (by assumption) ?_
        rotate_left
        focus (intro w9 hS9; (try dsimp only at hS9); go_simp; (try with_reducible rfl))
        (try simp only [Act.put])
        (try simp only [List.setIfInBounds_toArray])
        (repeat (first | simp only [List.set_cons_succ] | simp only [List.set_cons_zero]))
        clear hHeld
        refine wpE_out (by kernel_rfl) ?_
        refine wpAny_ready (rs := [19]) (by kernel_rfl) (by simp) ?_
        refine AllReady.cons rfl (fun K hK => ?_) AllReady.nil
        rw [if_pos (show _ = true by kernel_rfl)]
        go_simp
        refine hK _ _ ?_
        clear hK K
        refine wpAny_done (by kernel_rfl) ?_ _
        go_wp2_with (fail)
        go_roundg (l.length - (k + 1))
        case measure => omega
        case rel => exact ⟨k + 1, by omega, by go_num, by rw [← HR.out]; exact SlIs.step HN1.out.sl' HW.out, HB.out.trans ((bl_trans HB1.out HW.out).mono HB.out.size)⟩
      · obtain rfl : k = l.length := by omega
        have hkl : ¬ (l.length : Int) < (l.length : Int) := by omega
        rw [List.take_length] at hf
        obtain ⟨R, hR⟩ : ∃ R, framesC g l = R := ⟨_, rfl⟩
        have HFR := Lib.hid (fun (w : World) (h : SlIs tSeen (· < w.heap.size) w (.slice ao l.length cp) l) => Frames_any l g _ w h (by have := HL40.out; omega) HG.out)
        rw [hR] at hf HFR
        obtain ⟨af, cf, _, _, rfl, -, -, -⟩ := id hf
        have HF := Lib.hid hf
        have HB := Lib.hid hb
        clear hlt hk hf hb hR
        go_wp2_with (first
          | (go_at_call 11
             refine (HFR.out _ (SlIs.step HLL.out HB.out)).mono ?_
             rintro e w1 ⟨⟨v1, rfl, hn1⟩, hb1⟩
             obtain ⟨a1, c1, rfl, -⟩ := hn1.form
             have HB1 := Lib.hid (bl_trans HB.out hb1)
             have HN1 := Lib.hid hn1
             have HF1 := Lib.hid (SlIs.step HF.out hb1)
             clear hn1 hb1)
          | (go_at_call 10
             refine (sameF_any R R _ _ _ HF1.out HN1.out.sl').mono ?_
             rintro e w2 ⟨rfl, hg2⟩
             have HB2 := Lib.hid (bl_trans HB1.out hg2.below)
             have hdt : decide (R = R) = true := by simp
             rw [hdt]
             clear hg2 hdt)
          | (go_at_call 13
             refine (alive_any _).mono ?_
             rintro e w3 ⟨rfl, hb3⟩
             have HB3 := Lib.hid (bl_trans HB2.out hb3)
             clear hb3))
        go_ret
        exact ⟨rfl, HB3.out⟩
set_option maxRecDepth 100000 in
theorem steps_lift (os : Os) (started : os.Started) (H : Type) (enc : TypeId × Value → H) :
    ReturnsInHanded {} Try.checked os 7 .any (Rows.groupStepsSpec.pre6 enc Try.prog Try.f7 Rows.groupStepsRow.domain false) (Rows.groupStepsSpec.post enc Try.prog Try.f7 false true false false) :=
  law_lift (C := Try.checked) (s := Rows.groupStepsSpec) (fn := Try.f7) ⟨rfl, fun H ds h => by
    match ds, h with
    | [a, b], _ => exact ⟨rfl, rfl, rfl⟩⟩ rfl Try.underlying4 (by kernel_rfl) laid0 own0 started (by kernel_rfl) Try.func7
    (ChangeSpec.witness6 (enc := enc) (C := Try.checked) false ⟨#[], #[.slice none 0 0, .int .i64 0], []⟩ 8 (by kernel_rfl) (by kernel_rfl) (by kernel_rfl) (by kernel_rfl)) steps_walk

/-- THE STATEMENT: GroupSteps. -/
theorem steps_holds : Rows.GroupStepsSaid :=
  OpenClaim.holds_of_wide 7 Try.f7 rfl rfl rfl rfl rfl rfl rfl ⟨rfl, rfl, rfl, rfl, rfl⟩ rfl rfl rfl rfl rfl (by kernel_rfl) Try.func7 (by kernel_rfl)
    (of_decide_eq_true (by kernel_rfl)) (by unfold Func.isWrapper; rw [if_neg (of_decide_eq_false (by kernel_rfl))]; exact ⟨rfl, rfl⟩)
    (fun os started H enc _ => steps_lift os started H enc)
end Go.Proofs.Ytffpnbipacgidaa
