/-
  Layer 44 (recon): the walks of the reference's Differ and Agree.
-/
import Derived.Test.YthdbojbblkfhaaaRecoG
import Derived.Test.YthdbojbblkfhaaaRecoA
import Derived.Test.YthdbojbblkfhaaaExcClmR
namespace Go.Proofs.Ythdbojbblkfhaaa
open Go.RowKit Go.Tw Go.Tw.Exc
set_option maxRecDepth 100000 in
set_option maxHeartbeats 8000000 in
theorem differR_any (a b : Par) (a1 a2 a3 b1 b2 b3 : Value) (w : World) (ha : ParOk (· < w.heap.size) w a a1 a2 a3) (hb : ParOk (· < w.heap.size) w b b1 b2 b3) (hsa : Small44 a.ours) (hsb : Small44 b.thr) :
    Calls Try.prog 34 #[.agg #[.string a.nm, .int .i64 a.out, .int .i64 a.inn, a1, a2, a3], .agg #[.string b.nm, .int .i64 b.out, .int .i64 b.inn, b1, b2, b3]] w
      fun e w' => (∃ v', e = .returned v' ∧ OwnSl tDif 65 w.heap.size w' v' (differC a.ours b.thr)) ∧ Below w.heap.size w w' := by
  have HA := Lib.hid ha
  have HB := Lib.hid hb
  obtain ⟨x1, y1, _, _, rfl, -⟩ := id ha.wt
  obtain ⟨x2, y2, _, _, rfl, -⟩ := id ha.ours
  obtain ⟨x3, y3, _, _, rfl, -⟩ := id ha.thr
  obtain ⟨z1, e1, _, _, rfl, -⟩ := id hb.wt
  obtain ⟨z2, e2, _, _, rfl, -⟩ := id hb.ours
  obtain ⟨z3, e3, _, _, rfl, -⟩ := id hb.thr
  have HSA := Lib.hid hsa
  have HSB := Lib.hid hsb
  clear ha hb hsa hsb
  go_enter Try.func34, Try.ntmps34
  go_wp2_with (fail)
  refine (amountsR_any a.ours b.thr _ _ _ (HA.out.ours.step (bl_alloc (bl_alloc (Below.refl _ _) _) _)) (HB.out.thr.step (bl_alloc (bl_alloc (Below.refl _ _) _) _)) HSA.out.1 HSB.out.1).mono ?_
  rintro e w2 ⟨⟨v2, rfl, hk⟩, hb2⟩
  rw [insAll_keys] at hk
  have HK := Lib.hid hk
  have HX0 := Lib.hid (Go.Tw.Below.at_old hb2 (alloc2_0 w _ _))
  have HX1 := Lib.hid (Go.Tw.Below.at_old hb2 (alloc2_1 w _ _))
  have HB2 := Lib.hid (bl_trans (bl_alloc (bl_alloc (Below.refl w.heap.size w) _) _) hb2)
  have hz2 := HB2.out.size
  have o0 : OwnSl tDif 65 w2.heap.size (w2.alloc (.cells #[] 65)) (.slice (some ⟨w2.heap.size, 0, none⟩) 0 0) [] := OwnSl.lit (css := []) rfl trivial (Nat.le_refl _) (by decide)
  have HO0 := Lib.hid o0
  have HLN := Lib.hid (show (keysU a.ours b.thr).length ≤ 2000 by
    have := keysU_len a.ours b.thr
    have := HSA.out.1
    have := HSB.out.1
    omega)
  have HDT := Lib.hid (fun k h => differ_take a.ours b.thr (k := k) h)
  have HDE := Lib.hid (show (keysU a.ours b.thr).filterMap (difOf a.ours b.thr) = differC a.ours b.thr from rfl)
  have HAM1 := Lib.hid (fun s => amount_bound s a.ours HSA.out.2)
  have HAM2 := Lib.hid (fun s => amount_bound s b.thr HSB.out.2)
  obtain ⟨U, hU⟩ : ∃ U, keysU a.ours b.thr = U := ⟨_, rfl⟩
  rw [hU] at HK HLN HDT HDE
  obtain ⟨aU, cU, bU, oU, rfl, hU1, hU2, hoU⟩ := Go.Tw.strs_open HK.out
  unfold maxLen at hU2
  have HOU := Lib.hid hoU
  clear hk hb2 o0 hoU hU HK
  go_wp2_with (fail)
  go_loopg [7, 6] U.length (fun g i v wr => ∃ (k : Nat) (v0 : Value), v0 = v ∧ k + g = U.length ∧ i = .int .i64 k ∧ OwnSl tDif 65 w2.heap.size wr v0 ((U.take k).filterMap (difOf a.ours b.thr)) ∧ Below w2.heap.size w2 wr)
  case atStart => exact ⟨0, _, rfl, by omega, rfl, HO0.out, bl_alloc (Below.refl _ _) _⟩
  case round =>
    clear HO0
    obtain ⟨k, v0, rfl, hk, rfl, hown, hb⟩ := hrel
    have HO := Lib.hid hown
    obtain ⟨ao, co, rfl, ho1, ho2⟩ := hown.form
    unfold maxLen at ho2
    have HB' := Lib.hid hb
    have hsb := hb.size
    clear hown hb
    by_cases hlt : k < U.length
    · obtain ⟨rfl, -, -, -, hss⟩ := HOU.out _ (.of_below HB'.out) k hlt
      obtain ⟨s, hs⟩ : ∃ s, U[k] = s := ⟨_, rfl⟩
      have hUl := HLN.out
      have HT := Lib.hid (HDT.out k hlt)
      rw [hs] at hss HT
      have HKC := Lib.hid (show ∀ w', Below wr.heap.size wr w' → w'.cell? ⟨bU, oU + k, none⟩ = some (.string s) from fun w' hw => by
        obtain ⟨-, -, -, d0, -⟩ := HOU.out w' (.of_below (bl_trans HB'.out hw)) k hlt
        rw [hs] at d0; exact d0)
      have HXA := Lib.hid (box6D (Go.Tw.Below.at_old HB'.out HX0.out))
      have HXB := Lib.hid (box6D (Go.Tw.Below.at_old HB'.out HX1.out))
      have k0 : (0 : Int) ≤ (k : Int) := by omega
      have k1 : (k : Int) < (U.length : Int) := by omega
      have HKG := Lib.hid (show k + 1 + (U.length - (k + 1)) = U.length by omega)
      obtain ⟨c1, hc1⟩ : ∃ c, amountC a.ours s = c := ⟨_, rfl⟩
      obtain ⟨c2, hc2⟩ : ∃ c, amountC b.thr s = c := ⟨_, rfl⟩
      have HWF := Lib.hid (show i64ok c1 ∧ i64ok c2 from by
        have q1 := HAM1.out s
        have q2 := HAM2.out s
        have q3 := HSA.out.1
        have q4 := HSB.out.1
        rw [hc1] at q1
        rw [hc2] at q2
        unfold i64ok
        constructor <;> constructor <;> omega)
      have HDO := Lib.hid (show difOf a.ours b.thr s = if c1 = c2 then none else some ⟨s, c1, c2⟩ by unfold difOf; rw [hc1, hc2])
      have HC1 := Lib.hid (show ∀ w', Below wr.heap.size wr w' → Calls Try.prog 65 #[.slice x2 a.ours.length y2, .string s] w' fun e w'' => e = .returned (.int .i64 c1) ∧ w' = w'' from fun w' hw => by
        rw [← hc1]; exact amount_any a.ours s _ w' (HA.out.ours.step (bl_trans (bl_trans HB2.out HB'.out) hw)) HSA.out.1 HSA.out.2)
      have HC2 := Lib.hid (show ∀ w', Below wr.heap.size wr w' → Calls Try.prog 65 #[.slice z3 b.thr.length e3, .string s] w' fun e w'' => e = .returned (.int .i64 c2) ∧ w' = w'' from fun w' hw => by
        rw [← hc2]; exact amount_any b.thr s _ w' (HB.out.thr.step (bl_trans (bl_trans HB2.out HB'.out) hw)) HSB.out.1 HSB.out.2)
      have HSS := Lib.hid hss
      have hol : ((U.take k).filterMap (difOf a.ours b.thr)).length ≤ 2000 := by
        have q1 := List.length_filterMap_le (difOf a.ours b.thr) (U.take k)
        rw [List.length_take] at q1
        omega
      obtain ⟨l, hl⟩ : ∃ l, (U.take k).filterMap (difOf a.ours b.thr) = l := ⟨_, rfl⟩
      rw [hl] at HO HT hol ho1 ⊢
      have HW := Lib.hid (Below.refl wr.heap.size wr)
      clear hs hc1 hc2 hss hl
      go_upto_region 6 with (fail)
      go_cut [8, 9] (fun v8 v9 wx => v8 = .int .i64 c1 ∧ v9 = .int .i64 c2 ∧ Below wr.heap.size wr wx)
      case first =>
        refine wp_region_E 14 (fun w' => Below wr.heap.size wr w') (by kernel_rfl) ((by (repeat (first | (with_reducible exact Below.refl _ _) | (with_reducible exact HW.out) | (with_reducible apply bl_drewN) | (with_reducible apply bl_alloc) | (with_reducible apply Below.drew))); done)) (fun hHeld => ?_)
        refine wpE_take (i := 0) (v := ?_) rfl (by kernel_rfl) (fun _ _ _ h => h) (Or.inl ⟨by kernel_rfl, ?_⟩) (by assumption) ?_
        rotate_left
        focus (intro w9 hS9; (try dsimp only at hS9); go_simp; (try with_reducible rfl))
        (try simp only [Act.put])
        (try simp only [List.setIfInBounds_toArray])
        (repeat (first | simp only [List.set_cons_succ] | simp only [List.set_cons_zero]))
        refine wpE_take (i := 1) (v := ?_) rfl (by kernel_rfl) (fun _ _ _ h => h) (Or.inl ⟨by kernel_rfl, ?_⟩) (by assumption) ?_
        rotate_left
        focus (intro w9 hS9; obtain ⟨z0, z1, z2, z3, z4, z5⟩ := HXA.out w9 hS9; clear hS9; go_simp; (try with_reducible rfl))
        (try simp only [Act.put])
        (try simp only [List.setIfInBounds_toArray])
        (repeat (first | simp only [List.set_cons_succ] | simp only [List.set_cons_zero]))
        refine wpE_take (i := 2) (v := ?_) rfl (by kernel_rfl) (fun _ _ _ h => h) (Or.inl ⟨by kernel_rfl, ?_⟩) (by assumption) ?_
        rotate_left
        focus (intro w9 hS9; (try dsimp only at hS9); go_simp; (try with_reducible rfl))
        (try simp only [Act.put])
        (try simp only [List.setIfInBounds_toArray])
        (repeat (first | simp only [List.set_cons_succ] | simp only [List.set_cons_zero]))
        refine wpE_take (i := 3) (v := ?_) rfl (by kernel_rfl) (fun _ _ _ h => h) (Or.inl ⟨by kernel_rfl, ?_⟩) (by assumption) ?_
        rotate_left
        focus (intro w9 hS9; (try dsimp only at hS9); go_simp; (try with_reducible rfl))
        (try simp only [Act.put])
        (try simp only [List.setIfInBounds_toArray])
        (repeat (first | simp only [List.set_cons_succ] | simp only [List.set_cons_zero]))
        refine wpE_take (i := 4) (v := ?_) rfl (by kernel_rfl) (fun _ _ _ h => h) (Or.inl ⟨by kernel_rfl, ?_⟩) (by assumption) ?_
        rotate_left
        focus (intro w9 hS9; (try dsimp only at hS9); go_simp; (try with_reducible rfl))
        (try simp only [Act.put])
        (try simp only [List.setIfInBounds_toArray])
        (repeat (first | simp only [List.set_cons_succ] | simp only [List.set_cons_zero]))
        refine wpE_take (i := 5) (v := ?_) rfl (by kernel_rfl) (fun _ _ _ h => h) (Or.inl ⟨by kernel_rfl, ?_⟩) (by assumption) ?_
        rotate_left
        focus (intro w9 hS9; have z0 := HKC.out w9 hS9; clear hS9; go_simp; (try with_reducible rfl))
        (try simp only [Act.put])
        (try simp only [List.setIfInBounds_toArray])
        (repeat (first | simp only [List.set_cons_succ] | simp only [List.set_cons_zero]))
        refine wpE_take (i := 7) (v := ?_) rfl (by kernel_rfl) (fun _ _ _ h => h) (Or.inl ⟨by kernel_rfl, ?_⟩) (by assumption) ?_
        rotate_left
        focus (intro w9 hS9; (try dsimp only at hS9); go_simp; (try with_reducible rfl))
        (try simp only [Act.put])
        (try simp only [List.setIfInBounds_toArray])
        (repeat (first | simp only [List.set_cons_succ] | simp only [List.set_cons_zero]))
        refine wpE_take (i := 8) (v := ?_) rfl (by kernel_rfl) (fun _ _ _ h => h) (Or.inl ⟨by kernel_rfl, ?_⟩) (by assumption) ?_
        rotate_left
        focus (intro w9 hS9; obtain ⟨z0, z1, z2, z3, z4, z5⟩ := HXB.out w9 hS9; clear hS9; go_simp; (try with_reducible rfl))
        (try simp only [Act.put])
        (try simp only [List.setIfInBounds_toArray])
        (repeat (first | simp only [List.set_cons_succ] | simp only [List.set_cons_zero]))
        refine wpE_take (i := 9) (v := ?_) rfl (by kernel_rfl) (fun _ _ _ h => h) (Or.inl ⟨by kernel_rfl, ?_⟩) (by assumption) ?_
        rotate_left
        focus (intro w9 hS9; (try dsimp only at hS9); go_simp; (try with_reducible rfl))
        (try simp only [Act.put])
        (try simp only [List.setIfInBounds_toArray])
        (repeat (first | simp only [List.set_cons_succ] | simp only [List.set_cons_zero]))
        refine wpE_take (i := 10) (v := ?_) rfl (by kernel_rfl) (fun _ _ _ h => h) (Or.inl ⟨by kernel_rfl, ?_⟩) (by assumption) ?_
        rotate_left
        focus (intro w9 hS9; (try dsimp only at hS9); go_simp; (try with_reducible rfl))
        (try simp only [Act.put])
        (try simp only [List.setIfInBounds_toArray])
        (repeat (first | simp only [List.set_cons_succ] | simp only [List.set_cons_zero]))
        refine wpE_take (i := 11) (v := ?_) rfl (by kernel_rfl) (fun _ _ _ h => h) (Or.inl ⟨by kernel_rfl, ?_⟩) (by assumption) ?_
        rotate_left
        focus (intro w9 hS9; (try dsimp only at hS9); go_simp; (try with_reducible rfl))
        (try simp only [Act.put])
        (try simp only [List.setIfInBounds_toArray])
        (repeat (first | simp only [List.set_cons_succ] | simp only [List.set_cons_zero]))
        refine wpE_take (i := 12) (v := ?_) rfl (by kernel_rfl) (fun _ _ _ h => h) (Or.inl ⟨by kernel_rfl, ?_⟩) (by assumption) ?_
        rotate_left
        focus (intro w9 hS9; have z0 := HKC.out w9 hS9; clear hS9; go_simp; (try with_reducible rfl))
        (try simp only [Act.put])
        (try simp only [List.setIfInBounds_toArray])
        (repeat (first | simp only [List.set_cons_succ] | simp only [List.set_cons_zero]))
        refine wpE_ready (rs := [6]) (by kernel_rfl) (by kernel_rfl) ?_
        refine AllReadyE.cons rfl (fun K hK => ?_) AllReadyE.nil
        rw [if_pos (show _ = true by kernel_rfl)]
        go_simp
        go_wp2_with (
          go_at_call 65
          refine (HC1.out _ (by (repeat (first | (with_reducible exact Below.refl _ _) | (with_reducible exact HW.out) | (with_reducible apply bl_drewN) | (with_reducible apply bl_alloc) | (with_reducible apply Below.drew))); done)).mono ?_
          rintro e w5 ⟨rfl, rfl⟩)
        clear hHeld
        refine hK.out _ _ ((by (repeat (first | (with_reducible exact Below.refl _ _) | (with_reducible exact HW.out) | (with_reducible apply bl_drewN) | (with_reducible apply bl_alloc) | (with_reducible apply Below.drew))); done)) (fun hHeld => ?_)
        clear hK K
        refine wpE_ready (rs := [13]) (by kernel_rfl) (by kernel_rfl) ?_
        refine AllReadyE.cons rfl (fun K hK => ?_) AllReadyE.nil
        rw [if_pos (show _ = true by kernel_rfl)]
        go_simp
        go_wp2_with (
          go_at_call 65
          refine (HC2.out _ (by (repeat (first | (with_reducible exact Below.refl _ _) | (with_reducible exact HW.out) | (with_reducible apply bl_drewN) | (with_reducible apply bl_alloc) | (with_reducible apply Below.drew))); done)).mono ?_
          rintro e w5 ⟨rfl, rfl⟩)
        clear hHeld
        refine hK.out _ _ ((by (repeat (first | (with_reducible exact Below.refl _ _) | (with_reducible exact HW.out) | (with_reducible apply bl_drewN) | (with_reducible apply bl_alloc) | (with_reducible apply Below.drew))); done)) (fun hHeld => ?_)
        clear hK K
        clear hHeld
        refine wpE_out (by kernel_rfl) ?_
        refine wpAny_ready (rs := [14]) (by kernel_rfl) (by simp) ?_
        refine AllReady.cons rfl (fun K hK => ?_) AllReady.nil
        rw [if_pos (show _ = true by kernel_rfl)]
        go_simp
        refine hK _ _ ?_
        clear hK K
        refine wpAny_ready (rs := [15]) (by kernel_rfl) (by simp) ?_
        refine AllReady.cons rfl (fun K hK => ?_) AllReady.nil
        rw [if_pos (show _ = true by kernel_rfl)]
        go_simp
        refine hK _ _ ?_
        clear hK K
        refine wpAny_done (by kernel_rfl) ?_ _
        go_wp2_with (fail)
        go_meet
        exact ⟨rfl, rfl, (by (repeat (first | (with_reducible exact Below.refl _ _) | (with_reducible exact HW.out) | (with_reducible apply bl_drewN) | (with_reducible apply bl_alloc) | (with_reducible apply Below.drew))); done)⟩
      case rest =>
        obtain ⟨rfl, rfl, hwx⟩ := hcut
        have HWX := Lib.hid hwx
        have HB9 := Lib.hid (bl_trans HB'.out hwx)
        have HO9 := Lib.hid (HO.out.below hwx)
        have hs9 := HB9.out.size
        have d0 := HKC.out wc hwx
        clear hwx HW
        by_cases hcc : c1 = c2
        · have hne : (c1 != c2) = false := by simpa using hcc
          have HN := Lib.hid (show (U.take (k + 1)).filterMap (difOf a.ours b.thr) = l by rw [HT.out, HDO.out, if_pos hcc]; simp)
          clear hcc
          go_wp2_with (fail)
          go_roundg (U.length - (k + 1))
          case measure => omega
          case rel => exact ⟨k + 1, _, rfl, HKG.out, by go_num, by rw [HN.out]; exact HO9.out, HB9.out⟩
        · have hne : (c1 != c2) = true := by simpa using hcc
          have HN := Lib.hid (show (U.take (k + 1)).filterMap (difOf a.ours b.thr) = l ++ [⟨s, c1, c2⟩] by rw [HT.out, HDO.out, if_neg hcc]; rfl)
          clear hcc
          go_wp2_with (
            at_builtin
            refine wpList_append_one (.tmp 39) (.tmp 47) rfl 62 rfl slDif rfl HO9.out rfl (S := fun _ => False) (y := ⟨s, c1, c2⟩) (tDif_mk (r := ⟨s, c1, c2⟩) ⟨HSS.out, HWF.out.1, HWF.out.2⟩) (fun _ h => h.elim) (by omega) (by unfold maxLen; omega) hs9 ?_
            intro v3 w9 ho9 hg9 hb9)
          go_roundg (U.length - (k + 1))
          case measure => omega
          case rel => exact ⟨k + 1, _, rfl, HKG.out, by go_num, by rw [HN.out]; exact ho9, HB9.out.trans hb9⟩
    · obtain rfl : k = U.length := by omega
      have hkd : decide ((U.length : Int) < (U.length : Int)) = false := by simp
      have HR := Lib.hid (show OwnSl tDif 65 w.heap.size wr (.slice ao ((U.take U.length).filterMap (difOf a.ours b.thr)).length co) (differC a.ours b.thr) from by
        have := HO.out
        rw [List.take_length, HDE.out] at this ⊢
        exact own_low this hz2)
      clear hk hlt
      go_wp2_with (fail)
      go_ret
      exact ⟨⟨_, rfl, HR.out⟩, bl_trans HB2.out HB'.out⟩
end Go.Proofs.Ythdbojbblkfhaaa
