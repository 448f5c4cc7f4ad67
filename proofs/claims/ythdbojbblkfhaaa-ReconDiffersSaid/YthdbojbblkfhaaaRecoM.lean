/-
  Layer 44 (recon): the law ReconDiffers.
-/
import Derived.Test.YthdbojbblkfhaaaRecoL
import Derived.Test.YthdbojbblkfhaaaRecoI
namespace Go.Proofs.Ythdbojbblkfhaaa
open Go.RowKit Go.Tw Go.Tw.Exc Go.ChangeShapes Go.WideShapes
/-- the law's two boxes -/
structure TB (W : World) (a b : Par) (a1 a2 a3 b1 b2 b3 : Value) (w : World) : Prop where
  bel : Below W.heap.size W w
  pa : w.heap[W.heap.size]? = some (.cells #[.string a.nm, .int .i64 a.out, .int .i64 a.inn, a1, a2, a3] 25 (0, 0))
  pb : w.heap[W.heap.size + 1]? = some (.cells #[.string b.nm, .int .i64 b.out, .int .i64 b.inn, b1, b2, b3] 25 (0, 0))
theorem TB.step {W : World} {a b : Par} {a1 a2 a3 b1 b2 b3 : Value} {w w' : World} (h : TB W a b a1 a2 a3 b1 b2 b3 w) (hb : Below w.heap.size w w') : TB W a b a1 a2 a3 b1 b2 b3 w' :=
  ⟨bl_trans h.bel hb, Go.Tw.Below.at_old hb h.pa, Go.Tw.Below.at_old hb h.pb⟩
set_option maxRecDepth 100000 in
set_option maxHeartbeats 8000000 in
theorem differs_walk : LawWalk Try.prog 9 Try.f9 := by
  intro H enc W base args ds ps hval hA hsz
  rw [Try.params9] at hA hval
  obtain ⟨v0, v1, d0, d1, p0, p1, rfl, rfl, rfl, h0, h1⟩ := trodAll_two hA
  obtain ⟨a, vw, vo, vt, rfl, ha⟩ := arg_par (hval 0 _ _ rfl rfl) h0
  obtain ⟨b, ww, wo, wt, rfl, hb⟩ := arg_par (hval 1 _ _ rfl rfl) h1
  clear hA hval h0 h1 hsz
  have HA := Lib.hid ha
  have HB := Lib.hid hb
  obtain ⟨x1, y1, _, _, rfl, -⟩ := id ha.wt
  obtain ⟨x2, y2, _, _, rfl, -⟩ := id ha.ours
  obtain ⟨x3, y3, _, _, rfl, -⟩ := id ha.thr
  obtain ⟨z1, e1, _, _, rfl, -⟩ := id hb.wt
  obtain ⟨z2, e2, _, _, rfl, -⟩ := id hb.ours
  obtain ⟨z3, e3, _, _, rfl, -⟩ := id hb.thr
  clear ha hb
  go_enter Try.func9, Try.ntmps9
  go_wp2_with (fail)
  refine (small44_any a _ _ _ _ (HA.out.step (bl_alloc (bl_alloc (Below.refl _ _) _) _))).mono ?_
  rintro e w1 ⟨⟨g1, rfl, hs1⟩, hb⟩
  have HT := Lib.hid (show TB W a b (.slice x1 a.wt.length y1) (.slice x2 a.ours.length y2) (.slice x3 a.thr.length y3) (.slice z1 b.wt.length e1) (.slice z2 b.ours.length e2) (.slice z3 b.thr.length e3) w1 from
    ⟨bl_trans (bl_alloc (bl_alloc (Below.refl _ _) _) _) hb, Go.Tw.Below.at_old hb (alloc2_0 W _ _), Go.Tw.Below.at_old hb (alloc2_1 W _ _)⟩)
  clear hb
  obtain ⟨c0, c1, c2, c3, c4, c5, cf⟩ := blk6' HT.out.pa
  obtain ⟨d0, d1, d2, d3, d4, d5, df⟩ := blk6' HT.out.pb
  cases g1
  case false =>
    go_wp2_with (fail)
    refine (awake44_any _).mono ?_
    rintro e wz ⟨rfl, hbz⟩
    have HZ := Lib.hid (bl_trans HT.out.bel hbz)
    clear hbz
    go_wp2_with (fail)
    go_ret
    exact ⟨rfl, HZ.out⟩
  have HS1 := Lib.hid (hs1 rfl)
  clear hs1
  go_wp2_with (fail)
  refine (small44_any b _ _ _ _ (HB.out.step HT.out.bel)).mono ?_
  rintro e w2 ⟨⟨g2, rfl, hs2⟩, hb⟩
  have HT' := Lib.hid (HT.out.step hb)
  clear c0 c1 c2 c3 c4 c5 cf d0 d1 d2 d3 d4 d5 df
  clear HT hb
  have HT := HT'
  clear HT'
  obtain ⟨c0, c1, c2, c3, c4, c5, cf⟩ := blk6' HT.out.pa
  obtain ⟨d0, d1, d2, d3, d4, d5, df⟩ := blk6' HT.out.pb
  cases g2
  case false =>
    go_wp2_with (fail)
    refine (awake44_any _).mono ?_
    rintro e wz ⟨rfl, hbz⟩
    have HZ := Lib.hid (bl_trans HT.out.bel hbz)
    clear hbz
    go_wp2_with (fail)
    go_ret
    exact ⟨rfl, HZ.out⟩
  have HS2 := Lib.hid (hs2 rfl)
  clear hs2
  go_wp2_with (fail)
  refine (differ_any a b _ _ _ _ _ _ w2 (HA.out.step HT.out.bel) (HB.out.step HT.out.bel) HS1.out.1 HS2.out.2).mono ?_
  rintro e w3 ⟨⟨v3, rfl, ho3⟩, hb⟩
  have HO3 := Lib.hid ho3
  have HT' := Lib.hid (HT.out.step hb)
  clear c0 c1 c2 c3 c4 c5 cf d0 d1 d2 d3 d4 d5 df
  clear HT hb
  have HT := HT'
  clear HT'
  obtain ⟨c0, c1, c2, c3, c4, c5, cf⟩ := blk6' HT.out.pa
  obtain ⟨d0, d1, d2, d3, d4, d5, df⟩ := blk6' HT.out.pb
  clear ho3
  obtain ⟨al, cl, rfl, -, -⟩ := HO3.out.form
  go_wp2_with (fail)
  refine (differR_any a b _ _ _ _ _ _ w3 (HA.out.step HT.out.bel) (HB.out.step HT.out.bel) HS1.out.1 HS2.out.2).mono ?_
  rintro e w4 ⟨⟨v4, rfl, ho4⟩, hb⟩
  have HO4 := Lib.hid ho4
  have HO34 := Lib.hid (HO3.out.below hb)
  have HT' := Lib.hid (HT.out.step hb)
  clear c0 c1 c2 c3 c4 c5 cf d0 d1 d2 d3 d4 d5 df
  clear HT hb
  have HT := HT'
  clear HT'
  obtain ⟨c0, c1, c2, c3, c4, c5, cf⟩ := blk6' HT.out.pa
  obtain ⟨d0, d1, d2, d3, d4, d5, df⟩ := blk6' HT.out.pb
  clear ho4 HO3
  obtain ⟨ar, cr, rfl, -, -⟩ := HO4.out.form
  have HLN := Lib.hid (show (differC a.ours b.thr).length ≤ 2000 by
    have q1 := List.length_filterMap_le (difOf a.ours b.thr) (keysU a.ours b.thr)
    have q2 := keysU_len a.ours b.thr
    have q3 := HS1.out.1.1
    have q4 := HS2.out.2.1
    exact Nat.le_trans q1 (by omega))
  obtain ⟨D, hD⟩ : ∃ D, differC a.ours b.thr = D := ⟨_, rfl⟩
  rw [hD] at HO4 HO34 HLN ⊢
  obtain ⟨aX, cX, bX, oX, qX, hX1, hX2, hoX⟩ := dif_open HO34.out.sl
  simp only [Value.slice.injEq, true_and] at qX
  obtain ⟨rfl, rfl⟩ := qX
  obtain ⟨aY, cY, bY, oY, qY, hY1, hY2, hoY⟩ := dif_open HO4.out.sl
  simp only [Value.slice.injEq, true_and] at qY
  obtain ⟨rfl, rfl⟩ := qY
  have HOX := Lib.hid hoX
  have HOY := Lib.hid hoY
  unfold maxLen at hX2 hY2
  have hDl := HLN.out
  clear c0 c1 c2 c3 c4 c5 cf d0 d1 d2 d3 d4 d5 df
  clear hoX hoY hD
  go_wp2_with (fail)
  go_loopg [7] D.length (fun g i wr => ∃ k : Nat, k + g = D.length ∧ i = .int .i64 k ∧ Below w4.heap.size w4 wr)
  case atStart => exact ⟨0, by omega, rfl, Below.refl _ _⟩
  case round =>
    obtain ⟨k, hk, rfl, hb⟩ := hrel
    have HBR := Lib.hid hb
    clear hb
    by_cases hlt : k < D.length
    · obtain ⟨rfl, -, -, -, q0, q1, q2⟩ := HOX.out wr (.of_below HBR.out) k hlt
      obtain ⟨rfl, -, -, -, r0, r1, r2⟩ := HOY.out wr (.of_below HBR.out) k hlt
      obtain ⟨d, hd⟩ : ∃ d, D[k] = d := ⟨_, rfl⟩
      rw [hd] at q0 q1 q2 r0 r1 r2
      have k0 : (0 : Int) ≤ (k : Int) := by omega
      have k1 : (k : Int) < (D.length : Int) := by omega
      clear hd
      go_wp2_with (go_quiet (fail))
      go_roundg (D.length - (k + 1))
      case measure => omega
      case rel => exact ⟨k + 1, by omega, by go_num, bl_drewN HBR.out _⟩
    · obtain rfl : k = D.length := by omega
      have hkd : decide ((D.length : Int) < (D.length : Int)) = false := by simp
      have HTR := Lib.hid (HT.out.step HBR.out)
      have HOa := Lib.hid (HO34.out.below HBR.out)
      have HOb := Lib.hid (HO4.out.below HBR.out)
      clear hlt hk HT HO34 HO4 HOX HOY HBR
      go_upto_region 12 with (fail)
      obtain ⟨wb, rfl⟩ : ∃ w : World, w = wr := ⟨_, rfl⟩
      have HXA := Lib.hid (box6D HTR.out.pa)
      have HXB := Lib.hid (box6D HTR.out.pb)
      have HW := Lib.hid (Below.refl wb.heap.size wb)
      obtain ⟨g, hg⟩ : ∃ g, agreeC a b = g := ⟨_, rfl⟩
      have HG1 := Lib.hid (show ∀ W', Below wb.heap.size wb W' → Calls Try.prog 38 #[.agg #[.string a.nm, .int .i64 a.out, .int .i64 a.inn, .slice x1 a.wt.length y1, .slice x2 a.ours.length y2, .slice x3 a.thr.length y3], .agg #[.string b.nm, .int .i64 b.out, .int .i64 b.inn, .slice z1 b.wt.length e1, .slice z2 b.ours.length e2, .slice z3 b.thr.length e3]] W' fun e w' => e = .returned (.bool g) ∧ Below W'.heap.size W' w' from fun W' hW => by
        rw [← hg]
        exact agree_any a b _ _ _ _ _ _ W' (HA.out.step (bl_trans HTR.out.bel hW)) (HB.out.step (bl_trans HTR.out.bel hW)) HS1.out.1 HS2.out.2 HS2.out.1 HS1.out.2)
      have HG2 := Lib.hid (show ∀ W', Below wb.heap.size wb W' → Calls Try.prog 39 #[.agg #[.string a.nm, .int .i64 a.out, .int .i64 a.inn, .slice x1 a.wt.length y1, .slice x2 a.ours.length y2, .slice x3 a.thr.length y3], .agg #[.string b.nm, .int .i64 b.out, .int .i64 b.inn, .slice z1 b.wt.length e1, .slice z2 b.ours.length e2, .slice z3 b.thr.length e3]] W' fun e w' => e = .returned (.bool g) ∧ Below W'.heap.size W' w' from fun W' hW => by
        rw [← hg]
        exact agreeR_any a b _ _ _ _ _ _ W' (HA.out.step (bl_trans HTR.out.bel hW)) (HB.out.step (bl_trans HTR.out.bel hW)) HS1.out.1 HS2.out.2 HS2.out.1 HS1.out.2)
      have HC1 := Lib.hid (show ∀ W', Below wb.heap.size wb W' → Calls Try.prog 36 #[.slice al D.length cl] W' fun e w' => (∃ v', e = .returned v' ∧ OwnSl tRec 51 W'.heap.size w' v' (correctC D)) ∧ Below W'.heap.size W' w' from fun W' hW =>
        correct_any D _ W' (HOa.out.below hW).sl (Nat.le_trans hDl (by decide)))
      have HC2 := Lib.hid (show ∀ W', Below wb.heap.size wb W' → Calls Try.prog 37 #[.slice ar D.length cr] W' fun e w' => (∃ v', e = .returned v' ∧ OwnSl tRec 51 W'.heap.size w' v' (correctC D)) ∧ Below W'.heap.size W' w' from fun W' hW =>
        correctR_any D _ W' (HOb.out.below hW).sl (Nat.le_trans hDl (by decide)))
      obtain ⟨R, hR⟩ : ∃ R, correctC D = R := ⟨_, rfl⟩
      rw [hR] at HC1 HC2
      have HWB := Lib.hid HTR.out.bel
      clear hg hR HTR HOa HOb HA HB HS1 HS2 HLN hX1 hX2 hY1 hY2 hDl hkd
      cases g
      · refine wp_region_E 17 (fun w' => Below wb.heap.size wb w') (by kernel_rfl) ((by (repeat (first | (with_reducible exact Below.refl _ _) | (with_reducible exact HW.out) | (with_reducible apply bl_drewN) | (with_reducible apply bl_alloc) | (with_reducible apply Below.drew))); done)) (fun hHeld => ?_)
        refine wpE_take (i := 0) (v := ?_) rfl (by kernel_rfl) (fun _ _ _ h => h) (Or.inl ⟨by kernel_rfl, ?_⟩) (by assumption) ?_
        rotate_left
        focus (intro w9 hS9; (try dsimp only at hS9); go_simp; (try with_reducible rfl))
        (try simp only [Act.put])
        (try simp only [List.setIfInBounds_toArray])
        (repeat (first | simp only [List.set_cons_succ] | simp only [List.set_cons_zero]))
        refine wpE_take (i := 2) (v := ?_) rfl (by kernel_rfl) (fun _ _ _ h => h) (Or.inl ⟨by kernel_rfl, ?_⟩) (by assumption) ?_
        rotate_left
        focus (intro w9 hS9; (try dsimp only at hS9); go_simp; (try with_reducible rfl))
        (try simp only [Act.put])
        (try simp only [List.setIfInBounds_toArray])
        (repeat (first | simp only [List.set_cons_succ] | simp only [List.set_cons_zero]))
        refine wpE_ready (rs := [1]) (by kernel_rfl) (by kernel_rfl) ?_
        refine AllReadyE.cons rfl (fun K hK => ?_) AllReadyE.nil
        rw [if_pos (show _ = true by kernel_rfl)]
        go_simp
        go_wp2_with (
          go_at_call 36
          refine (HC1.out _ (by (repeat (first | (with_reducible exact Below.refl _ _) | (with_reducible exact HW.out) | (with_reducible apply bl_drewN) | (with_reducible apply bl_alloc) | (with_reducible apply Below.drew))); done)).mono ?_
          rintro e w5 ⟨⟨v5, rfl, ho5⟩, hb9⟩
          obtain ⟨a5, c5, rfl, -, -⟩ := ho5.form
          have HO5 := Lib.hid ho5
          have HP1 := Lib.hid (show Below wb.heap.size wb w5 from by (refine bl_trans ?_ hb9; exact (by (repeat (first | (with_reducible exact Below.refl _ _) | (with_reducible exact HW.out) | (with_reducible apply bl_drewN) | (with_reducible apply bl_alloc) | (with_reducible apply Below.drew))); done)))
          clear HW hb9
          have HW := HP1
          clear HP1
          clear ho5)
        clear hHeld
        refine hK.out _ _ ((by (repeat (first | (with_reducible exact Below.refl _ _) | (with_reducible exact HW.out) | (with_reducible apply bl_drewN) | (with_reducible apply bl_alloc) | (with_reducible apply Below.drew))); done)) (fun hHeld => ?_)
        clear hK K
        refine wpE_ready (rs := [3]) (by kernel_rfl) (by kernel_rfl) ?_
        refine AllReadyE.cons rfl (fun K hK => ?_) AllReadyE.nil
        rw [if_pos (show _ = true by kernel_rfl)]
        go_simp
        go_wp2_with (
          go_at_call 37
          refine (HC2.out _ (by (repeat (first | (with_reducible exact Below.refl _ _) | (with_reducible exact HW.out) | (with_reducible apply bl_drewN) | (with_reducible apply bl_alloc) | (with_reducible apply Below.drew))); done)).mono ?_
          rintro e w6 ⟨⟨v6, rfl, ho6⟩, hb9⟩
          obtain ⟨a6, c6, rfl, -, -⟩ := ho6.form
          have HO6 := Lib.hid ho6
          have HO56 := Lib.hid (HO5.out.below (bl_trans (show Below w5.heap.size w5 _ from (by (repeat (first | (with_reducible exact Below.refl _ _) | (with_reducible exact HW.out) | (with_reducible apply bl_drewN) | (with_reducible apply bl_alloc) | (with_reducible apply Below.drew))); done)) hb9))
          have HP1 := Lib.hid (show Below wb.heap.size wb w6 from by (refine bl_trans ?_ hb9; exact (by (repeat (first | (with_reducible exact Below.refl _ _) | (with_reducible exact HW.out) | (with_reducible apply bl_drewN) | (with_reducible apply bl_alloc) | (with_reducible apply Below.drew))); done)))
          clear HW hb9
          have HW := HP1
          clear HP1
          clear ho6 HO5)
        clear hHeld
        refine hK.out _ _ ((by (repeat (first | (with_reducible exact Below.refl _ _) | (with_reducible exact HW.out) | (with_reducible apply bl_drewN) | (with_reducible apply bl_alloc) | (with_reducible apply Below.drew))); done)) (fun hHeld => ?_)
        clear hK K
        refine wpE_ready (rs := [4]) (by kernel_rfl) (by kernel_rfl) ?_
        refine AllReadyE.cons rfl (fun K hK => ?_) AllReadyE.nil
        rw [if_pos (show _ = true by kernel_rfl)]
        go_simp
        go_wp2_with (
          go_at_call 35
          refine (sameRec42_any R _ _ _ HO56.out.sl HO6.out.sl).mono ?_
          rintro e w7 ⟨rfl, hw7⟩
          have hb9 : Below w6.heap.size w6 w7 := by
            obtain ⟨n7, rfl⟩ := hw7
            exact bl_drewN (Below.refl _ _) _
          have HP1 := Lib.hid (show Below wb.heap.size wb w7 from by (refine bl_trans ?_ hb9; exact (by (repeat (first | (with_reducible exact Below.refl _ _) | (with_reducible exact HW.out) | (with_reducible apply bl_drewN) | (with_reducible apply bl_alloc) | (with_reducible apply Below.drew))); done)))
          clear HW hb9
          have HW := HP1
          clear HP1
          clear hw7 HO56 HO6)
        clear hHeld
        refine hK.out _ _ ((by (repeat (first | (with_reducible exact Below.refl _ _) | (with_reducible exact HW.out) | (with_reducible apply bl_drewN) | (with_reducible apply bl_alloc) | (with_reducible apply Below.drew))); done)) (fun hHeld => ?_)
        clear hK K
        refine wpE_take (i := 5) (v := ?_) rfl (by kernel_rfl) (fun _ _ _ h => h) (Or.inl ⟨by kernel_rfl, ?_⟩) (by assumption) ?_
        rotate_left
        focus (intro w9 hS9; (try dsimp only at hS9); go_simp; (try with_reducible rfl))
        (try simp only [Act.put])
        (try simp only [List.setIfInBounds_toArray])
        (repeat (first | simp only [List.set_cons_succ] | simp only [List.set_cons_zero]))
        refine wpE_take (i := 6) (v := ?_) rfl (by kernel_rfl) (fun _ _ _ h => h) (Or.inl ⟨by kernel_rfl, ?_⟩) (by assumption) ?_
        rotate_left
        focus (intro w9 hS9; obtain ⟨z0, z1, z2, z3, z4, z5⟩ := HXA.out w9 hS9; clear hS9; go_simp; (try with_reducible rfl))
        (try simp only [Act.put])
        (try simp only [List.setIfInBounds_toArray])
        (repeat (first | simp only [List.set_cons_succ] | simp only [List.set_cons_zero]))
        refine wpE_take (i := 7) (v := ?_) rfl (by kernel_rfl) (fun _ _ _ h => h) (Or.inl ⟨by kernel_rfl, ?_⟩) (by assumption) ?_
        rotate_left
        focus (intro w9 hS9; obtain ⟨z0, z1, z2, z3, z4, z5⟩ := HXB.out w9 hS9; clear hS9; go_simp; (try with_reducible rfl))
        (try simp only [Act.put])
        (try simp only [List.setIfInBounds_toArray])
        (repeat (first | simp only [List.set_cons_succ] | simp only [List.set_cons_zero]))
        refine wpE_take (i := 9) (v := ?_) rfl (by kernel_rfl) (fun _ _ _ h => h) (Or.inl ⟨by kernel_rfl, ?_⟩) (by assumption) ?_
        rotate_left
        focus (intro w9 hS9; obtain ⟨z0, z1, z2, z3, z4, z5⟩ := HXA.out w9 hS9; clear hS9; go_simp; (try with_reducible rfl))
        (try simp only [Act.put])
        (try simp only [List.setIfInBounds_toArray])
        (repeat (first | simp only [List.set_cons_succ] | simp only [List.set_cons_zero]))
        refine wpE_take (i := 10) (v := ?_) rfl (by kernel_rfl) (fun _ _ _ h => h) (Or.inl ⟨by kernel_rfl, ?_⟩) (by assumption) ?_
        rotate_left
        focus (intro w9 hS9; obtain ⟨z0, z1, z2, z3, z4, z5⟩ := HXB.out w9 hS9; clear hS9; go_simp; (try with_reducible rfl))
        (try simp only [Act.put])
        (try simp only [List.setIfInBounds_toArray])
        (repeat (first | simp only [List.set_cons_succ] | simp only [List.set_cons_zero]))
        refine wpE_ready (rs := [8]) (by kernel_rfl) (by kernel_rfl) ?_
        refine AllReadyE.cons rfl (fun K hK => ?_) AllReadyE.nil
        rw [if_pos (show _ = true by kernel_rfl)]
        go_simp
        go_wp2_with (
          go_at_call 38
          refine (HG1.out _ (by (repeat (first | (with_reducible exact Below.refl _ _) | (with_reducible exact HW.out) | (with_reducible apply bl_drewN) | (with_reducible apply bl_alloc) | (with_reducible apply Below.drew))); done)).mono ?_
          rintro e w8 ⟨rfl, hb9⟩
          have HP1 := Lib.hid (show Below wb.heap.size wb w8 from by (refine bl_trans ?_ hb9; exact (by (repeat (first | (with_reducible exact Below.refl _ _) | (with_reducible exact HW.out) | (with_reducible apply bl_drewN) | (with_reducible apply bl_alloc) | (with_reducible apply Below.drew))); done)))
          clear HW hb9
          have HW := HP1
          clear HP1)
        clear hHeld
        refine hK.out _ _ ((by (repeat (first | (with_reducible exact Below.refl _ _) | (with_reducible exact HW.out) | (with_reducible apply bl_drewN) | (with_reducible apply bl_alloc) | (with_reducible apply Below.drew))); done)) (fun hHeld => ?_)
        clear hK K
        refine wpE_ready (rs := [11]) (by kernel_rfl) (by kernel_rfl) ?_
        refine AllReadyE.cons rfl (fun K hK => ?_) AllReadyE.nil
        rw [if_pos (show _ = true by kernel_rfl)]
        go_simp
        go_wp2_with (
          go_at_call 39
          refine (HG2.out _ (by (repeat (first | (with_reducible exact Below.refl _ _) | (with_reducible exact HW.out) | (with_reducible apply bl_drewN) | (with_reducible apply bl_alloc) | (with_reducible apply Below.drew))); done)).mono ?_
          rintro e w10 ⟨rfl, hb9⟩
          have HP1 := Lib.hid (show Below wb.heap.size wb w10 from by (refine bl_trans ?_ hb9; exact (by (repeat (first | (with_reducible exact Below.refl _ _) | (with_reducible exact HW.out) | (with_reducible apply bl_drewN) | (with_reducible apply bl_alloc) | (with_reducible apply Below.drew))); done)))
          clear HW hb9
          have HW := HP1
          clear HP1)
        clear hHeld
        refine hK.out _ _ ((by (repeat (first | (with_reducible exact Below.refl _ _) | (with_reducible exact HW.out) | (with_reducible apply bl_drewN) | (with_reducible apply bl_alloc) | (with_reducible apply Below.drew))); done)) (fun hHeld => ?_)
        clear hK K
        refine wpE_take (i := 12) (v := ?_) rfl (by kernel_rfl) (fun _ _ _ h => h) (Or.inl ⟨by kernel_rfl, ?_⟩) (by assumption) ?_
        rotate_left
        focus (intro w9 hS9; (try dsimp only at hS9); go_simp; (try with_reducible rfl))
        (try simp only [Act.put])
        (try simp only [List.setIfInBounds_toArray])
        (repeat (first | simp only [List.set_cons_succ] | simp only [List.set_cons_zero]))
        refine wpE_take (i := 13) (v := ?_) rfl (by kernel_rfl) (fun _ _ _ h => h) (Or.inl ⟨by kernel_rfl, ?_⟩) (by assumption) ?_
        rotate_left
        focus (intro w9 hS9; (try dsimp only at hS9); go_simp; (try with_reducible rfl))
        (try simp only [Act.put])
        (try simp only [List.setIfInBounds_toArray])
        (repeat (first | simp only [List.set_cons_succ] | simp only [List.set_cons_zero]))
        refine wpE_take (i := 14) (v := ?_) rfl (by kernel_rfl) (fun _ _ _ h => h) (Or.inl ⟨by kernel_rfl, ?_⟩) (by assumption) ?_
        rotate_left
        focus (intro w9 hS9; (try dsimp only at hS9); go_simp; (try with_reducible rfl))
        (try simp only [Act.put])
        (try simp only [List.setIfInBounds_toArray])
        (repeat (first | simp only [List.set_cons_succ] | simp only [List.set_cons_zero]))
        refine wpE_ready (rs := [15]) (by kernel_rfl) (by kernel_rfl) ?_
        refine AllReadyE.cons rfl (fun K hK => ?_) AllReadyE.nil
        rw [if_pos (show _ = true by kernel_rfl)]
        go_simp
        go_wp2_with (
          go_at_call 32
          refine (awake44_any _).mono ?_
          rintro e w11 ⟨rfl, hb9⟩
          have HP1 := Lib.hid (show Below wb.heap.size wb w11 from by (refine bl_trans ?_ hb9; exact (by (repeat (first | (with_reducible exact Below.refl _ _) | (with_reducible exact HW.out) | (with_reducible apply bl_drewN) | (with_reducible apply bl_alloc) | (with_reducible apply Below.drew))); done)))
          clear HW hb9
          have HW := HP1
          clear HP1)
        clear hHeld
        refine hK.out _ _ ((by (repeat (first | (with_reducible exact Below.refl _ _) | (with_reducible exact HW.out) | (with_reducible apply bl_drewN) | (with_reducible apply bl_alloc) | (with_reducible apply Below.drew))); done)) (fun hHeld => ?_)
        clear hK K
        refine wpE_take (i := 16) (v := ?_) rfl (by kernel_rfl) (fun _ _ _ h => h) (Or.inl ⟨by kernel_rfl, ?_⟩) (by assumption) ?_
        rotate_left
        focus (intro w9 hS9; (try dsimp only at hS9); go_simp; (try with_reducible rfl))
        (try simp only [Act.put])
        (try simp only [List.setIfInBounds_toArray])
        (repeat (first | simp only [List.set_cons_succ] | simp only [List.set_cons_zero]))
        clear hHeld
        refine wpE_out (by kernel_rfl) ?_
        refine wpAny_ready (rs := [17]) (by kernel_rfl) (by simp) ?_
        refine AllReady.cons rfl (fun K hK => ?_) AllReady.nil
        rw [if_pos (show _ = true by kernel_rfl)]
        go_simp
        refine hK _ _ ?_
        clear hK K
        refine wpAny_done (by kernel_rfl) ?_ _
        go_wp2_with (fail)
        go_ret
        exact ⟨rfl, bl_trans HWB.out HW.out⟩
      · refine wp_region_E 17 (fun w' => Below wb.heap.size wb w') (by kernel_rfl) ((by (repeat (first | (with_reducible exact Below.refl _ _) | (with_reducible exact HW.out) | (with_reducible apply bl_drewN) | (with_reducible apply bl_alloc) | (with_reducible apply Below.drew))); done)) (fun hHeld => ?_)
        refine wpE_take (i := 0) (v := ?_) rfl (by kernel_rfl) (fun _ _ _ h => h) (Or.inl ⟨by kernel_rfl, ?_⟩) (by assumption) ?_
        rotate_left
        focus (intro w9 hS9; (try dsimp only at hS9); go_simp; (try with_reducible rfl))
        (try simp only [Act.put])
        (try simp only [List.setIfInBounds_toArray])
        (repeat (first | simp only [List.set_cons_succ] | simp only [List.set_cons_zero]))
        refine wpE_take (i := 2) (v := ?_) rfl (by kernel_rfl) (fun _ _ _ h => h) (Or.inl ⟨by kernel_rfl, ?_⟩) (by assumption) ?_
        rotate_left
        focus (intro w9 hS9; (try dsimp only at hS9); go_simp; (try with_reducible rfl))
        (try simp only [Act.put])
        (try simp only [List.setIfInBounds_toArray])
        (repeat (first | simp only [List.set_cons_succ] | simp only [List.set_cons_zero]))
        refine wpE_ready (rs := [1]) (by kernel_rfl) (by kernel_rfl) ?_
        refine AllReadyE.cons rfl (fun K hK => ?_) AllReadyE.nil
        rw [if_pos (show _ = true by kernel_rfl)]
        go_simp
        go_wp2_with (
          go_at_call 36
          refine (HC1.out _ (by (repeat (first | (with_reducible exact Below.refl _ _) | (with_reducible exact HW.out) | (with_reducible apply bl_drewN) | (with_reducible apply bl_alloc) | (with_reducible apply Below.drew))); done)).mono ?_
          rintro e w5 ⟨⟨v5, rfl, ho5⟩, hb9⟩
          obtain ⟨a5, c5, rfl, -, -⟩ := ho5.form
          have HO5 := Lib.hid ho5
          have HP1 := Lib.hid (show Below wb.heap.size wb w5 from by (refine bl_trans ?_ hb9; exact (by (repeat (first | (with_reducible exact Below.refl _ _) | (with_reducible exact HW.out) | (with_reducible apply bl_drewN) | (with_reducible apply bl_alloc) | (with_reducible apply Below.drew))); done)))
          clear HW hb9
          have HW := HP1
          clear HP1
          clear ho5)
        clear hHeld
        refine hK.out _ _ ((by (repeat (first | (with_reducible exact Below.refl _ _) | (with_reducible exact HW.out) | (with_reducible apply bl_drewN) | (with_reducible apply bl_alloc) | (with_reducible apply Below.drew))); done)) (fun hHeld => ?_)
        clear hK K
        refine wpE_ready (rs := [3]) (by kernel_rfl) (by kernel_rfl) ?_
        refine AllReadyE.cons rfl (fun K hK => ?_) AllReadyE.nil
        rw [if_pos (show _ = true by kernel_rfl)]
        go_simp
        go_wp2_with (
          go_at_call 37
          refine (HC2.out _ (by (repeat (first | (with_reducible exact Below.refl _ _) | (with_reducible exact HW.out) | (with_reducible apply bl_drewN) | (with_reducible apply bl_alloc) | (with_reducible apply Below.drew))); done)).mono ?_
          rintro e w6 ⟨⟨v6, rfl, ho6⟩, hb9⟩
          obtain ⟨a6, c6, rfl, -, -⟩ := ho6.form
          have HO6 := Lib.hid ho6
          have HO56 := Lib.hid (HO5.out.below (bl_trans (show Below w5.heap.size w5 _ from (by (repeat (first | (with_reducible exact Below.refl _ _) | (with_reducible exact HW.out) | (with_reducible apply bl_drewN) | (with_reducible apply bl_alloc) | (with_reducible apply Below.drew))); done)) hb9))
          have HP1 := Lib.hid (show Below wb.heap.size wb w6 from by (refine bl_trans ?_ hb9; exact (by (repeat (first | (with_reducible exact Below.refl _ _) | (with_reducible exact HW.out) | (with_reducible apply bl_drewN) | (with_reducible apply bl_alloc) | (with_reducible apply Below.drew))); done)))
          clear HW hb9
          have HW := HP1
          clear HP1
          clear ho6 HO5)
        clear hHeld
        refine hK.out _ _ ((by (repeat (first | (with_reducible exact Below.refl _ _) | (with_reducible exact HW.out) | (with_reducible apply bl_drewN) | (with_reducible apply bl_alloc) | (with_reducible apply Below.drew))); done)) (fun hHeld => ?_)
        clear hK K
        refine wpE_ready (rs := [4]) (by kernel_rfl) (by kernel_rfl) ?_
        refine AllReadyE.cons rfl (fun K hK => ?_) AllReadyE.nil
        rw [if_pos (show _ = true by kernel_rfl)]
        go_simp
        go_wp2_with (
          go_at_call 35
          refine (sameRec42_any R _ _ _ HO56.out.sl HO6.out.sl).mono ?_
          rintro e w7 ⟨rfl, hw7⟩
          have hb9 : Below w6.heap.size w6 w7 := by
            obtain ⟨n7, rfl⟩ := hw7
            exact bl_drewN (Below.refl _ _) _
          have HP1 := Lib.hid (show Below wb.heap.size wb w7 from by (refine bl_trans ?_ hb9; exact (by (repeat (first | (with_reducible exact Below.refl _ _) | (with_reducible exact HW.out) | (with_reducible apply bl_drewN) | (with_reducible apply bl_alloc) | (with_reducible apply Below.drew))); done)))
          clear HW hb9
          have HW := HP1
          clear HP1
          clear hw7 HO56 HO6)
        clear hHeld
        refine hK.out _ _ ((by (repeat (first | (with_reducible exact Below.refl _ _) | (with_reducible exact HW.out) | (with_reducible apply bl_drewN) | (with_reducible apply bl_alloc) | (with_reducible apply Below.drew))); done)) (fun hHeld => ?_)
        clear hK K
        refine wpE_take (i := 5) (v := ?_) rfl (by kernel_rfl) (fun _ _ _ h => h) (Or.inl ⟨by kernel_rfl, ?_⟩) (by assumption) ?_
        rotate_left
        focus (intro w9 hS9; (try dsimp only at hS9); go_simp; (try with_reducible rfl))
        (try simp only [Act.put])
        (try simp only [List.setIfInBounds_toArray])
        (repeat (first | simp only [List.set_cons_succ] | simp only [List.set_cons_zero]))
        refine wpE_take (i := 6) (v := ?_) rfl (by kernel_rfl) (fun _ _ _ h => h) (Or.inl ⟨by kernel_rfl, ?_⟩) (by assumption) ?_
        rotate_left
        focus (intro w9 hS9; obtain ⟨z0, z1, z2, z3, z4, z5⟩ := HXA.out w9 hS9; clear hS9; go_simp; (try with_reducible rfl))
        (try simp only [Act.put])
        (try simp only [List.setIfInBounds_toArray])
        (repeat (first | simp only [List.set_cons_succ] | simp only [List.set_cons_zero]))
        refine wpE_take (i := 7) (v := ?_) rfl (by kernel_rfl) (fun _ _ _ h => h) (Or.inl ⟨by kernel_rfl, ?_⟩) (by assumption) ?_
        rotate_left
        focus (intro w9 hS9; obtain ⟨z0, z1, z2, z3, z4, z5⟩ := HXB.out w9 hS9; clear hS9; go_simp; (try with_reducible rfl))
        (try simp only [Act.put])
        (try simp only [List.setIfInBounds_toArray])
        (repeat (first | simp only [List.set_cons_succ] | simp only [List.set_cons_zero]))
        refine wpE_take (i := 9) (v := ?_) rfl (by kernel_rfl) (fun _ _ _ h => h) (Or.inl ⟨by kernel_rfl, ?_⟩) (by assumption) ?_
        rotate_left
        focus (intro w9 hS9; obtain ⟨z0, z1, z2, z3, z4, z5⟩ := HXA.out w9 hS9; clear hS9; go_simp; (try with_reducible rfl))
        (try simp only [Act.put])
        (try simp only [List.setIfInBounds_toArray])
        (repeat (first | simp only [List.set_cons_succ] | simp only [List.set_cons_zero]))
        refine wpE_take (i := 10) (v := ?_) rfl (by kernel_rfl) (fun _ _ _ h => h) (Or.inl ⟨by kernel_rfl, ?_⟩) (by assumption) ?_
        rotate_left
        focus (intro w9 hS9; obtain ⟨z0, z1, z2, z3, z4, z5⟩ := HXB.out w9 hS9; clear hS9; go_simp; (try with_reducible rfl))
        (try simp only [Act.put])
        (try simp only [List.setIfInBounds_toArray])
        (repeat (first | simp only [List.set_cons_succ] | simp only [List.set_cons_zero]))
        refine wpE_ready (rs := [8]) (by kernel_rfl) (by kernel_rfl) ?_
        refine AllReadyE.cons rfl (fun K hK => ?_) AllReadyE.nil
        rw [if_pos (show _ = true by kernel_rfl)]
        go_simp
        go_wp2_with (
          go_at_call 38
          refine (HG1.out _ (by (repeat (first | (with_reducible exact Below.refl _ _) | (with_reducible exact HW.out) | (with_reducible apply bl_drewN) | (with_reducible apply bl_alloc) | (with_reducible apply Below.drew))); done)).mono ?_
          rintro e w8 ⟨rfl, hb9⟩
          have HP1 := Lib.hid (show Below wb.heap.size wb w8 from by (refine bl_trans ?_ hb9; exact (by (repeat (first | (with_reducible exact Below.refl _ _) | (with_reducible exact HW.out) | (with_reducible apply bl_drewN) | (with_reducible apply bl_alloc) | (with_reducible apply Below.drew))); done)))
          clear HW hb9
          have HW := HP1
          clear HP1)
        clear hHeld
        refine hK.out _ _ ((by (repeat (first | (with_reducible exact Below.refl _ _) | (with_reducible exact HW.out) | (with_reducible apply bl_drewN) | (with_reducible apply bl_alloc) | (with_reducible apply Below.drew))); done)) (fun hHeld => ?_)
        clear hK K
        refine wpE_ready (rs := [11]) (by kernel_rfl) (by kernel_rfl) ?_
        refine AllReadyE.cons rfl (fun K hK => ?_) AllReadyE.nil
        rw [if_pos (show _ = true by kernel_rfl)]
        go_simp
        go_wp2_with (
          go_at_call 39
          refine (HG2.out _ (by (repeat (first | (with_reducible exact Below.refl _ _) | (with_reducible exact HW.out) | (with_reducible apply bl_drewN) | (with_reducible apply bl_alloc) | (with_reducible apply Below.drew))); done)).mono ?_
          rintro e w10 ⟨rfl, hb9⟩
          have HP1 := Lib.hid (show Below wb.heap.size wb w10 from by (refine bl_trans ?_ hb9; exact (by (repeat (first | (with_reducible exact Below.refl _ _) | (with_reducible exact HW.out) | (with_reducible apply bl_drewN) | (with_reducible apply bl_alloc) | (with_reducible apply Below.drew))); done)))
          clear HW hb9
          have HW := HP1
          clear HP1)
        clear hHeld
        refine hK.out _ _ ((by (repeat (first | (with_reducible exact Below.refl _ _) | (with_reducible exact HW.out) | (with_reducible apply bl_drewN) | (with_reducible apply bl_alloc) | (with_reducible apply Below.drew))); done)) (fun hHeld => ?_)
        clear hK K
        refine wpE_take (i := 12) (v := ?_) rfl (by kernel_rfl) (fun _ _ _ h => h) (Or.inl ⟨by kernel_rfl, ?_⟩) (by assumption) ?_
        rotate_left
        focus (intro w9 hS9; (try dsimp only at hS9); go_simp; (try with_reducible rfl))
        (try simp only [Act.put])
        (try simp only [List.setIfInBounds_toArray])
        (repeat (first | simp only [List.set_cons_succ] | simp only [List.set_cons_zero]))
        refine wpE_take (i := 13) (v := ?_) rfl (by kernel_rfl) (fun _ _ _ h => h) (Or.inl ⟨by kernel_rfl, ?_⟩) (by assumption) ?_
        rotate_left
        focus (intro w9 hS9; (try dsimp only at hS9); go_simp; (try with_reducible rfl))
        (try simp only [Act.put])
        (try simp only [List.setIfInBounds_toArray])
        (repeat (first | simp only [List.set_cons_succ] | simp only [List.set_cons_zero]))
        refine wpE_take (i := 14) (v := ?_) rfl (by kernel_rfl) (fun _ _ _ h => h) (Or.inl ⟨by kernel_rfl, ?_⟩) (by assumption) ?_
        rotate_left
        focus (intro w9 hS9; (try dsimp only at hS9); go_simp; (try with_reducible rfl))
        (try simp only [Act.put])
        (try simp only [List.setIfInBounds_toArray])
        (repeat (first | simp only [List.set_cons_succ] | simp only [List.set_cons_zero]))
        refine wpE_ready (rs := [15]) (by kernel_rfl) (by kernel_rfl) ?_
        refine AllReadyE.cons rfl (fun K hK => ?_) AllReadyE.nil
        rw [if_pos (show _ = true by kernel_rfl)]
        go_simp
        go_wp2_with (
          go_at_call 32
          refine (awake44_any _).mono ?_
          rintro e w11 ⟨rfl, hb9⟩
          have HP1 := Lib.hid (show Below wb.heap.size wb w11 from by (refine bl_trans ?_ hb9; exact (by (repeat (first | (with_reducible exact Below.refl _ _) | (with_reducible exact HW.out) | (with_reducible apply bl_drewN) | (with_reducible apply bl_alloc) | (with_reducible apply Below.drew))); done)))
          clear HW hb9
          have HW := HP1
          clear HP1)
        clear hHeld
        refine hK.out _ _ ((by (repeat (first | (with_reducible exact Below.refl _ _) | (with_reducible exact HW.out) | (with_reducible apply bl_drewN) | (with_reducible apply bl_alloc) | (with_reducible apply Below.drew))); done)) (fun hHeld => ?_)
        clear hK K
        refine wpE_take (i := 16) (v := ?_) rfl (by kernel_rfl) (fun _ _ _ h => h) (Or.inl ⟨by kernel_rfl, ?_⟩) (by assumption) ?_
        rotate_left
        focus (intro w9 hS9; (try dsimp only at hS9); go_simp; (try with_reducible rfl))
        (try simp only [Act.put])
        (try simp only [List.setIfInBounds_toArray])
        (repeat (first | simp only [List.set_cons_succ] | simp only [List.set_cons_zero]))
        clear hHeld
        refine wpE_out (by kernel_rfl) ?_
        refine wpAny_ready (rs := [17]) (by kernel_rfl) (by simp) ?_
        refine AllReady.cons rfl (fun K hK => ?_) AllReady.nil
        rw [if_pos (show _ = true by kernel_rfl)]
        go_simp
        refine hK _ _ ?_
        clear hK K
        refine wpAny_done (by kernel_rfl) ?_ _
        go_wp2_with (fail)
        go_ret
        exact ⟨rfl, bl_trans HWB.out HW.out⟩
set_option maxRecDepth 100000 in
theorem differs_lift (os : Os) (started : os.Started) (H : Type) (enc : TypeId × Value → H) :
    ReturnsInHanded {} Try.checked os 9 .any (Rows.reconDiffersSpec.pre6 enc Try.prog Try.f9 Rows.reconDiffersRow.domain false) (Rows.reconDiffersSpec.post enc Try.prog Try.f9 false true false false) :=
  law_lift (C := Try.checked) (s := Rows.reconDiffersSpec) (fn := Try.f9) ⟨rfl, fun H ds h => by
    match ds, h with
    | [a, b], _ => exact ⟨rfl, rfl, rfl⟩⟩ rfl Try.underlying4 (by kernel_rfl) laid0 own0 started (by kernel_rfl) Try.func9
    (ChangeSpec.witness6 (enc := enc) (C := Try.checked) false ⟨#[], #[.agg #[.string ByteArray.empty, .int .i64 0, .int .i64 0, .slice none 0 0, .slice none 0 0, .slice none 0 0], .agg #[.string ByteArray.empty, .int .i64 0, .int .i64 0, .slice none 0 0, .slice none 0 0, .slice none 0 0]], []⟩ 8 (by kernel_rfl) (by kernel_rfl) (by kernel_rfl) (by kernel_rfl)) differs_walk

/-- THE STATEMENT: ReconDiffers. -/
theorem differs_holds : Rows.ReconDiffersSaid :=
  OpenClaim.holds_of_wide 9 Try.f9 rfl rfl rfl rfl rfl rfl rfl ⟨rfl, rfl, rfl, rfl, rfl⟩ rfl rfl rfl rfl rfl (by kernel_rfl) Try.func9 (by kernel_rfl)
    (of_decide_eq_true (by kernel_rfl)) (by unfold Func.isWrapper; rw [if_neg (of_decide_eq_false (by kernel_rfl))]; exact ⟨rfl, rfl⟩)
    (fun os started H enc _ => differs_lift os started H enc)
end Go.Proofs.Ythdbojbblkfhaaa
