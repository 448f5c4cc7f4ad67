/-
  Layer 44 (recon): the walk of Round where no file waits.
-/
import Derived.Test.YthdbojbblkfhaaaRecoR
import Derived.Test.YthdbojbblkfhaaaExcSend
namespace Go.Proofs.Ythdbojbblkfhaaa
open Go.RowKit Go.Tw Go.Tw.Exc
theorem pv_form {S : Nat → Prop} {w' : World} {q : Par} {v : Value} (h : PV S w' q v) : ∃ u1 c1 u2 c2 u3 c3, v = .agg #[.string q.nm, .int .i64 q.out, .int .i64 q.inn, .slice u1 q.wt.length c1, .slice u2 q.ours.length c2, .slice u3 q.thr.length c3] ∧ ParOk S w' q (.slice u1 q.wt.length c1) (.slice u2 q.ours.length c2) (.slice u3 q.thr.length c3) := by
  obtain ⟨u1, u2, u3, rfl, hq⟩ := h
  obtain ⟨x1, y1, _, _, rfl, -⟩ := id hq.wt
  obtain ⟨x2, y2, _, _, rfl, -⟩ := id hq.ours
  obtain ⟨x3, y3, _, _, rfl, -⟩ := id hq.thr
  exact ⟨_, _, _, _, _, _, rfl, hq⟩
theorem fil_form {S : Nat → Prop} {w' : World} {v : Value} {l : List Fil} (h : SlIs tFil S w' v l) (hl : l = []) : ∃ u c, v = .slice u 0 c := by
  obtain ⟨u, c, _, _, rfl, -⟩ := h
  rw [hl]
  exact ⟨_, _, rfl⟩
/-- the four boxes of Round -/
structure RB (w : World) (a b : Par) (a1 a2 a3 b1 b2 b3 : Value) (wx : World) : Prop where
  bel : Below w.heap.size w wx
  pa : wx.heap[w.heap.size]? = some (.cells #[.string a.nm, .int .i64 a.out, .int .i64 a.inn, a1, a2, a3] 25 (0, 0))
  pb : wx.heap[w.heap.size + 1]? = some (.cells #[.string b.nm, .int .i64 b.out, .int .i64 b.inn, b1, b2, b3] 25 (0, 0))
  ra : wx.heap[w.heap.size + 1 + 1]? = some (.cells #[.string ByteArray.empty, .int .i64 0, .int .i64 0, .slice none 0 0, .slice none 0 0, .slice none 0 0] 25 (0, 0))
  rb : wx.heap[w.heap.size + 1 + 1 + 1]? = some (.cells #[.string ByteArray.empty, .int .i64 0, .int .i64 0, .slice none 0 0, .slice none 0 0, .slice none 0 0] 25 (0, 0))
theorem RB.step {w : World} {a b : Par} {a1 a2 a3 b1 b2 b3 : Value} {wx wy : World} (h : RB w a b a1 a2 a3 b1 b2 b3 wx) (hb : Below wx.heap.size wx wy) : RB w a b a1 a2 a3 b1 b2 b3 wy :=
  ⟨bl_trans h.bel hb, Go.Tw.Below.at_old hb h.pa, Go.Tw.Below.at_old hb h.pb, Go.Tw.Below.at_old hb h.ra, Go.Tw.Below.at_old hb h.rb⟩
set_option maxRecDepth 100000 in
set_option maxHeartbeats 8000000 in
theorem round0_any (a b : Par) (a1 a2 a3 b1 b2 b3 : Value) (w : World) (ha : ParOk (· < w.heap.size) w a a1 a2 a3) (hb : ParOk (· < w.heap.size) w b b1 b2 b3) (hsa : SmallP a) (hsb : SmallP b) (ha0 : a.wt = []) (hb0 : b.wt = []) (hia : i64ok (a.inn - 1)) (hib : i64ok (b.inn - 1)) :
    Calls Try.prog 60 #[.agg #[.string a.nm, .int .i64 a.out, .int .i64 a.inn, a1, a2, a3], .agg #[.string b.nm, .int .i64 b.out, .int .i64 b.inn, b1, b2, b3], .slice none 0 0] w
      fun e w' => (∃ v1 v2, e = .returned (.tuple #[v1, v2, .int .i64 0]) ∧ PV (· < w'.heap.size) w' (ackC a (b.inn - 1)).1 v1 ∧ PV (· < w'.heap.size) w' (ackC b (a.inn - 1)).1 v2) ∧ Below w.heap.size w w' := by
  have HA := Lib.hid ha
  have HB := Lib.hid hb
  have HSA := Lib.hid hsa
  have HSB := Lib.hid hsb
  have HA0 := Lib.hid ha0
  have HB0 := Lib.hid hb0
  have HIA := Lib.hid hia
  have HIB := Lib.hid hib
  obtain ⟨x1, y1, _, _, rfl, -⟩ := id ha.wt
  obtain ⟨x2, y2, _, _, rfl, -⟩ := id ha.ours
  obtain ⟨x3, y3, _, _, rfl, -⟩ := id ha.thr
  obtain ⟨z1, e1, _, _, rfl, -⟩ := id hb.wt
  obtain ⟨z2, e2, _, _, rfl, -⟩ := id hb.ours
  obtain ⟨z3, e3, _, _, rfl, -⟩ := id hb.thr
  clear ha hb hsa hsb ha0 hb0 hia hib
  go_enter Try.func60, Try.ntmps60
  go_upto_region 1 with (fail)
  obtain ⟨wb, hwb⟩ : ∃ wb, (((w.alloc (.cells #[.string a.nm, .int .i64 a.out, .int .i64 a.inn, .slice x1 a.wt.length y1, .slice x2 a.ours.length y2, .slice x3 a.thr.length y3] 25)).alloc (.cells #[.string b.nm, .int .i64 b.out, .int .i64 b.inn, .slice z1 b.wt.length e1, .slice z2 b.ours.length e2, .slice z3 b.thr.length e3] 25)).alloc (.cells #[.string ⟨#[]⟩, .int .i64 0, .int .i64 0, .slice none 0 0, .slice none 0 0, .slice none 0 0] 25)).alloc (.cells #[.string ⟨#[]⟩, .int .i64 0, .int .i64 0, .slice none 0 0, .slice none 0 0, .slice none 0 0] 25) = wb := ⟨_, rfl⟩
  have HX := Lib.hid (show RB w a b (.slice x1 a.wt.length y1) (.slice x2 a.ours.length y2) (.slice x3 a.thr.length y3) (.slice z1 b.wt.length e1) (.slice z2 b.ours.length e2) (.slice z3 b.thr.length e3) wb from by
    rw [← hwb]
    exact ⟨bl_alloc (bl_alloc (bl_alloc (bl_alloc (Below.refl _ _) _) _) _) _, alloc4_0 w _ _ _ _, alloc4_1 w _ _ _ _, alloc4_2 w _ _ _ _, alloc4_3 w _ _ _ _⟩)
  rw [hwb]
  clear hwb
  have HXA := Lib.hid (box6D HX.out.pa)
  have HXB := Lib.hid (box6D HX.out.pb)
  have HW := Lib.hid (Below.refl wb.heap.size wb)
  refine wp_region_E 4 (fun w' => Below wb.heap.size wb w') (by kernel_rfl) ((by (repeat (first | (with_reducible exact Below.refl _ _) | (with_reducible exact HW.out) | (with_reducible apply bl_drewN) | (with_reducible apply bl_alloc) | (with_reducible apply Below.drew))); done)) (fun hHeld => ?_)
  refine wpE_take (i := 0) (v := ?_) rfl (by kernel_rfl) (fun _ _ _ h => h) (Or.inl ⟨by kernel_rfl, ?_⟩) (by assumption) ?_
  rotate_left
  focus (intro w9 hS9; obtain ⟨z0, z1, z2, z3, z4, z5⟩ := HXA.out w9 hS9; clear hS9; go_simp; (try with_reducible rfl))
  (try simp only [Act.put])
  (try simp only [List.setIfInBounds_toArray])
  (repeat (first | simp only [List.set_cons_succ] | simp only [List.set_cons_zero]))
  refine wpE_take (i := 2) (v := ?_) rfl (by kernel_rfl) (fun _ _ _ h => h) (Or.inl ⟨by kernel_rfl, ?_⟩) (by assumption) ?_
  rotate_left
  focus (intro w9 hS9; obtain ⟨z0, z1, z2, z3, z4, z5⟩ := HXB.out w9 hS9; clear hS9; go_simp; (try with_reducible rfl))
  (try simp only [Act.put])
  (try simp only [List.setIfInBounds_toArray])
  (repeat (first | simp only [List.set_cons_succ] | simp only [List.set_cons_zero]))
  refine wpE_ready (rs := [1]) (by kernel_rfl) (by kernel_rfl) ?_
  refine AllReadyE.cons rfl (fun K hK => ?_) AllReadyE.nil
  rw [if_pos (show _ = true by kernel_rfl)]
  go_simp
  go_wp2_with (
    go_at_call 21
    refine (resend_any a _ _ _ _ (HA.out.step (show Below w.heap.size w _ from bl_trans HX.out.bel (by (repeat (first | (with_reducible exact Below.refl _ _) | (with_reducible exact HW.out) | (with_reducible apply bl_drewN) | (with_reducible apply bl_alloc) | (with_reducible apply Below.drew))); done))) HSA.out).mono ?_
    rintro e w6 ⟨⟨vr, rfl, hr⟩, hb6⟩
    obtain ⟨af, cf, rfl⟩ := fil_form hr HA0.out
    have HP1 := Lib.hid (show Below wb.heap.size wb w6 from by (refine bl_trans ?_ hb6; exact (by (repeat (first | (with_reducible exact Below.refl _ _) | (with_reducible exact HW.out) | (with_reducible apply bl_drewN) | (with_reducible apply bl_alloc) | (with_reducible apply Below.drew))); done)))
    clear HW hb6 hr
    have HW := HP1
    clear HP1)
  clear hHeld
  refine hK.out _ _ (HW.out) (fun hHeld => ?_)
  clear hK K
  refine wpE_ready (rs := [3]) (by kernel_rfl) (by kernel_rfl) ?_
  refine AllReadyE.cons rfl (fun K hK => ?_) AllReadyE.nil
  rw [if_pos (show _ = true by kernel_rfl)]
  go_simp
  go_wp2_with (
    go_at_call 21
    refine (resend_any b _ _ _ _ (HB.out.step (show Below w.heap.size w _ from bl_trans HX.out.bel (by (repeat (first | (with_reducible exact Below.refl _ _) | (with_reducible exact HW.out) | (with_reducible apply bl_drewN) | (with_reducible apply bl_alloc) | (with_reducible apply Below.drew))); done))) HSB.out).mono ?_
    rintro e w6 ⟨⟨vr, rfl, hr⟩, hb6⟩
    obtain ⟨bf, df, rfl⟩ := fil_form hr HB0.out
    have HP1 := Lib.hid (show Below wb.heap.size wb w6 from by (refine bl_trans ?_ hb6; exact (by (repeat (first | (with_reducible exact Below.refl _ _) | (with_reducible exact HW.out) | (with_reducible apply bl_drewN) | (with_reducible apply bl_alloc) | (with_reducible apply Below.drew))); done)))
    clear HW hb6 hr
    have HW := HP1
    clear HP1)
  clear hHeld
  refine hK.out _ _ (HW.out) (fun hHeld => ?_)
  clear hK K
  clear hHeld
  refine wpE_out (by kernel_rfl) ?_
  refine wpAny_ready (rs := [4]) (by kernel_rfl) (by simp) ?_
  refine AllReady.cons rfl (fun K hK => ?_) AllReady.nil
  rw [if_pos (show _ = true by kernel_rfl)]
  go_simp
  refine hK _ _ ?_
  clear hK K
  refine wpAny_ready (rs := [5]) (by kernel_rfl) (by simp) ?_
  refine AllReady.cons rfl (fun K hK => ?_) AllReady.nil
  rw [if_pos (show _ = true by kernel_rfl)]
  go_simp
  refine hK _ _ ?_
  clear hK K
  refine wpAny_done (by kernel_rfl) ?_ _
  have HX6 := Lib.hid (HX.out.step HW.out)
  obtain ⟨c0, c1, c2, c3, c4, c5, cf'⟩ := blk6' HX6.out.pb
  clear HXA HXB HW HX
  go_wp2_with (fail)
  refine (deliver0_any b _ _ _ _ _ _ _ _ _ af cf (.slice none 0 0) _).mono ?_
  rintro e w7 ⟨rfl, hb7⟩
  have HX7 := Lib.hid (HX6.out.step hb7)
  clear c0 c1 c2 c3 c4 c5 cf' HX6 hb7
  obtain ⟨wc, hwc⟩ : ∃ wc, w7.alloc (.cells #[.string b.nm, .int .i64 b.out, .int .i64 b.inn, .slice z1 b.wt.length e1, .slice z2 b.ours.length e2, .slice z3 b.thr.length e3] 25) = wc := ⟨_, rfl⟩
  have hy0 := alloc1_0 w7 (.cells #[.string b.nm, .int .i64 b.out, .int .i64 b.inn, .slice z1 b.wt.length e1, .slice z2 b.ours.length e2, .slice z3 b.thr.length e3] 25)
  rw [hwc] at hy0
  have HY0 := Lib.hid hy0
  clear hy0
  have HX8 := Lib.hid (HX7.out.step (show Below w7.heap.size w7 wc by rw [← hwc]; exact bl_alloc (Below.refl _ _) _))
  go_upto_region 5 with (fail)
  (try rw [hwc])
  obtain ⟨b11, hb11⟩ : ∃ k, w7.heap.size = k := ⟨_, rfl⟩
  rw [hb11] at HY0 ⊢
  clear hwc hb11 HX7
  go_cut [13, 12] (fun v13 v12 wx => ∃ b13, v13 = .pointer (some ⟨b13, 0, none⟩) ∧ v12 = .int .i64 0 ∧ wx.heap[b13]? = some (.cells #[.string a.nm, .int .i64 a.out, .int .i64 a.inn, .slice x1 a.wt.length y1, .slice x2 a.ours.length y2, .slice x3 a.thr.length y3] 25 (0, 0)) ∧ Below wc.heap.size wc wx)
  case first =>
    have HXA := Lib.hid (box6D HX8.out.pa)
    have HW := Lib.hid (Below.refl wc.heap.size wc)
    refine wp_region_E 15 (fun w' => Below wc.heap.size wc w') (by kernel_rfl) ((by (repeat (first | (with_reducible exact Below.refl _ _) | (with_reducible exact HW.out) | (with_reducible apply bl_drewN) | (with_reducible apply bl_alloc) | (with_reducible apply Below.drew))); done)) (fun hHeld => ?_)
    refine wpE_take (i := 0) (v := ?_) rfl (by kernel_rfl) (fun _ _ _ h => h) (Or.inl ⟨by kernel_rfl, ?_⟩) (by assumption) ?_
    rotate_left
    focus (intro w9 hS9; obtain ⟨z0, z1, z2, z3, z4, z5⟩ := HXA.out w9 hS9; clear hS9; go_simp; (try with_reducible rfl))
    (try simp only [Act.put])
    (try simp only [List.setIfInBounds_toArray])
    (repeat (first | simp only [List.set_cons_succ] | simp only [List.set_cons_zero]))
    refine wpE_take (i := 1) (v := ?_) rfl (by kernel_rfl) (fun _ _ _ h => h) (Or.inl ⟨by kernel_rfl, ?_⟩) (by assumption) ?_
    rotate_left
    focus (intro w9 hS9; (try dsimp only at hS9); go_simp; (try with_reducible rfl))
    (try simp only [Act.put])
    (try simp only [List.setIfInBounds_toArray])
    (repeat (first | simp only [List.set_cons_succ] | simp only [List.set_cons_zero]))
    refine wpE_take (i := 2) (v := ?_) rfl (by kernel_rfl) (fun _ _ _ h => h) (Or.inl ⟨by kernel_rfl, ?_⟩) (by assumption) ?_
    rotate_left
    focus (intro w9 hS9; (try dsimp only at hS9); go_simp; (try with_reducible rfl))
    (try simp only [Act.put])
    (try simp only [List.setIfInBounds_toArray])
    (repeat (first | simp only [List.set_cons_succ] | simp only [List.set_cons_zero]))
    refine wpE_take (i := 3) (v := ?_) rfl (by kernel_rfl) (fun _ _ _ h => h) (Or.inl ⟨by kernel_rfl, ?_⟩) (by assumption) ?_
    rotate_left
    focus (intro w9 hS9; (try dsimp only at hS9); go_simp; (try with_reducible rfl))
    (try simp only [Act.put])
    (try simp only [List.setIfInBounds_toArray])
    (repeat (first | simp only [List.set_cons_succ] | simp only [List.set_cons_zero]))
    refine wpE_take (i := 4) (v := ?_) rfl (by kernel_rfl) (fun _ _ _ h => h) (Or.inl ⟨by kernel_rfl, ?_⟩) (by assumption) ?_
    rotate_left
    focus (intro w9 hS9; (try dsimp only at hS9); go_simp; (try with_reducible rfl))
    (try simp only [Act.put])
    (try simp only [List.setIfInBounds_toArray])
    (repeat (first | simp only [List.set_cons_succ] | simp only [List.set_cons_zero]))
    refine wpE_take (i := 5) (v := ?_) rfl (by kernel_rfl) (fun _ _ _ h => h) (Or.inl ⟨by kernel_rfl, ?_⟩) (by assumption) ?_
    rotate_left
    focus (intro w9 hS9; (try dsimp only at hS9); go_simp; (try with_reducible rfl))
    (try simp only [Act.put])
    (try simp only [List.setIfInBounds_toArray])
    (repeat (first | simp only [List.set_cons_succ] | simp only [List.set_cons_zero]))
    refine wpE_take (i := 6) (v := ?_) rfl (by kernel_rfl) (fun _ _ _ h => h) (Or.inl ⟨by kernel_rfl, ?_⟩) (by assumption) ?_
    rotate_left
    focus (intro w9 hS9; (try dsimp only at hS9); go_simp; (try with_reducible rfl))
    (try simp only [Act.put])
    (try simp only [List.setIfInBounds_toArray])
    (repeat (first | simp only [List.set_cons_succ] | simp only [List.set_cons_zero]))
    refine wpE_take (i := 7) (v := ?_) rfl (by kernel_rfl) (fun _ _ _ h => h) (Or.inl ⟨by kernel_rfl, ?_⟩) (by assumption) ?_
    rotate_left
    focus (intro w9 hS9; (try dsimp only at hS9); go_simp; (try with_reducible rfl))
    (try simp only [Act.put])
    (try simp only [List.setIfInBounds_toArray])
    (repeat (first | simp only [List.set_cons_succ] | simp only [List.set_cons_zero]))
    refine wpE_take (i := 8) (v := ?_) rfl (by kernel_rfl) (fun _ _ _ h => h) (Or.inl ⟨by kernel_rfl, ?_⟩) (by assumption) ?_
    rotate_left
    focus (intro w9 hS9; (try dsimp only at hS9); go_simp; (try with_reducible rfl))
    (try simp only [Act.put])
    (try simp only [List.setIfInBounds_toArray])
    (repeat (first | simp only [List.set_cons_succ] | simp only [List.set_cons_zero]))
    refine wpE_ready (rs := [9, 13]) (by kernel_rfl) (by kernel_rfl) ?_
    refine AllReadyE.cons rfl (fun K hK => ?_) (AllReadyE.cons rfl (fun K hK => ?_) AllReadyE.nil)
    · rw [if_pos (show _ = true by kernel_rfl)]
      go_simp
      go_wp2_with (
        go_at_call 77
        refine (deliver0_any a _ _ _ _ _ _ _ _ _ bf df (.slice none 0 0) _).mono ?_
        rintro e w9 ⟨rfl, hb9⟩
        have HP1 := Lib.hid (show Below wc.heap.size wc w9 from by (refine bl_trans ?_ hb9; exact (by (repeat (first | (with_reducible exact Below.refl _ _) | (with_reducible exact HW.out) | (with_reducible apply bl_drewN) | (with_reducible apply bl_alloc) | (with_reducible apply Below.drew))); done)))
        skip
        clear HW hb9
        have HW := HP1
        clear HP1)
      clear hHeld
      refine hK.out _ _ (HW.out) (fun hHeld => ?_)
      clear hK K
      refine wpE_take (i := 10) (v := ?_) rfl (by kernel_rfl) (fun _ _ _ h => h) (Or.inl ⟨by kernel_rfl, ?_⟩) (by assumption) ?_
      rotate_left
      focus (intro w9 hS9; (try dsimp only at hS9); go_simp; (try with_reducible rfl))
      (try simp only [Act.put])
      (try simp only [List.setIfInBounds_toArray])
      (repeat (first | simp only [List.set_cons_succ] | simp only [List.set_cons_zero]))
      refine wpE_take (i := 11) (v := ?_) rfl (by kernel_rfl) (fun _ _ _ h => h) (Or.inl ⟨by kernel_rfl, ?_⟩) (by assumption) ?_
      rotate_left
      focus (intro w9 hS9; (try dsimp only at hS9); go_simp; (try with_reducible rfl))
      (try simp only [Act.put])
      (try simp only [List.setIfInBounds_toArray])
      (repeat (first | simp only [List.set_cons_succ] | simp only [List.set_cons_zero]))
      refine wpE_take (i := 12) (v := ?_) rfl (by kernel_rfl) (fun _ _ _ h => h) (Or.inl ⟨by kernel_rfl, ?_⟩) (by assumption) ?_
      rotate_left
      focus (intro w9 hS9; (try dsimp only at hS9); go_simp; (try with_reducible rfl))
      (try simp only [Act.put])
      (try simp only [List.setIfInBounds_toArray])
      (repeat (first | simp only [List.set_cons_succ] | simp only [List.set_cons_zero]))
      refine wpE_ready (rs := [13]) (by kernel_rfl) (by kernel_rfl) ?_
      refine AllReadyE.cons rfl (fun K hK => ?_) AllReadyE.nil
      rw [if_pos (show _ = true by kernel_rfl)]
      go_simp
      clear hHeld
      refine hK.out _ _ ((by (repeat (first | (with_reducible exact Below.refl _ _) | (with_reducible exact HW.out) | (with_reducible apply bl_drewN) | (with_reducible apply bl_alloc) | (with_reducible apply Below.drew))); done)) (fun hHeld => ?_)
      clear hK K
      refine wpE_ready (rs := [14]) (by kernel_rfl) (by kernel_rfl) ?_
      refine AllReadyE.cons rfl (fun K hK => ?_) AllReadyE.nil
      rw [if_pos (show _ = true by kernel_rfl)]
      go_simp
      clear hHeld
      refine hK.out _ _ ((by (repeat (first | (with_reducible exact Below.refl _ _) | (with_reducible exact HW.out) | (with_reducible apply bl_drewN) | (with_reducible apply bl_alloc) | (with_reducible apply Below.drew))); done)) (fun hHeld => ?_)
      clear hK K
      clear hHeld
      refine wpE_out (by kernel_rfl) ?_
      refine wpAny_ready (rs := [15]) (by kernel_rfl) (by simp) ?_
      refine AllReady.cons rfl (fun K hK => ?_) AllReady.nil
      rw [if_pos (show _ = true by kernel_rfl)]
      go_simp
      refine hK _ _ ?_
      clear hK K
      refine wpAny_done (by kernel_rfl) ?_ _
      go_wp2_with (fail)
      go_meet
      exact ⟨_, rfl, rfl, alloc1_0 _ _, bl_alloc HW.out _⟩
    · rw [if_pos (show _ = true by kernel_rfl)]
      go_simp
      clear hHeld
      refine hK.out _ _ ((by (repeat (first | (with_reducible exact Below.refl _ _) | (with_reducible exact HW.out) | (with_reducible apply bl_drewN) | (with_reducible apply bl_alloc) | (with_reducible apply Below.drew))); done)) (fun hHeld => ?_)
      clear hK K
      refine wpE_ready (rs := [9]) (by kernel_rfl) (by kernel_rfl) ?_
      refine AllReadyE.cons rfl (fun K hK => ?_) AllReadyE.nil
      rw [if_pos (show _ = true by kernel_rfl)]
      go_simp
      go_wp2_with (
        go_at_call 77
        refine (deliver0_any a _ _ _ _ _ _ _ _ _ bf df (.slice none 0 0) _).mono ?_
        rintro e w9 ⟨rfl, hb9⟩
        have HP1 := Lib.hid (show Below wc.heap.size wc w9 from by (refine bl_trans ?_ hb9; exact (by (repeat (first | (with_reducible exact Below.refl _ _) | (with_reducible exact HW.out) | (with_reducible apply bl_drewN) | (with_reducible apply bl_alloc) | (with_reducible apply Below.drew))); done)))
        have m0 := Go.Tw.Below.at_old hb9 (alloc1_0 wc.drew _)
        clear HW hb9
        have HW := HP1
        clear HP1)
      clear hHeld
      refine hK.out _ _ (HW.out) (fun hHeld => ?_)
      clear hK K
      refine wpE_take (i := 10) (v := ?_) rfl (by kernel_rfl) (fun _ _ _ h => h) (Or.inl ⟨by kernel_rfl, ?_⟩) (by assumption) ?_
      rotate_left
      focus (intro w9 hS9; (try dsimp only at hS9); go_simp; (try with_reducible rfl))
      (try simp only [Act.put])
      (try simp only [List.setIfInBounds_toArray])
      (repeat (first | simp only [List.set_cons_succ] | simp only [List.set_cons_zero]))
      refine wpE_take (i := 11) (v := ?_) rfl (by kernel_rfl) (fun _ _ _ h => h) (Or.inl ⟨by kernel_rfl, ?_⟩) (by assumption) ?_
      rotate_left
      focus (intro w9 hS9; (try dsimp only at hS9); go_simp; (try with_reducible rfl))
      (try simp only [Act.put])
      (try simp only [List.setIfInBounds_toArray])
      (repeat (first | simp only [List.set_cons_succ] | simp only [List.set_cons_zero]))
      refine wpE_take (i := 12) (v := ?_) rfl (by kernel_rfl) (fun _ _ _ h => h) (Or.inl ⟨by kernel_rfl, ?_⟩) (by assumption) ?_
      rotate_left
      focus (intro w9 hS9; (try dsimp only at hS9); go_simp; (try with_reducible rfl))
      (try simp only [Act.put])
      (try simp only [List.setIfInBounds_toArray])
      (repeat (first | simp only [List.set_cons_succ] | simp only [List.set_cons_zero]))
      have M0 := Lib.hid (show w9.heap[wc.heap.size]? = some (.cells #[.string ⟨#[]⟩, .int .i64 0, .int .i64 0, .slice none 0 0, .slice none 0 0, .slice none 0 0] 25 (0, 0)) from m0)
      clear m0
      obtain ⟨y0', y1', y2', y3', y4', y5', yf⟩ := blk6' M0.out
      refine wpE_ready (rs := [14]) (by kernel_rfl) (by kernel_rfl) ?_
      refine AllReadyE.cons rfl (fun K hK => ?_) AllReadyE.nil
      rw [if_pos (show _ = true by kernel_rfl)]
      go_simp
      clear hHeld
      refine hK.out _ _ ((by (repeat (first | (with_reducible exact HW.out) | (with_reducible apply bl_drewN) | (with_reducible apply bl_alloc) | ((with_reducible refine bl_set ?_ _ ?_); rotate_left; focus (first | exact Nat.le_refl _ | (simp; done) | (simp; omega))))))) (fun hHeld => ?_)
      clear hK K
      clear hHeld
      refine wpE_out (by kernel_rfl) ?_
      refine wpAny_ready (rs := [15]) (by kernel_rfl) (by simp) ?_
      refine AllReady.cons rfl (fun K hK => ?_) AllReady.nil
      rw [if_pos (show _ = true by kernel_rfl)]
      go_simp
      refine hK _ _ ?_
      clear hK K
      refine wpAny_done (by kernel_rfl) ?_ _
      go_wp2_with (fail)
      go_meet
      exact ⟨_, rfl, rfl, set6_same M0.out, (by (repeat (first | (with_reducible exact HW.out) | (with_reducible apply bl_drewN) | (with_reducible apply bl_alloc) | ((with_reducible refine bl_set ?_ _ ?_); rotate_left; focus (first | exact Nat.le_refl _ | (simp; done) | (simp; omega))))))⟩
  case rest =>
    obtain ⟨b13, rfl, rfl, hx13, hbc⟩ := hcut
    have HX9 := Lib.hid (HX8.out.step hbc)
    have HX13 := Lib.hid hx13
    have HX11 := Lib.hid (Go.Tw.Below.at_old hbc HY0.out)
    clear hx13 hbc HX8 HY0
    have hw4 : w.heap.size + 4 ≤ wc.heap.size := by have := lt_of_heap HX9.out.rb; omega
    have H13 := Lib.hid (box6D HX13.out)
    have H11 := Lib.hid (box6D HX11.out)
    obtain ⟨qa, hqa⟩ : ∃ q, (ackC a (b.inn - 1)).1 = q := ⟨_, rfl⟩
    obtain ⟨qb, hqb⟩ : ∃ q, (ackC b (a.inn - 1)).1 = q := ⟨_, rfl⟩
    have HC1 := Lib.hid (show ∀ W', Below wc.heap.size wc W' → Calls Try.prog 78 #[.agg #[.string a.nm, .int .i64 a.out, .int .i64 a.inn, .slice x1 a.wt.length y1, .slice x2 a.ours.length y2, .slice x3 a.thr.length y3], .agg #[.string b.nm, .int .i64 b.out, .int .i64 b.inn, .slice z1 b.wt.length e1, .slice z2 b.ours.length e2, .slice z3 b.thr.length e3]] W'
        fun e w' => (∃ v, e = .returned v ∧ PV (fun k => k < w.heap.size ∨ (W'.heap.size ≤ k ∧ k < w'.heap.size)) w' qa v) ∧ Below W'.heap.size W' w' from fun W' hw => by
      rw [← hqa]
      have hb := bl_trans HX9.out.bel hw
      exact acknowledge_gen (· < w.heap.size) a b _ _ _ _ _ _ W' (HA.out.keep (fun _ h => h) (.of_below hb)) (fun k h => Nat.lt_of_lt_of_le h hb.size) (HB.out.step hb) HSA.out HIB.out)
    have HC2 := Lib.hid (show ∀ W', Below wc.heap.size wc W' → Calls Try.prog 78 #[.agg #[.string b.nm, .int .i64 b.out, .int .i64 b.inn, .slice z1 b.wt.length e1, .slice z2 b.ours.length e2, .slice z3 b.thr.length e3], .agg #[.string a.nm, .int .i64 a.out, .int .i64 a.inn, .slice x1 a.wt.length y1, .slice x2 a.ours.length y2, .slice x3 a.thr.length y3]] W'
        fun e w' => (∃ v, e = .returned v ∧ PV (fun k => k < w.heap.size ∨ (W'.heap.size ≤ k ∧ k < w'.heap.size)) w' qb v) ∧ Below W'.heap.size W' w' from fun W' hw => by
      rw [← hqb]
      have hb := bl_trans HX9.out.bel hw
      exact acknowledge_gen (· < w.heap.size) b a _ _ _ _ _ _ W' (HB.out.keep (fun _ h => h) (.of_below hb)) (fun k h => Nat.lt_of_lt_of_le h hb.size) (HA.out.step hb) HSB.out HIA.out)
    have HW := Lib.hid (Below.refl wc.heap.size wc)
    have HQE := Lib.hid (show (ackC a (b.inn - 1)).1 = qa ∧ (ackC b (a.inn - 1)).1 = qb from ⟨hqa, hqb⟩)
    clear hqa hqb HX13 HX11
    go_upto_region 8 with (fail)
    refine wp_region_E 6 (fun w' => Below wc.heap.size wc w') (by kernel_rfl) ((by (repeat (first | (with_reducible exact Below.refl _ _) | (with_reducible exact HW.out) | (with_reducible apply bl_drewN) | (with_reducible apply bl_alloc) | (with_reducible apply Below.drew))); done)) (fun hHeld => ?_)
    refine wpE_take (i := 0) (v := ?_) rfl (by kernel_rfl) (fun _ _ _ h => h) (Or.inl ⟨by kernel_rfl, ?_⟩) (by assumption) ?_
    rotate_left
    focus (intro w9 hS9; obtain ⟨z0, z1, z2, z3, z4, z5⟩ := H13.out w9 hS9; clear hS9; go_simp; (try with_reducible rfl))
    (try simp only [Act.put])
    (try simp only [List.setIfInBounds_toArray])
    (repeat (first | simp only [List.set_cons_succ] | simp only [List.set_cons_zero]))
    refine wpE_take (i := 1) (v := ?_) rfl (by kernel_rfl) (fun _ _ _ h => h) (Or.inl ⟨by kernel_rfl, ?_⟩) (by assumption) ?_
    rotate_left
    focus (intro w9 hS9; obtain ⟨z0, z1, z2, z3, z4, z5⟩ := H11.out w9 hS9; clear hS9; go_simp; (try with_reducible rfl))
    (try simp only [Act.put])
    (try simp only [List.setIfInBounds_toArray])
    (repeat (first | simp only [List.set_cons_succ] | simp only [List.set_cons_zero]))
    refine wpE_take (i := 3) (v := ?_) rfl (by kernel_rfl) (fun _ _ _ h => h) (Or.inl ⟨by kernel_rfl, ?_⟩) (by assumption) ?_
    rotate_left
    focus (intro w9 hS9; obtain ⟨z0, z1, z2, z3, z4, z5⟩ := H11.out w9 hS9; clear hS9; go_simp; (try with_reducible rfl))
    (try simp only [Act.put])
    (try simp only [List.setIfInBounds_toArray])
    (repeat (first | simp only [List.set_cons_succ] | simp only [List.set_cons_zero]))
    refine wpE_take (i := 4) (v := ?_) rfl (by kernel_rfl) (fun _ _ _ h => h) (Or.inl ⟨by kernel_rfl, ?_⟩) (by assumption) ?_
    rotate_left
    focus (intro w9 hS9; obtain ⟨z0, z1, z2, z3, z4, z5⟩ := H13.out w9 hS9; clear hS9; go_simp; (try with_reducible rfl))
    (try simp only [Act.put])
    (try simp only [List.setIfInBounds_toArray])
    (repeat (first | simp only [List.set_cons_succ] | simp only [List.set_cons_zero]))
    refine wpE_ready (rs := [2]) (by kernel_rfl) (by kernel_rfl) ?_
    refine AllReadyE.cons rfl (fun K hK => ?_) AllReadyE.nil
    rw [if_pos (show _ = true by kernel_rfl)]
    go_simp
    go_wp2_with (
      go_at_call 78
      refine (HC1.out _ (by (repeat (first | (with_reducible exact Below.refl _ _) | (with_reducible exact HW.out) | (with_reducible apply bl_drewN) | (with_reducible apply bl_alloc) | (with_reducible apply Below.drew))); done)).mono ?_
      rintro e w9 ⟨⟨v9, rfl, hv⟩, hb9⟩
      have HP1 := Lib.hid (show Below wc.heap.size wc w9 from by (refine bl_trans ?_ hb9; exact (by (repeat (first | (with_reducible exact Below.refl _ _) | (with_reducible exact HW.out) | (with_reducible apply bl_drewN) | (with_reducible apply bl_alloc) | (with_reducible apply Below.drew))); done)))
      clear HW
      have HW := HP1
      clear HP1
      obtain ⟨u1, f1, u2, f2, u3, f3, rfl, hqv⟩ := pv_form hv
      have HQA := Lib.hid hqv
      have hz9 := hb9.size
      clear hv hqv hb9)
    clear hHeld
    refine hK.out _ _ (HW.out) (fun hHeld => ?_)
    clear hK K
    refine wpE_ready (rs := [5]) (by kernel_rfl) (by kernel_rfl) ?_
    refine AllReadyE.cons rfl (fun K hK => ?_) AllReadyE.nil
    rw [if_pos (show _ = true by kernel_rfl)]
    go_simp
    go_wp2_with (
      go_at_call 78
      refine (HC2.out _ (by (repeat (first | (with_reducible exact Below.refl _ _) | (with_reducible exact HW.out) | (with_reducible apply bl_drewN) | (with_reducible apply bl_alloc) | (with_reducible apply Below.drew))); done)).mono ?_
      rintro e w10 ⟨⟨v9, rfl, hv⟩, hb9⟩
      have HP1 := Lib.hid (show Below wc.heap.size wc w10 from by (refine bl_trans ?_ hb9; exact (by (repeat (first | (with_reducible exact Below.refl _ _) | (with_reducible exact HW.out) | (with_reducible apply bl_drewN) | (with_reducible apply bl_alloc) | (with_reducible apply Below.drew))); done)))
      clear HW
      have HW := HP1
      clear HP1
      obtain ⟨g1, h1, g2, h2, g3, h3, rfl, hqv⟩ := pv_form hv
      have HQB := Lib.hid hqv
      have HS9 := Lib.hid hb9
      clear hv hqv hb9)
    clear hHeld
    refine hK.out _ _ (HW.out) (fun hHeld => ?_)
    clear hK K
    clear hHeld
    refine wpE_out (by kernel_rfl) ?_
    have HXF := Lib.hid (HX9.out.step HW.out)
    obtain ⟨c0, c1, c2, c3, c4, c5, cf'⟩ := blk6' HXF.out.ra
    obtain ⟨d0, d1, d2, d3, d4, d5, df'⟩ := blk6' HXF.out.rb
    refine wpAny_ready (rs := [6]) (by kernel_rfl) (by simp) ?_
    refine AllReady.cons rfl (fun K hK => ?_) AllReady.nil
    rw [if_pos (show _ = true by kernel_rfl)]
    go_simp
    refine hK _ _ ?_
    clear hK K
    refine wpAny_ready (rs := [7]) (by kernel_rfl) (by simp) ?_
    refine AllReady.cons rfl (fun K hK => ?_) AllReady.nil
    rw [if_pos (show _ = true by kernel_rfl)]
    go_simp
    refine hK _ _ ?_
    clear hK K
    refine wpAny_ready (rs := [8]) (by kernel_rfl) (by simp) ?_
    refine AllReady.cons rfl (fun K hK => ?_) AllReady.nil
    rw [if_pos (show _ = true by kernel_rfl)]
    go_simp
    refine hK _ _ ?_
    clear hK K
    refine wpAny_done (by kernel_rfl) ?_ _
    go_wp2_with (fail)
    have hzc : wc.heap.size ≤ w9.heap.size := hz9
    have hz10 : w9.heap.size ≤ w10.heap.size := HS9.out.size
    refine bodyPost_ret (v := .tuple #[.agg #[.string qa.nm, .int .i64 qa.out, .int .i64 qa.inn, .slice u1 qa.wt.length f1, .slice u2 qa.ours.length f2, .slice u3 qa.thr.length f3], .agg #[.string qb.nm, .int .i64 qb.out, .int .i64 qb.inn, .slice g1 qb.wt.length h1, .slice g2 qb.ours.length h2, .slice g3 qb.thr.length h3], .int .i64 0])
      (by simp [results, Try.results60, go_sem, c0, c1, c2, c3, c4, c5, d0, d1, d2, d3, d4, d5]) rfl ⟨⟨_, _, rfl, ?_, ?_⟩, ?_⟩
    · rw [HQE.out.1]
      refine ⟨_, _, _, rfl, HQA.out.keep (fun k hk => ?_) (fun k hk => ?_)⟩
      · simp
        rcases hk with h | h
        · omega
        · have := h.2; omega
      · have hne : k ≠ w.heap.size + 1 + 1 ∧ k ≠ w.heap.size + 1 + 1 + 1 ∧ k < w9.heap.size := by
          rcases hk with h | h
          · omega
          · have h1 : wc.heap.size ≤ k := h.1
            have h2 := h.2
            omega
        exact (set6_ne hne.2.1).trans ((set6_ne hne.1).trans (HS9.out.block k hne.2.2))
    · rw [HQE.out.2]
      refine ⟨_, _, _, rfl, HQB.out.keep (fun k hk => ?_) (fun k hk => ?_)⟩
      · simp
        rcases hk with h | h
        · omega
        · have := h.2; omega
      · have hne : k ≠ w.heap.size + 1 + 1 ∧ k ≠ w.heap.size + 1 + 1 + 1 := by
          rcases hk with h | h
          · omega
          · have h1 : w9.heap.size ≤ k := h.1
            omega
        exact (set6_ne hne.2).trans (set6_ne hne.1)
    · (repeat (first | (with_reducible exact HXF.out.bel) | (with_reducible apply bl_drewN) | (with_reducible apply bl_alloc) | ((with_reducible refine bl_set ?_ _ ?_); rotate_left; focus (first | exact Nat.le_refl _ | (simp; done) | (simp; omega)))))
end Go.Proofs.Ythdbojbblkfhaaa
