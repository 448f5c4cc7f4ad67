/-
  Layer 44 (recon): the walk of Reconcile at partners without anything.
-/
import Derived.Test.YthdbojbblkfhaaaRecoA
import Derived.Test.YthdbojbblkfhaaaRecoO
namespace Go.Proofs.Ythdbojbblkfhaaa
open Go.RowKit Go.Tw Go.Tw.Exc
def emp (n : ByteArray) : Par := ⟨n, 0, 0, [], [], []⟩
theorem sl_emptyE {α : Type} {T : Ty α} {S S' : Nat → Prop} {w w' : World} {v : Value} (h : SlIs T S w v []) : SlIs T S' w' v [] := by
  obtain ⟨ao, cap, b, off, hv, h1, h2, h3, h4⟩ := h
  exact ⟨ao, cap, b, off, hv, h1, h2, h3, fun k hk => absurd hk (Nat.not_lt_zero _)⟩
theorem emp_on {S S' : Nat → Prop} {w w' : World} {n : ByteArray} {u1 u2 u3 : Value} (h : ParOk S w (emp n) u1 u2 u3) : ParOk S' w' (emp n) u1 u2 u3 := ⟨h.nm, h.out, h.inn, sl_emptyE h.wt, sl_emptyE h.ours, sl_emptyE h.thr⟩
theorem emp_ack (n : ByteArray) : (ackC (emp n) (0 - 1)).1 = emp n := by rw [ack_refused (.inl (by decide))]
theorem emp_small (n : ByteArray) : SmallP (emp n) := ⟨Nat.zero_le _, fun f hf => (by cases hf), Nat.zero_le _, Nat.zero_le _⟩
theorem small44_nil : Small44 [] := ⟨Nat.zero_le _, fun r hr => by cases hr⟩
theorem differ_nil : differC [] [] = [] := by
  unfold differC keysU fkeys
  simp
theorem emp_agree (a b : ByteArray) : agreeC (emp a) (emp b) = true := by
  unfold agreeC
  show (decide ((differC [] []).length = 0) && decide ((differC [] []).length = 0)) = true
  rw [differ_nil]; rfl
theorem round_emp (na nb : ByteArray) (a1 a2 a3 b1 b2 b3 : Value) (w : World) (ha : ParOk (· < w.heap.size) w (emp na) a1 a2 a3) (hb : ParOk (· < w.heap.size) w (emp nb) b1 b2 b3) :
    Calls Try.prog 60 #[.agg #[.string na, .int .i64 0, .int .i64 0, a1, a2, a3], .agg #[.string nb, .int .i64 0, .int .i64 0, b1, b2, b3], .slice none 0 0] w
      fun e w' => (∃ u1 c1 u2 c2 u3 c3 g1 h1 g2 h2 g3 h3, e = .returned (.tuple #[.agg #[.string na, .int .i64 0, .int .i64 0, .slice u1 0 c1, .slice u2 0 c2, .slice u3 0 c3], .agg #[.string nb, .int .i64 0, .int .i64 0, .slice g1 0 h1, .slice g2 0 h2, .slice g3 0 h3], .int .i64 0]) ∧
        ParOk (· < w'.heap.size) w' (emp na) (.slice u1 0 c1) (.slice u2 0 c2) (.slice u3 0 c3) ∧ ParOk (· < w'.heap.size) w' (emp nb) (.slice g1 0 h1) (.slice g2 0 h2) (.slice g3 0 h3)) ∧ Below w.heap.size w w' := by
  refine (round0_any (emp na) (emp nb) a1 a2 a3 b1 b2 b3 w ha hb (emp_small _) (emp_small _) rfl rfl (show i64ok (0 - 1) by unfold i64ok; decide) (show i64ok (0 - 1) by unfold i64ok; decide)).mono ?_
  rintro e w' ⟨⟨v1, v2, rfl, p1, p2⟩, hb'⟩
  have p1' : PV (· < w'.heap.size) w' (emp na) v1 := by have := p1; rwa [show (ackC (emp na) ((emp nb).inn - 1)).1 = emp na from emp_ack na] at this
  have p2' : PV (· < w'.heap.size) w' (emp nb) v2 := by have := p2; rwa [show (ackC (emp nb) ((emp na).inn - 1)).1 = emp nb from emp_ack nb] at this
  obtain ⟨u1, c1, u2, c2, u3, c3, rfl, hq1⟩ := pv_form p1'
  obtain ⟨g1, h1, g2, h2, g3, h3, rfl, hq2⟩ := pv_form p2'
  exact ⟨⟨u1, c1, u2, c2, u3, c3, g1, h1, g2, h2, g3, h3, rfl, hq1, hq2⟩, hb'⟩
theorem differ_emp (na nb : ByteArray) (a1 a2 a3 b1 b2 b3 : Value) (w : World) (ha : ParOk (· < w.heap.size) w (emp na) a1 a2 a3) (hb : ParOk (· < w.heap.size) w (emp nb) b1 b2 b3) :
    Calls Try.prog 33 #[.agg #[.string na, .int .i64 0, .int .i64 0, a1, a2, a3], .agg #[.string nb, .int .i64 0, .int .i64 0, b1, b2, b3]] w
      fun e w' => (∃ u c, e = .returned (.slice u 0 c)) ∧ Below w.heap.size w w' := by
  refine (differ_any (emp na) (emp nb) a1 a2 a3 b1 b2 b3 w ha hb small44_nil small44_nil).mono ?_
  rintro e w' ⟨⟨v, rfl, ho⟩, hb'⟩
  obtain ⟨u, c, rfl, -, -⟩ := ho.form
  refine ⟨⟨u, c, ?_⟩, hb'⟩
  rw [show differC (emp na).ours (emp nb).thr = [] from differ_nil]
  rfl
/-- the blocks from n on are as they were -/
structure KeepS (n : Nat) (w w' : World) : Prop where
  out : SameOn (fun k => n ≤ k ∧ k < w.heap.size) w w'
theorem KeepS.drew {n : Nat} {w w' : World} (h : KeepS n w w') : KeepS n w w'.drew := ⟨h.out⟩
theorem KeepS.set6 {n b : Nat} {w w' : World} {x0 x1 x2 x3 x4 x5 : Value} (h : KeepS n w w') (hb : b < n) : KeepS n w ((((((w'.setCell ⟨b, 0, none⟩ x0).setCell ⟨b, 1, none⟩ x1).setCell ⟨b, 2, none⟩ x2).setCell ⟨b, 3, none⟩ x3).setCell ⟨b, 4, none⟩ x4).setCell ⟨b, 5, none⟩ x5) :=
  ⟨fun k hk => (set6_ne (by have := hk.1; omega)).trans (h.out k hk)⟩
theorem KeepS.refl (n : Nat) (w : World) : KeepS n w w := ⟨fun _ _ => rfl⟩
theorem box6S {wb : World} {b n : Nat} {t : TypeId} {a0 a1 a2 a3 a4 a5 : Value} (h : wb.heap[b]? = some (.cells #[a0, a1, a2, a3, a4, a5] t (0, 0))) (hn : n ≤ b) : ∀ w', KeepS n wb w' → w'.cell? ⟨b, 0, none⟩ = some a0 ∧ w'.cell? ⟨b, 1, none⟩ = some a1 ∧ w'.cell? ⟨b, 2, none⟩ = some a2 ∧ w'.cell? ⟨b, 3, none⟩ = some a3 ∧ w'.cell? ⟨b, 4, none⟩ = some a4 ∧ w'.cell? ⟨b, 5, none⟩ = some a5 := fun w' hb => by
  obtain ⟨h0, h1, h2, h3, h4, h5, -⟩ := blk6' ((hb.out b ⟨hn, lt_of_heap h⟩).trans h)
  exact ⟨h0, h1, h2, h3, h4, h5⟩
set_option maxRecDepth 100000 in
set_option maxHeartbeats 8000000 in
theorem reconcile_emp (na nb : ByteArray) (x1 x2 x3 z1 z2 z3 : Option Addr) (y1 y2 y3 e1 e2 e3 : Nat) (w : World) (ha : ParOk (· < w.heap.size) w (emp na) (.slice x1 0 y1) (.slice x2 0 y2) (.slice x3 0 y3)) (hb : ParOk (· < w.heap.size) w (emp nb) (.slice z1 0 e1) (.slice z2 0 e2) (.slice z3 0 e3)) :
    Calls Try.prog 42 #[.agg #[.string na, .int .i64 0, .int .i64 0, .slice x1 0 y1, .slice x2 0 y2, .slice x3 0 y3], .agg #[.string nb, .int .i64 0, .int .i64 0, .slice z1 0 e1, .slice z2 0 e2, .slice z3 0 e3]] w
      fun e w' => (∃ u1 c1 u2 c2 u3 c3 g1 h1 g2 h2 g3 h3, e = .returned (.tuple #[.agg #[.string na, .int .i64 0, .int .i64 0, .slice u1 0 c1, .slice u2 0 c2, .slice u3 0 c3], .agg #[.string nb, .int .i64 0, .int .i64 0, .slice g1 0 h1, .slice g2 0 h2, .slice g3 0 h3], .int .i64 0, .int .i64 0])) ∧ Below w.heap.size w w' := by
  have HA := Lib.hid ha
  have HB := Lib.hid hb
  clear ha hb
  go_enter Try.func42, Try.ntmps42
  go_wp2_with (fail)
  refine (round_emp na nb _ _ _ _ _ _ _ (emp_on HA.out) (emp_on HB.out)).mono ?_
  rintro e w5 ⟨⟨u1, c1, u2, c2, u3, c3, g1, h1, g2, h2, g3, h3, rfl, hq1, hq2⟩, hb5⟩
  have HQ1 := Lib.hid hq1
  have HQ2 := Lib.hid hq2
  have HR2 := Lib.hid (Go.Tw.Below.at_old hb5 (alloc4_2 w _ _ _ _))
  have HR3 := Lib.hid (Go.Tw.Below.at_old hb5 (alloc4_3 w _ _ _ _))
  have HB5 := Lib.hid (bl_trans (bl_alloc (bl_alloc (bl_alloc (bl_alloc (Below.refl w.heap.size w) _) _) _) _) hb5)
  have hz5 : w.heap.size + 4 ≤ w5.heap.size := by have := hb5.size; simpa using this
  clear hq1 hq2 hb5
  go_upto_region 4 with (fail)
  obtain ⟨wq, hwq⟩ : ∃ wq, (w5.alloc (.cells #[.string na, .int .i64 0, .int .i64 0, .slice u1 0 c1, .slice u2 0 c2, .slice u3 0 c3] 25)).alloc (.cells #[.string nb, .int .i64 0, .int .i64 0, .slice g1 0 h1, .slice g2 0 h2, .slice g3 0 h3] 25) = wq := ⟨_, rfl⟩
  have m8 := alloc2_0 w5 (.cells #[.string na, .int .i64 0, .int .i64 0, .slice u1 0 c1, .slice u2 0 c2, .slice u3 0 c3] 25) (.cells #[.string nb, .int .i64 0, .int .i64 0, .slice g1 0 h1, .slice g2 0 h2, .slice g3 0 h3] 25)
  have m9 := alloc2_1 w5 (.cells #[.string na, .int .i64 0, .int .i64 0, .slice u1 0 c1, .slice u2 0 c2, .slice u3 0 c3] 25) (.cells #[.string nb, .int .i64 0, .int .i64 0, .slice g1 0 h1, .slice g2 0 h2, .slice g3 0 h3] 25)
  have hbq : Below w5.heap.size w5 wq := by rw [← hwq]; exact bl_alloc (bl_alloc (Below.refl _ _) _) _
  rw [hwq] at m8 m9 ⊢
  have HM8 := Lib.hid m8
  have HM9 := Lib.hid m9
  have HQR2 := Lib.hid (Go.Tw.Below.at_old hbq HR2.out)
  have HQR3 := Lib.hid (Go.Tw.Below.at_old hbq HR3.out)
  have HBQ := Lib.hid (bl_trans HB5.out hbq)
  obtain ⟨b8, hb8⟩ : ∃ k, w5.heap.size = k := ⟨_, rfl⟩
  rw [hb8] at HM8 HM9 hz5 ⊢
  clear hwq m8 m9 hbq HR2 HR3 HB5 hb8
  have HX8 := Lib.hid (box6D HM8.out)
  have HX9 := Lib.hid (box6D HM9.out)
  have HW := Lib.hid (Below.refl wq.heap.size wq)
  refine wp_region_E 6 (fun w' => Below wq.heap.size wq w') (by kernel_rfl) ((by (repeat (first | (with_reducible exact Below.refl _ _) | (with_reducible exact HW.out) | (with_reducible apply bl_drewN) | (with_reducible apply bl_alloc) | (with_reducible apply Below.drew))); done)) (fun hHeld => ?_)
  refine wpE_take (i := 0) (v := ?_) rfl (by kernel_rfl) (fun _ _ _ h => h) (Or.inl ⟨by kernel_rfl, ?_⟩) (by assumption) ?_
  rotate_left
  focus (intro w9 hS9; obtain ⟨z0, z1, z2, z3, z4, z5⟩ := HX8.out w9 hS9; clear hS9; go_simp; (try with_reducible rfl))
  (try simp only [Act.put])
  (try simp only [List.setIfInBounds_toArray])
  (repeat (first | simp only [List.set_cons_succ] | simp only [List.set_cons_zero]))
  refine wpE_take (i := 1) (v := ?_) rfl (by kernel_rfl) (fun _ _ _ h => h) (Or.inl ⟨by kernel_rfl, ?_⟩) (by assumption) ?_
  rotate_left
  focus (intro w9 hS9; obtain ⟨z0, z1, z2, z3, z4, z5⟩ := HX9.out w9 hS9; clear hS9; go_simp; (try with_reducible rfl))
  (try simp only [Act.put])
  (try simp only [List.setIfInBounds_toArray])
  (repeat (first | simp only [List.set_cons_succ] | simp only [List.set_cons_zero]))
  refine wpE_take (i := 3) (v := ?_) rfl (by kernel_rfl) (fun _ _ _ h => h) (Or.inl ⟨by kernel_rfl, ?_⟩) (by assumption) ?_
  rotate_left
  focus (intro w9 hS9; obtain ⟨z0, z1, z2, z3, z4, z5⟩ := HX9.out w9 hS9; clear hS9; go_simp; (try with_reducible rfl))
  (try simp only [Act.put])
  (try simp only [List.setIfInBounds_toArray])
  (repeat (first | simp only [List.set_cons_succ] | simp only [List.set_cons_zero]))
  refine wpE_take (i := 4) (v := ?_) rfl (by kernel_rfl) (fun _ _ _ h => h) (Or.inl ⟨by kernel_rfl, ?_⟩) (by assumption) ?_
  rotate_left
  focus (intro w9 hS9; obtain ⟨z0, z1, z2, z3, z4, z5⟩ := HX8.out w9 hS9; clear hS9; go_simp; (try with_reducible rfl))
  (try simp only [Act.put])
  (try simp only [List.setIfInBounds_toArray])
  (repeat (first | simp only [List.set_cons_succ] | simp only [List.set_cons_zero]))
  refine wpE_ready (rs := [2]) (by kernel_rfl) (by kernel_rfl) ?_
  refine AllReadyE.cons rfl (fun K hK => ?_) AllReadyE.nil
  rw [if_pos (show _ = true by kernel_rfl)]
  go_simp
  go_wp2_with (
    go_at_call 33
    refine (differ_emp na nb _ _ _ _ _ _ _ (emp_on HQ1.out) (emp_on HQ2.out)).mono ?_
    rintro e w9 ⟨⟨d1, k1, rfl⟩, hb9⟩
    have HP1 := Lib.hid (show Below wq.heap.size wq w9 from by (refine bl_trans ?_ hb9; exact (by (repeat (first | (with_reducible exact Below.refl _ _) | (with_reducible exact HW.out) | (with_reducible apply bl_drewN) | (with_reducible apply bl_alloc) | (with_reducible apply Below.drew))); done)))
    clear HW hb9
    have HW := HP1
    clear HP1)
  clear hHeld
  refine hK.out _ _ (HW.out) (fun hHeld => ?_)
  clear hK K
  refine wpE_ready (rs := [5]) (by kernel_rfl) (by kernel_rfl) ?_
  refine AllReadyE.cons rfl (fun K hK => ?_) AllReadyE.nil
  rw [if_pos (show _ = true by kernel_rfl)]
  go_simp
  go_wp2_with (
    go_at_call 33
    refine (differ_emp nb na _ _ _ _ _ _ _ (emp_on HQ2.out) (emp_on HQ1.out)).mono ?_
    rintro e w9 ⟨⟨d2, k2, rfl⟩, hb9⟩
    have HP1 := Lib.hid (show Below wq.heap.size wq w9 from by (refine bl_trans ?_ hb9; exact (by (repeat (first | (with_reducible exact Below.refl _ _) | (with_reducible exact HW.out) | (with_reducible apply bl_drewN) | (with_reducible apply bl_alloc) | (with_reducible apply Below.drew))); done)))
    clear HW hb9
    have HW := HP1
    clear HP1)
  clear hHeld
  refine hK.out _ _ (HW.out) (fun hHeld => ?_)
  clear hK K
  clear hHeld
  refine wpE_out (by kernel_rfl) ?_
  refine wpAny_ready (rs := [6]) (by kernel_rfl) (by simp) ?_
  refine AllReady.cons rfl (fun K hK => ?_) AllReady.nil
  rw [if_pos (show _ = true by kernel_rfl)]
  go_simp
  refine hK _ _ ?_
  clear hK K
  refine wpAny_ready (rs := [7]) (by kernel_rfl) (by simp) ?_
  refine AllReady.cons rfl (fun K hK => ?_) AllReady.nil
  rw [if_pos (show _ = true by kernel_rfl)]
  go_simp
  refine hK _ _ ?_
  clear hK K
  refine wpAny_done (by kernel_rfl) ?_ _
  have HN8 := Lib.hid (Go.Tw.Below.at_old HW.out HM8.out)
  have HN9 := Lib.hid (Go.Tw.Below.at_old HW.out HM9.out)
  have HNR2 := Lib.hid (Go.Tw.Below.at_old HW.out HQR2.out)
  have HNR3 := Lib.hid (Go.Tw.Below.at_old HW.out HQR3.out)
  have HBN := Lib.hid (bl_trans HBQ.out HW.out)
  clear HX8 HX9 HW HM8 HM9 HQR2 HQR3 HBQ
  obtain ⟨s0, s1, s2, s3, s4, s5, sf⟩ := blk6' HN8.out
  obtain ⟨t0, t1, t2, t3, t4, t5, tf⟩ := blk6' HN9.out
  go_wp2_with (fail)
  refine (round_emp na nb _ _ _ _ _ _ _ (emp_on HQ1.out) (emp_on HQ2.out)).mono ?_
  rintro e w6 ⟨⟨v1, k1', v2, k2', v3, k3', r1, l1, r2, l2, r3, l3, rfl, hq1, hq2⟩, hb6⟩
  have HV1 := Lib.hid hq1
  have HV2 := Lib.hid hq2
  have HO8 := Lib.hid (Go.Tw.Below.at_old hb6 HN8.out)
  have HO9 := Lib.hid (Go.Tw.Below.at_old hb6 HN9.out)
  have HOR2 := Lib.hid (Go.Tw.Below.at_old hb6 HNR2.out)
  have HOR3 := Lib.hid (Go.Tw.Below.at_old hb6 HNR3.out)
  have HBO := Lib.hid (bl_trans HBN.out hb6)
  clear hq1 hq2 hb6 HN8 HN9 HNR2 HNR3 HBN s0 s1 s2 s3 s4 s5 sf t0 t1 t2 t3 t4 t5 tf
  obtain ⟨s0, s1, s2, s3, s4, s5, sf⟩ := blk6' HO8.out
  obtain ⟨t0, t1, t2, t3, t4, t5, tf⟩ := blk6' HO9.out
  go_upto_region 14 with (fail)
  obtain ⟨wz, hwz⟩ : ∃ wz, ((((((((((((w6.setCell ⟨b8, 0, none⟩ (.string na)).setCell ⟨b8, 1, none⟩ (.int .i64 0)).setCell ⟨b8, 2, none⟩ (.int .i64 0)).setCell ⟨b8, 3, none⟩ (.slice v1 0 k1')).setCell ⟨b8, 4, none⟩ (.slice v2 0 k2')).setCell ⟨b8, 5, none⟩ (.slice v3 0 k3')).setCell ⟨b8 + 1, 0, none⟩ (.string nb)).setCell ⟨b8 + 1, 1, none⟩ (.int .i64 0)).setCell ⟨b8 + 1, 2, none⟩ (.int .i64 0)).setCell ⟨b8 + 1, 3, none⟩ (.slice r1 0 l1)).setCell ⟨b8 + 1, 4, none⟩ (.slice r2 0 l2)).setCell ⟨b8 + 1, 5, none⟩ (.slice r3 0 l3)) = wz := ⟨_, rfl⟩
  have HZ8 := Lib.hid (show wz.heap[b8]? = some (.cells #[.string na, .int .i64 0, .int .i64 0, .slice v1 0 k1', .slice v2 0 k2', .slice v3 0 k3'] 25 (0, 0)) by rw [← hwz]; exact (set6_ne (by omega)).trans (set6_same HO8.out))
  have HZ9 := Lib.hid (show wz.heap[b8 + 1]? = some (.cells #[.string nb, .int .i64 0, .int .i64 0, .slice r1 0 l1, .slice r2 0 l2, .slice r3 0 l3] 25 (0, 0)) by rw [← hwz]; exact set6_same ((set6_ne (by omega)).trans HO9.out))
  have HZR2 := Lib.hid (show wz.heap[w.heap.size + 1 + 1]? = some (.cells #[.string ⟨#[]⟩, .int .i64 0, .int .i64 0, .slice none 0 0, .slice none 0 0, .slice none 0 0] 25 (0, 0)) by rw [← hwz]; exact (set6_ne (by omega)).trans ((set6_ne (by omega)).trans HOR2.out))
  have HZR3 := Lib.hid (show wz.heap[w.heap.size + 1 + 1 + 1]? = some (.cells #[.string ⟨#[]⟩, .int .i64 0, .int .i64 0, .slice none 0 0, .slice none 0 0, .slice none 0 0] 25 (0, 0)) by rw [← hwz]; exact (set6_ne (by omega)).trans ((set6_ne (by omega)).trans HOR3.out))
  have hl8 : w.heap.size ≤ b8 := by omega
  have hl9 : w.heap.size ≤ b8 + 1 := by omega
  have HBZ := Lib.hid (show Below w.heap.size w wz by rw [← hwz]; exact bl_set (bl_set (bl_set (bl_set (bl_set (bl_set (bl_set (bl_set (bl_set (bl_set (bl_set (bl_set HBO.out _ hl8) _ hl8) _ hl8) _ hl8) _ hl8) _ hl8) _ hl9) _ hl9) _ hl9) _ hl9) _ hl9) _ hl9)
  rw [hwz]
  clear hwz s0 s1 s2 s3 s4 s5 sf t0 t1 t2 t3 t4 t5 tf HO8 HO9 HOR2 HOR3 HBO
  obtain ⟨s0, s1, s2, s3, s4, s5, sf⟩ := blk6' HZ8.out
  obtain ⟨t0, t1, t2, t3, t4, t5, tf⟩ := blk6' HZ9.out
  go_wp2_with (fail)
  refine (agree_any (emp na) (emp nb) _ _ _ _ _ _ wz (emp_on HV1.out) (emp_on HV2.out) small44_nil small44_nil small44_nil small44_nil).mono ?_
  rintro e w7 ⟨rfl, hb7⟩
  rw [emp_agree]
  have HY8 := Lib.hid (Go.Tw.Below.at_old hb7 HZ8.out)
  have HY9 := Lib.hid (Go.Tw.Below.at_old hb7 HZ9.out)
  have HYR2 := Lib.hid (Go.Tw.Below.at_old hb7 HZR2.out)
  have HYR3 := Lib.hid (Go.Tw.Below.at_old hb7 HZR3.out)
  have HBY := Lib.hid (bl_trans HBZ.out hb7)
  clear hb7 HZ8 HZ9 HZR2 HZR3 HBZ s0 s1 s2 s3 s4 s5 sf t0 t1 t2 t3 t4 t5 tf
  go_upto_region 18 with (fail)
  have hw0 : IntKind.i64.wrap 0 = 0 := by decide
  have hl87 : b8 + 1 < w7.heap.size := lt_of_heap HY9.out
  have HX8 := Lib.hid (box6S (n := w.heap.size + 4) HY8.out hz5)
  have HX9 := Lib.hid (box6S (n := w.heap.size + 4) HY9.out (Nat.le_succ_of_le hz5))
  refine wp_region_E 9 (fun w' => KeepS (w.heap.size + 4) w7 w') (by kernel_rfl) (⟨SameOn.refl _ _⟩) (fun hHeld => ?_)
  refine wpE_take (i := 0) (v := ?_) rfl (by kernel_rfl) (fun _ _ _ h => h) (Or.inl ⟨by kernel_rfl, ?_⟩) (by assumption) ?_
  rotate_left
  focus (intro w9 hS9; obtain ⟨z0, z1, z2, z3, z4, z5⟩ := HX8.out w9 hS9; clear hS9; go_simp; (try with_reducible rfl))
  (try simp only [Act.put])
  (try simp only [List.setIfInBounds_toArray])
  (repeat (first | simp only [List.set_cons_succ] | simp only [List.set_cons_zero]))
  refine wpE_take (i := 1) (v := ?_) rfl (by kernel_rfl) (fun _ _ _ h => h) (Or.inl ⟨by kernel_rfl, ?_⟩) (by assumption) ?_
  rotate_left
  focus (intro w9 hS9; obtain ⟨z0, z1, z2, z3, z4, z5⟩ := HX9.out w9 hS9; clear hS9; go_simp; (try with_reducible rfl))
  (try simp only [Act.put])
  (try simp only [List.setIfInBounds_toArray])
  (repeat (first | simp only [List.set_cons_succ] | simp only [List.set_cons_zero]))
  refine wpE_take (i := 2) (v := ?_) rfl (by kernel_rfl) (fun _ _ _ h => h) (Or.inl ⟨by kernel_rfl, ?_⟩) (by assumption) ?_
  rotate_left
  focus (intro w9 hS9; (try dsimp only at hS9); go_simp; (try with_reducible rfl))
  (try simp only [Act.put])
  (try simp only [List.setIfInBounds_toArray])
  (repeat (first | simp only [List.set_cons_succ] | simp only [List.set_cons_zero]))
  refine wpE_take (i := 3) (v := ?_) rfl (by kernel_rfl) (fun _ _ _ h => h) (Or.inl ⟨by kernel_rfl, ?_⟩) (by assumption) ?_
  rotate_left
  focus (intro w9 hS9; (try dsimp only at hS9); go_simp; (try with_reducible rfl))
  (try simp only [Act.put])
  (try simp only [List.setIfInBounds_toArray])
  (repeat (first | simp only [List.set_cons_succ] | simp only [List.set_cons_zero]))
  refine wpE_take (i := 4) (v := ?_) rfl (by kernel_rfl) (fun _ _ _ h => h) (Or.inl ⟨by kernel_rfl, ?_⟩) (by assumption) ?_
  rotate_left
  focus (intro w9 hS9; (try dsimp only at hS9); go_simp; (try with_reducible rfl))
  (try simp only [Act.put])
  (try simp only [List.setIfInBounds_toArray])
  (repeat (first | simp only [List.set_cons_succ] | simp only [List.set_cons_zero]))
  refine wpE_take (i := 5) (v := ?_) rfl (by kernel_rfl) (fun _ _ _ h => h) (Or.inl ⟨by kernel_rfl, ?_⟩) (by assumption) ?_
  rotate_left
  focus (intro w9 hS9; (try dsimp only at hS9); go_simp; (try with_reducible rfl))
  (try simp only [Act.put])
  (try simp only [List.setIfInBounds_toArray])
  (repeat (first | simp only [List.set_cons_succ] | simp only [List.set_cons_zero]))
  refine wpE_take (i := 6) (v := ?_) rfl (by kernel_rfl) (fun _ _ _ h => h) (Or.inl ⟨by kernel_rfl, ?_⟩) (by assumption) ?_
  rotate_left
  focus (intro w9 hS9; (try dsimp only at hS9); go_simp; (try with_reducible rfl))
  (try simp only [Act.put])
  (try simp only [List.setIfInBounds_toArray])
  (repeat (first | simp only [List.set_cons_succ] | simp only [List.set_cons_zero]))
  obtain ⟨s0, s1, s2, s3, s4, s5, sf⟩ := blk6' HYR2.out
  obtain ⟨t0, t1, t2, t3, t4, t5, tf⟩ := blk6' HYR3.out
  refine wpE_ready (rs := [7]) (by kernel_rfl) (by kernel_rfl) ?_
  refine AllReadyE.cons rfl (fun K hK => ?_) AllReadyE.nil
  rw [if_pos (show _ = true by kernel_rfl)]
  go_simp
  clear hHeld
  refine hK.out _ _ ?_ (fun hHeld => ?_)
  · with_reducible exact KeepS.drew (KeepS.set6 (KeepS.refl _ _) (by omega))
  clear hK K
  refine wpE_ready (rs := [8]) (by kernel_rfl) (by kernel_rfl) ?_
  refine AllReadyE.cons rfl (fun K hK => ?_) AllReadyE.nil
  rw [if_pos (show _ = true by kernel_rfl)]
  go_simp
  clear hHeld
  refine hK.out _ _ ?_ (fun hHeld => ?_)
  · with_reducible exact KeepS.drew (KeepS.set6 (KeepS.set6 (KeepS.refl _ _) (by omega)) (by omega))
  clear hK K
  clear hHeld
  refine wpE_out (by kernel_rfl) ?_
  refine wpAny_ready (rs := [9]) (by kernel_rfl) (by simp) ?_
  refine AllReady.cons rfl (fun K hK => ?_) AllReady.nil
  rw [if_pos (show _ = true by kernel_rfl)]
  go_simp
  refine hK _ _ ?_
  clear hK K
  refine wpAny_ready (rs := [10]) (by kernel_rfl) (by simp) ?_
  refine AllReady.cons rfl (fun K hK => ?_) AllReady.nil
  rw [if_pos (show _ = true by kernel_rfl)]
  go_simp
  refine hK _ _ ?_
  clear hK K
  refine wpAny_done (by kernel_rfl) ?_ _
  go_wp2_with (fail)
  refine bodyPost_ret (v := .tuple #[.agg #[.string na, .int .i64 0, .int .i64 0, .slice v1 0 k1', .slice v2 0 k2', .slice v3 0 k3'], .agg #[.string nb, .int .i64 0, .int .i64 0, .slice r1 0 l1, .slice r2 0 l2, .slice r3 0 l3], .int .i64 0, .int .i64 0])
    (by simp [results, Try.results42, go_sem, s0, s1, s2, s3, s4, s5, t0, t1, t2, t3, t4, t5]) rfl ⟨⟨_, _, _, _, _, _, _, _, _, _, _, _, rfl⟩, ?_⟩
  have h2 : w.heap.size ≤ w.heap.size + 1 + 1 := by omega
  have h3 : w.heap.size ≤ w.heap.size + 1 + 1 + 1 := by omega
  exact Below.drew (bl_set (bl_set (bl_set (bl_set (bl_set (bl_set (bl_set (bl_set (bl_set (bl_set (bl_set (bl_set HBY.out _ h2) _ h2) _ h2) _ h2) _ h2) _ h2) _ h3) _ h3) _ h3) _ h3) _ h3) _ h3)
end Go.Proofs.Ythdbojbblkfhaaa
