/-
  Layer 43 (exchange): the law ExchangeSends.
-/
import Derived.Test.YthdbojbblkfhaaaExcLaws
import Derived.Test.YthdbojbblkfhaaaExcSendR
namespace Go.Proofs.Ythdbojbblkfhaaa
open Go.RowKit Go.Tw Go.Tw.Exc Go.ChangeShapes Go.WideShapes
theorem se_form {w' : World} {e : Ending} {q : Par × Fil × Int} (h : SE w' e q) : ∃ a1 c1 a2 c2 a3 c3 a4 c4, e = .returned (.tuple #[.agg #[.string q.1.nm, .int .i64 q.1.out, .int .i64 q.1.inn, .slice a1 q.1.wt.length c1, .slice a2 q.1.ours.length c2, .slice a3 q.1.thr.length c3], .agg #[.string q.2.1.fr, .string q.2.1.to, .int .i64 q.2.1.sq, .slice a4 q.2.1.rs.length c4], .int .i64 q.2.2]) ∧
    ParOk (· < w'.heap.size) w' q.1 (.slice a1 q.1.wt.length c1) (.slice a2 q.1.ours.length c2) (.slice a3 q.1.thr.length c3) ∧ FilOk (· < w'.heap.size) w' q.2.1 (.slice a4 q.2.1.rs.length c4) := by
  obtain ⟨vw, vo, vt, vf, rfl, ho, hf⟩ := h
  obtain ⟨a1, c1, _, _, rfl, -⟩ := id ho.wt
  obtain ⟨a2, c2, _, _, rfl, -⟩ := id ho.ours
  obtain ⟨a3, c3, _, _, rfl, -⟩ := id ho.thr
  obtain ⟨a4, c4, _, _, rfl, -⟩ := id hf.rs
  exact ⟨_, _, _, _, _, _, _, _, rfl, ho, hf⟩
theorem fil_one {W : World} {b : Nat} {f : Fil} {v : Value} (h : W.heap[b]? = some (.cells #[.string f.fr, .string f.to, .int .i64 f.sq, v] 30 (0, 0))) (hf : FilOk (· < W.heap.size) W f v) : SlIs tFil (· < W.heap.size) W (.slice (some ⟨b, 0, none⟩) 1 1) [f] :=
  SlIs.of_block (css := [filCells f v]) (l := [f]) h ⟨[], by rfl⟩ ⟨tFil_mk hf, trivial⟩ (lt_of_heap h) (Nat.le_refl 1) (by unfold maxLen; omega)
theorem box6 {wb : World} {b : Nat} {t : TypeId} {a0 a1 a2 a3 a4 a5 : Value} (h : wb.heap[b]? = some (.cells #[a0, a1, a2, a3, a4, a5] t (0, 0))) : ∀ w', Below wb.heap.size wb w' → w'.cell? ⟨b, 0, none⟩ = some a0 ∧ w'.cell? ⟨b, 1, none⟩ = some a1 ∧ w'.cell? ⟨b, 2, none⟩ = some a2 ∧ w'.cell? ⟨b, 3, none⟩ = some a3 ∧ w'.cell? ⟨b, 4, none⟩ = some a4 ∧ w'.cell? ⟨b, 5, none⟩ = some a5 := fun w' hb => by
  obtain ⟨h0, h1, h2, h3, h4, h5, -⟩ := blk6' ((hb.block b (lt_of_heap h)).trans h)
  exact ⟨h0, h1, h2, h3, h4, h5⟩
theorem box4 {wb : World} {b : Nat} {t : TypeId} {a0 a1 a2 a3 : Value} (h : wb.heap[b]? = some (.cells #[a0, a1, a2, a3] t (0, 0))) : ∀ w', Below wb.heap.size wb w' → w'.cell? ⟨b, 0, none⟩ = some a0 ∧ w'.cell? ⟨b, 1, none⟩ = some a1 ∧ w'.cell? ⟨b, 2, none⟩ = some a2 ∧ w'.cell? ⟨b, 3, none⟩ = some a3 := fun w' hb => by
  obtain ⟨h0, h1, h2, h3, -⟩ := blk4 ((hb.block b (lt_of_heap h)).trans h)
  exact ⟨h0, h1, h2, h3⟩
set_option maxRecDepth 100000 in
set_option maxHeartbeats 8000000 in
theorem sends_walk : LawWalk Try.prog 3 Try.f3 := by
  intro H enc W base args ds ps hval hA hsz
  rw [Try.params3] at hA hval
  obtain ⟨v0, v1, v2, d0, d1, d2, p0, p1, p2, rfl, rfl, rfl, h0, h1, h2⟩ := trodAll_three hA
  obtain ⟨p, vw, vo, vt, rfl, hp⟩ := arg_par (hval 0 _ _ rfl rfl) h0
  obtain ⟨fr, rfl, hfr⟩ := arg_str Try.underlying9 (hval 1 _ _ rfl rfl) h1
  obtain ⟨l, hl⟩ := arg_slice Try.underlying23 (opensRecs (e := 51)) (hval 2 _ _ rfl rfl) h2
  clear hA hval h0 h1 h2 hsz
  obtain ⟨aw, cw, _, _, rfl, -⟩ := id hp.wt
  obtain ⟨ao, co, _, _, rfl, -⟩ := id hp.ours
  obtain ⟨at', ct, _, _, rfl, -⟩ := id hp.thr
  obtain ⟨al, cl, _, _, rfl, -⟩ := id hl
  have HP := Lib.hid hp
  have HL := Lib.hid hl
  have HFR := Lib.hid hfr
  clear hp hl hfr
  go_enter Try.func3, Try.ntmps3
  go_wp2_with (fail)
  refine (great_any p _ _ _ _ (HP.out.step (by (repeat (first | (with_reducible exact Below.refl _ _) | (with_reducible apply bl_drewN) | (with_reducible apply bl_alloc) | (with_reducible apply Below.drew))); done))).mono ?_
  rintro e w1 ⟨⟨bg, rfl, hsm⟩, hb⟩
  have HX := Lib.hid (Go.Tw.Below.at_old hb (alloc1_0 W _))
  obtain ⟨x0, x1, x2, x3, x4, x5, xf⟩ := blk6' HX.out
  have HB := Lib.hid (bl_trans (bl_alloc (Below.refl W.heap.size W) _) hb)
  clear hb
  cases bg
  case true =>
    go_wp2_with (fail)
    refine (awake_any _).mono ?_
    rintro e wz ⟨rfl, hbz⟩
    have HZ := Lib.hid (bl_trans HB.out hbz)
    clear hbz
    go_wp2_with (fail)
    go_ret
    exact ⟨rfl, HZ.out⟩
  have HS := Lib.hid (hsm rfl)
  clear hsm
  go_wp2_with (fail)
  refine (heavy_any l _ _ (HL.out.step HB.out)).mono ?_
  rintro e w2 ⟨rfl, hb⟩
  have HX2 := Lib.hid (Go.Tw.Below.at_old hb HX.out)
  clear x0 x1 x2 x3 x4 x5 xf
  obtain ⟨x0, x1, x2, x3, x4, x5, xf⟩ := blk6' HX2.out
  have HB2 := Lib.hid (bl_trans HB.out hb)
  clear HB hb HX
  have HB := HB2
  cases hh : heavyC l
  case true =>
    clear hh
    go_wp2_with (fail)
    refine (awake_any _).mono ?_
    rintro e wz ⟨rfl, hbz⟩
    have HZ := Lib.hid (bl_trans HB.out hbz)
    clear hbz
    go_wp2_with (fail)
    go_ret
    exact ⟨rfl, HZ.out⟩
  have HLL := Lib.hid (heavy_len hh)
  clear hh HB
  go_wp2_with (fail)
  refine (send_any p fr l _ _ _ _ _ (HP.out.step HB2.out) HS.out HFR.out (HL.out.step HB2.out)).mono ?_
  rintro e w3 ⟨he, hb⟩
  obtain ⟨Q, hQ⟩ : ∃ Q, sendC p fr l = Q := ⟨_, rfl⟩
  rw [hQ] at he
  obtain ⟨a1, c1, a2, c2, a3, c3, a4, c4, rfl, hq, hf⟩ := se_form he
  have HQ := Lib.hid hQ
  have HQP := Lib.hid hq
  have HQF := Lib.hid hf
  have HX3 := Lib.hid (Go.Tw.Below.at_old hb HX2.out)
  have HB3 := Lib.hid (bl_trans HB2.out hb)
  clear x0 x1 x2 x3 x4 x5 xf HX2 HB2 hb he hQ hq hf
  obtain ⟨x0, x1, x2, x3, x4, x5, xf⟩ := blk6' HX3.out
  have hz3 := lt_of_heap HX3.out
  have ne1 : ¬ W.heap.size = w3.heap.size := by omega
  have ne2 : ¬ W.heap.size = w3.heap.size + 1 := by omega
  go_wp2_with (fail)
  refine (sendR_any p fr l _ _ _ _ _ (HP.out.step (bl_trans HB3.out (by (repeat (first | (with_reducible exact Below.refl _ _) | (with_reducible apply bl_drewN) | (with_reducible apply bl_alloc) | (with_reducible apply Below.drew))); done))) HS.out HFR.out (HL.out.step (bl_trans HB3.out (by (repeat (first | (with_reducible exact Below.refl _ _) | (with_reducible apply bl_drewN) | (with_reducible apply bl_alloc) | (with_reducible apply Below.drew))); done))) (by have := HLL.out; omega)).mono ?_
  rintro e w4 ⟨he, hb⟩
  rw [HQ.out] at he
  obtain ⟨b1, d1, b2, d2, b3, d3, b4, d4, rfl, hq, hf⟩ := se_form he
  have HRP := Lib.hid hq
  have HRF := Lib.hid hf
  have HX4 := Lib.hid (Go.Tw.Below.at_old hb (alloc1_old _ (alloc1_old _ HX3.out)))
  have HA4 := Lib.hid (Go.Tw.Below.at_old hb (alloc2_0 w3 _ _))
  have HF4 := Lib.hid (Go.Tw.Below.at_old hb (alloc2_1 w3 _ _))
  have HU4 := Lib.hid (bl_trans (bl_alloc (bl_alloc (Below.refl w3.heap.size w3) _) _) hb)
  clear x0 x1 x2 x3 x4 x5 xf HX3 hb he hq hf ne1 ne2
  go_wp2_with (fail)
  refine (new_any fr _ HFR.out).mono ?_
  rintro e w5 ⟨he, hb⟩
  obtain ⟨N, hN⟩ : ∃ N, newC fr = N := ⟨_, rfl⟩
  rw [hN] at he
  obtain ⟨e1, i1, j1, e2, i2, j2, e3, i3, j3, rfl, hq⟩ := pe_form he
  have HN := Lib.hid hN
  have HNP := Lib.hid hq
  have HX5 := Lib.hid (Go.Tw.Below.at_old hb (alloc1_old _ (alloc1_old _ HX4.out)))
  have HA5 := Lib.hid (Go.Tw.Below.at_old hb (alloc1_old _ (alloc1_old _ HA4.out)))
  have HF5 := Lib.hid (Go.Tw.Below.at_old hb (alloc1_old _ (alloc1_old _ HF4.out)))
  have HB5 := Lib.hid (Go.Tw.Below.at_old hb (alloc2_0 w4 _ _))
  have HG5 := Lib.hid (Go.Tw.Below.at_old hb (alloc2_1 w4 _ _))
  have HU5 := Lib.hid (bl_trans (bl_alloc (bl_alloc (Below.refl w4.heap.size w4) _) _) hb)
  clear HX4 HA4 HF4 hb he hq hN
  go_wp2_with (fail)
  refine (newR_any fr _ HFR.out).mono ?_
  rintro e w6 ⟨he, hb⟩
  rw [HN.out] at he
  obtain ⟨f1, l1, m1, f2, l2, m2, f3, l3, m3, rfl, hq⟩ := pe_form he
  have HMP := Lib.hid hq
  have HX6 := Lib.hid (Go.Tw.Below.at_old hb (alloc1_old _ HX5.out))
  have HA6 := Lib.hid (Go.Tw.Below.at_old hb (alloc1_old _ HA5.out))
  have HF6 := Lib.hid (Go.Tw.Below.at_old hb (alloc1_old _ HF5.out))
  have HB6 := Lib.hid (Go.Tw.Below.at_old hb (alloc1_old _ HB5.out))
  have HG6 := Lib.hid (Go.Tw.Below.at_old hb (alloc1_old _ HG5.out))
  have HC6 := Lib.hid (Go.Tw.Below.at_old hb (alloc1_0 w5 _))
  have HU6 := Lib.hid (bl_trans (bl_alloc (Below.refl w5.heap.size w5) _) hb)
  clear HX5 HA5 HF5 HB5 HG5 hb he hq
  go_upto_region 7 with (fail)
  obtain ⟨wb, hwb⟩ : ∃ wb, w6.alloc (.cells #[.string N.1.nm, .int .i64 N.1.out, .int .i64 N.1.inn, .slice f1 l1 m1, .slice f2 l2 m2, .slice f3 l3 m3] 25) = wb := ⟨_, rfl⟩
  have yD := alloc1_0 w6 (.cells #[.string N.1.nm, .int .i64 N.1.out, .int .i64 N.1.inn, .slice f1 l1 m1, .slice f2 l2 m2, .slice f3 l3 m3] 25)
  have yX := alloc1_old (.cells #[.string N.1.nm, .int .i64 N.1.out, .int .i64 N.1.inn, .slice f1 l1 m1, .slice f2 l2 m2, .slice f3 l3 m3] 25) HX6.out
  have yA := alloc1_old (.cells #[.string N.1.nm, .int .i64 N.1.out, .int .i64 N.1.inn, .slice f1 l1 m1, .slice f2 l2 m2, .slice f3 l3 m3] 25) HA6.out
  have yF := alloc1_old (.cells #[.string N.1.nm, .int .i64 N.1.out, .int .i64 N.1.inn, .slice f1 l1 m1, .slice f2 l2 m2, .slice f3 l3 m3] 25) HF6.out
  have yB := alloc1_old (.cells #[.string N.1.nm, .int .i64 N.1.out, .int .i64 N.1.inn, .slice f1 l1 m1, .slice f2 l2 m2, .slice f3 l3 m3] 25) HB6.out
  have yG := alloc1_old (.cells #[.string N.1.nm, .int .i64 N.1.out, .int .i64 N.1.inn, .slice f1 l1 m1, .slice f2 l2 m2, .slice f3 l3 m3] 25) HG6.out
  have yC := alloc1_old (.cells #[.string N.1.nm, .int .i64 N.1.out, .int .i64 N.1.inn, .slice f1 l1 m1, .slice f2 l2 m2, .slice f3 l3 m3] 25) HC6.out
  have hU := bl_alloc (Below.refl w6.heap.size w6) (.cells #[.string N.1.nm, .int .i64 N.1.out, .int .i64 N.1.inn, .slice f1 l1 m1, .slice f2 l2 m2, .slice f3 l3 m3] 25)
  rw [hwb] at yD yX yA yF yB yG yC hU ⊢
  have HU5b := Lib.hid (bl_trans HU6.out hU)
  have HU4b := Lib.hid (bl_trans HU5.out HU5b.out)
  have HU3b := Lib.hid (bl_trans HU4.out HU4b.out)
  have HU6b := Lib.hid hU
  have HWB := Lib.hid (bl_trans HB3.out HU3b.out)
  have HCX := Lib.hid (box6 yX)
  have HCA := Lib.hid (box6 yA)
  have HCF := Lib.hid (box4 yF)
  have HCB := Lib.hid (box6 yB)
  have HCG := Lib.hid (box4 yG)
  have HCC := Lib.hid (box6 yC)
  have HCD := Lib.hid (box6 yD)
  have HS1 := Lib.hid (show ∀ W', Below wb.heap.size wb W' → Calls Try.prog 19 #[.agg #[.string Q.1.nm, .int .i64 Q.1.out, .int .i64 Q.1.inn, .slice a1 Q.1.wt.length c1, .slice a2 Q.1.ours.length c2, .slice a3 Q.1.thr.length c3], .agg #[.string Q.1.nm, .int .i64 Q.1.out, .int .i64 Q.1.inn, .slice b1 Q.1.wt.length d1, .slice b2 Q.1.ours.length d2, .slice b3 Q.1.thr.length d3]] W' fun e w' => e = .returned (.bool true) ∧ Below W'.heap.size W' w' from fun W' hW =>
    same_any Q.1 _ _ _ _ _ _ W' (HQP.out.step (bl_trans HU3b.out hW)) (HRP.out.step (bl_trans HU4b.out hW)))
  have HS2 := Lib.hid (show ∀ W', Below wb.heap.size wb W' → Calls Try.prog 19 #[.agg #[.string N.1.nm, .int .i64 N.1.out, .int .i64 N.1.inn, .slice e1 i1 j1, .slice e2 i2 j2, .slice e3 i3 j3], .agg #[.string N.1.nm, .int .i64 N.1.out, .int .i64 N.1.inn, .slice f1 l1 m1, .slice f2 l2 m2, .slice f3 l3 m3]] W' fun e w' => e = .returned (.bool true) ∧ Below W'.heap.size W' w' from fun W' hW =>
    same_any N.1 _ _ _ _ _ _ W' (HNP.out.step (bl_trans HU5b.out hW)) (HMP.out.step (bl_trans HU6b.out hW)))
  have HSF := Lib.hid (show ∀ W' b b', W'.heap[b]? = some (.cells #[.string Q.2.1.fr, .string Q.2.1.to, .int .i64 Q.2.1.sq, .slice a4 Q.2.1.rs.length c4] 30 (0, 0)) → W'.heap[b']? = some (.cells #[.string Q.2.1.fr, .string Q.2.1.to, .int .i64 Q.2.1.sq, .slice b4 Q.2.1.rs.length d4] 30 (0, 0)) → Below wb.heap.size wb W' →
      Calls Try.prog 20 #[.slice (some ⟨b, 0, none⟩) 1 1, .slice (some ⟨b', 0, none⟩) 1 1] W' fun e w' => e = .returned (.bool true) ∧ Below W'.heap.size W' w' from fun W' b b' h1 h2 hW =>
    (sameFil_any [Q.2.1] _ _ W' (fil_one h1 (HQF.out.step (bl_trans HU3b.out hW))) (fil_one h2 (HRF.out.step (bl_trans HU4b.out hW)))).mono (fun e w' h => ⟨h.1, by obtain ⟨n, rfl⟩ := h.2; exact bl_drewN (Below.refl _ _) _⟩))
  have HRE := Lib.hid (show ∀ W', Below wb.heap.size wb W' → Calls Try.prog 21 #[.agg #[.string p.nm, .int .i64 p.out, .int .i64 p.inn, .slice aw p.wt.length cw, .slice ao p.ours.length co, .slice at' p.thr.length ct]] W' fun e w' => (∃ v', e = .returned v' ∧ SlIs tFil (· < w'.heap.size) w' v' p.wt) ∧ Below W'.heap.size W' w' from fun W' hW =>
    resend_any p _ _ _ W' (HP.out.step (bl_trans HWB.out hW)) HS.out)
  have HSG := Lib.hid (show ∀ W' v', SlIs tFil (· < W'.heap.size) W' v' p.wt → Below wb.heap.size wb W' → Calls Try.prog 20 #[v', .slice aw p.wt.length cw] W' fun e w' => e = .returned (.bool true) ∧ Below W'.heap.size W' w' from fun W' v' h1 hW =>
    (sameFil_any p.wt _ _ W' h1 (HP.out.wt.step (bl_trans HWB.out hW))).mono (fun e w' h => ⟨h.1, by obtain ⟨n, rfl⟩ := h.2; exact bl_drewN (Below.refl _ _) _⟩))
  have q1 : (Q.2.2 == Q.2.2) = true := by simp
  have q2 : (N.2 == N.2) = true := by simp
  clear hwb yD yX yA yF yB yG yC hU HX6 HA6 HF6 HB6 HG6 HC6
  have HK0 := Lib.hid (Below.refl wb.heap.size wb)
  refine wp_region_E 35 (fun w' => Below wb.heap.size wb w') (by kernel_rfl) ((by (repeat (first | (with_reducible exact HK0.out) | (with_reducible exact Below.refl _ _) | (with_reducible apply bl_drewN) | (with_reducible apply bl_alloc) | (with_reducible apply Below.drew))); done)) (fun hHeld => ?_)
  refine wpE_take (i := 0) (v := ?_) rfl (by kernel_rfl) (fun _ _ _ h => h) (Or.inl ⟨by kernel_rfl, ?_⟩) (by assumption) ?_
  rotate_left
  focus (intro w9 hS9; obtain ⟨z0, z1, z2, z3, z4, z5⟩ := HCA.out w9 hS9; clear hS9; go_simp; (try with_reducible rfl))
  (try simp only [Act.put])
  (try simp only [List.setIfInBounds_toArray])
  (repeat (first | simp only [List.set_cons_succ] | simp only [List.set_cons_zero]))
  refine wpE_take (i := 1) (v := ?_) rfl (by kernel_rfl) (fun _ _ _ h => h) (Or.inl ⟨by kernel_rfl, ?_⟩) (by assumption) ?_
  rotate_left
  focus (intro w9 hS9; obtain ⟨z0, z1, z2, z3, z4, z5⟩ := HCB.out w9 hS9; clear hS9; go_simp; (try with_reducible rfl))
  (try simp only [Act.put])
  (try simp only [List.setIfInBounds_toArray])
  (repeat (first | simp only [List.set_cons_succ] | simp only [List.set_cons_zero]))
  refine wpE_ready (rs := [2]) (by kernel_rfl) (by kernel_rfl) ?_
  refine AllReadyE.cons rfl (fun K hK => ?_) AllReadyE.nil
  rw [if_pos (show _ = true by kernel_rfl)]
  go_simp
  go_wp2_with (
    go_at_call 19
    refine (HS1.out _ (by (repeat (first | (with_reducible exact HK0.out) | (with_reducible exact Below.refl _ _) | (with_reducible apply bl_drewN) | (with_reducible apply bl_alloc) | (with_reducible apply Below.drew))); done)).mono ?_
    rintro e w7 ⟨rfl, hb7⟩
    have HK1 := Lib.hid (bl_trans (show Below wb.heap.size wb _ from (by (repeat (first | (with_reducible exact HK0.out) | (with_reducible exact Below.refl _ _) | (with_reducible apply bl_drewN) | (with_reducible apply bl_alloc) | (with_reducible apply Below.drew))); done)) hb7)
    clear HK0 hb7
    have HK0 := HK1
    clear HK1)
  clear hHeld
  refine hK.out _ _ ((by (repeat (first | (with_reducible exact HK0.out) | (with_reducible exact Below.refl _ _) | (with_reducible apply bl_drewN) | (with_reducible apply bl_alloc) | (with_reducible apply Below.drew))); done)) (fun hHeld => ?_)
  clear hK K
  refine wpE_take (i := 3) (v := ?_) rfl (by kernel_rfl) (fun _ _ _ h => h) (Or.inl ⟨by kernel_rfl, ?_⟩) (by assumption) ?_
  rotate_left
  focus (intro w9 hS9; (try dsimp only at hS9); go_simp; (try with_reducible rfl))
  (try simp only [Act.put])
  (try simp only [List.setIfInBounds_toArray])
  (repeat (first | simp only [List.set_cons_succ] | simp only [List.set_cons_zero]))
  refine wpE_take (i := 4) (v := ?_) rfl (by kernel_rfl) (fun _ _ _ h => h) (Or.inl ⟨by kernel_rfl, ?_⟩) (by assumption) ?_
  rotate_left
  focus (intro w9 hS9; obtain ⟨z0, z1, z2, z3⟩ := HCF.out w9 hS9; clear hS9; go_simp; (try with_reducible rfl))
  (try simp only [Act.put])
  (try simp only [List.setIfInBounds_toArray])
  (repeat (first | simp only [List.set_cons_succ] | simp only [List.set_cons_zero]))
  refine wpE_take (i := 6) (v := ?_) rfl (by kernel_rfl) (fun _ _ _ h => h) (Or.inl ⟨by kernel_rfl, ?_⟩) (by assumption) ?_
  rotate_left
  focus (intro w9 hS9; obtain ⟨z0, z1, z2, z3⟩ := HCG.out w9 hS9; clear hS9; go_simp; (try with_reducible rfl))
  (try simp only [Act.put])
  (try simp only [List.setIfInBounds_toArray])
  (repeat (first | simp only [List.set_cons_succ] | simp only [List.set_cons_zero]))
  refine wpE_ready (rs := [5, 7]) (by kernel_rfl) (by kernel_rfl) ?_
  refine AllReadyE.cons rfl (fun K hK => ?_) (AllReadyE.cons rfl (fun K hK => ?_) AllReadyE.nil)
  · rw [if_pos (show _ = true by kernel_rfl)]
    go_simp
    clear hHeld
    refine hK.out _ _ ((by (repeat (first | (with_reducible exact HK0.out) | (with_reducible exact Below.refl _ _) | (with_reducible apply bl_drewN) | (with_reducible apply bl_alloc) | (with_reducible apply Below.drew))); done)) (fun hHeld => ?_)
    clear hK K
    refine wpE_ready (rs := [7]) (by kernel_rfl) (by kernel_rfl) ?_
    refine AllReadyE.cons rfl (fun K hK => ?_) AllReadyE.nil
    rw [if_pos (show _ = true by kernel_rfl)]
    go_simp
    clear hHeld
    refine hK.out _ _ ((by (repeat (first | (with_reducible exact HK0.out) | (with_reducible exact Below.refl _ _) | (with_reducible apply bl_drewN) | (with_reducible apply bl_alloc) | (with_reducible apply Below.drew))); done)) (fun hHeld => ?_)
    clear hK K
    refine wpE_ready (rs := [8]) (by kernel_rfl) (by kernel_rfl) ?_
    refine AllReadyE.cons rfl (fun K hK => ?_) AllReadyE.nil
    rw [if_pos (show _ = true by kernel_rfl)]
    go_simp
    go_wp2_with (
      go_at_call 20
      refine (HSF.out _ _ _ (alloc2_0 w7 _ _) (alloc2_1 w7 _ _) (by (repeat (first | (with_reducible exact HK0.out) | (with_reducible exact Below.refl _ _) | (with_reducible apply bl_drewN) | (with_reducible apply bl_alloc) | (with_reducible apply Below.drew))); done)).mono ?_
      rintro e w8 ⟨rfl, hb7⟩
      have HK1 := Lib.hid (bl_trans (show Below wb.heap.size wb _ from (by (repeat (first | (with_reducible exact HK0.out) | (with_reducible exact Below.refl _ _) | (with_reducible apply bl_drewN) | (with_reducible apply bl_alloc) | (with_reducible apply Below.drew))); done)) hb7)
      clear HK0 hb7
      have HK0 := HK1
      clear HK1)
    clear hHeld
    refine hK.out _ _ ((by (repeat (first | (with_reducible exact HK0.out) | (with_reducible exact Below.refl _ _) | (with_reducible apply bl_drewN) | (with_reducible apply bl_alloc) | (with_reducible apply Below.drew))); done)) (fun hHeld => ?_)
    clear hK K
    refine wpE_take (i := 9) (v := ?_) rfl (by kernel_rfl) (fun _ _ _ h => h) (Or.inl ⟨by kernel_rfl, ?_⟩) (by assumption) ?_
    rotate_left
    focus (intro w9 hS9; (try dsimp only at hS9); go_simp; (try with_reducible rfl))
    (try simp only [Act.put])
    (try simp only [List.setIfInBounds_toArray])
    (repeat (first | simp only [List.set_cons_succ] | simp only [List.set_cons_zero]))
    refine wpE_take (i := 10) (v := ?_) rfl (by kernel_rfl) (fun _ _ _ h => h) (Or.inl ⟨by kernel_rfl, ?_⟩) (by assumption) ?_
    rotate_left
    focus (intro w9 hS9; (try dsimp only at hS9); go_simp; (try with_reducible rfl))
    (try simp only [Act.put])
    (try simp only [List.setIfInBounds_toArray])
    (repeat (first | simp only [List.set_cons_succ] | simp only [List.set_cons_zero]))
    refine wpE_take (i := 11) (v := ?_) rfl (by kernel_rfl) (fun _ _ _ h => h) (Or.inl ⟨by kernel_rfl, ?_⟩) (by assumption) ?_
    rotate_left
    focus (intro w9 hS9; (try dsimp only at hS9); go_simp; (try with_reducible rfl))
    (try simp only [Act.put])
    (try simp only [List.setIfInBounds_toArray])
    (repeat (first | simp only [List.set_cons_succ] | simp only [List.set_cons_zero]))
    refine wpE_take (i := 12) (v := ?_) rfl (by kernel_rfl) (fun _ _ _ h => h) (Or.inl ⟨by kernel_rfl, ?_⟩) (by assumption) ?_
    rotate_left
    focus (intro w9 hS9; (try dsimp only at hS9); go_simp; (try with_reducible rfl))
    (try simp only [Act.put])
    (try simp only [List.setIfInBounds_toArray])
    (repeat (first | simp only [List.set_cons_succ] | simp only [List.set_cons_zero]))
    refine wpE_take (i := 13) (v := ?_) rfl (by kernel_rfl) (fun _ _ _ h => h) (Or.inl ⟨by kernel_rfl, ?_⟩) (by assumption) ?_
    rotate_left
    focus (intro w9 hS9; (try dsimp only at hS9); go_simp; (try with_reducible rfl))
    (try simp only [Act.put])
    (try simp only [List.setIfInBounds_toArray])
    (repeat (first | simp only [List.set_cons_succ] | simp only [List.set_cons_zero]))
    refine wpE_take (i := 14) (v := ?_) rfl (by kernel_rfl) (fun _ _ _ h => h) (Or.inl ⟨by kernel_rfl, ?_⟩) (by assumption) ?_
    rotate_left
    focus (intro w9 hS9; (try dsimp only at hS9); go_simp; (try with_reducible rfl))
    (try simp only [Act.put])
    (try simp only [List.setIfInBounds_toArray])
    (repeat (first | simp only [List.set_cons_succ] | simp only [List.set_cons_zero]))
    refine wpE_take (i := 15) (v := ?_) rfl (by kernel_rfl) (fun _ _ _ h => h) (Or.inl ⟨by kernel_rfl, ?_⟩) (by assumption) ?_
    rotate_left
    focus (intro w9 hS9; (try dsimp only at hS9); go_simp; (try with_reducible rfl))
    (try simp only [Act.put])
    (try simp only [List.setIfInBounds_toArray])
    (repeat (first | simp only [List.set_cons_succ] | simp only [List.set_cons_zero]))
    refine wpE_take (i := 16) (v := ?_) rfl (by kernel_rfl) (fun _ _ _ h => h) (Or.inl ⟨by kernel_rfl, ?_⟩) (by assumption) ?_
    rotate_left
    focus (intro w9 hS9; obtain ⟨z0, z1, z2, z3, z4, z5⟩ := HCC.out w9 hS9; clear hS9; go_simp; (try with_reducible rfl))
    (try simp only [Act.put])
    (try simp only [List.setIfInBounds_toArray])
    (repeat (first | simp only [List.set_cons_succ] | simp only [List.set_cons_zero]))
    refine wpE_take (i := 17) (v := ?_) rfl (by kernel_rfl) (fun _ _ _ h => h) (Or.inl ⟨by kernel_rfl, ?_⟩) (by assumption) ?_
    rotate_left
    focus (intro w9 hS9; obtain ⟨z0, z1, z2, z3, z4, z5⟩ := HCD.out w9 hS9; clear hS9; go_simp; (try with_reducible rfl))
    (try simp only [Act.put])
    (try simp only [List.setIfInBounds_toArray])
    (repeat (first | simp only [List.set_cons_succ] | simp only [List.set_cons_zero]))
    refine wpE_ready (rs := [18]) (by kernel_rfl) (by kernel_rfl) ?_
    refine AllReadyE.cons rfl (fun K hK => ?_) AllReadyE.nil
    rw [if_pos (show _ = true by kernel_rfl)]
    go_simp
    go_wp2_with (
      go_at_call 19
      refine (HS2.out _ (by (repeat (first | (with_reducible exact HK0.out) | (with_reducible exact Below.refl _ _) | (with_reducible apply bl_drewN) | (with_reducible apply bl_alloc) | (with_reducible apply Below.drew))); done)).mono ?_
      rintro e w9 ⟨rfl, hb7⟩
      have HK1 := Lib.hid (bl_trans (show Below wb.heap.size wb _ from (by (repeat (first | (with_reducible exact HK0.out) | (with_reducible exact Below.refl _ _) | (with_reducible apply bl_drewN) | (with_reducible apply bl_alloc) | (with_reducible apply Below.drew))); done)) hb7)
      clear HK0 hb7
      have HK0 := HK1
      clear HK1)
    clear hHeld
    refine hK.out _ _ ((by (repeat (first | (with_reducible exact HK0.out) | (with_reducible exact Below.refl _ _) | (with_reducible apply bl_drewN) | (with_reducible apply bl_alloc) | (with_reducible apply Below.drew))); done)) (fun hHeld => ?_)
    clear hK K
    refine wpE_take (i := 19) (v := ?_) rfl (by kernel_rfl) (fun _ _ _ h => h) (Or.inl ⟨by kernel_rfl, ?_⟩) (by assumption) ?_
    rotate_left
    focus (intro w9 hS9; (try dsimp only at hS9); go_simp; (try with_reducible rfl))
    (try simp only [Act.put])
    (try simp only [List.setIfInBounds_toArray])
    (repeat (first | simp only [List.set_cons_succ] | simp only [List.set_cons_zero]))
    refine wpE_take (i := 20) (v := ?_) rfl (by kernel_rfl) (fun _ _ _ h => h) (Or.inl ⟨by kernel_rfl, ?_⟩) (by assumption) ?_
    rotate_left
    focus (intro w9 hS9; (try dsimp only at hS9); go_simp; (try with_reducible rfl))
    (try simp only [Act.put])
    (try simp only [List.setIfInBounds_toArray])
    (repeat (first | simp only [List.set_cons_succ] | simp only [List.set_cons_zero]))
    refine wpE_take (i := 21) (v := ?_) rfl (by kernel_rfl) (fun _ _ _ h => h) (Or.inl ⟨by kernel_rfl, ?_⟩) (by assumption) ?_
    rotate_left
    focus (intro w9 hS9; (try dsimp only at hS9); go_simp; (try with_reducible rfl))
    (try simp only [Act.put])
    (try simp only [List.setIfInBounds_toArray])
    (repeat (first | simp only [List.set_cons_succ] | simp only [List.set_cons_zero]))
    refine wpE_take (i := 22) (v := ?_) rfl (by kernel_rfl) (fun _ _ _ h => h) (Or.inl ⟨by kernel_rfl, ?_⟩) (by assumption) ?_
    rotate_left
    focus (intro w9 hS9; (try dsimp only at hS9); go_simp; (try with_reducible rfl))
    (try simp only [Act.put])
    (try simp only [List.setIfInBounds_toArray])
    (repeat (first | simp only [List.set_cons_succ] | simp only [List.set_cons_zero]))
    refine wpE_take (i := 23) (v := ?_) rfl (by kernel_rfl) (fun _ _ _ h => h) (Or.inl ⟨by kernel_rfl, ?_⟩) (by assumption) ?_
    rotate_left
    focus (intro w9 hS9; (try dsimp only at hS9); go_simp; (try with_reducible rfl))
    (try simp only [Act.put])
    (try simp only [List.setIfInBounds_toArray])
    (repeat (first | simp only [List.set_cons_succ] | simp only [List.set_cons_zero]))
    refine wpE_take (i := 24) (v := ?_) rfl (by kernel_rfl) (fun _ _ _ h => h) (Or.inl ⟨by kernel_rfl, ?_⟩) (by assumption) ?_
    rotate_left
    focus (intro w9 hS9; (try dsimp only at hS9); go_simp; (try with_reducible rfl))
    (try simp only [Act.put])
    (try simp only [List.setIfInBounds_toArray])
    (repeat (first | simp only [List.set_cons_succ] | simp only [List.set_cons_zero]))
    refine wpE_take (i := 25) (v := ?_) rfl (by kernel_rfl) (fun _ _ _ h => h) (Or.inl ⟨by kernel_rfl, ?_⟩) (by assumption) ?_
    rotate_left
    focus (intro w9 hS9; (try dsimp only at hS9); go_simp; (try with_reducible rfl))
    (try simp only [Act.put])
    (try simp only [List.setIfInBounds_toArray])
    (repeat (first | simp only [List.set_cons_succ] | simp only [List.set_cons_zero]))
    refine wpE_take (i := 26) (v := ?_) rfl (by kernel_rfl) (fun _ _ _ h => h) (Or.inl ⟨by kernel_rfl, ?_⟩) (by assumption) ?_
    rotate_left
    focus (intro w9 hS9; obtain ⟨z0, z1, z2, z3, z4, z5⟩ := HCX.out w9 hS9; clear hS9; go_simp; (try with_reducible rfl))
    (try simp only [Act.put])
    (try simp only [List.setIfInBounds_toArray])
    (repeat (first | simp only [List.set_cons_succ] | simp only [List.set_cons_zero]))
    refine wpE_take (i := 28) (v := ?_) rfl (by kernel_rfl) (fun _ _ _ h => h) (Or.inl ⟨by kernel_rfl, ?_⟩) (by assumption) ?_
    rotate_left
    focus (intro w9 hS9; (try dsimp only at hS9); go_simp; (try with_reducible rfl))
    (try simp only [Act.put])
    (try simp only [List.setIfInBounds_toArray])
    (repeat (first | simp only [List.set_cons_succ] | simp only [List.set_cons_zero]))
    refine wpE_take (i := 29) (v := ?_) rfl (by kernel_rfl) (fun _ _ _ h => h) (Or.inl ⟨by kernel_rfl, ?_⟩) (by assumption) ?_
    rotate_left
    focus (intro w9 hS9; obtain ⟨z0, z1, z2, z3, z4, z5⟩ := HCX.out w9 hS9; clear hS9; go_simp; (try with_reducible rfl))
    (try simp only [Act.put])
    (try simp only [List.setIfInBounds_toArray])
    (repeat (first | simp only [List.set_cons_succ] | simp only [List.set_cons_zero]))
    refine wpE_ready (rs := [27]) (by kernel_rfl) (by kernel_rfl) ?_
    refine AllReadyE.cons rfl (fun K hK => ?_) AllReadyE.nil
    rw [if_pos (show _ = true by kernel_rfl)]
    go_simp
    go_wp2_with (
      go_at_call 21
      refine (HRE.out _ (by (repeat (first | (with_reducible exact HK0.out) | (with_reducible exact Below.refl _ _) | (with_reducible apply bl_drewN) | (with_reducible apply bl_alloc) | (with_reducible apply Below.drew))); done)).mono ?_
      rintro e w10 ⟨⟨v', rfl, hs⟩, hb7⟩
      obtain ⟨ar, cr, _, _, rfl, -⟩ := id hs
      have HRS := Lib.hid hs
      have HK1 := Lib.hid (bl_trans (show Below wb.heap.size wb _ from (by (repeat (first | (with_reducible exact HK0.out) | (with_reducible exact Below.refl _ _) | (with_reducible apply bl_drewN) | (with_reducible apply bl_alloc) | (with_reducible apply Below.drew))); done)) hb7)
      clear HK0 hb7 hs
      have HK0 := HK1
      clear HK1)
    clear hHeld
    refine hK.out _ _ ((by (repeat (first | (with_reducible exact HK0.out) | (with_reducible exact Below.refl _ _) | (with_reducible apply bl_drewN) | (with_reducible apply bl_alloc) | (with_reducible apply Below.drew))); done)) (fun hHeld => ?_)
    clear hK K
    refine wpE_ready (rs := [30]) (by kernel_rfl) (by kernel_rfl) ?_
    refine AllReadyE.cons rfl (fun K hK => ?_) AllReadyE.nil
    rw [if_pos (show _ = true by kernel_rfl)]
    go_simp
    go_wp2_with (
      go_at_call 20
      refine (HSG.out _ _ HRS.out (by (repeat (first | (with_reducible exact HK0.out) | (with_reducible exact Below.refl _ _) | (with_reducible apply bl_drewN) | (with_reducible apply bl_alloc) | (with_reducible apply Below.drew))); done)).mono ?_
      rintro e w11 ⟨rfl, hb7⟩
      have HK1 := Lib.hid (bl_trans (show Below wb.heap.size wb _ from (by (repeat (first | (with_reducible exact HK0.out) | (with_reducible exact Below.refl _ _) | (with_reducible apply bl_drewN) | (with_reducible apply bl_alloc) | (with_reducible apply Below.drew))); done)) hb7)
      clear HK0 hb7
      have HK0 := HK1
      clear HK1)
    clear hHeld
    refine hK.out _ _ ((by (repeat (first | (with_reducible exact HK0.out) | (with_reducible exact Below.refl _ _) | (with_reducible apply bl_drewN) | (with_reducible apply bl_alloc) | (with_reducible apply Below.drew))); done)) (fun hHeld => ?_)
    clear hK K
    refine wpE_take (i := 31) (v := ?_) rfl (by kernel_rfl) (fun _ _ _ h => h) (Or.inl ⟨by kernel_rfl, ?_⟩) (by assumption) ?_
    rotate_left
    focus (intro w9 hS9; (try dsimp only at hS9); go_simp; (try with_reducible rfl))
    (try simp only [Act.put])
    (try simp only [List.setIfInBounds_toArray])
    (repeat (first | simp only [List.set_cons_succ] | simp only [List.set_cons_zero]))
    refine wpE_take (i := 32) (v := ?_) rfl (by kernel_rfl) (fun _ _ _ h => h) (Or.inl ⟨by kernel_rfl, ?_⟩) (by assumption) ?_
    rotate_left
    focus (intro w9 hS9; (try dsimp only at hS9); go_simp; (try with_reducible rfl))
    (try simp only [Act.put])
    (try simp only [List.setIfInBounds_toArray])
    (repeat (first | simp only [List.set_cons_succ] | simp only [List.set_cons_zero]))
    refine wpE_ready (rs := [33]) (by kernel_rfl) (by kernel_rfl) ?_
    refine AllReadyE.cons rfl (fun K hK => ?_) AllReadyE.nil
    rw [if_pos (show _ = true by kernel_rfl)]
    go_simp
    go_wp2_with (
      go_at_call 14
      refine (awake_any _).mono ?_
      rintro e w12 ⟨rfl, hb7⟩
      have HK1 := Lib.hid (bl_trans (show Below wb.heap.size wb _ from (by (repeat (first | (with_reducible exact HK0.out) | (with_reducible exact Below.refl _ _) | (with_reducible apply bl_drewN) | (with_reducible apply bl_alloc) | (with_reducible apply Below.drew))); done)) hb7)
      clear HK0 hb7
      have HK0 := HK1
      clear HK1)
    clear hHeld
    refine hK.out _ _ ((by (repeat (first | (with_reducible exact HK0.out) | (with_reducible exact Below.refl _ _) | (with_reducible apply bl_drewN) | (with_reducible apply bl_alloc) | (with_reducible apply Below.drew))); done)) (fun hHeld => ?_)
    clear hK K
    refine wpE_take (i := 34) (v := ?_) rfl (by kernel_rfl) (fun _ _ _ h => h) (Or.inl ⟨by kernel_rfl, ?_⟩) (by assumption) ?_
    rotate_left
    focus (intro w9 hS9; (try dsimp only at hS9); go_simp; (try with_reducible rfl))
    (try simp only [Act.put])
    (try simp only [List.setIfInBounds_toArray])
    (repeat (first | simp only [List.set_cons_succ] | simp only [List.set_cons_zero]))
    clear hHeld
    refine wpE_out (by kernel_rfl) ?_
    refine wpAny_ready (rs := [35]) (by kernel_rfl) (by simp) ?_
    refine AllReady.cons rfl (fun K hK => ?_) AllReady.nil
    rw [if_pos (show _ = true by kernel_rfl)]
    go_simp
    refine hK _ _ ?_
    clear hK K
    refine wpAny_done (by kernel_rfl) ?_ _
    go_wp2_with (fail)
    go_ret
    exact ⟨rfl, bl_trans HWB.out (by (repeat (first | (with_reducible exact HK0.out) | (with_reducible exact Below.refl _ _) | (with_reducible apply bl_drewN) | (with_reducible apply bl_alloc) | (with_reducible apply Below.drew))); done)⟩
  · rw [if_pos (show _ = true by kernel_rfl)]
    go_simp
    clear hHeld
    refine hK.out _ _ ((by (repeat (first | (with_reducible exact HK0.out) | (with_reducible exact Below.refl _ _) | (with_reducible apply bl_drewN) | (with_reducible apply bl_alloc) | (with_reducible apply Below.drew))); done)) (fun hHeld => ?_)
    clear hK K
    refine wpE_ready (rs := [5]) (by kernel_rfl) (by kernel_rfl) ?_
    refine AllReadyE.cons rfl (fun K hK => ?_) AllReadyE.nil
    rw [if_pos (show _ = true by kernel_rfl)]
    go_simp
    clear hHeld
    refine hK.out _ _ ((by (repeat (first | (with_reducible exact HK0.out) | (with_reducible exact Below.refl _ _) | (with_reducible apply bl_drewN) | (with_reducible apply bl_alloc) | (with_reducible apply Below.drew))); done)) (fun hHeld => ?_)
    clear hK K
    refine wpE_ready (rs := [8]) (by kernel_rfl) (by kernel_rfl) ?_
    refine AllReadyE.cons rfl (fun K hK => ?_) AllReadyE.nil
    rw [if_pos (show _ = true by kernel_rfl)]
    go_simp
    go_wp2_with (
      go_at_call 20
      refine (HSF.out _ _ _ (alloc2_1 w7 _ _) (alloc2_0 w7 _ _) (by (repeat (first | (with_reducible exact HK0.out) | (with_reducible exact Below.refl _ _) | (with_reducible apply bl_drewN) | (with_reducible apply bl_alloc) | (with_reducible apply Below.drew))); done)).mono ?_
      rintro e w8 ⟨rfl, hb7⟩
      have HK1 := Lib.hid (bl_trans (show Below wb.heap.size wb _ from (by (repeat (first | (with_reducible exact HK0.out) | (with_reducible exact Below.refl _ _) | (with_reducible apply bl_drewN) | (with_reducible apply bl_alloc) | (with_reducible apply Below.drew))); done)) hb7)
      clear HK0 hb7
      have HK0 := HK1
      clear HK1)
    clear hHeld
    refine hK.out _ _ ((by (repeat (first | (with_reducible exact HK0.out) | (with_reducible exact Below.refl _ _) | (with_reducible apply bl_drewN) | (with_reducible apply bl_alloc) | (with_reducible apply Below.drew))); done)) (fun hHeld => ?_)
    clear hK K
    refine wpE_take (i := 9) (v := ?_) rfl (by kernel_rfl) (fun _ _ _ h => h) (Or.inl ⟨by kernel_rfl, ?_⟩) (by assumption) ?_
    rotate_left
    focus (intro w9 hS9; (try dsimp only at hS9); go_simp; (try with_reducible rfl))
    (try simp only [Act.put])
    (try simp only [List.setIfInBounds_toArray])
    (repeat (first | simp only [List.set_cons_succ] | simp only [List.set_cons_zero]))
    refine wpE_take (i := 10) (v := ?_) rfl (by kernel_rfl) (fun _ _ _ h => h) (Or.inl ⟨by kernel_rfl, ?_⟩) (by assumption) ?_
    rotate_left
    focus (intro w9 hS9; (try dsimp only at hS9); go_simp; (try with_reducible rfl))
    (try simp only [Act.put])
    (try simp only [List.setIfInBounds_toArray])
    (repeat (first | simp only [List.set_cons_succ] | simp only [List.set_cons_zero]))
    refine wpE_take (i := 11) (v := ?_) rfl (by kernel_rfl) (fun _ _ _ h => h) (Or.inl ⟨by kernel_rfl, ?_⟩) (by assumption) ?_
    rotate_left
    focus (intro w9 hS9; (try dsimp only at hS9); go_simp; (try with_reducible rfl))
    (try simp only [Act.put])
    (try simp only [List.setIfInBounds_toArray])
    (repeat (first | simp only [List.set_cons_succ] | simp only [List.set_cons_zero]))
    refine wpE_take (i := 12) (v := ?_) rfl (by kernel_rfl) (fun _ _ _ h => h) (Or.inl ⟨by kernel_rfl, ?_⟩) (by assumption) ?_
    rotate_left
    focus (intro w9 hS9; (try dsimp only at hS9); go_simp; (try with_reducible rfl))
    (try simp only [Act.put])
    (try simp only [List.setIfInBounds_toArray])
    (repeat (first | simp only [List.set_cons_succ] | simp only [List.set_cons_zero]))
    refine wpE_take (i := 13) (v := ?_) rfl (by kernel_rfl) (fun _ _ _ h => h) (Or.inl ⟨by kernel_rfl, ?_⟩) (by assumption) ?_
    rotate_left
    focus (intro w9 hS9; (try dsimp only at hS9); go_simp; (try with_reducible rfl))
    (try simp only [Act.put])
    (try simp only [List.setIfInBounds_toArray])
    (repeat (first | simp only [List.set_cons_succ] | simp only [List.set_cons_zero]))
    refine wpE_take (i := 14) (v := ?_) rfl (by kernel_rfl) (fun _ _ _ h => h) (Or.inl ⟨by kernel_rfl, ?_⟩) (by assumption) ?_
    rotate_left
    focus (intro w9 hS9; (try dsimp only at hS9); go_simp; (try with_reducible rfl))
    (try simp only [Act.put])
    (try simp only [List.setIfInBounds_toArray])
    (repeat (first | simp only [List.set_cons_succ] | simp only [List.set_cons_zero]))
    refine wpE_take (i := 15) (v := ?_) rfl (by kernel_rfl) (fun _ _ _ h => h) (Or.inl ⟨by kernel_rfl, ?_⟩) (by assumption) ?_
    rotate_left
    focus (intro w9 hS9; (try dsimp only at hS9); go_simp; (try with_reducible rfl))
    (try simp only [Act.put])
    (try simp only [List.setIfInBounds_toArray])
    (repeat (first | simp only [List.set_cons_succ] | simp only [List.set_cons_zero]))
    refine wpE_take (i := 16) (v := ?_) rfl (by kernel_rfl) (fun _ _ _ h => h) (Or.inl ⟨by kernel_rfl, ?_⟩) (by assumption) ?_
    rotate_left
    focus (intro w9 hS9; obtain ⟨z0, z1, z2, z3, z4, z5⟩ := HCC.out w9 hS9; clear hS9; go_simp; (try with_reducible rfl))
    (try simp only [Act.put])
    (try simp only [List.setIfInBounds_toArray])
    (repeat (first | simp only [List.set_cons_succ] | simp only [List.set_cons_zero]))
    refine wpE_take (i := 17) (v := ?_) rfl (by kernel_rfl) (fun _ _ _ h => h) (Or.inl ⟨by kernel_rfl, ?_⟩) (by assumption) ?_
    rotate_left
    focus (intro w9 hS9; obtain ⟨z0, z1, z2, z3, z4, z5⟩ := HCD.out w9 hS9; clear hS9; go_simp; (try with_reducible rfl))
    (try simp only [Act.put])
    (try simp only [List.setIfInBounds_toArray])
    (repeat (first | simp only [List.set_cons_succ] | simp only [List.set_cons_zero]))
    refine wpE_ready (rs := [18]) (by kernel_rfl) (by kernel_rfl) ?_
    refine AllReadyE.cons rfl (fun K hK => ?_) AllReadyE.nil
    rw [if_pos (show _ = true by kernel_rfl)]
    go_simp
    go_wp2_with (
      go_at_call 19
      refine (HS2.out _ (by (repeat (first | (with_reducible exact HK0.out) | (with_reducible exact Below.refl _ _) | (with_reducible apply bl_drewN) | (with_reducible apply bl_alloc) | (with_reducible apply Below.drew))); done)).mono ?_
      rintro e w9 ⟨rfl, hb7⟩
      have HK1 := Lib.hid (bl_trans (show Below wb.heap.size wb _ from (by (repeat (first | (with_reducible exact HK0.out) | (with_reducible exact Below.refl _ _) | (with_reducible apply bl_drewN) | (with_reducible apply bl_alloc) | (with_reducible apply Below.drew))); done)) hb7)
      clear HK0 hb7
      have HK0 := HK1
      clear HK1)
    clear hHeld
    refine hK.out _ _ ((by (repeat (first | (with_reducible exact HK0.out) | (with_reducible exact Below.refl _ _) | (with_reducible apply bl_drewN) | (with_reducible apply bl_alloc) | (with_reducible apply Below.drew))); done)) (fun hHeld => ?_)
    clear hK K
    refine wpE_take (i := 19) (v := ?_) rfl (by kernel_rfl) (fun _ _ _ h => h) (Or.inl ⟨by kernel_rfl, ?_⟩) (by assumption) ?_
    rotate_left
    focus (intro w9 hS9; (try dsimp only at hS9); go_simp; (try with_reducible rfl))
    (try simp only [Act.put])
    (try simp only [List.setIfInBounds_toArray])
    (repeat (first | simp only [List.set_cons_succ] | simp only [List.set_cons_zero]))
    refine wpE_take (i := 20) (v := ?_) rfl (by kernel_rfl) (fun _ _ _ h => h) (Or.inl ⟨by kernel_rfl, ?_⟩) (by assumption) ?_
    rotate_left
    focus (intro w9 hS9; (try dsimp only at hS9); go_simp; (try with_reducible rfl))
    (try simp only [Act.put])
    (try simp only [List.setIfInBounds_toArray])
    (repeat (first | simp only [List.set_cons_succ] | simp only [List.set_cons_zero]))
    refine wpE_take (i := 21) (v := ?_) rfl (by kernel_rfl) (fun _ _ _ h => h) (Or.inl ⟨by kernel_rfl, ?_⟩) (by assumption) ?_
    rotate_left
    focus (intro w9 hS9; (try dsimp only at hS9); go_simp; (try with_reducible rfl))
    (try simp only [Act.put])
    (try simp only [List.setIfInBounds_toArray])
    (repeat (first | simp only [List.set_cons_succ] | simp only [List.set_cons_zero]))
    refine wpE_take (i := 22) (v := ?_) rfl (by kernel_rfl) (fun _ _ _ h => h) (Or.inl ⟨by kernel_rfl, ?_⟩) (by assumption) ?_
    rotate_left
    focus (intro w9 hS9; (try dsimp only at hS9); go_simp; (try with_reducible rfl))
    (try simp only [Act.put])
    (try simp only [List.setIfInBounds_toArray])
    (repeat (first | simp only [List.set_cons_succ] | simp only [List.set_cons_zero]))
    refine wpE_take (i := 23) (v := ?_) rfl (by kernel_rfl) (fun _ _ _ h => h) (Or.inl ⟨by kernel_rfl, ?_⟩) (by assumption) ?_
    rotate_left
    focus (intro w9 hS9; (try dsimp only at hS9); go_simp; (try with_reducible rfl))
    (try simp only [Act.put])
    (try simp only [List.setIfInBounds_toArray])
    (repeat (first | simp only [List.set_cons_succ] | simp only [List.set_cons_zero]))
    refine wpE_take (i := 24) (v := ?_) rfl (by kernel_rfl) (fun _ _ _ h => h) (Or.inl ⟨by kernel_rfl, ?_⟩) (by assumption) ?_
    rotate_left
    focus (intro w9 hS9; (try dsimp only at hS9); go_simp; (try with_reducible rfl))
    (try simp only [Act.put])
    (try simp only [List.setIfInBounds_toArray])
    (repeat (first | simp only [List.set_cons_succ] | simp only [List.set_cons_zero]))
    refine wpE_take (i := 25) (v := ?_) rfl (by kernel_rfl) (fun _ _ _ h => h) (Or.inl ⟨by kernel_rfl, ?_⟩) (by assumption) ?_
    rotate_left
    focus (intro w9 hS9; (try dsimp only at hS9); go_simp; (try with_reducible rfl))
    (try simp only [Act.put])
    (try simp only [List.setIfInBounds_toArray])
    (repeat (first | simp only [List.set_cons_succ] | simp only [List.set_cons_zero]))
    refine wpE_take (i := 26) (v := ?_) rfl (by kernel_rfl) (fun _ _ _ h => h) (Or.inl ⟨by kernel_rfl, ?_⟩) (by assumption) ?_
    rotate_left
    focus (intro w9 hS9; obtain ⟨z0, z1, z2, z3, z4, z5⟩ := HCX.out w9 hS9; clear hS9; go_simp; (try with_reducible rfl))
    (try simp only [Act.put])
    (try simp only [List.setIfInBounds_toArray])
    (repeat (first | simp only [List.set_cons_succ] | simp only [List.set_cons_zero]))
    refine wpE_take (i := 28) (v := ?_) rfl (by kernel_rfl) (fun _ _ _ h => h) (Or.inl ⟨by kernel_rfl, ?_⟩) (by assumption) ?_
    rotate_left
    focus (intro w9 hS9; (try dsimp only at hS9); go_simp; (try with_reducible rfl))
    (try simp only [Act.put])
    (try simp only [List.setIfInBounds_toArray])
    (repeat (first | simp only [List.set_cons_succ] | simp only [List.set_cons_zero]))
    refine wpE_take (i := 29) (v := ?_) rfl (by kernel_rfl) (fun _ _ _ h => h) (Or.inl ⟨by kernel_rfl, ?_⟩) (by assumption) ?_
    rotate_left
    focus (intro w9 hS9; obtain ⟨z0, z1, z2, z3, z4, z5⟩ := HCX.out w9 hS9; clear hS9; go_simp; (try with_reducible rfl))
    (try simp only [Act.put])
    (try simp only [List.setIfInBounds_toArray])
    (repeat (first | simp only [List.set_cons_succ] | simp only [List.set_cons_zero]))
    refine wpE_ready (rs := [27]) (by kernel_rfl) (by kernel_rfl) ?_
    refine AllReadyE.cons rfl (fun K hK => ?_) AllReadyE.nil
    rw [if_pos (show _ = true by kernel_rfl)]
    go_simp
    go_wp2_with (
      go_at_call 21
      refine (HRE.out _ (by (repeat (first | (with_reducible exact HK0.out) | (with_reducible exact Below.refl _ _) | (with_reducible apply bl_drewN) | (with_reducible apply bl_alloc) | (with_reducible apply Below.drew))); done)).mono ?_
      rintro e w10 ⟨⟨v', rfl, hs⟩, hb7⟩
      obtain ⟨ar, cr, _, _, rfl, -⟩ := id hs
      have HRS := Lib.hid hs
      have HK1 := Lib.hid (bl_trans (show Below wb.heap.size wb _ from (by (repeat (first | (with_reducible exact HK0.out) | (with_reducible exact Below.refl _ _) | (with_reducible apply bl_drewN) | (with_reducible apply bl_alloc) | (with_reducible apply Below.drew))); done)) hb7)
      clear HK0 hb7 hs
      have HK0 := HK1
      clear HK1)
    clear hHeld
    refine hK.out _ _ ((by (repeat (first | (with_reducible exact HK0.out) | (with_reducible exact Below.refl _ _) | (with_reducible apply bl_drewN) | (with_reducible apply bl_alloc) | (with_reducible apply Below.drew))); done)) (fun hHeld => ?_)
    clear hK K
    refine wpE_ready (rs := [30]) (by kernel_rfl) (by kernel_rfl) ?_
    refine AllReadyE.cons rfl (fun K hK => ?_) AllReadyE.nil
    rw [if_pos (show _ = true by kernel_rfl)]
    go_simp
    go_wp2_with (
      go_at_call 20
      refine (HSG.out _ _ HRS.out (by (repeat (first | (with_reducible exact HK0.out) | (with_reducible exact Below.refl _ _) | (with_reducible apply bl_drewN) | (with_reducible apply bl_alloc) | (with_reducible apply Below.drew))); done)).mono ?_
      rintro e w11 ⟨rfl, hb7⟩
      have HK1 := Lib.hid (bl_trans (show Below wb.heap.size wb _ from (by (repeat (first | (with_reducible exact HK0.out) | (with_reducible exact Below.refl _ _) | (with_reducible apply bl_drewN) | (with_reducible apply bl_alloc) | (with_reducible apply Below.drew))); done)) hb7)
      clear HK0 hb7
      have HK0 := HK1
      clear HK1)
    clear hHeld
    refine hK.out _ _ ((by (repeat (first | (with_reducible exact HK0.out) | (with_reducible exact Below.refl _ _) | (with_reducible apply bl_drewN) | (with_reducible apply bl_alloc) | (with_reducible apply Below.drew))); done)) (fun hHeld => ?_)
    clear hK K
    refine wpE_take (i := 31) (v := ?_) rfl (by kernel_rfl) (fun _ _ _ h => h) (Or.inl ⟨by kernel_rfl, ?_⟩) (by assumption) ?_
    rotate_left
    focus (intro w9 hS9; (try dsimp only at hS9); go_simp; (try with_reducible rfl))
    (try simp only [Act.put])
    (try simp only [List.setIfInBounds_toArray])
    (repeat (first | simp only [List.set_cons_succ] | simp only [List.set_cons_zero]))
    refine wpE_take (i := 32) (v := ?_) rfl (by kernel_rfl) (fun _ _ _ h => h) (Or.inl ⟨by kernel_rfl, ?_⟩) (by assumption) ?_
    rotate_left
    focus (intro w9 hS9; (try dsimp only at hS9); go_simp; (try with_reducible rfl))
    (try simp only [Act.put])
    (try simp only [List.setIfInBounds_toArray])
    (repeat (first | simp only [List.set_cons_succ] | simp only [List.set_cons_zero]))
    refine wpE_ready (rs := [33]) (by kernel_rfl) (by kernel_rfl) ?_
    refine AllReadyE.cons rfl (fun K hK => ?_) AllReadyE.nil
    rw [if_pos (show _ = true by kernel_rfl)]
    go_simp
    go_wp2_with (
      go_at_call 14
      refine (awake_any _).mono ?_
      rintro e w12 ⟨rfl, hb7⟩
      have HK1 := Lib.hid (bl_trans (show Below wb.heap.size wb _ from (by (repeat (first | (with_reducible exact HK0.out) | (with_reducible exact Below.refl _ _) | (with_reducible apply bl_drewN) | (with_reducible apply bl_alloc) | (with_reducible apply Below.drew))); done)) hb7)
      clear HK0 hb7
      have HK0 := HK1
      clear HK1)
    clear hHeld
    refine hK.out _ _ ((by (repeat (first | (with_reducible exact HK0.out) | (with_reducible exact Below.refl _ _) | (with_reducible apply bl_drewN) | (with_reducible apply bl_alloc) | (with_reducible apply Below.drew))); done)) (fun hHeld => ?_)
    clear hK K
    refine wpE_take (i := 34) (v := ?_) rfl (by kernel_rfl) (fun _ _ _ h => h) (Or.inl ⟨by kernel_rfl, ?_⟩) (by assumption) ?_
    rotate_left
    focus (intro w9 hS9; (try dsimp only at hS9); go_simp; (try with_reducible rfl))
    (try simp only [Act.put])
    (try simp only [List.setIfInBounds_toArray])
    (repeat (first | simp only [List.set_cons_succ] | simp only [List.set_cons_zero]))
    clear hHeld
    refine wpE_out (by kernel_rfl) ?_
    refine wpAny_ready (rs := [35]) (by kernel_rfl) (by simp) ?_
    refine AllReady.cons rfl (fun K hK => ?_) AllReady.nil
    rw [if_pos (show _ = true by kernel_rfl)]
    go_simp
    refine hK _ _ ?_
    clear hK K
    refine wpAny_done (by kernel_rfl) ?_ _
    go_wp2_with (fail)
    go_ret
    exact ⟨rfl, bl_trans HWB.out (by (repeat (first | (with_reducible exact HK0.out) | (with_reducible exact Below.refl _ _) | (with_reducible apply bl_drewN) | (with_reducible apply bl_alloc) | (with_reducible apply Below.drew))); done)⟩
set_option maxRecDepth 100000 in
theorem sends_lift (os : Os) (started : os.Started) (H : Type) (enc : TypeId × Value → H) :
    ReturnsInHanded {} Try.checked os 3 .any (Rows.exchangeSendsSpec.pre6 enc Try.prog Try.f3 Rows.exchangeSendsRow.domain false) (Rows.exchangeSendsSpec.post enc Try.prog Try.f3 false true false false) :=
  law_lift (C := Try.checked) (s := Rows.exchangeSendsSpec) (fn := Try.f3) ⟨rfl, fun H ds h => by
    match ds, h with
    | [a, b, c], _ => exact ⟨rfl, rfl, rfl⟩⟩ rfl Try.underlying4 (by kernel_rfl) laid0 own0 started (by kernel_rfl) Try.func3
    (ChangeSpec.witness6 (enc := enc) (C := Try.checked) false ⟨#[], #[.agg #[.string ByteArray.empty, .int .i64 0, .int .i64 0, .slice none 0 0, .slice none 0 0, .slice none 0 0], .string ByteArray.empty, .slice none 0 0], []⟩ 8 (by kernel_rfl) (by kernel_rfl) (by kernel_rfl) (by kernel_rfl)) sends_walk

/-- THE STATEMENT: ExchangeSends. -/
theorem sends_holds : Rows.ExchangeSendsSaid :=
  OpenClaim.holds_of_wide 3 Try.f3 rfl rfl rfl rfl rfl rfl rfl ⟨rfl, rfl, rfl, rfl, rfl⟩ rfl rfl rfl rfl rfl (by kernel_rfl) Try.func3 (by kernel_rfl)
    (of_decide_eq_true (by kernel_rfl)) (by unfold Func.isWrapper; rw [if_neg (of_decide_eq_false (by kernel_rfl))]; exact ⟨rfl, rfl⟩)
    (fun os started H enc _ => sends_lift os started H enc)
end Go.Proofs.Ythdbojbblkfhaaa
