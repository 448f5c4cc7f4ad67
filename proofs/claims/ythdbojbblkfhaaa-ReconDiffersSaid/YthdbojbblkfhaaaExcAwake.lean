/-
  Layer 43 (exchange): the examples (awake).
-/
import Derived.Test.YthdbojbblkfhaaaExcEx
import Derived.Test.YthdbojbblkfhaaaExcSend
namespace Go.Proofs.Ythdbojbblkfhaaa
open Go.RowKit Go.Tw Go.Tw.Exc
theorem smallP_of {p : Par} (h1 : p.wt.length ≤ 100) (h2 : ∀ f ∈ p.wt, f.rs.length ≤ 2000) (h3 : p.ours.length ≤ 2000) (h4 : p.thr.length ≤ 2000) : SmallP p := ⟨by omega, fun f hf => by have := h2 f hf; omega, by omega, by omega⟩
theorem small_exP : SmallP exP := smallP_of (by decide) (fun f hf => by cases hf) (by decide) (by decide)
theorem small_exT : SmallP exT := smallP_of (by decide) (fun f hf => by cases hf) (by decide) (by decide)
theorem small_exQ : SmallP exQ := smallP_of (by decide) (fun f hf => by
  rw [List.mem_singleton.1 hf]
  decide) (by decide) (by decide)
theorem exL_fits : ∀ r ∈ exL, -1125899906842624 ≤ r.c ∧ r.c ≤ 1125899906842624 := fun r hr => by
  rw [List.mem_singleton.1 hr]
  decide
theorem exL_sl (w : World) : SlIs tRec (· < (w.alloc (.cells #[.int .i64 1, .string ⟨#[107]⟩, .int .i64 0, .int .i64 500, .int .i64 0] 51)).heap.size) (w.alloc (.cells #[.int .i64 1, .string ⟨#[107]⟩, .int .i64 0, .int .i64 500, .int .i64 0] 51)) (.slice (some ⟨w.heap.size, 0, none⟩) 1 1) exL :=
  SlIs.of_block (css := [recCells exR]) (l := exL) (heap_alloc_new _ _) ⟨[], by rfl⟩ ⟨tRec_mk exR_ok, trivial⟩ (by simp) (by decide) (by decide)
theorem pe_get {w' : World} {e : Ending} {p : Par} {err : Int} {q : Par × Int} (h : PE w' e q) (hq : q = (p, err)) : ∃ a1 l1 c1 a2 l2 c2 a3 l3 c3, e = .returned (.tuple #[.agg #[.string p.nm, .int .i64 p.out, .int .i64 p.inn, .slice a1 l1 c1, .slice a2 l2 c2, .slice a3 l3 c3], .int .i64 err]) ∧ l1 = p.wt.length ∧ l3 = p.thr.length ∧ ParOk (· < w'.heap.size) w' p (.slice a1 l1 c1) (.slice a2 l2 c2) (.slice a3 l3 c3) := by
  subst hq
  obtain ⟨vw, vo, vt, rfl, ho⟩ := h
  obtain ⟨a1, c1, _, _, rfl, -⟩ := id ho.wt
  obtain ⟨a2, c2, _, _, rfl, -⟩ := id ho.ours
  obtain ⟨a3, c3, _, _, rfl, -⟩ := id ho.thr
  exact ⟨_, _, _, _, _, _, _, _, _, rfl, rfl, rfl, ho⟩
theorem se_get {w' : World} {e : Ending} {p : Par} {f : Fil} {err : Int} {q : Par × Fil × Int} (h : SE w' e q) (hq : q = (p, f, err)) : ∃ a1 l1 c1 a2 l2 c2 a3 l3 c3 a4 l4 c4, e = .returned (.tuple #[.agg #[.string p.nm, .int .i64 p.out, .int .i64 p.inn, .slice a1 l1 c1, .slice a2 l2 c2, .slice a3 l3 c3], .agg #[.string f.fr, .string f.to, .int .i64 f.sq, .slice a4 l4 c4], .int .i64 err]) ∧ l1 = p.wt.length ∧ ParOk (· < w'.heap.size) w' p (.slice a1 l1 c1) (.slice a2 l2 c2) (.slice a3 l3 c3) := by
  subst hq
  obtain ⟨vw, vo, vt, vf, rfl, ho, hf⟩ := h
  obtain ⟨a1, c1, _, _, rfl, -⟩ := id ho.wt
  obtain ⟨a2, c2, _, _, rfl, -⟩ := id ho.ours
  obtain ⟨a3, c3, _, _, rfl, -⟩ := id ho.thr
  obtain ⟨a4, c4, _, _, rfl, -⟩ := id hf.rs
  exact ⟨_, _, _, _, _, _, _, _, _, _, _, _, rfl, rfl, ho⟩
set_option maxRecDepth 100000 in
set_option maxHeartbeats 4000000 in
theorem awake_any (w : World) : Calls Try.prog 14 #[] w fun e w' => e = .returned (.bool true) ∧ Below w.heap.size w w' := by
  have HL1 := Lib.hid (exL_sl w)
  go_enter Try.func14, Try.ntmps14
  go_wp2_with (fail)
  refine (new_any sNorth _ (by decide)).mono ?_
  rintro e w2 ⟨he, hb2⟩
  obtain ⟨a1, l1, c1, a2, l2, c2, a3, l3, c3, rfl, e1, e3, hp⟩ := pe_get he ex_new
  obtain rfl : l1 = 0 := e1
  obtain rfl : l3 = 0 := e3
  have HB2 := Lib.hid (bl_trans (bl_alloc (Below.refl w.heap.size w) _) hb2)
  have HL2 := Lib.hid (HL1.out.step hb2)
  have HP2 := Lib.hid hp
  clear HL1 he hb2 hp
  go_wp2_with (fail)
  refine (send_any exP sSouth exL _ _ _ _ _ (HP2.out.step (by (repeat (first | (with_reducible exact Below.refl _ _) | (with_reducible apply bl_drewN) | (with_reducible apply bl_alloc) | (with_reducible apply Below.drew))); done)) small_exP (by decide) (HL2.out.step (by (repeat (first | (with_reducible exact Below.refl _ _) | (with_reducible apply bl_drewN) | (with_reducible apply bl_alloc) | (with_reducible apply Below.drew))); done))).mono ?_
  rintro e w3 ⟨he, hb3⟩
  obtain ⟨q1, m1, d1, q2, m2, d2, q3, m3, d3, q4, m4, d4, rfl, e1, hq⟩ := se_get he ex_send
  obtain rfl : m1 = 1 := e1
  have P2 := Go.Tw.Below.at_old hb3 (alloc1_0 w2 _)
  have HB3 := Lib.hid (bl_trans (bl_trans HB2.out (bl_alloc (Below.refl w2.heap.size w2) _)) hb3)
  have HP3 := Lib.hid ((HP2.out.step (bl_alloc (Below.refl w2.heap.size w2) _)).step hb3)
  have HL3 := Lib.hid ((HL2.out.step (bl_alloc (Below.refl w2.heap.size w2) _)).step hb3)
  have HQ3 := Lib.hid hq
  clear HB2 HP2 HL2 he hb3 hq
  go_wp2_with (fail)
  refine (claims_any exQ _ _ _ _ (HQ3.out.step (by (repeat (first | (with_reducible exact Below.refl _ _) | (with_reducible apply bl_drewN) | (with_reducible apply bl_alloc) | (with_reducible apply Below.drew))); done)) (by decide) (by decide) exL_fits (fun r hr => by cases hr)).mono ?_
  rintro e w4 ⟨rfl, hb4⟩
  rw [show claimC exQ.ours = 500 from ex_claim, show claimC exQ.thr = 0 from ex_claim0]
  have Q4 := Go.Tw.Below.at_old hb4 (alloc2_0 w3 _ _)
  have F4 := Go.Tw.Below.at_old hb4 (alloc2_1 w3 _ _)
  have P4 := Go.Tw.Below.at_old hb4 (alloc1_old _ (alloc1_old _ P2))
  have B4 := Lib.hid (show Below w3.heap.size w3 w4 from bl_trans (bl_alloc (bl_alloc (Below.refl w3.heap.size w3) _) _) hb4)
  have HQ4 := Lib.hid (HQ3.out.step B4.out)
  have HP4 := Lib.hid (HP3.out.step B4.out)
  have HL4 := Lib.hid (HL3.out.step B4.out)
  have HB4 := Lib.hid (bl_trans HB3.out B4.out)
  clear P2 HB3 HP3 HL3 HQ3 hb4 B4
  obtain ⟨k0, k1, k2, k3, k4, k5, kf⟩ := blk6' Q4
  go_wp2_with (fail)
  refine (ack_any exQ 1 _ _ _ _ HQ4.out small_exQ (show i64ok 1 by unfold i64ok; decide)).mono ?_
  rintro e w5 ⟨he, hb5⟩
  obtain ⟨r1, s1, t1, r2, s2, t2, r3, s3, t3, rfl, e1, -, -⟩ := pe_get he ex_ack1
  obtain rfl : s1 = 0 := e1
  have Q5 := Go.Tw.Below.at_old hb5 Q4
  have F5 := Go.Tw.Below.at_old hb5 F4
  have P5 := Go.Tw.Below.at_old hb5 P4
  have HQ5 := Lib.hid (HQ4.out.step hb5)
  have HP5 := Lib.hid (HP4.out.step hb5)
  have HL5 := Lib.hid (HL4.out.step hb5)
  have HB5 := Lib.hid (bl_trans HB4.out hb5)
  clear HB4 HP4 HL4 HQ4 hb5 he Q4 F4 P4 k0 k1 k2 k3 k4 k5 kf
  obtain ⟨k0, k1, k2, k3, k4, k5, kf⟩ := blk6' Q5
  have hz5 := lt_of_heap Q5
  have ne5 : ¬ w3.heap.size = w5.heap.size := by omega
  go_wp2_with (fail)
  refine (ack_any exQ 2 _ _ _ _ (HQ5.out.step (by (repeat (first | (with_reducible exact Below.refl _ _) | (with_reducible apply bl_drewN) | (with_reducible apply bl_alloc) | (with_reducible apply Below.drew))); done)) small_exQ (show i64ok 2 by unfold i64ok; decide)).mono ?_
  rintro e w6 ⟨he, hb6⟩
  obtain ⟨u1, u2, u3, v1, v2, v3, x1, x2, x3, rfl, -, -, -⟩ := pe_get he ex_ack2
  have A6 := Go.Tw.Below.at_old hb6 (alloc1_0 w5 _)
  have Q6 := Go.Tw.Below.at_old hb6 (alloc1_old _ Q5)
  have F6 := Go.Tw.Below.at_old hb6 (alloc1_old _ F5)
  have P6 := Go.Tw.Below.at_old hb6 (alloc1_old _ P5)
  have B6 := Lib.hid (show Below w5.heap.size w5 w6 from bl_trans (bl_alloc (Below.refl w5.heap.size w5) _) hb6)
  have HQ6 := Lib.hid (HQ5.out.step B6.out)
  have HP6 := Lib.hid (HP5.out.step B6.out)
  have HL6 := Lib.hid (HL5.out.step B6.out)
  have HB6 := Lib.hid (bl_trans HB5.out B6.out)
  clear HB5 HP5 HL5 HQ5 hb6 he Q5 F5 P5 k0 k1 k2 k3 k4 k5 kf B6 hz5 ne5
  obtain ⟨p0, p1, p2, p3, p4, p5, pf⟩ := blk6' P6
  have hz6 := lt_of_heap P6
  have ne6 : ¬ w2.heap.size = w6.heap.size := by omega
  go_wp2_with (fail)
  refine (recv_any exP ⟨sNorth, sSouth, 2, exL⟩ _ _ _ _ _ (HP6.out.step (by (repeat (first | (with_reducible exact Below.refl _ _) | (with_reducible apply bl_drewN) | (with_reducible apply bl_alloc) | (with_reducible apply Below.drew))); done)) small_exP ⟨(by decide), (by decide), (show i64ok 2 by unfold i64ok; decide), HL6.out.step (by (repeat (first | (with_reducible exact Below.refl _ _) | (with_reducible apply bl_drewN) | (with_reducible apply bl_alloc) | (with_reducible apply Below.drew))); done)⟩).mono ?_
  rintro e w7 ⟨he, hb7⟩
  obtain ⟨y1, y2, y3, z1, z2, z3, g1, g2, g3, rfl, -, -, -⟩ := pe_get he ex_recv2
  have A7 := Go.Tw.Below.at_old hb7 (alloc1_old _ A6)
  have Q7 := Go.Tw.Below.at_old hb7 (alloc1_old _ Q6)
  have F7 := Go.Tw.Below.at_old hb7 (alloc1_old _ F6)
  have P7 := Go.Tw.Below.at_old hb7 (alloc1_old _ P6)
  have B7 := Lib.hid (show Below w6.heap.size w6 w7 from bl_trans (bl_alloc (Below.refl w6.heap.size w6) _) hb7)
  have HQ7 := Lib.hid (HQ6.out.step B7.out)
  have HP7 := Lib.hid (HP6.out.step B7.out)
  have HL7 := Lib.hid (HL6.out.step B7.out)
  have HB7 := Lib.hid (bl_trans HB6.out B7.out)
  clear HB6 HP6 HL6 HQ6 hb7 he A6 Q6 F6 P6 p0 p1 p2 p3 p4 p5 pf B7 hz6 ne6
  obtain ⟨p0, p1, p2, p3, p4, p5, pf⟩ := blk6' P7
  have hz7 := lt_of_heap P7
  have ne7 : ¬ w2.heap.size = w7.heap.size := by omega
  go_wp2_with (fail)
  refine (recv_any exP ⟨sNorth, sSouth, 1, exL⟩ _ _ _ _ _ (HP7.out.step (by (repeat (first | (with_reducible exact Below.refl _ _) | (with_reducible apply bl_drewN) | (with_reducible apply bl_alloc) | (with_reducible apply Below.drew))); done)) small_exP ⟨(by decide), (by decide), (show i64ok 1 by unfold i64ok; decide), HL7.out.step (by (repeat (first | (with_reducible exact Below.refl _ _) | (with_reducible apply bl_drewN) | (with_reducible apply bl_alloc) | (with_reducible apply Below.drew))); done)⟩).mono ?_
  rintro e w8 ⟨he, hb8⟩
  obtain ⟨i1, i2, i3, j1, j2, j3, o1, o2, o3, rfl, -, e3, ht⟩ := pe_get he ex_recv1
  obtain rfl : o2 = 1 := e3
  have A8 := Go.Tw.Below.at_old hb8 (alloc1_old _ A7)
  have Q8 := Go.Tw.Below.at_old hb8 (alloc1_old _ Q7)
  have F8 := Go.Tw.Below.at_old hb8 (alloc1_old _ F7)
  have P8 := Go.Tw.Below.at_old hb8 (alloc1_old _ P7)
  have B8 := Lib.hid (show Below w7.heap.size w7 w8 from bl_trans (bl_alloc (Below.refl w7.heap.size w7) _) hb8)
  have HQ8 := Lib.hid (HQ7.out.step B8.out)
  have HL8 := Lib.hid (HL7.out.step B8.out)
  have HB8 := Lib.hid (bl_trans HB7.out B8.out)
  have HT8 := Lib.hid ht
  clear HB7 HP7 HL7 HQ7 hb8 he ht A7 Q7 F7 P7 p0 p1 p2 p3 p4 p5 pf B8 hz7 ne7
  go_wp2_with (fail)
  refine (recv_any exT ⟨sNorth, sSouth, 1, exL⟩ _ _ _ _ _ (HT8.out.step (by (repeat (first | (with_reducible exact Below.refl _ _) | (with_reducible apply bl_drewN) | (with_reducible apply bl_alloc) | (with_reducible apply Below.drew))); done)) small_exT ⟨(by decide), (by decide), (show i64ok 1 by unfold i64ok; decide), HL8.out.step (by (repeat (first | (with_reducible exact Below.refl _ _) | (with_reducible apply bl_drewN) | (with_reducible apply bl_alloc) | (with_reducible apply Below.drew))); done)⟩).mono ?_
  rintro e w9 ⟨he, hb9⟩
  obtain ⟨ii1, ii2, ii3, jj1, jj2, jj3, oo1, oo2, oo3, rfl, -, -, hs⟩ := pe_get he ex_recv0
  have T9 := Go.Tw.Below.at_old hb9 (alloc1_0 w8 _)
  have A9 := Go.Tw.Below.at_old hb9 (alloc1_old _ A8)
  have Q9 := Go.Tw.Below.at_old hb9 (alloc1_old _ Q8)
  have F9 := Go.Tw.Below.at_old hb9 (alloc1_old _ F8)
  have P9 := Go.Tw.Below.at_old hb9 (alloc1_old _ P8)
  have B9 := Lib.hid (show Below w8.heap.size w8 w9 from bl_trans (bl_alloc (Below.refl w8.heap.size w8) _) hb9)
  have HQ9 := Lib.hid (HQ8.out.step B9.out)
  have HB9 := Lib.hid (bl_trans HB8.out B9.out)
  have HT9 := Lib.hid (HT8.out.step B9.out)
  have HS9 := Lib.hid hs
  clear HB8 HL8 HQ8 HT8 hb9 he hs A8 Q8 F8 P8 B9
  obtain ⟨p0, p1, p2, p3, p4, p5, pf⟩ := blk6' (show w9.heap[w2.heap.size]? = some (.cells #[.string ⟨#[110, 111, 114, 116, 104]⟩, .int .i64 1, .int .i64 1, .slice a1 0 c1, .slice a2 l2 c2, .slice a3 0 c3] 25 (0, 0)) from P9)
  obtain ⟨k0, k1, k2, k3, k4, k5, kf⟩ := blk6' (show w9.heap[w3.heap.size]? = some (.cells #[.string ⟨#[110, 111, 114, 116, 104]⟩, .int .i64 2, .int .i64 1, .slice q1 1 d1, .slice q2 m2 d2, .slice q3 m3 d3] 25 (0, 0)) from Q9)
  obtain ⟨b0, b1, b2, b3, b4, b5, bf⟩ := blk6' (show w9.heap[w5.heap.size]? = some (.cells #[.string ⟨#[110, 111, 114, 116, 104]⟩, .int .i64 2, .int .i64 1, .slice r1 0 t1, .slice r2 s2 t2, .slice r3 s3 t3] 25 (0, 0)) from A9)
  obtain ⟨f0, f1, f2, f3, ff⟩ := blk4 (show w9.heap[w3.heap.size + 1]? = some (.cells #[.string ⟨#[115, 111, 117, 116, 104]⟩, .string ⟨#[110, 111, 114, 116, 104]⟩, .int .i64 1, .slice q4 m4 d4] 30 (0, 0)) from F9)
  obtain ⟨h0, h1, h2, h3, h4, h5, hf⟩ := blk6' (show w9.heap[w8.heap.size]? = some (.cells #[.string ⟨#[110, 111, 114, 116, 104]⟩, .int .i64 1, .int .i64 2, .slice i1 i2 i3, .slice j1 j2 j3, .slice o1 1 o3] 25 (0, 0)) from T9)
  have hzP := lt_of_heap P9
  have hzQ := lt_of_heap Q9
  have hzA := lt_of_heap A9
  have hzF := lt_of_heap F9
  have hzT := lt_of_heap T9
  have ne1 : ¬ w2.heap.size = w9.heap.size := by omega
  have ne2 : ¬ w3.heap.size = w9.heap.size := by omega
  have ne3 : ¬ w5.heap.size = w9.heap.size := by omega
  have ne4 : ¬ w3.heap.size + 1 = w9.heap.size := by omega
  have ne5 : ¬ w8.heap.size = w9.heap.size := by omega
  have HQA := Lib.hid Q9
  clear P9 Q9 A9 F9 T9
  go_wp2_with (first
    | (go_at_call 19
       refine (same_any exT _ _ _ _ _ _ _ (HT9.out.step (by (repeat (first | (with_reducible exact Below.refl _ _) | (with_reducible apply bl_drewN) | (with_reducible apply bl_alloc) | (with_reducible apply Below.drew))); done)) (HS9.out.step (by (repeat (first | (with_reducible exact Below.refl _ _) | (with_reducible apply bl_drewN) | (with_reducible apply bl_alloc) | (with_reducible apply Below.drew))); done))).mono ?_
       rintro e w10 ⟨rfl, hb10⟩
       have B10 := Lib.hid (show Below w9.heap.size w9 w10 from bl_trans (bl_alloc (Below.refl w9.heap.size w9) _) hb10)
       obtain ⟨kk0, kk1, kk2, kk3, kk4, kk5, kkf⟩ := blk6' (show w10.heap[w3.heap.size]? = some (.cells #[.string ⟨#[110, 111, 114, 116, 104]⟩, .int .i64 2, .int .i64 1, .slice q1 1 d1, .slice q2 m2 d2, .slice q3 m3 d3] 25 (0, 0)) from (B10.out.block _ hzQ).trans HQA.out)
       clear hb10)
    | (go_at_call 21
       refine (resend_any exQ _ _ _ _ (HQ9.out.step B10.out) small_exQ).mono ?_
       rintro e w11 ⟨⟨v11, rfl, hs11⟩, hb11⟩
       obtain ⟨n1, n2, n3, n4, e11, -⟩ := hs11
       have e12 : v11 = .slice n1 1 n2 := e11
       subst e12
       have B11 := Lib.hid (bl_trans (bl_trans HB9.out B10.out) hb11)
       clear hb11 e11))
  go_ret
  exact ⟨rfl, B11.out⟩
end Go.Proofs.Ythdbojbblkfhaaa
