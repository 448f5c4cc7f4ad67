/-
  Layer 43 (exchange): the law ExchangeAcks.
-/
import Derived.Test.YthdbojbblkfhaaaExcLaws
import Derived.Test.YthdbojbblkfhaaaExcAckR
namespace Go.Proofs.Ythdbojbblkfhaaa
open Go.RowKit Go.Tw Go.Tw.Exc Go.ChangeShapes Go.WideShapes
set_option maxRecDepth 100000 in
set_option maxHeartbeats 8000000 in
theorem acks_walk : LawWalk Try.prog 5 Try.f5 := by
  intro H enc W base args ds ps hval hA hsz
  rw [Try.params5] at hA hval
  obtain ⟨v0, v1, d0, d1, p0, p1, rfl, rfl, rfl, h0, h1⟩ := trodAll_two hA
  obtain ⟨p, vw, vo, vt, rfl, hp⟩ := arg_par (hval 0 _ _ rfl rfl) h0
  obtain ⟨sq, rfl, hqi⟩ := arg_int Try.underlying3 (hval 1 _ _ rfl rfl) h1
  clear hA hval h0 h1 hsz
  obtain ⟨aw, cw, _, _, rfl, -⟩ := id hp.wt
  obtain ⟨ao, co, _, _, rfl, -⟩ := id hp.ours
  obtain ⟨at', ct, _, _, rfl, -⟩ := id hp.thr
  have HP := Lib.hid hp
  have HI := Lib.hid hqi
  clear hp hqi
  go_enter Try.func5, Try.ntmps5
  go_wp2_with (fail)
  refine (great_any p _ _ _ _ (HP.out.step (by (repeat (first | (with_reducible exact Below.refl _ _) | (with_reducible apply bl_drewN) | (with_reducible apply bl_alloc) | (with_reducible apply Below.drew))); done))).mono ?_
  rintro e w1 ⟨⟨bg, rfl, hsm⟩, hb⟩
  have HX := Lib.hid (Go.Tw.Below.at_old hb (alloc1_0 W _))
  obtain ⟨x0, x1, x2, x3, x4, x5, xf⟩ := blk6' HX.out
  have HB := Lib.hid (bl_trans (bl_alloc (Below.refl W.heap.size W) _) hb)
  clear hb
  cases bg
  case true =>
    go_wp2_with (fail)
    refine (awake_any _).mono ?_
    rintro e wz ⟨rfl, hbz⟩
    have HZ := Lib.hid (bl_trans HB.out hbz)
    clear hbz
    go_wp2_with (fail)
    go_ret
    exact ⟨rfl, HZ.out⟩
  have HS := Lib.hid (hsm rfl)
  clear hsm
  go_wp2_with (fail)
  refine (ack_any p sq _ _ _ _ (HP.out.step HB.out) HS.out HI.out).mono ?_
  rintro e w3 ⟨he, hb⟩
  obtain ⟨a1, l1, c1, a2, l2, c2, a3, l3, c3, rfl, hq⟩ := pe_form he
  have HX' := Lib.hid (Go.Tw.Below.at_old hb HX.out)
  clear HX x0 x1 x2 x3 x4 x5 xf
  have HX := HX'
  clear HX'
  obtain ⟨x0, x1, x2, x3, x4, x5, xf⟩ := blk6' HX.out
  have HB2 := Lib.hid (bl_trans HB.out hb)
  clear HB hb he
  have HB := HB2
  clear HB2
  have HQ := Lib.hid hq
  clear hq
  obtain ⟨q, hqq⟩ : ∃ q, ackC p sq = q := ⟨_, rfl⟩
  rw [hqq] at HQ ⊢
  have HQQ := Lib.hid hqq
  clear hqq
  have hz1 := lt_of_heap HX.out
  have ne1 : ¬ W.heap.size = w3.heap.size := by omega
  go_wp2_with (fail)
  refine (ackR_any p sq _ _ _ _ (HP.out.step (bl_trans HB.out (by (repeat (first | (with_reducible exact Below.refl _ _) | (with_reducible apply bl_drewN) | (with_reducible apply bl_alloc) | (with_reducible apply Below.drew))); done))) HS.out HI.out).mono ?_
  rintro e w4 ⟨he, hb⟩
  rw [HQQ.out] at he
  obtain ⟨b1, m1, d1, b2, m2, d2, b3, m3, d3, rfl, hr⟩ := pe_form he
  have A4 := Go.Tw.Below.at_old hb (alloc1_0 w3 _)
  have B4 := Lib.hid (show Below w3.heap.size w3 w4 from bl_trans (bl_alloc (Below.refl w3.heap.size w3) _) hb)
  have HQ4 := Lib.hid (HQ.out.step B4.out)
  have HR := Lib.hid hr
  have HB2 := Lib.hid (bl_trans HB.out B4.out)
  clear HB hb he hr HX x0 x1 x2 x3 x4 x5 xf hz1 ne1
  have HB := HB2
  clear HB2
  obtain ⟨x0, x1, x2, x3, x4, x5, xf⟩ := blk6' A4
  have hz1 := lt_of_heap A4
  have ne1 : ¬ w3.heap.size = w4.heap.size := by omega
  clear A4
  have hee : (q.2 == q.2) = true := by simp
  go_wp2_with (fail)
  refine (same_any q.1 _ _ _ _ _ _ _ (HQ4.out.step (by (repeat (first | (with_reducible exact Below.refl _ _) | (with_reducible apply bl_drewN) | (with_reducible apply bl_alloc) | (with_reducible apply Below.drew))); done)) (HR.out.step (by (repeat (first | (with_reducible exact Below.refl _ _) | (with_reducible apply bl_drewN) | (with_reducible apply bl_alloc) | (with_reducible apply Below.drew))); done))).mono ?_
  rintro e w5 ⟨rfl, hb⟩
  have HB2 := Lib.hid (bl_trans HB.out (bl_trans (bl_alloc (Below.refl w4.heap.size w4) _) hb))
  clear HB hb
  have HB := HB2
  clear HB2
  go_wp2_with (fail)
  refine (awake_any _).mono ?_
  rintro e wz ⟨rfl, hbz⟩
  have HZ := Lib.hid (bl_trans HB.out hbz)
  clear hbz
  go_wp2_with (fail)
  go_ret
  exact ⟨rfl, HZ.out⟩
set_option maxRecDepth 100000 in
theorem acks_lift (os : Os) (started : os.Started) (H : Type) (enc : TypeId × Value → H) :
    ReturnsInHanded {} Try.checked os 5 .any (Rows.exchangeAcksSpec.pre6 enc Try.prog Try.f5 Rows.exchangeAcksRow.domain false) (Rows.exchangeAcksSpec.post enc Try.prog Try.f5 false true false false) :=
  law_lift (C := Try.checked) (s := Rows.exchangeAcksSpec) (fn := Try.f5) ⟨rfl, fun H ds h => by
    match ds, h with
    | [a, b], _ => exact ⟨rfl, rfl, rfl⟩⟩ rfl Try.underlying4 (by kernel_rfl) laid0 own0 started (by kernel_rfl) Try.func5
    (ChangeSpec.witness6 (enc := enc) (C := Try.checked) false ⟨#[], #[.agg #[.string ByteArray.empty, .int .i64 0, .int .i64 0, .slice none 0 0, .slice none 0 0, .slice none 0 0], .int .i64 0], []⟩ 8 (by kernel_rfl) (by kernel_rfl) (by kernel_rfl) (by kernel_rfl)) acks_walk

/-- THE STATEMENT: ExchangeAcks. -/
theorem acks_holds : Rows.ExchangeAcksSaid :=
  OpenClaim.holds_of_wide 5 Try.f5 rfl rfl rfl rfl rfl rfl rfl ⟨rfl, rfl, rfl, rfl, rfl⟩ rfl rfl rfl rfl rfl (by kernel_rfl) Try.func5 (by kernel_rfl)
    (of_decide_eq_true (by kernel_rfl)) (by unfold Func.isWrapper; rw [if_neg (of_decide_eq_false (by kernel_rfl))]; exact ⟨rfl, rfl⟩)
    (fun os started H enc _ => acks_lift os started H enc)
end Go.Proofs.Ythdbojbblkfhaaa
