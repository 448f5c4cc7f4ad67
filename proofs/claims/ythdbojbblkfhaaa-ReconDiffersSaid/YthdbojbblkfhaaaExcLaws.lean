/-
  Layer 43 (exchange): the law ExchangeReceives.
-/
import Derived.Test.YthdbojbblkfhaaaExcGreat
import Derived.Test.YthdbojbblkfhaaaRows
namespace Go.Proofs.Ythdbojbblkfhaaa
open Go.RowKit Go.Tw Go.Tw.Exc Go.ChangeShapes Go.WideShapes
theorem own0 : ownKnob Try.prog.godebug = none := by kernel_rfl
theorem laid0 : laidOutB Try.prog = true := by kernel_rfl
theorem opensRec : Opens Try.prog 51 tRec :=
  opens_via (fun x => ⟨x.1, x.2.1, x.2.2.1, x.2.2.2.1, x.2.2.2.2⟩) (fun _ => rfl) (opens_struct Try.underlying51 (by kernel_rfl) (.cons rfl (by kernel_rfl) (opens_int Try.underlying3) (.cons rfl (by kernel_rfl) (opens_str Try.underlying9) (.cons rfl (by kernel_rfl) (opens_int Try.underlying3) (.cons rfl (by kernel_rfl) (opens_int Try.underlying3) (.one rfl (by kernel_rfl) (opens_int Try.underlying3)))))))
theorem opensRecs {e : TypeId} : Opens Try.prog 23 (tRec.list e) := opens_slice Try.underlying23 (by kernel_rfl) (by decide) opensRec
theorem opensFil : Opens Try.prog 30 tFil :=
  opens_via (fun x => ⟨x.1, x.2.1, x.2.2.1, x.2.2.2⟩) (fun _ => rfl) (opens_struct Try.underlying30 (by kernel_rfl) (.cons rfl (by kernel_rfl) (opens_str Try.underlying9) (.cons rfl (by kernel_rfl) (opens_str Try.underlying9) (.cons rfl (by kernel_rfl) (opens_int Try.underlying3) (.one rfl (by kernel_rfl) opensRecs)))))
theorem opensFils {e : TypeId} : Opens Try.prog 22 (tFil.list e) := opens_slice Try.underlying22 (by kernel_rfl) (by decide) opensFil
theorem opensPar : Opens Try.prog 25 tPar :=
  opens_via (fun x => ⟨x.1, x.2.1, x.2.2.1, x.2.2.2.1, x.2.2.2.2.1, x.2.2.2.2.2⟩) (fun _ => rfl) (opens_struct Try.underlying25 (by kernel_rfl) (.cons rfl (by kernel_rfl) (opens_str Try.underlying9) (.cons rfl (by kernel_rfl) (opens_int Try.underlying3) (.cons rfl (by kernel_rfl) (opens_int Try.underlying3) (.cons rfl (by kernel_rfl) opensFils (.cons rfl (by kernel_rfl) opensRecs (.one rfl (by kernel_rfl) opensRecs)))))))
set_option maxRecDepth 100000 in
theorem arg_par {H : Type} {enc : TypeId × Value → H} {w : World} {r : Reach} {b0 : Nat} {v : Value} {d : DataW H} {ps : List MemPlace} (hval : Value.okWide Try.prog w r b0 25 v) (hd : DataW.Trod enc Try.prog w 0 (fun _ => true) true 25 v d ps) : ∃ p vw vo vt, v = .agg #[.string p.nm, .int .i64 p.out, .int .i64 p.inn, vw, vo, vt] ∧ ParOk (· < w.heap.size) w p vw vo vt := by
  obtain ⟨cs, p, rfl, hi⟩ := arg_struct Try.underlying25 opensPar hval hd
  obtain ⟨vw, vo, vt, hcs, hm⟩ := tPar_is hi
  exact ⟨p, vw, vo, vt, by congr 1; apply Array.ext'; simpa using hcs, hm⟩
set_option maxRecDepth 100000 in
theorem arg_fil {H : Type} {enc : TypeId × Value → H} {w : World} {r : Reach} {b0 : Nat} {v : Value} {d : DataW H} {ps : List MemPlace} (hval : Value.okWide Try.prog w r b0 30 v) (hd : DataW.Trod enc Try.prog w 0 (fun _ => true) true 30 v d ps) : ∃ f vf, v = .agg #[.string f.fr, .string f.to, .int .i64 f.sq, vf] ∧ FilOk (· < w.heap.size) w f vf := by
  obtain ⟨cs, f, rfl, hi⟩ := arg_struct Try.underlying30 opensFil hval hd
  obtain ⟨vf, hcs, hm⟩ := tFil_is hi
  exact ⟨f, vf, by congr 1; apply Array.ext'; simpa [filCells] using hcs, hm⟩
theorem pe_form {w' : World} {e : Ending} {q : Par × Int} (h : PE w' e q) : ∃ a1 l1 c1 a2 l2 c2 a3 l3 c3, e = .returned (.tuple #[.agg #[.string q.1.nm, .int .i64 q.1.out, .int .i64 q.1.inn, .slice a1 l1 c1, .slice a2 l2 c2, .slice a3 l3 c3], .int .i64 q.2]) ∧ ParOk (· < w'.heap.size) w' q.1 (.slice a1 l1 c1) (.slice a2 l2 c2) (.slice a3 l3 c3) := by
  obtain ⟨vw, vo, vt, rfl, ho⟩ := h
  obtain ⟨a1, c1, _, _, rfl, -⟩ := id ho.wt
  obtain ⟨a2, c2, _, _, rfl, -⟩ := id ho.ours
  obtain ⟨a3, c3, _, _, rfl, -⟩ := id ho.thr
  exact ⟨_, _, _, _, _, _, _, _, _, rfl, ho⟩
set_option maxRecDepth 100000 in
set_option maxHeartbeats 8000000 in
theorem receives_walk : LawWalk Try.prog 4 Try.f4 := by
  intro H enc W base args ds ps hval hA hsz
  rw [Try.params4] at hA hval
  obtain ⟨v0, v1, d0, d1, p0, p1, rfl, rfl, rfl, h0, h1⟩ := trodAll_two hA
  obtain ⟨p, vw, vo, vt, rfl, hp⟩ := arg_par (hval 0 _ _ rfl rfl) h0
  obtain ⟨f, vf, rfl, hf⟩ := arg_fil (hval 1 _ _ rfl rfl) h1
  clear hA hval h0 h1 hsz
  obtain ⟨aw, cw, _, _, rfl, -⟩ := id hp.wt
  obtain ⟨ao, co, _, _, rfl, -⟩ := id hp.ours
  obtain ⟨at', ct, _, _, rfl, -⟩ := id hp.thr
  obtain ⟨af, cf, _, _, rfl, -⟩ := id hf.rs
  have HP := Lib.hid hp
  have HF := Lib.hid hf
  clear hp hf
  go_enter Try.func4, Try.ntmps4
  go_wp2_with (fail)
  refine (great_any p _ _ _ _ (HP.out.step (by (repeat (first | (with_reducible exact Below.refl _ _) | (with_reducible apply bl_drewN) | (with_reducible apply bl_alloc) | (with_reducible apply Below.drew))); done))).mono ?_
  rintro e w1 ⟨⟨bg, rfl, hsm⟩, hb⟩
  have HX := Lib.hid (Go.Tw.Below.at_old hb (alloc2_0 W _ _))
  have HY := Lib.hid (Go.Tw.Below.at_old hb (alloc2_1 W _ _))
  obtain ⟨x0, x1, x2, x3, x4, x5, xf⟩ := blk6' HX.out
  obtain ⟨y0, y1, y2, y3, yf⟩ := blk4 HY.out
  have HB := Lib.hid (bl_trans (bl_alloc (bl_alloc (Below.refl W.heap.size W) _) _) hb)
  clear hb
  cases bg
  case true =>
    go_wp2_with (fail)
    refine (awake_any _).mono ?_
    rintro e wz ⟨rfl, hbz⟩
    have HZ := Lib.hid (bl_trans HB.out hbz)
    clear hbz
    go_wp2_with (fail)
    go_ret
    exact ⟨rfl, HZ.out⟩
  have HS := Lib.hid (hsm rfl)
  clear hsm
  go_wp2_with (fail)
  refine (heavy_any f.rs _ _ (HF.out.rs.step HB.out)).mono ?_
  rintro e w2 ⟨rfl, hb⟩
  have HX' := Lib.hid (Go.Tw.Below.at_old hb HX.out)
  have HY' := Lib.hid (Go.Tw.Below.at_old hb HY.out)
  clear HX HY x0 x1 x2 x3 x4 x5 xf y0 y1 y2 y3 yf
  have HX := HX'
  have HY := HY'
  clear HX' HY'
  obtain ⟨x0, x1, x2, x3, x4, x5, xf⟩ := blk6' HX.out
  obtain ⟨y0, y1, y2, y3, yf⟩ := blk4 HY.out
  have HB2 := Lib.hid (bl_trans HB.out hb)
  clear HB hb
  have HB := HB2
  clear HB2
  cases hh : heavyC f.rs
  case true =>
    clear hh
    go_wp2_with (fail)
    refine (awake_any _).mono ?_
    rintro e wz ⟨rfl, hbz⟩
    have HZ := Lib.hid (bl_trans HB.out hbz)
    clear hbz
    go_wp2_with (fail)
    go_ret
    exact ⟨rfl, HZ.out⟩
  clear hh
  go_wp2_with (fail)
  refine (recv_any p f _ _ _ _ _ (HP.out.step HB.out) HS.out (HF.out.step HB.out)).mono ?_
  rintro e w3 ⟨he, hb⟩
  obtain ⟨a1, l1, c1, a2, l2, c2, a3, l3, c3, rfl, hq⟩ := pe_form he
  have HX' := Lib.hid (Go.Tw.Below.at_old hb HX.out)
  have HY' := Lib.hid (Go.Tw.Below.at_old hb HY.out)
  clear HX HY x0 x1 x2 x3 x4 x5 xf y0 y1 y2 y3 yf
  have HX := HX'
  have HY := HY'
  clear HX' HY'
  obtain ⟨x0, x1, x2, x3, x4, x5, xf⟩ := blk6' HX.out
  obtain ⟨y0, y1, y2, y3, yf⟩ := blk4 HY.out
  have HB2 := Lib.hid (bl_trans HB.out hb)
  clear HB hb he
  have HB := HB2
  clear HB2
  have HQ := Lib.hid hq
  clear hq
  obtain ⟨q, hqq⟩ : ∃ q, recvC p f = q := ⟨_, rfl⟩
  rw [hqq] at HQ ⊢
  have HQQ := Lib.hid hqq
  clear hqq
  have hz1 := lt_of_heap HX.out
  have hz2 := lt_of_heap HY.out
  have ne1 : ¬ W.heap.size = w3.heap.size := by omega
  have ne2 : ¬ W.heap.size + 1 = w3.heap.size := by omega
  go_wp2_with (fail)
  refine (recvR_any p f _ _ _ _ _ (HP.out.step (bl_trans HB.out (by (repeat (first | (with_reducible exact Below.refl _ _) | (with_reducible apply bl_drewN) | (with_reducible apply bl_alloc) | (with_reducible apply Below.drew))); done))) HS.out (HF.out.step (bl_trans HB.out (by (repeat (first | (with_reducible exact Below.refl _ _) | (with_reducible apply bl_drewN) | (with_reducible apply bl_alloc) | (with_reducible apply Below.drew))); done)))).mono ?_
  rintro e w4 ⟨he, hb⟩
  rw [HQQ.out] at he
  obtain ⟨b1, m1, d1, b2, m2, d2, b3, m3, d3, rfl, hr⟩ := pe_form he
  have A4 := Go.Tw.Below.at_old hb (alloc1_0 w3 _)
  have B4 := Lib.hid (show Below w3.heap.size w3 w4 from bl_trans (bl_alloc (Below.refl w3.heap.size w3) _) hb)
  have HQ4 := Lib.hid (HQ.out.step B4.out)
  have HR := Lib.hid hr
  have HB2 := Lib.hid (bl_trans HB.out B4.out)
  clear HB hb he hr HX HY x0 x1 x2 x3 x4 x5 xf y0 y1 y2 y3 yf hz1 hz2 ne1 ne2
  have HB := HB2
  clear HB2
  obtain ⟨x0, x1, x2, x3, x4, x5, xf⟩ := blk6' A4
  have hz1 := lt_of_heap A4
  have ne1 : ¬ w3.heap.size = w4.heap.size := by omega
  clear A4
  have hee : (q.2 == q.2) = true := by simp
  go_wp2_with (fail)
  refine (same_any q.1 _ _ _ _ _ _ _ (HQ4.out.step (by (repeat (first | (with_reducible exact Below.refl _ _) | (with_reducible apply bl_drewN) | (with_reducible apply bl_alloc) | (with_reducible apply Below.drew))); done)) (HR.out.step (by (repeat (first | (with_reducible exact Below.refl _ _) | (with_reducible apply bl_drewN) | (with_reducible apply bl_alloc) | (with_reducible apply Below.drew))); done))).mono ?_
  rintro e w5 ⟨rfl, hb⟩
  have HB2 := Lib.hid (bl_trans HB.out (bl_trans (bl_alloc (Below.refl w4.heap.size w4) _) hb))
  clear HB hb
  have HB := HB2
  clear HB2
  go_wp2_with (fail)
  refine (awake_any _).mono ?_
  rintro e wz ⟨rfl, hbz⟩
  have HZ := Lib.hid (bl_trans HB.out hbz)
  clear hbz
  go_wp2_with (fail)
  go_ret
  exact ⟨rfl, HZ.out⟩
set_option maxRecDepth 100000 in
theorem receives_lift (os : Os) (started : os.Started) (H : Type) (enc : TypeId × Value → H) :
    ReturnsInHanded {} Try.checked os 4 .any (Rows.exchangeReceivesSpec.pre6 enc Try.prog Try.f4 Rows.exchangeReceivesRow.domain false) (Rows.exchangeReceivesSpec.post enc Try.prog Try.f4 false true false false) :=
  law_lift (C := Try.checked) (s := Rows.exchangeReceivesSpec) (fn := Try.f4) ⟨rfl, fun H ds h => by
    match ds, h with
    | [a, b], _ => exact ⟨rfl, rfl, rfl⟩⟩ rfl Try.underlying4 (by kernel_rfl) laid0 own0 started (by kernel_rfl) Try.func4
    (ChangeSpec.witness6 (enc := enc) (C := Try.checked) false ⟨#[], #[.agg #[.string ByteArray.empty, .int .i64 0, .int .i64 0, .slice none 0 0, .slice none 0 0, .slice none 0 0], .agg #[.string ByteArray.empty, .string ByteArray.empty, .int .i64 0, .slice none 0 0]], []⟩ 8 (by kernel_rfl) (by kernel_rfl) (by kernel_rfl) (by kernel_rfl)) receives_walk

/-- THE STATEMENT: ExchangeReceives. -/
theorem receives_holds : Rows.ExchangeReceivesSaid :=
  OpenClaim.holds_of_wide 4 Try.f4 rfl rfl rfl rfl rfl rfl rfl ⟨rfl, rfl, rfl, rfl, rfl⟩ rfl rfl rfl rfl rfl (by kernel_rfl) Try.func4 (by kernel_rfl)
    (of_decide_eq_true (by kernel_rfl)) (by unfold Func.isWrapper; rw [if_neg (of_decide_eq_false (by kernel_rfl))]; exact ⟨rfl, rfl⟩)
    (fun os started H enc _ => receives_lift os started H enc)
end Go.Proofs.Ythdbojbblkfhaaa
