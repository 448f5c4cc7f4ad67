/-
  Layer 44 (recon): the law ReconAgrees.
-/
import Derived.Test.YtmjbbpappigngaaRecoOp
namespace Go.Proofs.Ytmjbbpappigngaa
open Go.RowKit Go.Tw Go.Tw.Exc Go.ChangeShapes Go.WideShapes
set_option maxRecDepth 100000 in
set_option maxHeartbeats 4000000 in
theorem agrees_walk : LawWalk Try.prog 3 Try.f3 := by
  intro H enc W base args ds ps hval hA hsz
  rw [Try.params3] at hA hval
  obtain ⟨v0, d0, rfl, rfl, h0⟩ := trodAll_one hA
  obtain ⟨L, hl⟩ := arg_slice Try.underlying22 (opensDeeds (e := 37)) (hval 0 _ _ rfl rfl) h0
  clear hA hval h0 hsz
  obtain ⟨al, cl, _, _, rfl, hl1, hl2, -⟩ := id hl
  unfold maxLen at hl2
  have HL := Lib.hid hl
  clear hl
  go_enter Try.func3, Try.ntmps3
  go_wp2_with (fail)
  refine (fit_any L _ W HL.out).mono ?_
  rintro e w1 ⟨⟨b1, rfl, hq1⟩, hb1⟩
  have HB1 := Lib.hid hb1
  clear hb1
  cases b1
  case false =>
    clear hq1
    go_wp2_with (fail)
    refine (awake44_any _).mono ?_
    rintro e wz ⟨rfl, hbz⟩
    have HZ := Lib.hid (bl_trans HB1.out hbz)
    clear hbz
    go_wp2_with (fail)
    go_ret
    exact ⟨rfl, HZ.out⟩
  have HFD := Lib.hid (hq1 rfl)
  clear hq1
  go_wp2_with (fail)
  refine (fresh_any L _ w1 (HL.out.step HB1.out) HFD.out).mono ?_
  rintro e w2 ⟨he, hb2⟩
  obtain ⟨u1, c1, u2, c2, u3, c3, g1, h1, g2, h2, g3, h3, rfl, hqa, hqb⟩ := rv2_form he
  have hst := fresh_st (fun d hd => (HFD.out d hd).1)
  obtain ⟨a, b, hab⟩ : ∃ a b, freshC L = (a, b) := ⟨_, _, rfl⟩
  rw [hab] at hqa hqb hst ⊢
  dsimp only at hqa hqb hst ⊢
  have HST := Lib.hid hst
  have HSZ := Lib.hid (hst.sz (Nat.le_refl _))
  have HPA := Lib.hid (OB1.mk0 (q := b) (v1 := .slice g1 b.wt.length h1) (v2 := .slice g2 b.ours.length h2) (v3 := .slice g3 b.thr.length h3) hqa)
  have HPB := Lib.hid (OB1.mk1 (p := a) (u1 := .slice u1 a.wt.length c1) (u2 := .slice u2 a.ours.length c2) (u3 := .slice u3 a.thr.length c3) hqb)
  have HB2 := Lib.hid (bl_trans (bl_trans HB1.out hb2) (bl_alloc (bl_alloc (Below.refl w2.heap.size w2) (.cells #[.string a.nm, .int .i64 a.out, .int .i64 a.inn, .slice u1 a.wt.length c1, .slice u2 a.ours.length c2, .slice u3 a.thr.length c3] 28)) (.cells #[.string b.nm, .int .i64 b.out, .int .i64 b.inn, .slice g1 b.wt.length h1, .slice g2 b.ours.length h2, .slice g3 b.thr.length h3] 28)))
  clear he hb2 hqa hqb hst hab HB1 HFD
  go_wp2_with (fail)
  refine (reconcile_gen 48 48 48 a b _ _ _ _ _ _ _ HPA.out.ok HPB.out.ok HSZ.out.1 HSZ.out.2 (by omega) (by omega) (by omega)).mono ?_
  rintro e w4 ⟨he, hb4⟩
  obtain ⟨p1, s1, p2, s2, p3, s3, o1, q1, o2, q2, o3, q3, rfl, hx, hy⟩ := rv4_form he
  have HB4 := Lib.hid (bl_trans HB2.out hb4)
  have hrec := HST.out.recon (by omega)
  have hsx := SzP.recon (HSZ.out.1.up (by omega) (by omega) (by omega)) (HSZ.out.2.up (by omega) (by omega) (by omega))
  obtain ⟨x, y, n, er, hr⟩ : ∃ x y n er, reconC a b = (x, y, n, er) := ⟨_, _, _, _, rfl⟩
  rw [hr] at hx hy hrec hsx ⊢
  dsimp only at hx hy hrec hsx ⊢
  obtain ⟨rfl, rfl, hag⟩ := hrec
  have HAG := Lib.hid hag
  have HX := Lib.hid (OB1.mk0 (q := y) (v1 := .slice o1 y.wt.length q1) (v2 := .slice o2 y.ours.length q2) (v3 := .slice o3 y.thr.length q3) hx)
  have HY := Lib.hid (OB1.mk1 (p := x) (u1 := .slice p1 x.wt.length s1) (u2 := .slice p2 x.ours.length s2) (u3 := .slice p3 x.thr.length s3) hy)
  have HS := Lib.hid (show Small44 x.ours ∧ Small44 y.thr ∧ Small44 y.ours ∧ Small44 x.thr from ⟨hsx.1.so (by omega), hsx.2.st (by omega), hsx.2.so (by omega), hsx.1.st (by omega)⟩)
  have HB5 := Lib.hid (bl_trans HB4.out (bl_alloc (bl_alloc (Below.refl w4.heap.size w4) (.cells #[.string x.nm, .int .i64 x.out, .int .i64 x.inn, .slice p1 x.wt.length s1, .slice p2 x.ours.length s2, .slice p3 x.thr.length s3] 28)) (.cells #[.string y.nm, .int .i64 y.out, .int .i64 y.inn, .slice o1 y.wt.length q1, .slice o2 y.ours.length q2, .slice o3 y.thr.length q3] 28)))
  clear he hb4 hx hy hr hag hsx HB2 HB4 HPA HPB HST HSZ
  go_wp2_with (fail)
  refine (agree_any x y _ _ _ _ _ _ _ HX.out.ok HY.out.ok HS.out.1 HS.out.2.1 HS.out.2.2.1 HS.out.2.2.2).mono ?_
  rintro e w5 ⟨rfl, hb5⟩
  rw [HAG.out]
  have HB6 := Lib.hid (bl_trans HB5.out hb5)
  clear hb5 HX HY HS HAG HB5
  go_wp2_with (fail)
  refine (awake44_any _).mono ?_
  rintro e wz ⟨rfl, hbz⟩
  have HZ := Lib.hid (bl_trans HB6.out hbz)
  clear hbz
  go_wp2_with (fail)
  go_ret
  exact ⟨rfl, HZ.out⟩
set_option maxRecDepth 100000 in
theorem agrees_lift (os : Os) (started : os.Started) (H : Type) (enc : TypeId × Value → H) :
    ReturnsInHanded {} Try.checked os 3 .any (Rows.reconAgreesSpec.pre6 enc Try.prog Try.f3 Rows.reconAgreesRow.domain false) (Rows.reconAgreesSpec.post enc Try.prog Try.f3 false true false false) :=
  law_lift (C := Try.checked) (s := Rows.reconAgreesSpec) (fn := Try.f3) ⟨rfl, fun H ds h => by
    match ds, h with
    | [a], _ => exact ⟨rfl, rfl, rfl⟩⟩ rfl Try.underlying4 (by kernel_rfl) laid0 own0 started (by kernel_rfl) Try.func3
    (ChangeSpec.witness6 (enc := enc) (C := Try.checked) false ⟨#[], #[.slice none 0 0], []⟩ 8 (by kernel_rfl) (by kernel_rfl) (by kernel_rfl) (by kernel_rfl)) agrees_walk

/-- THE STATEMENT: ReconAgrees. -/
theorem agrees_holds : Rows.ReconAgreesSaid :=
  OpenClaim.holds_of_wide 3 Try.f3 rfl rfl rfl rfl rfl rfl rfl ⟨rfl, rfl, rfl, rfl, rfl⟩ rfl rfl rfl rfl rfl (by kernel_rfl) Try.func3 (by kernel_rfl)
    (of_decide_eq_true (by kernel_rfl)) (by unfold Func.isWrapper; rw [if_neg (of_decide_eq_false (by kernel_rfl))]; exact ⟨rfl, rfl⟩)
    (fun os started H enc _ => agrees_lift os started H enc)
end Go.Proofs.Ytmjbbpappigngaa
