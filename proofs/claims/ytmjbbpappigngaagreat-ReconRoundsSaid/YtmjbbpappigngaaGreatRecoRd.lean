/-
  Layer 44 (recon): the law ReconRounds.
-/
import Derived.Test.YtmjbbpappigngaaGreatRecoOp
import Derived.Test.YtmjbbpappigngaaGreatRecoZ
import Derived.Test.YtmjbbpappigngaaGreatExcSame
namespace Go.Proofs.YtmjbbpappigngaaGreat
open Go.RowKit Go.Tw Go.Tw.Exc Go.ChangeShapes Go.WideShapes
set_option maxRecDepth 100000 in
set_option maxHeartbeats 8000000 in
theorem rounds_walk : LawWalk Tryz.prog 3 Tryz.f3 := by
  intro H enc W base args ds ps hval hA hsz
  rw [Tryz.params3] at hA hval
  obtain ⟨v0, v1, d0, d1, p0, p1, rfl, rfl, rfl, h0, h1⟩ := trodAll_two hA
  obtain ⟨L, hl⟩ := arg_slice Tryz.underlying22 (opensDeeds (e := 58)) (hval 0 _ _ rfl rfl) h0
  obtain ⟨bs, hbs⟩ := arg_slice Tryz.underlying23 (opensBools4 (e := 4)) (hval 1 _ _ rfl rfl) h1
  clear hA hval h0 h1 hsz
  obtain ⟨al, cl, _, _, rfl, hl1, hl2, -⟩ := id hl
  obtain ⟨bl, kl, _, _, rfl, hm1, hm2, -⟩ := id hbs
  unfold maxLen at hl2 hm2
  have HL := Lib.hid hl
  have HBS := Lib.hid hbs
  clear hl hbs
  go_enter Tryz.func3, Tryz.ntmps3
  go_wp2_with (fail)
  refine (fit_any L _ W HL.out).mono ?_
  rintro e w1 ⟨⟨b1, rfl, hq1⟩, hb1⟩
  have HB1 := Lib.hid hb1
  clear hb1
  cases b1
  case false =>
    clear hq1
    go_wp2_with (fail)
    refine (awake44_any _).mono ?_
    rintro e wz ⟨rfl, hbz⟩
    have HZ := Lib.hid (bl_trans HB1.out hbz)
    clear hbz
    go_wp2_with (fail)
    go_ret
    exact ⟨rfl, HZ.out⟩
  have HFD := Lib.hid (hq1 rfl)
  clear hq1
  by_cases h40 : 40 < bs.length
  · have h40' : (40 : Int) < (bs.length : Int) := by omega
    go_wp2_with (fail)
    refine (awake44_any _).mono ?_
    rintro e wz ⟨rfl, hbz⟩
    have HZ := Lib.hid (bl_trans HB1.out hbz)
    clear hbz
    go_wp2_with (fail)
    go_ret
    exact ⟨rfl, HZ.out⟩
  have h40' : ¬ (40 : Int) < (bs.length : Int) := by omega
  go_wp2_with (fail)
  refine (fresh_any L _ w1 (HL.out.step HB1.out) HFD.out).mono ?_
  rintro e w2 ⟨he, hb2⟩
  obtain ⟨u1, c1, u2, c2, u3, c3, g1, h1, g2, h2, g3, h3, rfl, hqa, hqb⟩ := rv2_form he
  have hst := fresh_st (fun d hd => (HFD.out d hd).1)
  obtain ⟨a, b, hab⟩ : ∃ a b, freshC L = (a, b) := ⟨_, _, rfl⟩
  rw [hab] at hqa hqb hst ⊢
  dsimp only at hqa hqb hst ⊢
  have HSZ := Lib.hid (hst.sz (Nat.le_refl _))
  have HPA := Lib.hid (OB1.mk0 (q := b) (v1 := .slice g1 b.wt.length h1) (v2 := .slice g2 b.ours.length h2) (v3 := .slice g3 b.thr.length h3) hqa)
  have HPB := Lib.hid (OB1.mk1 (p := a) (u1 := .slice u1 a.wt.length c1) (u2 := .slice u2 a.ours.length c2) (u3 := .slice u3 a.thr.length c3) hqb)
  have hba := bl_alloc (bl_alloc (Below.refl w2.heap.size w2) (.cells #[.string a.nm, .int .i64 a.out, .int .i64 a.inn, .slice u1 a.wt.length c1, .slice u2 a.ours.length c2, .slice u3 a.thr.length c3] 29)) (.cells #[.string b.nm, .int .i64 b.out, .int .i64 b.inn, .slice g1 b.wt.length h1, .slice g2 b.ours.length h2, .slice g3 b.thr.length h3] 29)
  obtain ⟨wa, hwa⟩ : ∃ W', (w2.alloc (.cells #[.string a.nm, .int .i64 a.out, .int .i64 a.inn, .slice u1 a.wt.length c1, .slice u2 a.ours.length c2, .slice u3 a.thr.length c3] 29)).alloc (.cells #[.string b.nm, .int .i64 b.out, .int .i64 b.inn, .slice g1 b.wt.length h1, .slice g2 b.ours.length h2, .slice g3 b.thr.length h3] 29) = W' := ⟨_, rfl⟩
  rw [hwa] at HPA HPB hba
  obtain ⟨ka, hka⟩ : ∃ k, w2.heap.size = k := ⟨_, rfl⟩
  rw [hka] at HPA HPB
  have HB2 := Lib.hid (bl_trans (bl_trans HB1.out hb2) hba)
  clear he hb2 hqa hqb hst hab HB1 HFD hba h40
  obtain ⟨i0, i1, i2, i3, i4, i5, if'⟩ := blk6' HPA.out.bx
  obtain ⟨j0, j1, j2, j3, j4, j5, jf⟩ := blk6' HPB.out.bx
  go_wp2_with (fail)
  (try rw [hwa])
  (try rw [hka])
  clear hwa hka i0 i1 i2 i3 i4 i5 if' j0 j1 j2 j3 j4 j5 jf
  refine (round_gen (· < wa.heap.size) 48 48 48 a b bs _ _ _ _ _ _ _ wa HPA.out.ok HPB.out.ok (fun k hk => hk) (HBS.out.step HB2.out) HSZ.out.1 HSZ.out.2 (by omega) (by omega)).mono ?_
  rintro e w3 ⟨he, hb3⟩
  obtain ⟨p1, s1, p2, s2, p3, s3, o1, q1, o2, q2, o3, q3, rfl, hx, hy⟩ := rv_form he
  obtain ⟨x, y, er, hr⟩ : ∃ x y er, roundC a b bs = (x, y, er) := ⟨_, _, _, rfl⟩
  rw [hr] at hx hy ⊢
  dsimp only at hx hy ⊢
  have HR := Lib.hid hr
  have hx' : ParOk (· < w3.heap.size) w3 x (.slice p1 x.wt.length s1) (.slice p2 x.ours.length s2) (.slice p3 x.thr.length s3) := hx.keep (SN.lt (fun k hk => Nat.lt_of_lt_of_le hk hb3.size)) (SameOn.refl _ _)
  have hy' : ParOk (· < w3.heap.size) w3 y (.slice o1 y.wt.length q1) (.slice o2 y.ours.length q2) (.slice o3 y.thr.length q3) := hy.keep (SN.lt (fun k hk => Nat.lt_of_lt_of_le hk hb3.size)) (SameOn.refl _ _)
  have HX := Lib.hid (OB1.mk0 (q := y) (v1 := .slice o1 y.wt.length q1) (v2 := .slice o2 y.ours.length q2) (v3 := .slice o3 y.thr.length q3) hx')
  have HY := Lib.hid (OB1.mk1 (p := x) (u1 := .slice p1 x.wt.length s1) (u2 := .slice p2 x.ours.length s2) (u3 := .slice p3 x.thr.length s3) hy')
  have hba := bl_alloc (bl_alloc (Below.refl w3.heap.size w3) (.cells #[.string x.nm, .int .i64 x.out, .int .i64 x.inn, .slice p1 x.wt.length s1, .slice p2 x.ours.length s2, .slice p3 x.thr.length s3] 29)) (.cells #[.string y.nm, .int .i64 y.out, .int .i64 y.inn, .slice o1 y.wt.length q1, .slice o2 y.ours.length q2, .slice o3 y.thr.length q3] 29)
  obtain ⟨wb, hwb⟩ : ∃ W', (w3.alloc (.cells #[.string x.nm, .int .i64 x.out, .int .i64 x.inn, .slice p1 x.wt.length s1, .slice p2 x.ours.length s2, .slice p3 x.thr.length s3] 29)).alloc (.cells #[.string y.nm, .int .i64 y.out, .int .i64 y.inn, .slice o1 y.wt.length q1, .slice o2 y.ours.length q2, .slice o3 y.thr.length q3] 29) = W' := ⟨_, rfl⟩
  rw [hwb] at HX HY hba
  obtain ⟨kb, hkb⟩ : ∃ k, w3.heap.size = k := ⟨_, rfl⟩
  rw [hkb] at HX HY
  have HA2 := Lib.hid (HPA.out.step (bl_trans hb3 hba))
  have HC2 := Lib.hid (HPB.out.step (bl_trans hb3 hba))
  have HB3 := Lib.hid (bl_trans HB2.out (bl_trans hb3 hba))
  clear he hb3 hx hy hx' hy' hr HPA HPB HB2 hba
  obtain ⟨i0, i1, i2, i3, i4, i5, if'⟩ := blk6' HA2.out.bx
  obtain ⟨j0, j1, j2, j3, j4, j5, jf⟩ := blk6' HC2.out.bx
  go_wp2_with (fail)
  (try rw [hwb])
  (try rw [hkb])
  clear hwb hkb i0 i1 i2 i3 i4 i5 if' j0 j1 j2 j3 j4 j5 jf
  refine (roundR_gen (· < wb.heap.size) 48 48 48 a b bs _ _ _ _ _ _ _ wb HA2.out.ok HC2.out.ok (fun k hk => hk) (HBS.out.step HB3.out) HSZ.out.1 HSZ.out.2 (by omega) (by omega)).mono ?_
  rintro e w4 ⟨he, hb4⟩
  obtain ⟨l1, m1, l2, m2, l3, m3, n1, t1, n2, t2, n3, t3, rfl, hx, hy⟩ := rv_form he
  rw [HR.out] at hx hy ⊢
  dsimp only at hx hy ⊢
  have hx' : ParOk (· < w4.heap.size) w4 x (.slice l1 x.wt.length m1) (.slice l2 x.ours.length m2) (.slice l3 x.thr.length m3) := hx.keep (SN.lt (fun k hk => Nat.lt_of_lt_of_le hk hb4.size)) (SameOn.refl _ _)
  have hy' : ParOk (· < w4.heap.size) w4 y (.slice n1 y.wt.length t1) (.slice n2 y.ours.length t2) (.slice n3 y.thr.length t3) := hy.keep (SN.lt (fun k hk => Nat.lt_of_lt_of_le hk hb4.size)) (SameOn.refl _ _)
  have HX2 := Lib.hid (OB1.mk0 (q := y) (v1 := .slice n1 y.wt.length t1) (v2 := .slice n2 y.ours.length t2) (v3 := .slice n3 y.thr.length t3) hx')
  have HY2 := Lib.hid (OB1.mk1 (p := x) (u1 := .slice l1 x.wt.length m1) (u2 := .slice l2 x.ours.length m2) (u3 := .slice l3 x.thr.length m3) hy')
  have hba := bl_alloc (bl_alloc (Below.refl w4.heap.size w4) (.cells #[.string x.nm, .int .i64 x.out, .int .i64 x.inn, .slice l1 x.wt.length m1, .slice l2 x.ours.length m2, .slice l3 x.thr.length m3] 29)) (.cells #[.string y.nm, .int .i64 y.out, .int .i64 y.inn, .slice n1 y.wt.length t1, .slice n2 y.ours.length t2, .slice n3 y.thr.length t3] 29)
  obtain ⟨wd, hwd⟩ : ∃ W', (w4.alloc (.cells #[.string x.nm, .int .i64 x.out, .int .i64 x.inn, .slice l1 x.wt.length m1, .slice l2 x.ours.length m2, .slice l3 x.thr.length m3] 29)).alloc (.cells #[.string y.nm, .int .i64 y.out, .int .i64 y.inn, .slice n1 y.wt.length t1, .slice n2 y.ours.length t2, .slice n3 y.thr.length t3] 29) = W' := ⟨_, rfl⟩
  rw [hwd] at HX2 HY2 hba
  obtain ⟨kd, hkd⟩ : ∃ k, w4.heap.size = k := ⟨_, rfl⟩
  rw [hkd] at HX2 HY2
  have HA2' := Lib.hid (HA2.out.step (bl_trans hb4 hba))
  have HC2' := Lib.hid (HC2.out.step (bl_trans hb4 hba))
  have HX' := Lib.hid (HX.out.step (bl_trans hb4 hba))
  have HY' := Lib.hid (HY.out.step (bl_trans hb4 hba))
  have HBn := Lib.hid (bl_trans HB3.out (bl_trans hb4 hba))
  clear HA2 HC2 HX HY HB3
  have HA2 := HA2'
  clear HA2'
  have HC2 := HC2'
  clear HC2'
  have HX := HX'
  clear HX'
  have HY := HY'
  clear HY'
  have HB3 := HBn
  clear HBn
  clear he hb4 hx hy hx' hy' hba HR
  obtain ⟨i0, i1, i2, i3, i4, i5, if'⟩ := blk6' HA2.out.bx
  obtain ⟨j0, j1, j2, j3, j4, j5, jf⟩ := blk6' HC2.out.bx
  go_wp2_with (fail)
  (try rw [hwd])
  (try rw [hkd])
  clear hwd hkd i0 i1 i2 i3 i4 i5 if' j0 j1 j2 j3 j4 j5 jf
  refine (reconcile_gen 48 48 48 a b _ _ _ _ _ _ wd HA2.out.ok HC2.out.ok HSZ.out.1 HSZ.out.2 (by omega) (by omega) (by omega)).mono ?_
  rintro e w5 ⟨he, hb5⟩
  obtain ⟨aa1, ab1, aa2, ab2, aa3, ab3, ac1, ad1, ac2, ad2, ac3, ad3, rfl, hx, hy⟩ := rv4_form he
  obtain ⟨xx, yy, nn, e2, hr⟩ : ∃ x y n er, reconC a b = (x, y, n, er) := ⟨_, _, _, _, rfl⟩
  rw [hr] at hx hy ⊢
  dsimp only at hx hy ⊢
  have HR := Lib.hid hr
  have HU := Lib.hid (OB1.mk0 (q := yy) (v1 := .slice ac1 yy.wt.length ad1) (v2 := .slice ac2 yy.ours.length ad2) (v3 := .slice ac3 yy.thr.length ad3) hx)
  have HV := Lib.hid (OB1.mk1 (p := xx) (u1 := .slice aa1 xx.wt.length ab1) (u2 := .slice aa2 xx.ours.length ab2) (u3 := .slice aa3 xx.thr.length ab3) hy)
  have hba := bl_alloc (bl_alloc (Below.refl w5.heap.size w5) (.cells #[.string xx.nm, .int .i64 xx.out, .int .i64 xx.inn, .slice aa1 xx.wt.length ab1, .slice aa2 xx.ours.length ab2, .slice aa3 xx.thr.length ab3] 29)) (.cells #[.string yy.nm, .int .i64 yy.out, .int .i64 yy.inn, .slice ac1 yy.wt.length ad1, .slice ac2 yy.ours.length ad2, .slice ac3 yy.thr.length ad3] 29)
  obtain ⟨we, hwe⟩ : ∃ W', (w5.alloc (.cells #[.string xx.nm, .int .i64 xx.out, .int .i64 xx.inn, .slice aa1 xx.wt.length ab1, .slice aa2 xx.ours.length ab2, .slice aa3 xx.thr.length ab3] 29)).alloc (.cells #[.string yy.nm, .int .i64 yy.out, .int .i64 yy.inn, .slice ac1 yy.wt.length ad1, .slice ac2 yy.ours.length ad2, .slice ac3 yy.thr.length ad3] 29) = W' := ⟨_, rfl⟩
  rw [hwe] at HU HV hba
  obtain ⟨ke, hke⟩ : ∃ k, w5.heap.size = k := ⟨_, rfl⟩
  rw [hke] at HU HV
  have HA2' := Lib.hid (HA2.out.step (bl_trans hb5 hba))
  have HC2' := Lib.hid (HC2.out.step (bl_trans hb5 hba))
  have HX' := Lib.hid (HX.out.step (bl_trans hb5 hba))
  have HY' := Lib.hid (HY.out.step (bl_trans hb5 hba))
  have HX2' := Lib.hid (HX2.out.step (bl_trans hb5 hba))
  have HY2' := Lib.hid (HY2.out.step (bl_trans hb5 hba))
  have HBn := Lib.hid (bl_trans HB3.out (bl_trans hb5 hba))
  clear HA2 HC2 HX HY HX2 HY2 HB3
  have HA2 := HA2'
  clear HA2'
  have HC2 := HC2'
  clear HC2'
  have HX := HX'
  clear HX'
  have HY := HY'
  clear HY'
  have HX2 := HX2'
  clear HX2'
  have HY2 := HY2'
  clear HY2'
  have HB3 := HBn
  clear HBn
  clear he hb5 hx hy hba hr
  obtain ⟨i0, i1, i2, i3, i4, i5, if'⟩ := blk6' HA2.out.bx
  obtain ⟨j0, j1, j2, j3, j4, j5, jf⟩ := blk6' HC2.out.bx
  go_wp2_with (fail)
  (try rw [hwe])
  (try rw [hke])
  clear hwe hke i0 i1 i2 i3 i4 i5 if' j0 j1 j2 j3 j4 j5 jf
  refine (reconcileR_gen 48 48 48 a b _ _ _ _ _ _ we HA2.out.ok HC2.out.ok HSZ.out.1 HSZ.out.2 (by omega) (by omega) (by omega)).mono ?_
  rintro e w6 ⟨he, hb6⟩
  obtain ⟨ae1, af1, ae2, af2, ae3, af3, ag1, ah1, ag2, ah2, ag3, ah3, rfl, hx, hy⟩ := rv4_form he
  rw [HR.out] at hx hy ⊢
  dsimp only at hx hy ⊢
  have HU2 := Lib.hid (OB1.mk0 (q := yy) (v1 := .slice ag1 yy.wt.length ah1) (v2 := .slice ag2 yy.ours.length ah2) (v3 := .slice ag3 yy.thr.length ah3) hx)
  have HV2 := Lib.hid (OB1.mk1 (p := xx) (u1 := .slice ae1 xx.wt.length af1) (u2 := .slice ae2 xx.ours.length af2) (u3 := .slice ae3 xx.thr.length af3) hy)
  have hba := bl_alloc (bl_alloc (Below.refl w6.heap.size w6) (.cells #[.string xx.nm, .int .i64 xx.out, .int .i64 xx.inn, .slice ae1 xx.wt.length af1, .slice ae2 xx.ours.length af2, .slice ae3 xx.thr.length af3] 29)) (.cells #[.string yy.nm, .int .i64 yy.out, .int .i64 yy.inn, .slice ag1 yy.wt.length ah1, .slice ag2 yy.ours.length ah2, .slice ag3 yy.thr.length ah3] 29)
  obtain ⟨wf, hwf⟩ : ∃ W', (w6.alloc (.cells #[.string xx.nm, .int .i64 xx.out, .int .i64 xx.inn, .slice ae1 xx.wt.length af1, .slice ae2 xx.ours.length af2, .slice ae3 xx.thr.length af3] 29)).alloc (.cells #[.string yy.nm, .int .i64 yy.out, .int .i64 yy.inn, .slice ag1 yy.wt.length ah1, .slice ag2 yy.ours.length ah2, .slice ag3 yy.thr.length ah3] 29) = W' := ⟨_, rfl⟩
  rw [hwf] at HU2 HV2 hba
  obtain ⟨kf, hkf⟩ : ∃ k, w6.heap.size = k := ⟨_, rfl⟩
  rw [hkf] at HU2 HV2
  have HX' := Lib.hid (HX.out.step (bl_trans hb6 hba))
  have HY' := Lib.hid (HY.out.step (bl_trans hb6 hba))
  have HX2' := Lib.hid (HX2.out.step (bl_trans hb6 hba))
  have HY2' := Lib.hid (HY2.out.step (bl_trans hb6 hba))
  have HU' := Lib.hid (HU.out.step (bl_trans hb6 hba))
  have HV' := Lib.hid (HV.out.step (bl_trans hb6 hba))
  have HBn := Lib.hid (bl_trans HB3.out (bl_trans hb6 hba))
  clear HX HY HX2 HY2 HU HV HB3
  have HX := HX'
  clear HX'
  have HY := HY'
  clear HY'
  have HX2 := HX2'
  clear HX2'
  have HY2 := HY2'
  clear HY2'
  have HU := HU'
  clear HU'
  have HV := HV'
  clear HV'
  have HB3 := HBn
  clear HBn
  clear he hb6 hx hy hba HR HA2 HC2
  obtain ⟨i0, i1, i2, i3, i4, i5, if'⟩ := blk6' HX.out.bx
  obtain ⟨j0, j1, j2, j3, j4, j5, jf⟩ := blk6' HX2.out.bx
  go_wp2_with (fail)
  (try rw [hwf])
  (try rw [hkf])
  clear hwf hkf
  refine (same_any x _ _ _ _ _ _ _ HX.out.ok HX2.out.ok).mono ?_
  rintro e w7 ⟨rfl, hb⟩
  have HY' := Lib.hid (HY.out.step hb)
  have HY2' := Lib.hid (HY2.out.step hb)
  have HU' := Lib.hid (HU.out.step hb)
  have HU2' := Lib.hid (HU2.out.step hb)
  have HV' := Lib.hid (HV.out.step hb)
  have HV2' := Lib.hid (HV2.out.step hb)
  have HBn := Lib.hid (bl_trans HB3.out hb)
  clear HB3 hb i0 i1 i2 i3 i4 i5 if' j0 j1 j2 j3 j4 j5 jf HY HY2 HU HU2 HV HV2 HX HX2
  have HY := HY'
  clear HY'
  have HY2 := HY2'
  clear HY2'
  have HU := HU'
  clear HU'
  have HU2 := HU2'
  clear HU2'
  have HV := HV'
  clear HV'
  have HV2 := HV2'
  clear HV2'
  have HB3 := HBn
  clear HBn
  obtain ⟨i0, i1, i2, i3, i4, i5, if'⟩ := blk6' HY.out.bx
  obtain ⟨j0, j1, j2, j3, j4, j5, jf⟩ := blk6' HY2.out.bx
  go_wp2_with (fail)
  refine (same_any y _ _ _ _ _ _ _ HY.out.ok HY2.out.ok).mono ?_
  rintro e w8 ⟨rfl, hb⟩
  have HU' := Lib.hid (HU.out.step hb)
  have HU2' := Lib.hid (HU2.out.step hb)
  have HV' := Lib.hid (HV.out.step hb)
  have HV2' := Lib.hid (HV2.out.step hb)
  have HBn := Lib.hid (bl_trans HB3.out hb)
  clear HB3 hb i0 i1 i2 i3 i4 i5 if' j0 j1 j2 j3 j4 j5 jf HU HU2 HV HV2 HY HY2
  have HU := HU'
  clear HU'
  have HU2 := HU2'
  clear HU2'
  have HV := HV'
  clear HV'
  have HV2 := HV2'
  clear HV2'
  have HB3 := HBn
  clear HBn
  obtain ⟨i0, i1, i2, i3, i4, i5, if'⟩ := blk6' HU.out.bx
  obtain ⟨j0, j1, j2, j3, j4, j5, jf⟩ := blk6' HU2.out.bx
  go_wp2_with (fail)
  refine (same_any xx _ _ _ _ _ _ _ HU.out.ok HU2.out.ok).mono ?_
  rintro e w9 ⟨rfl, hb⟩
  have HV' := Lib.hid (HV.out.step hb)
  have HV2' := Lib.hid (HV2.out.step hb)
  have HBn := Lib.hid (bl_trans HB3.out hb)
  clear HB3 hb i0 i1 i2 i3 i4 i5 if' j0 j1 j2 j3 j4 j5 jf HV HV2 HU HU2
  have HV := HV'
  clear HV'
  have HV2 := HV2'
  clear HV2'
  have HB3 := HBn
  clear HBn
  obtain ⟨i0, i1, i2, i3, i4, i5, if'⟩ := blk6' HV.out.bx
  obtain ⟨j0, j1, j2, j3, j4, j5, jf⟩ := blk6' HV2.out.bx
  go_wp2_with (fail)
  refine (same_any yy _ _ _ _ _ _ _ HV.out.ok HV2.out.ok).mono ?_
  rintro e w10 ⟨rfl, hb⟩
  have HBn := Lib.hid (bl_trans HB3.out hb)
  clear HB3 hb i0 i1 i2 i3 i4 i5 if' j0 j1 j2 j3 j4 j5 jf HV HV2
  have HB3 := HBn
  clear HBn
  go_wp2_with (fail)
  refine (awake44_any _).mono ?_
  rintro e wz ⟨rfl, hbz⟩
  have HZ := Lib.hid (bl_trans HB3.out hbz)
  clear hbz
  go_wp2_with (fail)
  go_ret
  exact ⟨rfl, HZ.out⟩
set_option maxRecDepth 100000 in
theorem rounds_lift (os : Os) (started : os.Started) (H : Type) (enc : TypeId × Value → H) :
    ReturnsInHanded {} Tryz.checked os 3 .any (Rows.reconRoundsSpec.pre6 enc Tryz.prog Tryz.f3 Rows.reconRoundsRow.domain false) (Rows.reconRoundsSpec.post enc Tryz.prog Tryz.f3 false true false false) :=
  law_lift (C := Tryz.checked) (s := Rows.reconRoundsSpec) (fn := Tryz.f3) ⟨rfl, fun H ds h => by
    match ds, h with
    | [a, b], _ => exact ⟨rfl, rfl, rfl⟩⟩ rfl Tryz.underlying4 (by kernel_rfl) laid0 own0 started (by kernel_rfl) Tryz.func3
    (ChangeSpec.witness6 (enc := enc) (C := Tryz.checked) false ⟨#[], #[.slice none 0 0, .slice none 0 0], []⟩ 8 (by kernel_rfl) (by kernel_rfl) (by kernel_rfl) (by kernel_rfl)) rounds_walk

/-- THE STATEMENT: ReconRounds. -/
theorem rounds_holds : Rows.ReconRoundsSaid :=
  OpenClaim.holds_of_wide 3 Tryz.f3 rfl rfl rfl rfl rfl rfl rfl ⟨rfl, rfl, rfl, rfl, rfl⟩ rfl rfl rfl rfl rfl (by kernel_rfl) Tryz.func3 (by kernel_rfl)
    (of_decide_eq_true (by kernel_rfl)) (by unfold Func.isWrapper; rw [if_neg (of_decide_eq_false (by kernel_rfl))]; exact ⟨rfl, rfl⟩)
    (fun os started H enc _ => rounds_lift os started H enc)
end Go.Proofs.YtmjbbpappigngaaGreat
