/-
  Layer 44 (recon): the law ReconSettles.
-/
import Derived.Test.YtmjbbpappigngaaGreatRecoOp
import Derived.Test.YtmjbbpappigngaaGreatRecoTs
namespace Go.Proofs.YtmjbbpappigngaaGreat
open Go.RowKit Go.Tw Go.Tw.Exc Go.ChangeShapes Go.WideShapes
theorem opensFil4 : Opens Tryz.prog 45 tFil :=
  opens_via (fun x => ⟨x.1, x.2.1, x.2.2.1, x.2.2.2⟩) (fun _ => rfl) (opens_struct Tryz.underlying45 (by kernel_rfl) (.cons rfl (by kernel_rfl) (opens_str Tryz.underlying9) (.cons rfl (by kernel_rfl) (opens_str Tryz.underlying9) (.cons rfl (by kernel_rfl) (opens_int Tryz.underlying3) (.one rfl (by kernel_rfl) opensRecs4)))))
theorem opensFils4 {e : TypeId} : Opens Tryz.prog 26 (tFil.list e) := opens_slice Tryz.underlying26 (by kernel_rfl) (by decide) opensFil4
theorem opensPar4 : Opens Tryz.prog 29 tPar :=
  opens_via (fun x => ⟨x.1, x.2.1, x.2.2.1, x.2.2.2.1, x.2.2.2.2.1, x.2.2.2.2.2⟩) (fun _ => rfl) (opens_struct Tryz.underlying29 (by kernel_rfl) (.cons rfl (by kernel_rfl) (opens_str Tryz.underlying9) (.cons rfl (by kernel_rfl) (opens_int Tryz.underlying3) (.cons rfl (by kernel_rfl) (opens_int Tryz.underlying3) (.cons rfl (by kernel_rfl) opensFils4 (.cons rfl (by kernel_rfl) opensRecs4 (.one rfl (by kernel_rfl) opensRecs4)))))))
set_option maxRecDepth 100000 in
theorem arg_par4 {H : Type} {enc : TypeId × Value → H} {w : World} {r : Reach} {b0 : Nat} {v : Value} {d : DataW H} {ps : List MemPlace} (hval : Value.okWide Tryz.prog w r b0 29 v) (hd : DataW.Trod enc Tryz.prog w 0 (fun _ => true) true 29 v d ps) : ∃ p vw vo vt, v = .agg #[.string p.nm, .int .i64 p.out, .int .i64 p.inn, vw, vo, vt] ∧ ParOk (· < w.heap.size) w p vw vo vt := by
  obtain ⟨cs, p, rfl, hi⟩ := arg_struct Tryz.underlying29 opensPar4 hval hd
  obtain ⟨vw, vo, vt, hcs, hm⟩ := tPar_is hi
  exact ⟨p, vw, vo, vt, by congr 1; apply Array.ext'; simpa using hcs, hm⟩
set_option maxRecDepth 100000 in
set_option maxHeartbeats 4000000 in
theorem recordsS_any (l : List Rec) (v : Value) (w : World) (h : SlIs tRec (· < w.heap.size) w v l) :
    Calls Tryz.prog 14 #[v] w fun e w' => SmE (StrongL l) e ∧ Below w.heap.size w w' := by
  obtain ⟨ao, cp, bb, off, rfl, hl1, hl2, ho⟩ := rec_open h
  unfold maxLen at hl2
  have HL := Lib.hid ho
  clear h ho
  go_enter Tryz.func14, Tryz.ntmps14
  go_wp2_with (fail)
  go_loopg [3] l.length (fun g i wr => ∃ k : Nat, k + g = l.length ∧ i = .int .i64 k ∧ Hid (∀ j (_ : j < k) (h : j < l.length), -1099511627776 ≤ l[j].c ∧ l[j].c ≤ 1099511627776) ∧ Below w.heap.size w wr)
  case atStart => exact ⟨0, by omega, rfl, Lib.hid (fun j h => absurd h (Nat.not_lt_zero _)), Below.refl _ _⟩
  case round =>
    obtain ⟨k, hk, rfl, HI, hb⟩ := hrel
    have HB := Lib.hid hb
    clear hb
    by_cases hlt : k < l.length
    · obtain ⟨rfl, -, -, hok, d0, d1, d2, d3, d4⟩ := HL.out wr (.of_below HB.out) k hlt
      have HX := Lib.hid (show (-1099511627776 ≤ l[k].c ∧ l[k].c ≤ 1099511627776) → ∀ j (_ : j < k + 1) (h : j < l.length), -1099511627776 ≤ l[j].c ∧ l[j].c ≤ 1099511627776 from fun hx j h1 h2 => by
        by_cases e : j = k
        · subst e; exact hx
        · exact HI.out j (by omega) h2)
      obtain ⟨x, hx⟩ : ∃ x, l[k] = x := ⟨_, rfl⟩
      rw [hx] at d0 d1 d2 d3 d4 HX
      have k0 : (0 : Int) ≤ (k : Int) := by omega
      have k1 : (k : Int) < (l.length : Int) := by omega
      clear hx hok
      by_cases h1 : 1099511627776 < x.c
      · go_wp2_with (fail)
        go_ret
        exact ⟨⟨false, rfl, fun h => by cases h⟩, HB.out⟩
      by_cases h2 : x.c < -1099511627776
      · go_wp2_with (fail)
        go_ret
        exact ⟨⟨false, rfl, fun h => by cases h⟩, HB.out⟩
      have HN := Lib.hid (HX.out ⟨by omega, by omega⟩)
      by_cases h3 : 20 < x.key.size
      · have h3' : (20 : Int) < (x.key.size : Int) := by omega
        go_wp2_with (fail)
        go_ret
        exact ⟨⟨false, rfl, fun h => by cases h⟩, HB.out⟩
      have h3' : ¬ (20 : Int) < (x.key.size : Int) := by omega
      go_wp2_with (fail)
      go_roundg (l.length - (k + 1))
      case measure => omega
      case rel => exact ⟨k + 1, by omega, by go_num, HN, HB.out⟩
    · obtain rfl : k = l.length := by omega
      have hkd : decide ((l.length : Int) < (l.length : Int)) = false := by simp
      have HC := Lib.hid (show ∀ r ∈ l, -1099511627776 ≤ r.c ∧ r.c ≤ 1099511627776 from fun r hr => by
        obtain ⟨j, hj, rfl⟩ := List.getElem_of_mem hr
        exact HI.out j hj hj)
      clear hlt hk
      by_cases h4 : l.length ≤ 40
      · have h4' : (l.length : Int) ≤ 40 := by omega
        go_wp2_with (fail)
        go_ret
        exact ⟨⟨true, by first | rfl | (exact ret_bool (by simp; omega)), fun _ => ⟨by omega, HC.out⟩⟩, HB.out⟩
      · have h4' : ¬ (l.length : Int) ≤ 40 := by omega
        go_wp2_with (fail)
        go_ret
        exact ⟨⟨false, by first | rfl | (exact ret_bool (by simp; omega)), fun h => by cases h⟩, HB.out⟩
set_option maxRecDepth 100000 in
set_option maxHeartbeats 4000000 in
theorem smallS_any (p : Par) (vw vo vt : Value) (w : World) (h : ParOk (· < w.heap.size) w p vw vo vt) :
    Calls Tryz.prog 18 #[.agg #[.string p.nm, .int .i64 p.out, .int .i64 p.inn, vw, vo, vt]] w fun e w' => SmE (StrongL p.ours ∧ StrongL p.thr) e ∧ Below w.heap.size w w' := by
  have HP := Lib.hid h
  obtain ⟨x1, y1, _, _, rfl, -⟩ := id h.wt
  obtain ⟨x2, y2, _, _, rfl, -⟩ := id h.ours
  obtain ⟨x3, y3, _, _, rfl, -⟩ := id h.thr
  clear h
  go_enter Tryz.func18, Tryz.ntmps18
  go_wp2_with (fail)
  refine (recordsS_any p.ours _ _ (HP.out.ours.step (bl_alloc (Below.refl _ _) _))).mono ?_
  rintro e w2 ⟨⟨b1, rfl, hq1⟩, hb2⟩
  have m0 := Go.Tw.Below.at_old hb2 (alloc1_0 w _)
  have HB2 := Lib.hid (bl_trans (bl_alloc (Below.refl w.heap.size w) _) hb2)
  have HX := Lib.hid m0
  clear hb2 m0
  obtain ⟨c0, c1, c2, c3, c4, c5, cf⟩ := blk6' HX.out
  cases b1
  case false =>
    go_wp2_with (fail)
    go_ret
    exact ⟨⟨false, rfl, fun h => by cases h⟩, HB2.out⟩
  have HQ1 := Lib.hid (hq1 rfl)
  clear hq1
  go_wp2_with (fail)
  refine (recordsS_any p.thr _ _ (HP.out.thr.step HB2.out)).mono ?_
  rintro e w3 ⟨⟨b2, rfl, hq2⟩, hb3⟩
  have HB3 := Lib.hid (bl_trans HB2.out hb3)
  have HX3 := Lib.hid (Go.Tw.Below.at_old hb3 HX.out)
  clear hb3 HX c0 c1 c2 c3 c4 c5 cf
  obtain ⟨c0, c1, c2, c3, c4, c5, cf⟩ := blk6' HX3.out
  cases b2
  case false =>
    go_wp2_with (fail)
    go_ret
    exact ⟨⟨false, rfl, fun h => by cases h⟩, HB3.out⟩
  have HQ2 := Lib.hid (hq2 rfl)
  clear hq2
  go_wp2_with (fail)
  go_ret
  exact ⟨⟨_, rfl, fun _ => ⟨HQ1.out, HQ2.out⟩⟩, HB3.out⟩
theorem strong_sm {l : List Rec} (h : StrongL l) : Small44 l := ⟨Nat.le_trans h.1 (by omega), fun r hr => by have := h.2 r hr; omega⟩
set_option maxRecDepth 100000 in
set_option maxHeartbeats 8000000 in
theorem settles_walk : LawWalk Tryz.prog 5 Tryz.f5 := by
  intro H enc W base args ds ps hval hA hsz
  rw [Tryz.params5] at hA hval
  obtain ⟨v0, v1, v2, d0, d1, d2, p0, p1, p2, rfl, rfl, rfl, h0, h1, h2⟩ := trodAll_three hA
  obtain ⟨pa, vw, vo, vt, rfl, ha⟩ := arg_par4 (hval 0 _ _ rfl rfl) h0
  obtain ⟨pb, ww, wo, wt, rfl, hb⟩ := arg_par4 (hval 1 _ _ rfl rfl) h1
  obtain ⟨L, hl⟩ := arg_slice Tryz.underlying22 (opensDeeds (e := 58)) (hval 2 _ _ rfl rfl) h2
  clear hA hval h0 h1 h2 hsz
  have HA := Lib.hid ha
  have HB := Lib.hid hb
  have HL := Lib.hid hl
  obtain ⟨al, cl, _, _, rfl, hl1, hl2, -⟩ := id hl
  unfold maxLen at hl2
  obtain ⟨x1, y1, _, _, rfl, -⟩ := id ha.wt
  obtain ⟨x2, y2, _, _, rfl, -⟩ := id ha.ours
  obtain ⟨x3, y3, _, _, rfl, -⟩ := id ha.thr
  obtain ⟨z1, e1, _, _, rfl, -⟩ := id hb.wt
  obtain ⟨z2, e2, _, _, rfl, -⟩ := id hb.ours
  obtain ⟨z3, e3, _, _, rfl, -⟩ := id hb.thr
  clear ha hb hl
  obtain ⟨W1, hW1⟩ : ∃ W1, (W.alloc (.cells #[.string pa.nm, .int .i64 pa.out, .int .i64 pa.inn, .slice x1 pa.wt.length y1, .slice x2 pa.ours.length y2, .slice x3 pa.thr.length y3] 29)).alloc (.cells #[.string pb.nm, .int .i64 pb.out, .int .i64 pb.inn, .slice z1 pb.wt.length e1, .slice z2 pb.ours.length e2, .slice z3 pb.thr.length e3] 29) = W1 := ⟨_, rfl⟩
  have hbW : Below W.heap.size W W1 := by rw [← hW1]; exact bl_alloc (bl_alloc (Below.refl _ _) _) _
  have HOA := Lib.hid (show OB1 pa (.slice x1 pa.wt.length y1) (.slice x2 pa.ours.length y2) (.slice x3 pa.thr.length y3) W.heap.size W1 from ⟨by rw [← hW1]; exact alloc2_0 W _ _, HA.out.step hbW⟩)
  have HOB := Lib.hid (show OB1 pb (.slice z1 pb.wt.length e1) (.slice z2 pb.ours.length e2) (.slice z3 pb.thr.length e3) (W.heap.size + 1) W1 from ⟨by rw [← hW1]; exact alloc2_1 W _ _, HB.out.step hbW⟩)
  have HBW := Lib.hid hbW
  clear hbW HA HB
  go_enter Tryz.func5, Tryz.ntmps5
  obtain ⟨i0, i1, i2, i3, i4, i5, if'⟩ := blk6' HOA.out.bx
  obtain ⟨j0, j1, j2, j3, j4, j5, jf⟩ := blk6' HOB.out.bx
  go_wp2_with (fail)
  (try rw [hW1])
  clear hW1 i0 i1 i2 i3 i4 i5 if' j0 j1 j2 j3 j4 j5 jf
  refine (smallS_any pa _ _ _ W1 HOA.out.ok).mono ?_
  rintro e w2 ⟨⟨b1, rfl, hq1⟩, hb2⟩
  have HOA2 := Lib.hid (HOA.out.step hb2)
  have HOB2 := Lib.hid (HOB.out.step hb2)
  have HB2 := Lib.hid (bl_trans HBW.out hb2)
  clear hb2 HOA HOB HBW
  cases b1
  case false =>
    clear hq1
    go_wp2_with (fail)
    refine (awake44_any _).mono ?_
    rintro e wz ⟨rfl, hbz⟩
    have HZ := Lib.hid (bl_trans HB2.out hbz)
    clear hbz
    go_wp2_with (fail)
    go_ret
    exact ⟨rfl, HZ.out⟩
  have HSA := Lib.hid (hq1 rfl)
  clear hq1
  obtain ⟨j0, j1, j2, j3, j4, j5, jf⟩ := blk6' HOB2.out.bx
  go_wp2_with (fail)
  refine (smallS_any pb _ _ _ w2 HOB2.out.ok).mono ?_
  rintro e w3 ⟨⟨b1, rfl, hq1⟩, hb3⟩
  have HOA3 := Lib.hid (HOA2.out.step hb3)
  have HB3 := Lib.hid (bl_trans HB2.out hb3)
  clear hb3 HOA2 HOB2 HB2 j0 j1 j2 j3 j4 j5 jf
  cases b1
  case false =>
    clear hq1
    go_wp2_with (fail)
    refine (awake44_any _).mono ?_
    rintro e wz ⟨rfl, hbz⟩
    have HZ := Lib.hid (bl_trans HB3.out hbz)
    clear hbz
    go_wp2_with (fail)
    go_ret
    exact ⟨rfl, HZ.out⟩
  clear hq1
  go_wp2_with (fail)
  refine (fit_any L _ w3 (HL.out.step HB3.out)).mono ?_
  rintro e w4 ⟨⟨b1, rfl, hq1⟩, hb4⟩
  have HOA4 := Lib.hid (HOA3.out.step hb4)
  have HB4 := Lib.hid (bl_trans HB3.out hb4)
  clear hb4 HOA3 HB3
  cases b1
  case false =>
    clear hq1
    go_wp2_with (fail)
    refine (awake44_any _).mono ?_
    rintro e wz ⟨rfl, hbz⟩
    have HZ := Lib.hid (bl_trans HB4.out hbz)
    clear hbz
    go_wp2_with (fail)
    go_ret
    exact ⟨rfl, HZ.out⟩
  have HFD := Lib.hid (hq1 rfl)
  clear hq1
  obtain ⟨i0, i1, i2, i3, i4, i5, if'⟩ := blk6' HOA4.out.bx
  have HC1 := Lib.hid (settle_any pa _ _ _ w4 HOA4.out.ok (strong_sm HSA.out.1) (strong_sm HSA.out.2))
  obtain ⟨n1, n2, hn⟩ : ∃ n1 n2, setC (claimC pa.ours) (claimC pa.thr) = (n1, n2) := ⟨_, _, rfl⟩
  rw [hn] at HC1
  have HN := Lib.hid hn
  clear hn
  go_wp2_with (fail)
  refine HC1.out.mono ?_
  rintro e w5 ⟨rfl, hb5⟩
  have HOA5 := Lib.hid (HOA4.out.step hb5)
  have HB5 := Lib.hid (bl_trans HB4.out hb5)
  clear hb5 HOA4 HB4 HC1 i0 i1 i2 i3 i4 i5 if'
  dsimp only
  obtain ⟨i0, i1, i2, i3, i4, i5, if'⟩ := blk6' HOA5.out.bx
  go_wp2_with (fail)
  refine (settleR_any pa _ _ _ w5 HOA5.out.ok HSA.out.1 HSA.out.2).mono ?_
  rw [HN.out]
  rintro e w6 ⟨rfl, hb6⟩
  have HB6 := Lib.hid (bl_trans HB5.out hb6)
  clear hb6 HOA5 HB5 HSA HN i0 i1 i2 i3 i4 i5 if'
  dsimp only
  go_wp2_with (fail)
  refine (fresh_any L _ w6 (HL.out.step HB6.out) HFD.out).mono ?_
  rintro e w7 ⟨he, hb7⟩
  obtain ⟨u1, c1, u2, c2, u3, c3, g1, h1, g2, h2, g3, h3, rfl, hqa, hqb⟩ := rv2_form he
  have hst := fresh_st (fun d hd => (HFD.out d hd).1)
  obtain ⟨a, b, hab⟩ : ∃ a b, freshC L = (a, b) := ⟨_, _, rfl⟩
  rw [hab] at hqa hqb hst ⊢
  dsimp only at hqa hqb hst ⊢
  have HSZ := Lib.hid (hst.sz (Nat.le_refl _))
  have HPA := Lib.hid (OB1.mk0 (q := b) (v1 := .slice g1 b.wt.length h1) (v2 := .slice g2 b.ours.length h2) (v3 := .slice g3 b.thr.length h3) hqa)
  have HPB := Lib.hid (OB1.mk1 (p := a) (u1 := .slice u1 a.wt.length c1) (u2 := .slice u2 a.ours.length c2) (u3 := .slice u3 a.thr.length c3) hqb)
  have HB8 := Lib.hid (bl_trans (bl_trans HB6.out hb7) (bl_alloc (bl_alloc (Below.refl w7.heap.size w7) (.cells #[.string a.nm, .int .i64 a.out, .int .i64 a.inn, .slice u1 a.wt.length c1, .slice u2 a.ours.length c2, .slice u3 a.thr.length c3] 29)) (.cells #[.string b.nm, .int .i64 b.out, .int .i64 b.inn, .slice g1 b.wt.length h1, .slice g2 b.ours.length h2, .slice g3 b.thr.length h3] 29)))
  clear he hb7 hqa hqb hst hab HB6 HFD HL
  go_wp2_with (fail)
  refine (reconcile_gen 48 48 48 a b _ _ _ _ _ _ _ HPA.out.ok HPB.out.ok HSZ.out.1 HSZ.out.2 (by omega) (by omega) (by omega)).mono ?_
  rintro e w9 ⟨he, hb9⟩
  obtain ⟨p1, s1, p2, s2, p3, s3, o1, q1, o2, q2, o3, q3, rfl, hx, hy⟩ := rv4_form he
  have HB9 := Lib.hid (bl_trans HB8.out hb9)
  have hsx := SzP.recon (HSZ.out.1.up (by omega) (by omega) (by omega)) (HSZ.out.2.up (by omega) (by omega) (by omega))
  have hra := @recon_amounts a b
  obtain ⟨x, y, n, er, hr⟩ : ∃ x y n er, reconC a b = (x, y, n, er) := ⟨_, _, _, _, rfl⟩
  rw [hr] at hx hy hsx hra ⊢
  dsimp only at hx hy hsx hra ⊢
  have HS := Lib.hid (show Small44 x.ours ∧ Small44 y.thr ∧ Small44 y.ours ∧ Small44 x.thr from ⟨hsx.1.so (by omega), hsx.2.st (by omega), hsx.2.so (by omega), hsx.1.st (by omega)⟩)
  have HRA := Lib.hid hra
  obtain ⟨wb, hwb⟩ : ∃ W', (w9.alloc (.cells #[.string x.nm, .int .i64 x.out, .int .i64 x.inn, .slice p1 x.wt.length s1, .slice p2 x.ours.length s2, .slice p3 x.thr.length s3] 29)).alloc (.cells #[.string y.nm, .int .i64 y.out, .int .i64 y.inn, .slice o1 y.wt.length q1, .slice o2 y.ours.length q2, .slice o3 y.thr.length q3] 29) = W' := ⟨_, rfl⟩
  have hba : Below w9.heap.size w9 wb := by rw [← hwb]; exact bl_alloc (bl_alloc (Below.refl _ _) _) _
  have HX := Lib.hid (show OB1 x (.slice p1 x.wt.length s1) (.slice p2 x.ours.length s2) (.slice p3 x.thr.length s3) w9.heap.size wb from by rw [← hwb]; exact OB1.mk0 hx)
  have HY := Lib.hid (show OB1 y (.slice o1 y.wt.length q1) (.slice o2 y.ours.length q2) (.slice o3 y.thr.length q3) (w9.heap.size + 1) wb from by rw [← hwb]; exact OB1.mk1 hy)
  have HBX := Lib.hid (bl_trans HB9.out hba)
  clear he hb9 hx hy hr hsx hra hba HB8 HB9 HPA HPB HSZ
  by_cases z1 : er ≠ 0
  · have z1' : (er != 0) = true := by simpa using z1
    clear z1
    go_wp2_with (fail)
    (try rw [hwb])
    refine (awake44_any _).mono ?_
    rintro e wz ⟨rfl, hbz⟩
    have HZ := Lib.hid (bl_trans HBX.out hbz)
    clear hbz hwb
    go_wp2_with (fail)
    go_ret
    exact ⟨rfl, HZ.out⟩
  obtain rfl : er = 0 := by omega
  have z1' : ((0 : Int) != 0) = false := by decide
  clear z1
  have hag := (HRA.out rfl).1
  obtain ⟨k1, k2⟩ := agree_claims hag
  have HE := Lib.hid (show (setC (claimC y.ours) (claimC y.thr)).2 = (setC (claimC x.ours) (claimC x.thr)).2 ∧ (setC (claimC x.ours) (claimC x.thr)).1 = -(setC (claimC y.ours) (claimC y.thr)).1 from by
    rw [k1, k2]
    obtain ⟨q1, q2⟩ := setC_turn (claimC y.thr) (claimC x.thr)
    exact ⟨q1.symm, q2⟩)
  have HC1 := Lib.hid (show ∀ W', Below wb.heap.size wb W' → Calls Tryz.prog 19 #[.agg #[.string x.nm, .int .i64 x.out, .int .i64 x.inn, .slice p1 x.wt.length s1, .slice p2 x.ours.length s2, .slice p3 x.thr.length s3]] W' fun e w' => e = .returned (.tuple #[.int .i64 (setC (claimC x.ours) (claimC x.thr)).1, .int .i64 (setC (claimC x.ours) (claimC x.thr)).2]) ∧ Below W'.heap.size W' w' from fun W' hW => settle_any x _ _ _ W' (HX.out.ok.step hW) HS.out.1 HS.out.2.2.2)
  have HC2 := Lib.hid (show ∀ W', Below wb.heap.size wb W' → Calls Tryz.prog 19 #[.agg #[.string y.nm, .int .i64 y.out, .int .i64 y.inn, .slice o1 y.wt.length q1, .slice o2 y.ours.length q2, .slice o3 y.thr.length q3]] W' fun e w' => e = .returned (.tuple #[.int .i64 (setC (claimC y.ours) (claimC y.thr)).1, .int .i64 (setC (claimC y.ours) (claimC y.thr)).2]) ∧ Below W'.heap.size W' w' from fun W' hW => settle_any y _ _ _ W' (HY.out.ok.step hW) HS.out.2.2.1 HS.out.2.1)
  have hrg := @setC_range (claimC y.ours) (claimC y.thr)
  obtain ⟨m1, m2, hm⟩ : ∃ m1 m2, setC (claimC y.ours) (claimC y.thr) = (m1, m2) := ⟨_, _, rfl⟩
  obtain ⟨l1, l2, hl⟩ : ∃ m1 m2, setC (claimC x.ours) (claimC x.thr) = (m1, m2) := ⟨_, _, rfl⟩
  rw [hm] at HC2 HE hrg
  rw [hl] at HC1 HE
  dsimp only at HC1 HC2 HE hrg
  obtain ⟨rfl, rfl⟩ : m2 = l2 ∧ l1 = -m1 := HE.out
  have hw1 : IntKind.i64.wrap (-m1) = -m1 := wrap_in (by omega) (by omega)
  clear hm hl HE k1 k2 hag HRA HS hrg
  obtain ⟨i0, i1, i2, i3, i4, i5, if'⟩ := blk6' HX.out.bx
  go_wp2_with (fail)
  (try rw [hwb])
  clear hwb
  refine (HC1.out _ (Below.refl _ _)).mono ?_
  rintro e wc ⟨rfl, hbc⟩
  have HYC := Lib.hid (HY.out.step hbc)
  have HBC := Lib.hid (bl_trans HBX.out hbc)
  have HWC := Lib.hid hbc
  clear hbc HX HY HBX HC1 i0 i1 i2 i3 i4 i5 if'
  obtain ⟨i0, i1, i2, i3, i4, i5, if'⟩ := blk6' HYC.out.bx
  go_wp2_with (fail)
  refine (HC2.out _ HWC.out).mono ?_
  rintro e wd ⟨rfl, hbd⟩
  have HBD := Lib.hid (bl_trans HBC.out hbd)
  clear hbd HYC HBC HWC HC2 i0 i1 i2 i3 i4 i5 if'
  go_wp2_with (fail)
  refine (awake44_any _).mono ?_
  rintro e wz ⟨rfl, hbz⟩
  have HZ := Lib.hid (bl_trans HBD.out hbz)
  clear hbz
  go_wp2_with (fail)
  go_ret
  exact ⟨rfl, HZ.out⟩
set_option maxRecDepth 100000 in
theorem settles_lift (os : Os) (started : os.Started) (H : Type) (enc : TypeId × Value → H) :
    ReturnsInHanded {} Tryz.checked os 5 .any (Rows.reconSettlesSpec.pre6 enc Tryz.prog Tryz.f5 Rows.reconSettlesRow.domain false) (Rows.reconSettlesSpec.post enc Tryz.prog Tryz.f5 false true false false) :=
  law_lift (C := Tryz.checked) (s := Rows.reconSettlesSpec) (fn := Tryz.f5) ⟨rfl, fun H ds h => by
    match ds, h with
    | [a, b, c], _ => exact ⟨rfl, rfl, rfl⟩⟩ rfl Tryz.underlying4 (by kernel_rfl) laid0 own0 started (by kernel_rfl) Tryz.func5
    (ChangeSpec.witness6 (enc := enc) (C := Tryz.checked) false ⟨#[], #[.agg #[.string ByteArray.empty, .int .i64 0, .int .i64 0, .slice none 0 0, .slice none 0 0, .slice none 0 0], .agg #[.string ByteArray.empty, .int .i64 0, .int .i64 0, .slice none 0 0, .slice none 0 0, .slice none 0 0], .slice none 0 0], []⟩ 8 (by kernel_rfl) (by kernel_rfl) (by kernel_rfl) (by kernel_rfl)) settles_walk

/-- THE STATEMENT: ReconSettles. -/
theorem settles_holds : Rows.ReconSettlesSaid :=
  OpenClaim.holds_of_wide 5 Tryz.f5 rfl rfl rfl rfl rfl rfl rfl ⟨rfl, rfl, rfl, rfl, rfl⟩ rfl rfl rfl rfl rfl (by kernel_rfl) Tryz.func5 (by kernel_rfl)
    (of_decide_eq_true (by kernel_rfl)) (by unfold Func.isWrapper; rw [if_neg (of_decide_eq_false (by kernel_rfl))]; exact ⟨rfl, rfl⟩)
    (fun os started H enc _ => settles_lift os started H enc)
end Go.Proofs.YtmjbbpappigngaaGreat
