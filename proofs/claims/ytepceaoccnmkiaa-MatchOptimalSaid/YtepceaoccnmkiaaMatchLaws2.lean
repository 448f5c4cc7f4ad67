/-
  Layer 6 (match): the law MatchOptimal.
-/
import Derived.Test.YtepceaoccnmkiaaMatchLaws
namespace Go.Tw.Match
open Go.RowKit
theorem tie_bef {m : Mat} (h : Ok m) {a : List Int} (ha : a ∈ alls m) : befC a (bestL m) = false ∨ mn (costs m (opn m.row.length) m.row.length 0 0) < cst m 0 0 a := by
  obtain ⟨-, -, h3⟩ := best_spec h
  obtain ⟨h4, h5⟩ := h3 a ha
  by_cases e : cst m 0 0 a = mn (costs m (opn m.row.length) m.row.length 0 0)
  · rcases h5 e with q | q
    · rw [q]; exact .inl (befC_self _)
    · exact .inl (befC_asymm q)
  · right; omega
theorem leC_bef {f : List Int × Int} {a : List Int} {c : Int} (h : leC f (a, c)) : f.2 ≤ c ∧ (befC a f.1 = false ∨ f.2 < c) := by
  rcases h with h | ⟨h, h2⟩
  · exact ⟨by show f.2 ≤ c; have : f.2 < c := h; omega, .inr h⟩
  · refine ⟨by show f.2 ≤ c; have : f.2 = c := h; omega, .inl ?_⟩
    rcases h2 with h2 | h2
    · have : f.1 = a := h2
      rw [this]; exact befC_self _
    · exact befC_asymm h2
end Go.Tw.Match
namespace Go.Proofs.Ytepceaoccnmkiaa
open Go.RowKit Go.Tw Go.Tw.Match Go.ChangeShapes Go.WideShapes
set_option maxRecDepth 100000 in
set_option maxHeartbeats 8000000 in
theorem optimal_walk : LawWalk Try.prog 7 Try.f7 := by
  intro H enc W base args ds ps hval hA hsz
  rw [Try.params7] at hA hval
  obtain ⟨v0, v1, d0, d1, p0, p1, rfl, rfl, rfl, h0, h1⟩ := trodAll_two hA
  obtain ⟨vc, vr, vl, m, rfl, hm⟩ := arg_mat (hval 0 _ _ rfl rfl) h0
  obtain ⟨a, ha⟩ := arg_slice Try.underlying23 (opensInts (e := 0)) (hval 1 _ _ rfl rfl) h1
  clear hA hval h0 h1 hsz
  have HM := Lib.hid hm
  obtain ⟨ac, cc, bc, oc, ar, cr, br, or, al, cl, bl, ol, rfl, rfl, rfl, -⟩ := hm.at
  have HB := Lib.hid (BoxW.start W (.slice ac m.cost.length cc) (.slice ar m.row.length cr) (.slice al m.col.length cl))
  clear hm
  have HA := Lib.hid ha
  obtain ⟨aa, ca, ba, oa, rfl, ca1, ca2, -⟩ := Go.Tw.Match.ints_at ha
  clear ha
  go_enter Try.func7, Try.ntmps7
  go_wp2_with (fail)
  refine (great_any m _ _ _ _ (HM.out.step HB.out.2)).mono ?_
  rintro e w1 ⟨⟨bg, rfl⟩, hb⟩
  have HB' := Lib.hid (HB.out.below hb)
  clear hb HB
  have HB := HB'
  clear HB'
  obtain ⟨x0, x1, x2, -⟩ := blk3 HB.out.1
  cases bg
  case true =>
    go_wp2_with (fail)
    refine (awake_any _).mono ?_
    rintro e wz ⟨rfl, hb⟩
    have HZ := Lib.hid (bl_trans HB.out.2 hb)
    clear hb
    go_wp2_with (fail)
    go_ret
    exact ⟨rfl, HZ.out⟩
  by_cases h20 : (20 : Int) < (a.length : Int)
  · go_wp2_with (fail)
    refine (awake_any _).mono ?_
    rintro e wz ⟨rfl, hb⟩
    have HZ := Lib.hid (bl_trans HB.out.2 hb)
    clear hb
    go_wp2_with (fail)
    go_ret
    exact ⟨rfl, HZ.out⟩
  go_wp2_with (fail)
  refine (check_any m _ _ _ _ (HM.out.step HB.out.2)).mono ?_
  rintro e w2 ⟨rfl, hb⟩
  have HB' := Lib.hid (HB.out.below hb)
  clear hb HB
  have HB := HB'
  clear HB'
  clear x0 x1 x2
  obtain ⟨x0, x1, x2, -⟩ := blk3 HB.out.1
  by_cases hc : chk m = 0
  case neg =>
    have hcn : (chk m != 0) = true := by rw [bne_iff_ne]; exact hc
    clear hc
    go_wp2_with (fail)
    refine (awake_any _).mono ?_
    rintro e wz ⟨rfl, hb⟩
    have HZ := Lib.hid (bl_trans HB.out.2 hb)
    clear hb
    go_wp2_with (fail)
    go_ret
    exact ⟨rfl, HZ.out⟩
  have hcn : (chk m != 0) = false := by rw [bne_eq_false_iff_eq]; exact hc
  have hok := chk_ok.1 hc
  have HBC := Lib.hid (show bestC m = (bestL m, mn (costs m (opn m.row.length) m.row.length 0 0), 0) by unfold bestC; rw [if_neg (by simp [hc])])
  have HSC := Lib.hid (show secC m = match secO m with | none => ([], 0, false) | some f => (f.1, f.2, true) by unfold secC; rw [if_neg (by simp [hc])]; cases secO m <;> rfl)
  clear hc
  go_wp2_with (fail)
  refine (best_any m _ _ _ _ (HM.out.step HB.out.2)).mono ?_
  rintro e w3 ⟨⟨v3, rfl, ho3⟩, hb⟩
  rw [HBC.out] at ho3 ⊢
  have HO3 := Lib.hid ho3
  have HB' := Lib.hid (HB.out.below hb)
  clear hb HB
  have HB := HB'
  clear HB'
  obtain ⟨bs1, bs2, bs3⟩ := best_spec hok
  obtain ⟨least, hle⟩ : ∃ x, mn (costs m (opn m.row.length) m.row.length 0 0) = x := ⟨_, rfl⟩
  have HTB := Lib.hid (show totC m (bestL m) = (least, 0) by rw [tot_valid hok bs1, bs2, hle])
  have HLE := Lib.hid hle
  rw [hle]
  clear x0 x1 x2 ho3 bs1 bs2 bs3 hle
  obtain ⟨x0, x1, x2, -⟩ := blk3 HB.out.1
  go_wp2_with (fail)
  refine (total_any m (bestL m) _ _ _ v3 _ (HM.out.step HB.out.2) HO3.out.sl).mono ?_
  rintro e w4 ⟨rfl, hb⟩
  rw [HTB.out]
  have HO4 := Lib.hid (HO3.out.below hb)
  have HB' := Lib.hid (HB.out.below hb)
  clear hb HB
  have HB := HB'
  clear HB'
  clear x0 x1 x2 HO3
  obtain ⟨x0, x1, x2, -⟩ := blk3 HB.out.1
  go_wp2_with (fail)
  refine (second_any m _ _ _ _ (HM.out.step HB.out.2)).mono ?_
  rintro e w5 ⟨⟨v5, rfl, ho5⟩, hb⟩
  have HO5 := Lib.hid (HO4.out.below hb)
  have HB' := Lib.hid (HB.out.below hb)
  clear hb HB
  have HB := HB'
  clear HB'
  clear x0 x1 x2 HO4
  obtain ⟨x0, x1, x2, -⟩ := blk3 HB.out.1
  obtain ⟨s, hs⟩ : ∃ s, secO m = s := ⟨_, rfl⟩
  rw [hs] at HSC
  have HS := Lib.hid hs
  clear hs
  have HNA := Lib.hid (show ∀ x, x ∈ alls m → ∀ y ∈ x, -1 ≤ y from fun x hx => alls_ge hx)
  cases s with
  | none =>
    have HSC' := Lib.hid (show secC m = ([], 0, false) from HSC.out)
    rw [HSC'.out] at ho5 ⊢
    clear ho5
    go_wp2_with (fail)
    refine (total_any m a _ _ _ _ _ (HM.out.step HB.out.2) (HA.out.step HB.out.2)).mono ?_
    rintro e wt ⟨rfl, hb⟩
    have HOt := Lib.hid (HO5.out.below hb)
    skip
    have HB' := Lib.hid (HB.out.below hb)
    clear hb HB
    have HB := HB'
    clear HB'
    clear x0 x1 x2
    by_cases hh : (totC m a).2 = 0
    case neg =>
      have hhn : ((totC m a).2 != 0) = true := by rw [bne_iff_ne]; exact hh
      obtain ⟨c, hc⟩ : ∃ c, (totC m a).1 = c := ⟨_, rfl⟩
      obtain ⟨o, ho⟩ : ∃ o, (totC m a).2 = o := ⟨_, rfl⟩
      rw [ho] at hhn
      rw [hc, ho]
      clear hc ho hh
      go_wp2_with (fail)
      refine (awake_any _).mono ?_
      rintro e wz ⟨rfl, hb⟩
      have HZ := Lib.hid (bl_trans HB.out.2 hb)
      clear hb
      go_wp2_with (fail)
      go_ret
      exact ⟨rfl, HZ.out⟩
    have haa := tot_alls hok hh
    have hta := tot_valid hok haa
    have HAA := Lib.hid haa
    rw [hta]
    clear hh hta haa
    obtain ⟨c, hcc⟩ : ∃ c, cst m 0 0 a = c := ⟨_, rfl⟩
    have HCC := Lib.hid hcc
    rw [hcc]
    clear hcc
    go_wp2_with (fail)
    refine (same_any a (bestL m) _ v3 _ (HA.out.step HB.out.2) HOt.out.sl).mono ?_
    rintro e ws ⟨rfl, ns, hws⟩
    have hb : Below wt.heap.size wt ws := by rw [hws]; exact bl_drewN (Below.refl _ _) _
    have HOs := Lib.hid (HOt.out.below hb)
    skip
    have HB' := Lib.hid (HB.out.below hb)
    clear hb HB
    have HB := HB'
    clear HB'
    clear hws
    by_cases hsame : a = bestL m
    · rw [show decide (a = bestL m) = true by simp [hsame]]
      clear hsame
      go_wp2_with (fail)
      refine (awake_any _).mono ?_
      rintro e wz ⟨rfl, hb⟩
      have HZ := Lib.hid (bl_trans HB.out.2 hb)
      clear hb
      go_wp2_with (fail)
      go_ret
      exact ⟨rfl, HZ.out⟩
    · exact absurd (sec_none hok HS.out a HAA.out) hsame
  | some f =>
    have HSC' := Lib.hid (show secC m = (f.1, f.2, true) from HSC.out)
    rw [HSC'.out] at ho5 ⊢
    obtain ⟨f1, f2, f3, f4⟩ := sec_some hok HS.out
    have HF1 := Lib.hid f1
    have HF4 := Lib.hid f4
    have HO5s := Lib.hid ho5
    have HTF := Lib.hid (show totC m f.1 = (f.2, 0) by rw [tot_valid hok f1, f3])
    have hfb : least ≤ f.2 ∧ (f.2 = least → befC (bestL m) f.1 = true) := by
      obtain ⟨-, -, b3⟩ := best_spec hok
      obtain ⟨g1, g2⟩ := b3 _ f1
      rw [HLE.out, f3] at g1 g2
      refine ⟨g1, fun e => ?_⟩
      rcases g2 e with q | q
      · exact absurd q f2
      · exact q
    obtain ⟨hfl, hfb⟩ := hfb
    have HFB := Lib.hid hfb
    have HNE := Lib.hid (show decide (bestL m = f.1) = false from decide_eq_false (fun e => f2 e.symm))
    clear f1 f2 f3 f4 ho5 hfb
    obtain ⟨more, hmore⟩ : ∃ x, f.2 = x := ⟨_, rfl⟩
    have HMO := Lib.hid hmore
    rw [hmore] at hfl ⊢
    rw [hmore] at HTF
    clear hmore
    go_wp2_with (fail)
    refine (total_any m f.1 _ _ _ v5 _ (HM.out.step HB.out.2) HO5s.out.sl).mono ?_
    rintro e w6 ⟨rfl, hb⟩
    rw [HTF.out]
    have HO6 := Lib.hid (HO5.out.below hb)
    have HO6s := Lib.hid (HO5s.out.below hb)
    have HB' := Lib.hid (HB.out.below hb)
    clear hb HB
    have HB := HB'
    clear HB'
    clear x0 x1 x2 HO5 HO5s
    go_wp2_with (fail)
    refine (same_any (bestL m) f.1 v3 v5 _ HO6.out.sl HO6s.out.sl).mono ?_
    rintro e w7 ⟨rfl, n7, hw7⟩
    rw [HNE.out]
    have hb : Below w6.heap.size w6 w7 := by rw [hw7]; exact bl_drewN (Below.refl _ _) _
    have HO5 := Lib.hid (HO6.out.below hb)
    have HO5s := Lib.hid (HO6s.out.below hb)
    have HB' := Lib.hid (HB.out.below hb)
    clear hb HB
    have HB := HB'
    clear HB'
    clear hw7 HO6 HO6s
    have hnl : decide (more < least) = false := by simp; omega
    by_cases hml : more = least
    · have hmq : (more == least) = true := by simpa using hml
      have HBF := Lib.hid (HFB.out (by rw [HMO.out]; exact hml))
      clear hml hfl
      go_wp2_with (fail)
      refine (beforeL_any (bestL m) f.1 v3 v5 _ HO5.out.sl HO5s.out.sl (HNA.out _ (best_spec hok).1) (HNA.out _ HF1.out)).mono ?_
      rintro e w8 ⟨rfl, n8, hw8⟩
      rw [HBF.out]
      have hb : Below w7.heap.size w7 w8 := by rw [hw8]; exact bl_drewN (Below.refl _ _) _
      have HO6 := Lib.hid (HO5.out.below hb)
      have HO6s := Lib.hid (HO5s.out.below hb)
      clear HO5 HO5s
      have HO5 := HO6
      have HO5s := HO6s
      have HB' := Lib.hid (HB.out.below hb)
      clear hb HB
      have HB := HB'
      clear HB'
      clear hw8 HO6 HO6s hmq hnl
      obtain ⟨x0, x1, x2, -⟩ := blk3 HB.out.1
      go_wp2_with (fail)
      refine (total_any m a _ _ _ _ _ (HM.out.step HB.out.2) (HA.out.step HB.out.2)).mono ?_
      rintro e wt ⟨rfl, hb⟩
      have HOt := Lib.hid (HO5.out.below hb)
      have HOts := Lib.hid (HO5s.out.below hb)
      have HB' := Lib.hid (HB.out.below hb)
      clear hb HB
      have HB := HB'
      clear HB'
      clear x0 x1 x2
      by_cases hh : (totC m a).2 = 0
      case neg =>
        have hhn : ((totC m a).2 != 0) = true := by rw [bne_iff_ne]; exact hh
        obtain ⟨c, hc⟩ : ∃ c, (totC m a).1 = c := ⟨_, rfl⟩
        obtain ⟨o, ho⟩ : ∃ o, (totC m a).2 = o := ⟨_, rfl⟩
        rw [ho] at hhn
        rw [hc, ho]
        clear hc ho hh
        go_wp2_with (fail)
        refine (awake_any _).mono ?_
        rintro e wz ⟨rfl, hb⟩
        have HZ := Lib.hid (bl_trans HB.out.2 hb)
        clear hb
        go_wp2_with (fail)
        go_ret
        exact ⟨rfl, HZ.out⟩
      have haa := tot_alls hok hh
      have hta := tot_valid hok haa
      have HAA := Lib.hid haa
      rw [hta]
      clear hh hta haa
      obtain ⟨c, hcc⟩ : ∃ c, cst m 0 0 a = c := ⟨_, rfl⟩
      have HCC := Lib.hid hcc
      rw [hcc]
      clear hcc
      go_wp2_with (fail)
      refine (same_any a (bestL m) _ v3 _ (HA.out.step HB.out.2) HOt.out.sl).mono ?_
      rintro e ws ⟨rfl, ns, hws⟩
      have hb : Below wt.heap.size wt ws := by rw [hws]; exact bl_drewN (Below.refl _ _) _
      have HOs := Lib.hid (HOt.out.below hb)
      have HOss := Lib.hid (HOts.out.below hb)
      have HB' := Lib.hid (HB.out.below hb)
      clear hb HB
      have HB := HB'
      clear HB'
      clear hws
      by_cases hsame : a = bestL m
      · rw [show decide (a = bestL m) = true by simp [hsame]]
        clear hsame
        go_wp2_with (fail)
        refine (awake_any _).mono ?_
        rintro e wz ⟨rfl, hb⟩
        have HZ := Lib.hid (bl_trans HB.out.2 hb)
        clear hb
        go_wp2_with (fail)
        go_ret
        exact ⟨rfl, HZ.out⟩
      have hsm : decide (a = bestL m) = false := by simp [hsame]
      have HSM := Lib.hid hsm
      have hq := leC_bef (HF4.out a HAA.out hsame)
      rw [HMO.out, HCC.out] at hq
      have hq2 := tie_bef hok HAA.out
      have hq3 := ((best_spec hok).2.2 a HAA.out).1
      rw [HLE.out, HCC.out] at hq2 hq3
      rw [hsm]
      clear hsame hsm
      obtain ⟨hq, hq4⟩ := hq
      have k1 : ¬ c < least := by omega
      have k2 : ¬ c < more := by omega
      have hA1 : (c == least) = false ∨ ((c == least) = true ∧ befC a (bestL m) = false) := by
        rcases hq2 with q | q
        · cases hz : (c == least)
          · exact .inl rfl
          · exact .inr ⟨rfl, q⟩
        · left; simp; omega
      have hA2 : (c == more) = false ∨ ((c == more) = true ∧ befC a f.1 = false) := by
        rcases hq4 with q | q
        · cases hz : (c == more)
          · exact .inl rfl
          · exact .inr ⟨rfl, q⟩
        · left; simp; omega
      have HBF1 := Lib.hid (show ∀ W', Below ws.heap.size ws W' → befC a (bestL m) = false → Calls Try.prog 25 #[.slice aa a.length ca, v3] W' fun e w' => e = .returned (.bool false) ∧ ∃ n, w' = W'.drewN n from fun W' hW h => by
        rw [← h]; exact beforeL_any a (bestL m) _ v3 W' ((HA.out.step HB.out.2).step hW) (HOs.out.below hW).sl (HNA.out _ HAA.out) (HNA.out _ (best_spec hok).1))
      have HBF2 := Lib.hid (show ∀ W', Below ws.heap.size ws W' → befC a f.1 = false → Calls Try.prog 25 #[.slice aa a.length ca, v5] W' fun e w' => e = .returned (.bool false) ∧ ∃ n, w' = W'.drewN n from fun W' hW h => by
        rw [← h]; exact beforeL_any a f.1 _ v5 W' ((HA.out.step HB.out.2).step hW) (HOss.out.below hW).sl (HNA.out _ HAA.out) (HNA.out _ HF1.out))
      clear hq hq2 hq3 hq4
      rcases hA1 with p1 | ⟨p1, p2⟩
      · rcases hA2 with r1 | ⟨r1, r2⟩
        · go_wp2_with (fail)
          refine (awake_any _).mono ?_
          rintro e wz ⟨rfl, hb⟩
          have HZ := Lib.hid (bl_trans HB.out.2 hb)
          clear hb
          go_wp2_with (fail)
          go_ret
          exact ⟨rfl, HZ.out⟩
        · have R2 := Lib.hid r2
          clear r2
          go_wp2_with (fail)
          refine (HBF2.out _ (Below.refl _ _) R2.out).mono ?_
          rintro e wu ⟨rfl, nu, hwu⟩
          have hb : Below ws.heap.size ws wu := by rw [hwu]; exact bl_drewN (Below.refl _ _) _
          have HB' := Lib.hid (HB.out.below hb)
          clear hb HB
          have HB := HB'
          clear HB'
          clear hwu
          go_wp2_with (fail)
          refine (awake_any _).mono ?_
          rintro e wz ⟨rfl, hb⟩
          have HZ := Lib.hid (bl_trans HB.out.2 hb)
          clear hb
          go_wp2_with (fail)
          go_ret
          exact ⟨rfl, HZ.out⟩
      · have P2 := Lib.hid p2
        clear p2
        go_wp2_with (fail)
        refine (HBF1.out _ (Below.refl _ _) P2.out).mono ?_
        rintro e wu ⟨rfl, nu, hwu⟩
        have hb : Below ws.heap.size ws wu := by rw [hwu]; exact bl_drewN (Below.refl _ _) _
        have HBU := Lib.hid hb
        have HB' := Lib.hid (HB.out.below hb)
        clear hb HB
        have HB := HB'
        clear HB'
        clear hwu
        rcases hA2 with r1 | ⟨r1, r2⟩
        · go_wp2_with (fail)
          refine (awake_any _).mono ?_
          rintro e wz ⟨rfl, hb⟩
          have HZ := Lib.hid (bl_trans HB.out.2 hb)
          clear hb
          go_wp2_with (fail)
          go_ret
          exact ⟨rfl, HZ.out⟩
        · have R2 := Lib.hid r2
          clear r2
          go_wp2_with (fail)
          refine (HBF2.out _ HBU.out R2.out).mono ?_
          rintro e wv ⟨rfl, nv, hwv⟩
          have hb : Below wu.heap.size wu wv := by rw [hwv]; exact bl_drewN (Below.refl _ _) _
          have HB' := Lib.hid (HB.out.below hb)
          clear hb HB
          have HB := HB'
          clear HB'
          clear hwv
          go_wp2_with (fail)
          refine (awake_any _).mono ?_
          rintro e wz ⟨rfl, hb⟩
          have HZ := Lib.hid (bl_trans HB.out.2 hb)
          clear hb
          go_wp2_with (fail)
          go_ret
          exact ⟨rfl, HZ.out⟩
    · have hmq : (more == least) = false := by simpa using hml
      clear hml hfl
      obtain ⟨x0, x1, x2, -⟩ := blk3 HB.out.1
      go_wp2_with (fail)
      refine (total_any m a _ _ _ _ _ (HM.out.step HB.out.2) (HA.out.step HB.out.2)).mono ?_
      rintro e wt ⟨rfl, hb⟩
      have HOt := Lib.hid (HO5.out.below hb)
      have HOts := Lib.hid (HO5s.out.below hb)
      have HB' := Lib.hid (HB.out.below hb)
      clear hb HB
      have HB := HB'
      clear HB'
      clear x0 x1 x2
      by_cases hh : (totC m a).2 = 0
      case neg =>
        have hhn : ((totC m a).2 != 0) = true := by rw [bne_iff_ne]; exact hh
        obtain ⟨c, hc⟩ : ∃ c, (totC m a).1 = c := ⟨_, rfl⟩
        obtain ⟨o, ho⟩ : ∃ o, (totC m a).2 = o := ⟨_, rfl⟩
        rw [ho] at hhn
        rw [hc, ho]
        clear hc ho hh
        go_wp2_with (fail)
        refine (awake_any _).mono ?_
        rintro e wz ⟨rfl, hb⟩
        have HZ := Lib.hid (bl_trans HB.out.2 hb)
        clear hb
        go_wp2_with (fail)
        go_ret
        exact ⟨rfl, HZ.out⟩
      have haa := tot_alls hok hh
      have hta := tot_valid hok haa
      have HAA := Lib.hid haa
      rw [hta]
      clear hh hta haa
      obtain ⟨c, hcc⟩ : ∃ c, cst m 0 0 a = c := ⟨_, rfl⟩
      have HCC := Lib.hid hcc
      rw [hcc]
      clear hcc
      go_wp2_with (fail)
      refine (same_any a (bestL m) _ v3 _ (HA.out.step HB.out.2) HOt.out.sl).mono ?_
      rintro e ws ⟨rfl, ns, hws⟩
      have hb : Below wt.heap.size wt ws := by rw [hws]; exact bl_drewN (Below.refl _ _) _
      have HOs := Lib.hid (HOt.out.below hb)
      have HOss := Lib.hid (HOts.out.below hb)
      have HB' := Lib.hid (HB.out.below hb)
      clear hb HB
      have HB := HB'
      clear HB'
      clear hws
      by_cases hsame : a = bestL m
      · rw [show decide (a = bestL m) = true by simp [hsame]]
        clear hsame
        go_wp2_with (fail)
        refine (awake_any _).mono ?_
        rintro e wz ⟨rfl, hb⟩
        have HZ := Lib.hid (bl_trans HB.out.2 hb)
        clear hb
        go_wp2_with (fail)
        go_ret
        exact ⟨rfl, HZ.out⟩
      have hsm : decide (a = bestL m) = false := by simp [hsame]
      have HSM := Lib.hid hsm
      have hq := leC_bef (HF4.out a HAA.out hsame)
      rw [HMO.out, HCC.out] at hq
      have hq2 := tie_bef hok HAA.out
      have hq3 := ((best_spec hok).2.2 a HAA.out).1
      rw [HLE.out, HCC.out] at hq2 hq3
      rw [hsm]
      clear hsame hsm
      obtain ⟨hq, hq4⟩ := hq
      have k1 : ¬ c < least := by omega
      have k2 : ¬ c < more := by omega
      have hA1 : (c == least) = false ∨ ((c == least) = true ∧ befC a (bestL m) = false) := by
        rcases hq2 with q | q
        · cases hz : (c == least)
          · exact .inl rfl
          · exact .inr ⟨rfl, q⟩
        · left; simp; omega
      have hA2 : (c == more) = false ∨ ((c == more) = true ∧ befC a f.1 = false) := by
        rcases hq4 with q | q
        · cases hz : (c == more)
          · exact .inl rfl
          · exact .inr ⟨rfl, q⟩
        · left; simp; omega
      have HBF1 := Lib.hid (show ∀ W', Below ws.heap.size ws W' → befC a (bestL m) = false → Calls Try.prog 25 #[.slice aa a.length ca, v3] W' fun e w' => e = .returned (.bool false) ∧ ∃ n, w' = W'.drewN n from fun W' hW h => by
        rw [← h]; exact beforeL_any a (bestL m) _ v3 W' ((HA.out.step HB.out.2).step hW) (HOs.out.below hW).sl (HNA.out _ HAA.out) (HNA.out _ (best_spec hok).1))
      have HBF2 := Lib.hid (show ∀ W', Below ws.heap.size ws W' → befC a f.1 = false → Calls Try.prog 25 #[.slice aa a.length ca, v5] W' fun e w' => e = .returned (.bool false) ∧ ∃ n, w' = W'.drewN n from fun W' hW h => by
        rw [← h]; exact beforeL_any a f.1 _ v5 W' ((HA.out.step HB.out.2).step hW) (HOss.out.below hW).sl (HNA.out _ HAA.out) (HNA.out _ HF1.out))
      clear hq hq2 hq3 hq4
      rcases hA1 with p1 | ⟨p1, p2⟩
      · rcases hA2 with r1 | ⟨r1, r2⟩
        · go_wp2_with (fail)
          refine (awake_any _).mono ?_
          rintro e wz ⟨rfl, hb⟩
          have HZ := Lib.hid (bl_trans HB.out.2 hb)
          clear hb
          go_wp2_with (fail)
          go_ret
          exact ⟨rfl, HZ.out⟩
        · have R2 := Lib.hid r2
          clear r2
          go_wp2_with (fail)
          refine (HBF2.out _ (Below.refl _ _) R2.out).mono ?_
          rintro e wu ⟨rfl, nu, hwu⟩
          have hb : Below ws.heap.size ws wu := by rw [hwu]; exact bl_drewN (Below.refl _ _) _
          have HB' := Lib.hid (HB.out.below hb)
          clear hb HB
          have HB := HB'
          clear HB'
          clear hwu
          go_wp2_with (fail)
          refine (awake_any _).mono ?_
          rintro e wz ⟨rfl, hb⟩
          have HZ := Lib.hid (bl_trans HB.out.2 hb)
          clear hb
          go_wp2_with (fail)
          go_ret
          exact ⟨rfl, HZ.out⟩
      · have P2 := Lib.hid p2
        clear p2
        go_wp2_with (fail)
        refine (HBF1.out _ (Below.refl _ _) P2.out).mono ?_
        rintro e wu ⟨rfl, nu, hwu⟩
        have hb : Below ws.heap.size ws wu := by rw [hwu]; exact bl_drewN (Below.refl _ _) _
        have HBU := Lib.hid hb
        have HB' := Lib.hid (HB.out.below hb)
        clear hb HB
        have HB := HB'
        clear HB'
        clear hwu
        rcases hA2 with r1 | ⟨r1, r2⟩
        · go_wp2_with (fail)
          refine (awake_any _).mono ?_
          rintro e wz ⟨rfl, hb⟩
          have HZ := Lib.hid (bl_trans HB.out.2 hb)
          clear hb
          go_wp2_with (fail)
          go_ret
          exact ⟨rfl, HZ.out⟩
        · have R2 := Lib.hid r2
          clear r2
          go_wp2_with (fail)
          refine (HBF2.out _ HBU.out R2.out).mono ?_
          rintro e wv ⟨rfl, nv, hwv⟩
          have hb : Below wu.heap.size wu wv := by rw [hwv]; exact bl_drewN (Below.refl _ _) _
          have HB' := Lib.hid (HB.out.below hb)
          clear hb HB
          have HB := HB'
          clear HB'
          clear hwv
          go_wp2_with (fail)
          refine (awake_any _).mono ?_
          rintro e wz ⟨rfl, hb⟩
          have HZ := Lib.hid (bl_trans HB.out.2 hb)
          clear hb
          go_wp2_with (fail)
          go_ret
          exact ⟨rfl, HZ.out⟩

set_option maxRecDepth 100000 in
theorem optimal_lift (os : Os) (started : os.Started) (H : Type) (enc : TypeId × Value → H) :
    ReturnsInHanded {} Try.checked os 7 .any (Rows.matchOptimalSpec.pre6 enc Try.prog Try.f7 Rows.matchOptimalRow.domain false) (Rows.matchOptimalSpec.post enc Try.prog Try.f7 false true false false) :=
  law_lift (C := Try.checked) (s := Rows.matchOptimalSpec) (fn := Try.f7) ⟨rfl, fun H ds h => by
    match ds, h with
    | [a, b], _ => exact ⟨rfl, rfl, rfl⟩⟩ rfl Try.underlying4 (by kernel_rfl) laid0 own0 started (by kernel_rfl) Try.func7
    (ChangeSpec.witness6 (enc := enc) (C := Try.checked) false ⟨#[], #[.agg #[.slice none 0 0, .slice none 0 0, .slice none 0 0], .slice none 0 0], []⟩ 8 (by kernel_rfl) (by kernel_rfl) (by kernel_rfl) (by kernel_rfl)) optimal_walk

/-- THE STATEMENT: MatchOptimal. -/
theorem optimal_holds : Rows.MatchOptimalSaid :=
  OpenClaim.holds_of_wide 7 Try.f7 rfl rfl rfl rfl rfl rfl rfl ⟨rfl, rfl, rfl, rfl, rfl⟩ rfl rfl rfl rfl rfl (by kernel_rfl) Try.func7 (by kernel_rfl)
    (of_decide_eq_true (by kernel_rfl)) (by unfold Func.isWrapper; rw [if_neg (of_decide_eq_false (by kernel_rfl))]; exact ⟨rfl, rfl⟩)
    (fun os started H enc _ => optimal_lift os started H enc)
end Go.Proofs.Ytepceaoccnmkiaa
