/-
  Layer 44 (recon): the law ReconChanged.
-/
import Derived.Test.YtmjbbpappigngaaGreatRecoOp
import Derived.Test.YtmjbbpappigngaaGreatMgI
import Derived.Test.YtmjbbpappigngaaGreatExcChk
import Derived.Test.YtmjbbpappigngaaGreatExcClmR
import Derived.Deep.DeepCutAuto
import Derived.Deep.CutBlock
namespace Go.Proofs.YtmjbbpappigngaaGreat
open Go.RowKit Go.Tw Go.Tw.Exc Go.ChangeShapes Go.WideShapes
/-- both partners' boxes, one of them changed -/
def CHK (W : World) (M : List Rec) (k : Nat) (a b : Par) (wx : World) : Prop :=
  ∃ (p q : Par) (x1 x2 x3 y1 y2 y3 : Value), OB1 p x1 x2 x3 k wx ∧ OB1 q y1 y2 y3 (k + 1) wx ∧ SzP 48 58 58 p ∧ SzP 48 58 58 q ∧ Below W.heap.size W wx
theorem ob_set4 {p : Par} {u1 u2 u3 v : Value} {k c B : Nat} {w w7 : World} {l : List Rec} {e : TypeId} (hk : w.heap[c]? = some (.cells #[.string p.nm, .int .i64 p.out, .int .i64 p.inn, u1, u2, u3] 29 (0, 0))) (hok : ParOk (· < k) w p u1 u2 u3) (hkc : k ≤ c) (hkw : k ≤ w.heap.size)
    (hb : Below w.heap.size w w7) (ho : OwnSl tRec e B w7 v l) (hB : c < B) : OB1 { p with ours := l } u1 v u3 c (w7.setCell ⟨c, 4, none⟩ v) := by
  have hs : ∀ j, j ≠ c → (w7.setCell ⟨c, 4, none⟩ v).heap[j]? = w7.heap[j]? := fun j q => Below.heap_setCell _ _ _ _ q
  have hk' : ∀ j, j < k → (w7.setCell ⟨c, 4, none⟩ v).heap[j]? = w.heap[j]? := fun j q => (hs j (by omega)).trans (hb.block j (by omega))
  have hsz := hb.size
  refine ⟨st6_4 (Go.Tw.Below.at_old hb hk), hok.nm, hok.out, hok.inn, hok.wt.keep (fun j q => by have q' : j < k := q; show j < (w7.setCell _ _).heap.size; simp; omega) hk', ?_, hok.thr.keep (fun j q => by have q' : j < k := q; show j < (w7.setCell _ _).heap.size; simp; omega) hk'⟩
  exact ((NewL.ofOwn (B := B) ownRec ho (Nat.le_refl _)).sl).keep (fun j q => by show j < (w7.setCell _ _).heap.size; simp; exact q.2) (fun j q => hs j (by have := q.1; omega))
theorem ob_set5 {p : Par} {u1 u2 u3 v : Value} {k c B : Nat} {w w7 : World} {l : List Rec} {e : TypeId} (hk : w.heap[c]? = some (.cells #[.string p.nm, .int .i64 p.out, .int .i64 p.inn, u1, u2, u3] 29 (0, 0))) (hok : ParOk (· < k) w p u1 u2 u3) (hkc : k ≤ c) (hkw : k ≤ w.heap.size)
    (hb : Below w.heap.size w w7) (ho : OwnSl tRec e B w7 v l) (hB : c < B) : OB1 { p with thr := l } u1 u2 v c (w7.setCell ⟨c, 5, none⟩ v) := by
  have hs : ∀ j, j ≠ c → (w7.setCell ⟨c, 5, none⟩ v).heap[j]? = w7.heap[j]? := fun j q => Below.heap_setCell _ _ _ _ q
  have hk' : ∀ j, j < k → (w7.setCell ⟨c, 5, none⟩ v).heap[j]? = w.heap[j]? := fun j q => (hs j (by omega)).trans (hb.block j (by omega))
  have hsz := hb.size
  refine ⟨st6_5 (Go.Tw.Below.at_old hb hk), hok.nm, hok.out, hok.inn, hok.wt.keep (fun j q => by have q' : j < k := q; show j < (w7.setCell _ _).heap.size; simp; omega) hk', hok.ours.keep (fun j q => by have q' : j < k := q; show j < (w7.setCell _ _).heap.size; simp; omega) hk', ?_⟩
  exact ((NewL.ofOwn (B := B) ownRec ho (Nat.le_refl _)).sl).keep (fun j q => by show j < (w7.setCell _ _).heap.size; simp; exact q.2) (fun j q => hs j (by have := q.1; omega))
theorem ob_other {p : Par} {u1 u2 u3 v : Value} {k c c' o : Nat} {w w7 : World} (hk : w.heap[c']? = some (.cells #[.string p.nm, .int .i64 p.out, .int .i64 p.inn, u1, u2, u3] 29 (0, 0))) (hok : ParOk (· < k) w p u1 u2 u3) (hkc : k ≤ c) (hkw : k ≤ w.heap.size)
    (hb : Below w.heap.size w w7) (hne : c' ≠ c) : OB1 p u1 u2 u3 c' (w7.setCell ⟨c, o, none⟩ v) := by
  have hs : ∀ j, j ≠ c → (w7.setCell ⟨c, o, none⟩ v).heap[j]? = w7.heap[j]? := fun j q => Below.heap_setCell _ _ _ _ q
  have hsz := hb.size
  exact ⟨(hs c' hne).trans (Go.Tw.Below.at_old hb hk), hok.keep (fun j q => by have q' : j < k := q; show j < (w7.setCell _ _).heap.size; simp; omega) (fun j q => by have q' : j < k := q; exact (hs j (by omega)).trans (hb.block j (by omega)))⟩
theorem sz_ours {p : Par} {M : List Rec} (h : SzP 48 48 48 p) (hM : M.length ≤ 10) (hf : ∀ r ∈ M, FitR r) : SzP 48 58 58 { p with ours := p.ours ++ M } :=
  ⟨h.wt, h.rw, by have := h.ours; simp; omega, Nat.le_trans h.thr (by omega), fun r hr => (List.mem_append.1 hr).elim (h.fo r) (hf r), h.ft, h.i0, by have := h.i1; show p.inn ≤ _; omega, h.o0, by have := h.o1; show p.out ≤ _; omega⟩
theorem sz_thr {p : Par} {M : List Rec} (h : SzP 48 48 48 p) (hM : M.length ≤ 10) (hf : ∀ r ∈ M, FitR r) : SzP 48 58 58 { p with thr := p.thr ++ M } :=
  ⟨h.wt, h.rw, Nat.le_trans h.ours (by omega), by have := h.thr; simp; omega, h.fo, fun r hr => (List.mem_append.1 hr).elim (h.ft r) (hf r), h.i0, by have := h.i1; show p.inn ≤ _; omega, h.o0, by have := h.o1; show p.out ≤ _; omega⟩
theorem cell_al {w : World} {a : Addr} {v : Value} (o : Obj) (h : w.cell? a = some v) : (w.alloc o).cell? a = some v := ((bl_alloc (Below.refl w.heap.size w) o).cell (lt_of_cell h)).trans h
set_option maxRecDepth 100000 in
set_option maxHeartbeats 8000000 in
theorem changed_walk : LawWalk Tryz.prog 4 Tryz.f4 := by
  intro H enc W base args ds ps hval hA hsz
  rw [Tryz.params4] at hA hval
  obtain ⟨v0, v1, v2, d0, d1, d2, p0, p1, p2, rfl, rfl, rfl, h0, h1, h2⟩ := trodAll_three hA
  obtain ⟨L, hl⟩ := arg_slice Tryz.underlying22 (opensDeeds (e := 58)) (hval 0 _ _ rfl rfl) h0
  obtain ⟨M, hm⟩ := arg_slice Tryz.underlying27 (opensRecs4 (e := 49)) (hval 1 _ _ rfl rfl) h1
  obtain ⟨u, rfl, hu0, hu1⟩ : ∃ n, v2 = .int .u8 n ∧ 0 ≤ n ∧ n ≤ 255 := by
    obtain ⟨n, q1, _, _, q2⟩ := open_int Tryz.underlying5 (hval 2 _ _ rfl rfl) h2
    exact ⟨n, q1, wf_u8 q2⟩
  clear hA hval h0 h1 h2 hsz
  obtain ⟨al, cl, _, _, rfl, hl1, hl2, -⟩ := id hl
  obtain ⟨am, cm, _, _, rfl, hm1, hm2, -⟩ := id hm
  unfold maxLen at hl2 hm2
  have HL := Lib.hid hl
  have HM := Lib.hid hm
  clear hl hm
  go_enter Tryz.func4, Tryz.ntmps4
  go_wp2_with (fail)
  refine (fit_any L _ W HL.out).mono ?_
  rintro e w1 ⟨⟨b1, rfl, hq1⟩, hb1⟩
  have HB1 := Lib.hid hb1
  clear hb1
  cases b1
  case false =>
    clear hq1
    go_wp2_with (fail)
    refine (awake44_any _).mono ?_
    rintro e wz ⟨rfl, hbz⟩
    have HZ := Lib.hid (bl_trans HB1.out hbz)
    clear hbz
    go_wp2_with (fail)
    go_ret
    exact ⟨rfl, HZ.out⟩
  have HFD := Lib.hid (hq1 rfl)
  clear hq1
  by_cases h10 : 10 < M.length
  · have h10' : (10 : Int) < (M.length : Int) := by omega
    go_wp2_with (fail)
    refine (awake44_any _).mono ?_
    rintro e wz ⟨rfl, hbz⟩
    have HZ := Lib.hid (bl_trans HB1.out hbz)
    clear hbz
    go_wp2_with (fail)
    go_ret
    exact ⟨rfl, HZ.out⟩
  have h10' : ¬ (10 : Int) < (M.length : Int) := by omega
  go_wp2_with (fail)
  refine (records_any M _ w1 (HM.out.step HB1.out)).mono ?_
  rintro e w2 ⟨⟨b1, rfl, hq1⟩, hb2⟩
  have HB2 := Lib.hid (bl_trans HB1.out hb2)
  clear hb2 HB1
  cases b1
  case false =>
    clear hq1
    go_wp2_with (fail)
    refine (awake44_any _).mono ?_
    rintro e wz ⟨rfl, hbz⟩
    have HZ := Lib.hid (bl_trans HB2.out hbz)
    clear hbz
    go_wp2_with (fail)
    go_ret
    exact ⟨rfl, HZ.out⟩
  have HSM := Lib.hid (hq1 rfl)
  clear hq1
  go_wp2_with (fail)
  go_loopg [7] M.length (fun g i wr => ∃ k : Nat, k + g = M.length ∧ i = .int .i64 k ∧ Below W.heap.size W wr)
  case atStart => exact ⟨0, by omega, rfl, HB2.out⟩
  case round =>
    clear HB2
    obtain ⟨k, hk, rfl, hb⟩ := hrel
    have HB := Lib.hid hb
    clear hb
    by_cases hlt : k < M.length
    · have k0 : (0 : Int) ≤ (k : Int) := by omega
      have k1 : (k : Int) < (M.length : Int) := by omega
      have k2 : ¬ cm = k := by omega
      have k3 : (k : Int) + 1 ≤ (cm : Int) := by omega
      have HSV := Lib.hid (show SlIs tRec (· < W.heap.size) W (.slice (Option.map (fun x => x.add (k * 5)) am) 1 (cm - k)) ((M.drop k).take 1) from by
        have h := SlIs.drop (t := k) (k := k * 5) HM.out (by omega) rfl
        rw [if_neg k2] at h
        exact h.take (by rw [List.length_drop]; omega))
      obtain ⟨e0, he0⟩ : ∃ e, checkC ⟨sAAA, sBBB, 1, (M.drop k).take 1⟩ = e := ⟨_, rfl⟩
      have HCK := Lib.hid (show ∀ W', Below W.heap.size W W' → Calls Tryz.prog 15 #[.agg #[.string ⟨#[97, 97, 97]⟩, .string ⟨#[98, 98, 98]⟩, .int .i64 1, .slice (Option.map (fun x => x.add (k * 5)) am) 1 (cm - k)]] W' fun e w' => e = .returned (.int .i64 e0) ∧ Below W'.heap.size W' w' from fun W' hW => by
        rw [← he0]
        exact checkR_any ⟨sAAA, sBBB, 1, (M.drop k).take 1⟩ _ W' (HSV.out.step hW))
      clear he0 HSV
      go_wp2_with (fail)
      refine (HCK.out _ (bl_alloc HB.out _)).mono ?_
      rintro e w3 ⟨rfl, hb3⟩
      have HB3 := Lib.hid (bl_trans (bl_alloc HB.out _) hb3)
      clear hb3 HCK
      by_cases z0 : e0 = 0
      · obtain rfl := z0
        have z0' : ((0 : Int) != 0) = false := by decide
        go_wp2_with (fail)
        go_roundg (M.length - (k + 1))
        case measure => omega
        case rel => exact ⟨k + 1, by omega, by go_num, HB3.out⟩
      · have z0' : (e0 != 0) = true := by simpa using z0
        clear z0
        go_wp2_with (fail)
        refine (awake44_any _).mono ?_
        rintro e wz ⟨rfl, hbz⟩
        have HZ := Lib.hid (bl_trans HB3.out hbz)
        clear hbz
        go_wp2_with (fail)
        go_ret
        exact ⟨rfl, HZ.out⟩
    · obtain rfl : k = M.length := by omega
      have hkd : decide ((M.length : Int) < (M.length : Int)) = false := by simp
      clear hlt hk
      go_wp2_with (fail)
      refine (fresh_any L _ wr (HL.out.step HB.out) HFD.out).mono ?_
      rintro e w2 ⟨he, hb2⟩
      obtain ⟨u1, c1, u2, c2, u3, c3, g1, h1, g2, h2, g3, h3, rfl, hqa, hqb⟩ := rv2_form he
      have hst := fresh_st (fun d hd => (HFD.out d hd).1)
      obtain ⟨a, b, hab⟩ : ∃ a b, freshC L = (a, b) := ⟨_, _, rfl⟩
      rw [hab] at hqa hqb hst ⊢
      dsimp only at hqa hqb hst ⊢
      have HSZ := Lib.hid (hst.sz (Nat.le_refl _))
      have HPA := Lib.hid (OB1.mk0 (q := b) (v1 := .slice g1 b.wt.length h1) (v2 := .slice g2 b.ours.length h2) (v3 := .slice g3 b.thr.length h3) hqa)
      have HPB := Lib.hid (OB1.mk1 (p := a) (u1 := .slice u1 a.wt.length c1) (u2 := .slice u2 a.ours.length c2) (u3 := .slice u3 a.thr.length c3) hqb)
      have HBW := Lib.hid (show W.heap.size ≤ w2.heap.size from (bl_trans HB.out hb2).size)
      have HB2 := Lib.hid (bl_trans (bl_trans HB.out hb2) (bl_alloc (bl_alloc (Below.refl w2.heap.size w2) (.cells #[.string a.nm, .int .i64 a.out, .int .i64 a.inn, .slice u1 a.wt.length c1, .slice u2 a.ours.length c2, .slice u3 a.thr.length c3] 29)) (.cells #[.string b.nm, .int .i64 b.out, .int .i64 b.inn, .slice g1 b.wt.length h1, .slice g2 b.ours.length h2, .slice g3 b.thr.length h3] 29)))
      clear he hb2 hst hab HB HFD
      obtain ⟨wa, hwa⟩ : ∃ W', (w2.alloc (.cells #[.string a.nm, .int .i64 a.out, .int .i64 a.inn, .slice u1 a.wt.length c1, .slice u2 a.ours.length c2, .slice u3 a.thr.length c3] 29)).alloc (.cells #[.string b.nm, .int .i64 b.out, .int .i64 b.inn, .slice g1 b.wt.length h1, .slice g2 b.ours.length h2, .slice g3 b.thr.length h3] 29) = W' := ⟨_, rfl⟩
      rw [hwa] at HPA HPB HB2
      have hsa : ∀ j, j < w2.heap.size → wa.heap[j]? = w2.heap[j]? := fun j hj => by rw [← hwa]; exact (Below.heap_alloc _ _ _ (by simp; omega)).trans (Below.heap_alloc _ _ _ hj)
      have hkw : w2.heap.size + 1 < wa.heap.size := by rw [← hwa]; simp
      have HQA := Lib.hid (hqa.keep (S' := (· < w2.heap.size)) (fun _ h => h) hsa)
      have HQB := Lib.hid (hqb.keep (S' := (· < w2.heap.size)) (fun _ h => h) hsa)
      clear hqa hqb hsa
      obtain ⟨ka, hka⟩ : ∃ k, w2.heap.size = k := ⟨_, rfl⟩
      rw [hka] at HPA HPB HQA HQB hkw HBW
      obtain ⟨i0, i1, i2, i3, i4, i5, if'⟩ := blk6' HPA.out.bx
      obtain ⟨j0, j1, j2, j3, j4, j5, jf⟩ := blk6' HPB.out.bx
      have hu4 : u % 4 = 0 ∨ u % 4 = 1 ∨ u % 4 = 2 ∨ u % 4 = 3 := by omega
      obtain ⟨r, hr⟩ : ∃ r, u % 4 = r := ⟨_, rfl⟩
      rw [hr] at hu4
      have HKW := Lib.hid (show W.heap.size ≤ ka from by
        have := HBW.out
        omega)
      go_upto_block 2 with (fail)
      clear hwa
      go_cut [9] from 55 to 89 (fun v wx => v = .pointer (some ⟨ka, 0, none⟩) ∧ CHK W M ka a b wx)
      case first =>
        rcases hu4 with rfl | rfl | rfl | rfl
        · have c8 := cell_al (.cells #[] 49) i4
          have o0 : OwnSl tRec 49 wa.heap.size (wa.alloc (.cells #[] 49)) (.slice (some ⟨wa.heap.size, 0, none⟩) 0 0) [] := OwnSl.lit (css := []) rfl trivial (Nat.le_refl _) (by decide)
          have HO0 := Lib.hid o0
          have hln : (a.ours).length ≤ 58 := by have := HSZ.out.1.ours; have := HSZ.out.1.thr; have := HSZ.out.2.ours; have := HSZ.out.2.thr; omega
          have hb1 : (([] : List Rec).length + (a.ours).length) * 48 ≤ 140737488355328 := by simp; omega
          have hb2 : ([] : List Rec).length + (a.ours).length ≤ maxLen := by unfold maxLen; simp; omega
          have hb3 : (([] ++ a.ours : List Rec).length + M.length) * 48 ≤ 140737488355328 := by simp; omega
          have hb4 : ([] ++ a.ours : List Rec).length + M.length ≤ maxLen := by unfold maxLen; simp; omega
          have HOU := Lib.hid (SlIs.keep (S' := (· < wa.heap.size)) (w' := wa.alloc (.cells #[] 49)) HQA.out.ours (fun j q => by have q' : j < ka := q; omega) (fun j q => Below.heap_alloc _ _ _ (by have q' : j < ka := q; omega)))
          clear o0
          go_wp2_with (first
            | (at_builtin
               refine wpList_append_old (.tmp 65) (.tmp 67) rfl 27 rfl slRec rfl HO0.out rfl HOU.out hb1 hb2 (by simp) ?_
               intro v5 w5 ho5 hg5 hb5
               have HO5 := Lib.hid ho5
               have HB5 := Lib.hid (show Below wa.heap.size wa w5 from (bl_alloc (Below.refl _ _) _).trans hb5)
               have hz5 := HB5.out.size
               clear ho5 hg5 hb5)
            | (at_builtin
               refine wpList_append_old (.tmp 68) (.tmp 69) rfl 27 rfl slRec rfl HO5.out rfl ((HM.out.step HB2.out).keep (fun _ h => h) (.of_below HB5.out)) hb3 hb4 hz5 ?_
               intro v7 w7 ho7 hg7 hb7
               obtain ⟨a7, c7, rfl, -⟩ := ho7.form
               obtain ⟨m0, m1, m2, m3, m4, m5, mf⟩ := blk6' (Go.Tw.Below.at_old (HB5.out.trans hb7) HPA.out.bx)
               have HO7 := Lib.hid (show OwnSl tRec 49 wa.heap.size w7 _ (a.ours ++ M) from by simpa using ho7)
               have HB7 := Lib.hid (HB5.out.trans hb7)
               clear ho7 hg7 hb7))
          go_meet
          exact ⟨rfl, { a with ours := a.ours ++ M }, b, _, _, _, _, _, _, ob_set4 HPA.out.bx HQA.out (Nat.le_refl _) (by omega) HB7.out HO7.out (by omega), ob_other HPB.out.bx HQB.out (Nat.le_refl _) (by omega) HB7.out (by omega), sz_ours HSZ.out.1 (by omega) HSM.out.2, HSZ.out.2.up (by omega) (by omega) (by omega), bl_set (bl_trans HB2.out HB7.out) _ HKW.out⟩
        · have c8 := cell_al (.cells #[] 49) i5
          have o0 : OwnSl tRec 49 wa.heap.size (wa.alloc (.cells #[] 49)) (.slice (some ⟨wa.heap.size, 0, none⟩) 0 0) [] := OwnSl.lit (css := []) rfl trivial (Nat.le_refl _) (by decide)
          have HO0 := Lib.hid o0
          have hln : (a.thr).length ≤ 58 := by have := HSZ.out.1.ours; have := HSZ.out.1.thr; have := HSZ.out.2.ours; have := HSZ.out.2.thr; omega
          have hb1 : (([] : List Rec).length + (a.thr).length) * 48 ≤ 140737488355328 := by simp; omega
          have hb2 : ([] : List Rec).length + (a.thr).length ≤ maxLen := by unfold maxLen; simp; omega
          have hb3 : (([] ++ a.thr : List Rec).length + M.length) * 48 ≤ 140737488355328 := by simp; omega
          have hb4 : ([] ++ a.thr : List Rec).length + M.length ≤ maxLen := by unfold maxLen; simp; omega
          have HOU := Lib.hid (SlIs.keep (S' := (· < wa.heap.size)) (w' := wa.alloc (.cells #[] 49)) HQA.out.thr (fun j q => by have q' : j < ka := q; omega) (fun j q => Below.heap_alloc _ _ _ (by have q' : j < ka := q; omega)))
          clear o0
          go_wp2_with (first
            | (at_builtin
               refine wpList_append_old (.tmp 74) (.tmp 76) rfl 27 rfl slRec rfl HO0.out rfl HOU.out hb1 hb2 (by simp) ?_
               intro v5 w5 ho5 hg5 hb5
               have HO5 := Lib.hid ho5
               have HB5 := Lib.hid (show Below wa.heap.size wa w5 from (bl_alloc (Below.refl _ _) _).trans hb5)
               have hz5 := HB5.out.size
               clear ho5 hg5 hb5)
            | (at_builtin
               refine wpList_append_old (.tmp 77) (.tmp 78) rfl 27 rfl slRec rfl HO5.out rfl ((HM.out.step HB2.out).keep (fun _ h => h) (.of_below HB5.out)) hb3 hb4 hz5 ?_
               intro v7 w7 ho7 hg7 hb7
               obtain ⟨a7, c7, rfl, -⟩ := ho7.form
               obtain ⟨m0, m1, m2, m3, m4, m5, mf⟩ := blk6' (Go.Tw.Below.at_old (HB5.out.trans hb7) HPA.out.bx)
               have HO7 := Lib.hid (show OwnSl tRec 49 wa.heap.size w7 _ (a.thr ++ M) from by simpa using ho7)
               have HB7 := Lib.hid (HB5.out.trans hb7)
               clear ho7 hg7 hb7))
          go_meet
          exact ⟨rfl, { a with thr := a.thr ++ M }, b, _, _, _, _, _, _, ob_set5 HPA.out.bx HQA.out (Nat.le_refl _) (by omega) HB7.out HO7.out (by omega), ob_other HPB.out.bx HQB.out (Nat.le_refl _) (by omega) HB7.out (by omega), sz_thr HSZ.out.1 (by omega) HSM.out.2, HSZ.out.2.up (by omega) (by omega) (by omega), bl_set (bl_trans HB2.out HB7.out) _ HKW.out⟩
        · have c8 := cell_al (.cells #[] 49) j4
          have o0 : OwnSl tRec 49 wa.heap.size (wa.alloc (.cells #[] 49)) (.slice (some ⟨wa.heap.size, 0, none⟩) 0 0) [] := OwnSl.lit (css := []) rfl trivial (Nat.le_refl _) (by decide)
          have HO0 := Lib.hid o0
          have hln : (b.ours).length ≤ 58 := by have := HSZ.out.1.ours; have := HSZ.out.1.thr; have := HSZ.out.2.ours; have := HSZ.out.2.thr; omega
          have hb1 : (([] : List Rec).length + (b.ours).length) * 48 ≤ 140737488355328 := by simp; omega
          have hb2 : ([] : List Rec).length + (b.ours).length ≤ maxLen := by unfold maxLen; simp; omega
          have hb3 : (([] ++ b.ours : List Rec).length + M.length) * 48 ≤ 140737488355328 := by simp; omega
          have hb4 : ([] ++ b.ours : List Rec).length + M.length ≤ maxLen := by unfold maxLen; simp; omega
          have HOU := Lib.hid (SlIs.keep (S' := (· < wa.heap.size)) (w' := wa.alloc (.cells #[] 49)) HQB.out.ours (fun j q => by have q' : j < ka := q; omega) (fun j q => Below.heap_alloc _ _ _ (by have q' : j < ka := q; omega)))
          clear o0
          go_wp2_with (first
            | (at_builtin
               refine wpList_append_old (.tmp 83) (.tmp 85) rfl 27 rfl slRec rfl HO0.out rfl HOU.out hb1 hb2 (by simp) ?_
               intro v5 w5 ho5 hg5 hb5
               have HO5 := Lib.hid ho5
               have HB5 := Lib.hid (show Below wa.heap.size wa w5 from (bl_alloc (Below.refl _ _) _).trans hb5)
               have hz5 := HB5.out.size
               clear ho5 hg5 hb5)
            | (at_builtin
               refine wpList_append_old (.tmp 86) (.tmp 87) rfl 27 rfl slRec rfl HO5.out rfl ((HM.out.step HB2.out).keep (fun _ h => h) (.of_below HB5.out)) hb3 hb4 hz5 ?_
               intro v7 w7 ho7 hg7 hb7
               obtain ⟨a7, c7, rfl, -⟩ := ho7.form
               obtain ⟨m0, m1, m2, m3, m4, m5, mf⟩ := blk6' (Go.Tw.Below.at_old (HB5.out.trans hb7) HPB.out.bx)
               have HO7 := Lib.hid (show OwnSl tRec 49 wa.heap.size w7 _ (b.ours ++ M) from by simpa using ho7)
               have HB7 := Lib.hid (HB5.out.trans hb7)
               clear ho7 hg7 hb7))
          go_meet
          exact ⟨rfl, a, { b with ours := b.ours ++ M }, _, _, _, _, _, _, ob_other HPA.out.bx HQA.out (by omega) (by omega) HB7.out (by omega), ob_set4 HPB.out.bx HQB.out (by omega) (by omega) HB7.out HO7.out (by omega), HSZ.out.1.up (by omega) (by omega) (by omega), sz_ours HSZ.out.2 (by omega) HSM.out.2, bl_set (bl_trans HB2.out HB7.out) _ (by have := HKW.out; show W.heap.size ≤ ka + 1; omega)⟩
        · have c8 := cell_al (.cells #[] 49) j5
          have o0 : OwnSl tRec 49 wa.heap.size (wa.alloc (.cells #[] 49)) (.slice (some ⟨wa.heap.size, 0, none⟩) 0 0) [] := OwnSl.lit (css := []) rfl trivial (Nat.le_refl _) (by decide)
          have HO0 := Lib.hid o0
          have hln : (b.thr).length ≤ 58 := by have := HSZ.out.1.ours; have := HSZ.out.1.thr; have := HSZ.out.2.ours; have := HSZ.out.2.thr; omega
          have hb1 : (([] : List Rec).length + (b.thr).length) * 48 ≤ 140737488355328 := by simp; omega
          have hb2 : ([] : List Rec).length + (b.thr).length ≤ maxLen := by unfold maxLen; simp; omega
          have hb3 : (([] ++ b.thr : List Rec).length + M.length) * 48 ≤ 140737488355328 := by simp; omega
          have hb4 : ([] ++ b.thr : List Rec).length + M.length ≤ maxLen := by unfold maxLen; simp; omega
          have HOU := Lib.hid (SlIs.keep (S' := (· < wa.heap.size)) (w' := wa.alloc (.cells #[] 49)) HQB.out.thr (fun j q => by have q' : j < ka := q; omega) (fun j q => Below.heap_alloc _ _ _ (by have q' : j < ka := q; omega)))
          clear o0
          go_wp2_with (first
            | (at_builtin
               refine wpList_append_old (.tmp 56) (.tmp 58) rfl 27 rfl slRec rfl HO0.out rfl HOU.out hb1 hb2 (by simp) ?_
               intro v5 w5 ho5 hg5 hb5
               have HO5 := Lib.hid ho5
               have HB5 := Lib.hid (show Below wa.heap.size wa w5 from (bl_alloc (Below.refl _ _) _).trans hb5)
               have hz5 := HB5.out.size
               clear ho5 hg5 hb5)
            | (at_builtin
               refine wpList_append_old (.tmp 59) (.tmp 60) rfl 27 rfl slRec rfl HO5.out rfl ((HM.out.step HB2.out).keep (fun _ h => h) (.of_below HB5.out)) hb3 hb4 hz5 ?_
               intro v7 w7 ho7 hg7 hb7
               obtain ⟨a7, c7, rfl, -⟩ := ho7.form
               obtain ⟨m0, m1, m2, m3, m4, m5, mf⟩ := blk6' (Go.Tw.Below.at_old (HB5.out.trans hb7) HPB.out.bx)
               have HO7 := Lib.hid (show OwnSl tRec 49 wa.heap.size w7 _ (b.thr ++ M) from by simpa using ho7)
               have HB7 := Lib.hid (HB5.out.trans hb7)
               clear ho7 hg7 hb7))
          go_meet
          exact ⟨rfl, a, { b with thr := b.thr ++ M }, _, _, _, _, _, _, ob_other HPA.out.bx HQA.out (by omega) (by omega) HB7.out (by omega), ob_set5 HPB.out.bx HQB.out (by omega) (by omega) HB7.out HO7.out (by omega), HSZ.out.1.up (by omega) (by omega) (by omega), sz_thr HSZ.out.2 (by omega) HSM.out.2, bl_set (bl_trans HB2.out HB7.out) _ (by have := HKW.out; show W.heap.size ≤ ka + 1; omega)⟩
      case rest =>
        obtain ⟨rfl, p, q, x1, x2, x3, y1, y2, y3, hp, hq, sp, sq, hbx⟩ := hcut
        obtain ⟨ap, cp, _, _, rfl, hp1, hp2, -⟩ := id hp.ok.ours
        obtain ⟨aq, cq, _, _, rfl, hq1, hq2, -⟩ := id hq.ok.ours
        unfold maxLen at hp2 hq2
        have hlp := sp.ours
        have hlq := sq.ours
        have HP := Lib.hid hp
        have HQ := Lib.hid hq
        have HSP := Lib.hid sp
        have HSQ := Lib.hid sq
        have HBX := Lib.hid hbx
        clear hp hq sp sq hbx HPA HPB HQA HQB HB2 HSZ HSM HM HL HBW HKW i0 i1 i2 i3 i4 i5 if' j0 j1 j2 j3 j4 j5 jf hu4 hr hkw
        obtain ⟨i0, i1, i2, i3, i4, i5, if'⟩ := blk6' HP.out.bx
        obtain ⟨j0, j1, j2, j3, j4, j5, jf⟩ := blk6' HQ.out.bx
        go_wp2_with (go_quiet (fail))
        refine (reconcile_gen 48 58 58 p q _ _ _ _ _ _ _ (HP.out.ok.step (bl_drewN (Below.refl _ _) _)) (HQ.out.ok.step (bl_drewN (Below.refl _ _) _)) HSP.out HSQ.out (by omega) (by omega) (by omega)).mono ?_
        rintro e w9 ⟨he, hb9⟩
        obtain ⟨p1, s1, p2, s2, p3, s3, o1, q1, o2, q2, o3, q3, rfl, hx, hy⟩ := rv4_form he
        have hb9' : Below wc.heap.size wc w9 := bl_trans (bl_drewN (Below.refl _ _) _) hb9
        have HB9 := Lib.hid (bl_trans HBX.out hb9')
        have hsx := SzP.recon HSP.out HSQ.out
        have hra := @recon_amounts p q
        obtain ⟨x, y, n, er, hr⟩ : ∃ x y n er, reconC p q = (x, y, n, er) := ⟨_, _, _, _, rfl⟩
        rw [hr] at hx hy hsx hra ⊢
        dsimp only at hx hy hsx hra ⊢
        have HS := Lib.hid (show Small44 x.ours ∧ Small44 y.thr ∧ Small44 y.ours ∧ Small44 x.thr from ⟨hsx.1.so (by omega), hsx.2.st (by omega), hsx.2.so (by omega), hsx.1.st (by omega)⟩)
        have HRA := Lib.hid hra
        obtain ⟨wb, hwb⟩ : ∃ W', (w9.alloc (.cells #[.string x.nm, .int .i64 x.out, .int .i64 x.inn, .slice p1 x.wt.length s1, .slice p2 x.ours.length s2, .slice p3 x.thr.length s3] 29)).alloc (.cells #[.string y.nm, .int .i64 y.out, .int .i64 y.inn, .slice o1 y.wt.length q1, .slice o2 y.ours.length q2, .slice o3 y.thr.length q3] 29) = W' := ⟨_, rfl⟩
        have hba : Below w9.heap.size w9 wb := by rw [← hwb]; exact bl_alloc (bl_alloc (Below.refl _ _) _) _
        have HX := Lib.hid (show OB1 x (.slice p1 x.wt.length s1) (.slice p2 x.ours.length s2) (.slice p3 x.thr.length s3) w9.heap.size wb from by rw [← hwb]; exact OB1.mk0 hx)
        have HY := Lib.hid (show OB1 y (.slice o1 y.wt.length q1) (.slice o2 y.ours.length q2) (.slice o3 y.thr.length q3) (w9.heap.size + 1) wb from by rw [← hwb]; exact OB1.mk1 hy)
        have HBW := Lib.hid (bl_trans HB9.out hba)
        have HCL := Lib.hid (show SlIs tRec (· < wb.heap.size) wb (.slice ap p.ours.length cp) p.ours from HP.out.ok.ours.step (bl_trans hb9' hba))
        have HCM := Lib.hid (show SlIs tRec (· < wb.heap.size) wb (.slice aq q.ours.length cq) q.ours from HQ.out.ok.ours.step (bl_trans hb9' hba))
        have HFP := Lib.hid (show p.ours.length ≤ 1000 ∧ (∀ r ∈ p.ours, FitR r) ∧ q.ours.length ≤ 1000 ∧ (∀ r ∈ q.ours, FitR r) from ⟨by omega, HSP.out.fo, by omega, HSQ.out.fo⟩)
        clear he hb9 hb9' hx hy hr hsx hra hba HB9 HP HQ HSP HSQ HBX i0 i1 i2 i3 i4 i5 if' j0 j1 j2 j3 j4 j5 jf
        by_cases z1 : er ≠ 0
        · have z1' : (er != 0) = true := by simpa using z1
          clear z1
          go_wp2_with (fail)
          (try rw [hwb])
          refine (awake44_any _).mono ?_
          rintro e wz ⟨rfl, hbz⟩
          have HZ := Lib.hid (bl_trans HBW.out hbz)
          clear hbz hwb
          go_wp2_with (fail)
          go_ret
          exact ⟨rfl, HZ.out⟩
        obtain rfl : er = 0 := by omega
        have z1' : ((0 : Int) != 0) = false := by decide
        clear z1
        have HAM := Lib.hid (HRA.out rfl)
        clear HRA
        obtain ⟨bX, hbX⟩ : ∃ k, w9.heap.size = k := ⟨_, rfl⟩
        rw [hbX] at HX HY
        go_upto_region 22 with (fail)
        (try rw [hwb])
        (try rw [hbX])
        clear hwb hbX
        go_wp2_with (fail)
        go_loopg [17] (p).ours.length (fun g i wr => ∃ k : Nat, k + g = (p).ours.length ∧ i = .int .i64 k ∧ Below wb.heap.size wb wr)
        case atStart => exact ⟨0, by omega, rfl, by first | exact Below.refl _ _ | exact hbq⟩
        case round =>
          obtain ⟨k, hk, rfl, hb⟩ := hrel
          by_cases hlt : k < (p).ours.length
          · have k0 : (0 : Int) ≤ (k : Int) := by omega
            have k1 : (k : Int) < ((p).ours.length : Int) := by omega
            obtain ⟨ao', co', bc, oc, hv, hl3, hm3, hcl⟩ := rec_open HCL.out
            injection hv with hv1 hv2 hv3
            obtain ⟨hao, -, -, -, -, cK, -⟩ := hcl wr (.of_below hb) k hlt
            rw [hao] at hv1
            subst hv1
            subst hv3
            obtain ⟨y', hy'⟩ : ∃ y', ((p).ours[k]).key = y' := ⟨_, rfl⟩
            rw [hy'] at cK
            clear hy' hv2 hl3 hm3 hcl hao
            obtain ⟨i0, i1, i2, i3, i4, i5, if'⟩ := blk6' (HY.out.step hb).bx
            have HA1 := Lib.hid (fun n => (amount_any (p).ours y' _ (wr.drewN n) (HCL.out.step (bl_drewN hb n)) HFP.out.1 HFP.out.2.1).mono (fun e w' h => (⟨h.1, h.2.symm⟩ : e = _ ∧ w' = wr.drewN n)))
            have HA2 := Lib.hid (fun n => (amount_any (y).thr y' _ (wr.drewN n) ((HY.out.step (bl_drewN hb n)).ok.thr) HS.out.2.1.1 HS.out.2.1.2).mono (fun e w' h => (⟨h.1, h.2.symm⟩ : e = _ ∧ w' = wr.drewN n)))
            have hae := HAM.out.2.1 y'
            rw [hae] at HA2
            have hzz : (amountC (p).ours y' != amountC (p).ours y') = false := by simp
            generalize amountC (p).ours y' = z at HA1 HA2 hzz
            clear hae
            have HB := Lib.hid hb
            clear hb
            go_wp2_with (go_quiet ((go_at_call 16; first | with_reducible exact Calls.quiet_of_same (HA1.out _) | with_reducible exact Calls.quiet_of_same (HA2.out _))))
            go_roundg ((p).ours.length - (k + 1))
            case measure => omega
            case rel => exact ⟨k + 1, by omega, by go_num, bl_drewN HB.out _⟩
          · have hkl : ¬ (k : Int) < ((p).ours.length : Int) := by omega
            clear hlt hk
            have hbq := hb
            clear hb
            go_wp2_with (fail)
            go_loopg [18] (q).ours.length (fun g i wr => ∃ k : Nat, k + g = (q).ours.length ∧ i = .int .i64 k ∧ Below wb.heap.size wb wr)
            case atStart => exact ⟨0, by omega, rfl, by first | exact Below.refl _ _ | exact hbq⟩
            case round =>
              obtain ⟨k, hk, rfl, hb⟩ := hrel
              by_cases hlt : k < (q).ours.length
              · have k0 : (0 : Int) ≤ (k : Int) := by omega
                have k1 : (k : Int) < ((q).ours.length : Int) := by omega
                obtain ⟨ao', co', bc, oc, hv, hl3, hm3, hcl⟩ := rec_open HCM.out
                injection hv with hv1 hv2 hv3
                obtain ⟨hao, -, -, -, -, cK, -⟩ := hcl wr (.of_below hb) k hlt
                rw [hao] at hv1
                subst hv1
                subst hv3
                obtain ⟨y', hy'⟩ : ∃ y', ((q).ours[k]).key = y' := ⟨_, rfl⟩
                rw [hy'] at cK
                clear hy' hv2 hl3 hm3 hcl hao
                obtain ⟨i0, i1, i2, i3, i4, i5, if'⟩ := blk6' (HX.out.step hb).bx
                have HA1 := Lib.hid (fun n => (amount_any (q).ours y' _ (wr.drewN n) (HCM.out.step (bl_drewN hb n)) HFP.out.2.2.1 HFP.out.2.2.2).mono (fun e w' h => (⟨h.1, h.2.symm⟩ : e = _ ∧ w' = wr.drewN n)))
                have HA2 := Lib.hid (fun n => (amount_any (x).thr y' _ (wr.drewN n) ((HX.out.step (bl_drewN hb n)).ok.thr) HS.out.2.2.2.1 HS.out.2.2.2.2).mono (fun e w' h => (⟨h.1, h.2.symm⟩ : e = _ ∧ w' = wr.drewN n)))
                have hae := HAM.out.2.2 y'
                rw [hae] at HA2
                have hzz : (amountC (q).ours y' != amountC (q).ours y') = false := by simp
                generalize amountC (q).ours y' = z at HA1 HA2 hzz
                clear hae
                have HB := Lib.hid hb
                clear hb
                go_wp2_with (go_quiet ((go_at_call 16; first | with_reducible exact Calls.quiet_of_same (HA1.out _) | with_reducible exact Calls.quiet_of_same (HA2.out _))))
                go_roundg ((q).ours.length - (k + 1))
                case measure => omega
                case rel => exact ⟨k + 1, by omega, by go_num, bl_drewN HB.out _⟩
              · have hkl : ¬ (k : Int) < ((q).ours.length : Int) := by omega
                clear hlt hk
                have hbq := hb
                clear hb
                have HBQ := Lib.hid hbq
                clear hbq
                obtain ⟨i0, i1, i2, i3, i4, i5, if'⟩ := blk6' (HX.out.step HBQ.out).bx
                obtain ⟨j0, j1, j2, j3, j4, j5, jf⟩ := blk6' (HY.out.step HBQ.out).bx
                go_wp2_with (fail)
                refine (agree_any x y _ _ _ _ _ _ _ (HX.out.step HBQ.out).ok (HY.out.step HBQ.out).ok HS.out.1 HS.out.2.1 HS.out.2.2.1 HS.out.2.2.2).mono ?_
                rw [HAM.out.1]
                rintro e wy ⟨rfl, hby⟩
                have HBY := Lib.hid (bl_trans (bl_trans HBW.out HBQ.out) hby)
                clear hby i0 i1 i2 i3 i4 i5 if' j0 j1 j2 j3 j4 j5 jf
                go_wp2_with (fail)
                refine (awake44_any _).mono ?_
                rintro e wz ⟨rfl, hbz⟩
                have HZ := Lib.hid (bl_trans HBY.out hbz)
                clear hbz
                go_wp2_with (fail)
                go_ret
                exact ⟨rfl, HZ.out⟩
set_option maxRecDepth 100000 in
theorem changed_lift (os : Os) (started : os.Started) (H : Type) (enc : TypeId × Value → H) :
    ReturnsInHanded {} Tryz.checked os 4 .any (Rows.reconChangedSpec.pre6 enc Tryz.prog Tryz.f4 Rows.reconChangedRow.domain false) (Rows.reconChangedSpec.post enc Tryz.prog Tryz.f4 false true false false) :=
  law_lift (C := Tryz.checked) (s := Rows.reconChangedSpec) (fn := Tryz.f4) ⟨rfl, fun H ds h => by
    match ds, h with
    | [a, b, c], _ => exact ⟨rfl, rfl, rfl⟩⟩ rfl Tryz.underlying4 (by kernel_rfl) laid0 own0 started (by kernel_rfl) Tryz.func4
    (ChangeSpec.witness6 (enc := enc) (C := Tryz.checked) false ⟨#[], #[.slice none 0 0, .slice none 0 0, .int .u8 0], []⟩ 8 (by kernel_rfl) (by kernel_rfl) (by kernel_rfl) (by kernel_rfl)) changed_walk

/-- THE STATEMENT: ReconChanged. -/
theorem changed_holds : Rows.ReconChangedSaid :=
  OpenClaim.holds_of_wide 4 Tryz.f4 rfl rfl rfl rfl rfl rfl rfl ⟨rfl, rfl, rfl, rfl, rfl⟩ rfl rfl rfl rfl rfl (by kernel_rfl) Tryz.func4 (by kernel_rfl)
    (of_decide_eq_true (by kernel_rfl)) (by unfold Func.isWrapper; rw [if_neg (of_decide_eq_false (by kernel_rfl))]; exact ⟨rfl, rfl⟩)
    (fun os started H enc _ => changed_lift os started H enc)
end Go.Proofs.YtmjbbpappigngaaGreat
