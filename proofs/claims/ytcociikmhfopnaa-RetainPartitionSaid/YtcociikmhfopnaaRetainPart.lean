/-
  Layer 40 (retain): the law RetainPartition.
-/
import Derived.Test.YtcociikmhfopnaaRetainLaws
import Derived.Test.YtcociikmhfopnaaRetainMore
import Derived.Test.YtcociikmhfopnaaMid
namespace Go.Proofs.Ytcociikmhfopnaa
open Go.RowKit Go.Tw Go.Tw.Retain Go.ChangeShapes Go.WideShapes

theorem sub1 {α : Type} {T : Ty α} {S : Nat → Prop} {w : World} {b off n cap k j : Nat} {l : List α} (h : SlIs T S w (.slice (some ⟨b, off, none⟩) n cap) l) (hk : k < l.length) (hj : j = k * T.sz) : SlIs T S w (.slice (some ⟨b, off + j, none⟩) 1 (cap - k)) [l[k]] := by
  obtain ⟨ao', cap', b', off', hv, h1, h2, h3, h4⟩ := h
  simp only [Value.slice.injEq] at hv
  obtain ⟨rfl, rfl, rfl⟩ := hv
  refine ⟨some ⟨b, off + j, none⟩, cap - k, b, off + j, rfl, by simp; omega, by omega, fun hn => (by cases hn), fun i hi => ?_⟩
  obtain rfl : i = 0 := by simpa using hi
  obtain ⟨g1, g2, g3, cs, g4, g5⟩ := h4 k hk
  simp only [Option.some.injEq, Addr.mk.injEq] at g1
  obtain ⟨rfl, rfl, _⟩ := g1
  refine ⟨rfl, g2, g3, cs, fun i hi => ?_, by simpa using g5⟩
  rw [← g4 i hi, hj]
  congr 2
  omega
/-- one image in the box of the loop -/
theorem untilC_of {l : List Keep} (h : kchkAll l = 0) (im : Img) (c : Int) : untilC l im c = untilV l im c := by unfold untilC; rw [if_neg (by simp [h])]

set_option maxRecDepth 100000 in
set_option maxHeartbeats 4000000 in
theorem part_walk : LawWalk Try.prog 5 Try.f5 := by
  intro H enc W base args ds ps hval hA hsz
  rw [Try.params5] at hA hval
  obtain ⟨v0, v1, v2, d0, d1, d2, p0, p1, p2, rfl, rfl, rfl, h0, h1, h2⟩ := trodAll_three hA
  obtain ⟨cs, ⟨l, ims, cl⟩, rfl, hi⟩ := arg_struct Try.underlying39 opensStore (hval 0 _ _ rfl rfl) h0
  obtain ⟨v, vi, vc, rfl, hp⟩ := store_is hi
  have hw := Way.start hp
  have HP := Lib.hid hp
  clear hi hp
  obtain ⟨t, rfl, ht⟩ := arg_int Try.underlying3 (hval 1 _ _ rfl rfl) h1
  obtain ⟨x, rfl, hx⟩ := arg_int Try.underlying3 (hval 2 _ _ rfl rfl) h2
  clear hA hval h0 h1 h2 hsz ht hx
  go_enter Try.func5, Try.ntmps5
  go_wp2_with (fail)
  refine (great_any l ims cl v vi vc _ hw.args).mono ?_
  rintro e w1 ⟨hb, rfl | ⟨rfl, hs⟩⟩
  · have b1 := (hw.step hb).below
    clear hw hb
    go_wp2_with (go_at_call 9; refine (awake_any _).mono ?_; rintro e w2 ⟨rfl, hb2⟩)
    go_ret
    exact ⟨rfl, bl_trans b1 hb2⟩
  by_cases htx : x < t
  · have b1 := (hw.step hb).below
    have hd : decide (x < t) = true := by simpa using htx
    clear hw hb
    go_wp2_with (go_at_call 9; refine (awake_any _).mono ?_; rintro e w2 ⟨rfl, hb2⟩)
    go_ret
    exact ⟨rfl, bl_trans b1 hb2⟩
  have hd : decide (x < t) = false := by simpa using htx
  obtain ⟨hs1, hs2, hs3, hs4⟩ := hs
  have hbig : ims.length ≤ 1000000 := by omega
  have hH : ∀ im ∈ ims, im.hold.length ≤ 1000000 := fun im h => by have := hs4 im h; omega
  have HH := Lib.hid hH
  clear hs1 hs2 hs3 hs4 hH
  replace hw := hw.step hb
  clear hb
  obtain ⟨c0, c1, c2, cf⟩ := blk3 hw.box
  have hWs : W.heap.size < w1.heap.size := lt_of_heap hw.box
  rcases purge_cases l ims cl t with ⟨e0, he0, hp⟩ | ⟨ok, hT⟩
  · have HE := Lib.hid hp
    have hne : (e0 != 0) = true := by simpa using he0
    clear hp he0
    go_wp2_with (fail)
    refine (Purge_any l ims cl v vi vc t _ hw.args hbig HH.out).mono ?_
    rintro e w2 ⟨va, vb, rfl, hka, hkb, hb⟩
    rw [HE.out] at hka hkb
    rw [HE.out]
    obtain ⟨_, _, _, _, rfl, -⟩ := hka
    obtain ⟨_, _, _, _, rfl, -⟩ := hkb
    have b2 := (hw.step hb).below
    clear c0 c1 c2 cf hWs
    clear hw hb
    go_wp2_with (fail)
    refine (awake_any _).mono ?_
    rintro e w3 ⟨rfl, hb⟩
    go_wp2
    go_ret
    exact ⟨rfl, bl_trans b2 hb⟩
  have HE := Lib.hid (ok.res hT)
  have OK := Lib.hid ok
  have hkg := kept_gone_len l t (ims.zip cl)
  have hzl : (ims.zip cl).length = ims.length := by rw [List.length_zip, ok.len, Nat.min_self]
  have hcl := ok.len
  have hx2 : x < 68719476736 ∨ ¬ x < 68719476736 := Decidable.em _
  have HX := Lib.hid (fun (h : x < 68719476736) => (show purgeC l ims cl x = (keptOf l x (ims.zip cl), goneOf l x (ims.zip cl), 0) from ok.res (by simp only [isT, Bool.and_eq_true, decide_eq_true_eq] at hT ⊢; omega)))
  have HG := Lib.hid (gone_mono (l := l) (t := t) (x := x) (by omega) (ims.zip cl))
  have HKX := Lib.hid (kept_gone_len l x (ims.zip cl))
  clear ok hT
  generalize hz : ims.zip cl = z at *
  have HZ := Lib.hid hz; clear hz
  have HL0 := Lib.hid (And.intro hkg (And.intro hzl hcl))
  clear hkg hzl hcl
  go_wp2_with (fail)
  refine (Purge_any l ims cl v vi vc t _ hw.args hbig HH.out).mono ?_
  rintro e w2 ⟨va, vb, rfl, hA, hB, hb⟩
  rw [HE.out] at hA hB
  rw [HE.out]
  replace hA := newer hA
  replace hB := newer hB
  replace hw := hw.step hb
  clear hb
  clear c0 c1 c2 cf hWs
  obtain ⟨c0, c1, c2, cf⟩ := blk3 hw.box
  have hWs : W.heap.size < w2.heap.size := lt_of_heap hw.box
  obtain ⟨aoi, capi, bi, offi, rfl, hli, hmi, hoi⟩ := img_open hw.args.imgs
  obtain ⟨aoc, capc, bc, offc, rfl, hlc, hmc, hoc⟩ := ints_open hw.args.closed
  obtain ⟨aoa, capa, ba, offa, rfl, hla, hma, hoa⟩ := img_open hA
  obtain ⟨aob, capb, bb, offb, rfl, hlb, hmb, hob⟩ := strs_open hB
  have HO := Lib.hid hoi
  have HC := Lib.hid hoc
  have HKA := Lib.hid hoa
  have HGB := Lib.hid hob
  clear hoi hoc hoa hob
  simp only at hla hlb
  unfold maxLen at hmi hmc hma hmb
  obtain ⟨hkg, hzl, hcl⟩ := HL0.out
  have e1 : ((cl.length : Int) != (ims.length : Int)) = false := by simp; omega
  have e2 : ((((keptOf l t z).length : Int) + ((goneOf l t z).length : Int)) != (ims.length : Int)) = false := by simp; omega
  have e3 : IntKind.i64.wrap (((keptOf l t z).length : Int) + ((goneOf l t z).length : Int)) = ((keptOf l t z).length : Int) + ((goneOf l t z).length : Int) := wrap_in (by omega) (by omega)
  have HL3 := Lib.hid (And.intro hkg (And.intro hzl hcl))
  clear hkg hzl hcl
  have hkg1 : (keptOf l t z).length ≤ 9000000000000000000 := by have := HL3.out; omega
  have hkg2 : (goneOf l t z).length ≤ 9000000000000000000 := by have := HL3.out; omega
  go_wp2_with (fail)
  refine (Purge_any l ims cl v _ _ x _ hw.args hbig HH.out).mono ?_
  rintro e w3 ⟨vc1, vd, rfl, hC, hD, hb⟩
  have B23 := Lib.hid hb
  replace hA := hA.step hb
  replace hB := hB.step hb
  replace hw := hw.step hb
  clear hb
  clear c0 c1 c2 cf hWs
  obtain ⟨c0, c1, c2, cf⟩ := blk3 hw.box
  have hWs : W.heap.size < w3.heap.size := lt_of_heap hw.box
  have HW := Lib.hid hw
  have HAA := Lib.hid hA
  have HBB := Lib.hid hB
  clear hw hA hB
  rcases hx2 with hx2 | hx2
  · have hx2' : decide (x < 68719476736) = true := by simpa using hx2
    rw [HX.out hx2] at hC hD
    rw [HX.out hx2]
    obtain ⟨aoe, cape, be, offe, rfl, hle, hme, -⟩ := img_open hC
    obtain ⟨aof, capf, bf, offf, rfl, hlf, hmf, -⟩ := strs_open hD
    simp only at hle hlf
    unfold maxLen at hme hmf
    have f1 : decide ((goneOf l x z).length < (goneOf l t z).length) = false := by have := HG.out; simp; omega
    have f1n : ¬ (goneOf l x z).length < (goneOf l t z).length := by simpa using f1
    have f2 : decide ((keptOf l t z).length < (keptOf l x z).length) = false := by have := HG.out; have := HKX.out; have := HL3.out.1; simp; omega
    have f2n : ¬ (keptOf l t z).length < (keptOf l x z).length := by simpa using f2
    clear hC hD
    go_wp2
    clear c0 c1 c2 cf hWs
    go_loopg [105, 13, 14] ims.length (fun g' i k g wr => ∃ n : Nat, n + g' = ims.length ∧ i = .int .i64 n ∧ k = .int .i64 ((keptOf l t (z.take n)).length : Nat) ∧ g = .int .i64 ((goneOf l t (z.take n)).length : Nat) ∧ Below w3.heap.size w3 wr)
    case atStart => exact ⟨0, by omega, rfl, rfl, rfl, Below.refl _ _⟩
    case round =>
      obtain ⟨n, hn, rfl, rfl, rfl, hb1⟩ := hrel
      have hw := HW.out.step hb1
      by_cases hlt : n < ims.length
      case neg =>
        have hwb := hw.below
        clear hw
        go_wp2_with (fail)
        refine (awake_any _).mono ?_
        rintro e w9 ⟨rfl, hb⟩
        go_wp2
        go_ret
        exact ⟨rfl, bl_trans hwb hb⟩
      have b2r : Below w2.heap.size w2 wr := B23.out.trans (hb1.mono B23.out.size)
      obtain ⟨rfl, -, hxi, hv, hok, e0, e1', e2', e3', e4⟩ := HO.out wr (.of_below b2r) n hlt
      obtain ⟨rfl, hxc, ec, hcok⟩ := HC.out wr b2r n (by have := HL3.out.2.2; omega)
      obtain ⟨hva, hvc, _, _, rfl, -⟩ := hok.hold
      have hzn : n < z.length := by have := HL3.out.2.1; omega
      have hzg : z[n] = (ims[n], cl[n]'(by have := HL3.out.2.2; omega)) := by
        have := HZ.out
        subst this
        exact List.getElem_zip
      obtain ⟨u1, u2, hu⟩ : ∃ a b, untilV l ims[n] (cl[n]'(by have := HL3.out.2.2; omega)) = (a, b) := ⟨_, _, rfl⟩
      have HU := Lib.hid ((untilC_of OK.out.valid ims[n] (cl[n]'(by have := HL3.out.2.2; omega))).trans hu)
      have hzk : zK l t z[n] = keeps t (u1, u2) := by rw [hzg]; unfold zK; rw [hu]
      have hfree : u2 = 0 → ims[n].hold.length = 0 ∧ 0 ≤ cl[n]'(by have := HL3.out.2.2; omega) := fun h => until_free (l := l) (by rw [hu]; exact h)
      have hzo : okU (u1, u2) = true := by
        have := OK.out.ok z[n] (by rw [HZ.out]; exact List.getElem_mem hzn)
        rw [hzg] at this
        unfold zOk at this
        rwa [hu] at this
      have HF := Lib.hid hfree
      have HZK := Lib.hid hzk
      have HZG := Lib.hid hzg
      have HZO := Lib.hid hzo
      clear hfree hzk hzg hzo hu
      obtain ⟨c0, c1, c2, cf⟩ := blk3 hw.box
      have hWs : W.heap.size < wr.heap.size := lt_of_heap hw.box
      have n0 : (0 : Int) ≤ (n : Int) := by omega
      have n1 : (n : Int) < (cl.length : Int) := by have := HL3.out.2.2; omega
      have hs2 := b2r.size
      have hyi : bi < wr.heap.size := by omega
      have hyc : bc < wr.heap.size := by omega
      let W1 := wr.alloc (.cells #[.string ims[n].id, .int .i64 ims[n].t, .int .i64 ims[n].p, .slice hva ims[n].hold.length hvc, .int .u64 ims[n].dg] 26)
      have b1 : Below wr.heap.size wr W1.drew := (bl_alloc (Below.refl _ _) _).drew
      have okD : ImgOk (· < W1.drew.heap.size) W1.drew ims[n] (.slice hva ims[n].hold.length hvc) := imgOk_widen (box_img hok (.of_below (b1.mono hs2))) (fun j (hj : j < w2.heap.size) => Nat.lt_of_lt_of_le hj (b2r.trans (b1.mono hs2)).size)
      have hlD := hw.args.rules.step b1
      have hwD := hw.step b1
      have hxD : W1.drew.heap[wr.heap.size]? = some (.cells #[.string ims[n].id, .int .i64 ims[n].t, .int .i64 ims[n].p, .slice hva ims[n].hold.length hvc, .int .u64 ims[n].dg] 26 (0, 0)) := alloc1_0 _ _
      have HX1 := Lib.hid hxD
      have HWD := Lib.hid hwD
      have HB1 := Lib.hid b1
      clear hxD hwD b1 hw
      go_wp2_with (fail)
      refine wp_region_mid 8 _ rfl (by kernel_rfl) (by kernel_rfl) ?_
      simp only [List.take_succ_cons, List.take_zero, List.drop_succ_cons, List.drop_zero]
      (repeat still_step)
      refine wpStill_nil ?_
      intro Qm hQm
      go_wp2_with (
        go_at_call 10
        refine (Until_any l v ims[n] _ (cl[n]'(by have := HL3.out.2.2; omega)) _ hlD okD hcok).mono ?_
        rintro e w5 ⟨rfl, hb5⟩
        rw [HU.out])
      (repeat still_step)
      refine wpStill_nil ?_
      all_goals
        have hw5 := HWD.out.step hb5
        have hx5 := Below.at_old hb5 HX1.out
        have b5 := HB1.out.trans (hb5.mono HB1.out.size)
        have HB5 := Lib.hid b5
        clear hb5 c0 c1 c2 cf e0 e1' e2' e3' e4 ec okD hlD b5
        obtain ⟨c0, c1, c2, cf⟩ := blk3 hw5.box
        have hWs5 := lt_of_heap hw5.box
        obtain ⟨d0, d1, d2, d3, d4, df⟩ := blk5 hx5
        have hxs := lt_of_heap hx5
        have HW5 := Lib.hid hw5
        clear hw5 hx5
        rcases Bool.eq_false_or_eq_true (zK l t z[n]) with hk | hk
        · obtain ⟨hki, hkv, hkn, hgn⟩ := keptOf_at hzn hk
          have hkk := HZK.out.symm.trans hk
          have hcase : (u2 == 0) = false ∨ ((u2 == 0) = true ∧ decide (u1 ≤ t) = false) := by
            simp only [keeps, Bool.or_eq_true, Bool.and_eq_true, beq_iff_eq, decide_eq_true_eq] at hkk
            by_cases q : u2 = 0
            · right; simp; omega
            · left; simpa using q
          have HKV := Lib.hid hkv
          have HKN := Lib.hid (And.intro hkn hgn)
          clear hkv hkn hgn hkk
          obtain ⟨rfl, -, hxa, -⟩ := HKA.out w2 (SameOn.refl _ _) _ hki
          have hKm : (keptOf l t (z.take n)).length ≤ 9000000000000000000 := by omega
          have hK1 : IntKind.i64.wrap (((keptOf l t (z.take n)).length : Int) + 1) = ((keptOf l t (z.take n)).length : Int) + 1 := wrap_in (by omega) (by omega)
          have hn1 : IntKind.i64.wrap ((n : Int) + 1) = (n : Int) + 1 := wrap_in (by omega) (by omega)
          have q1 : decide ((keptOf l t z).length ≤ (keptOf l t (z.take n)).length) = false := by simp; omega
          have q2 : (((keptOf l t (z.take n)).length : Int) + 1).toNat = (keptOf l t (z.take n)).length + 1 := by omega
          have q3 : ((n : Int) + 1).toNat = n + 1 := by omega
          have q4 : (0 : Int) ≤ ((keptOf l t (z.take n)).length : Int) + 1 := by omega
          have q5 : (0 : Int) ≤ (n : Int) + 1 := by omega
          have q6 : ¬ capa = (keptOf l t (z.take n)).length := by omega
          have q7 : ¬ capi = n := by omega
          have q8 : ((keptOf l t (z.take n)).length : Int) ≤ ((keptOf l t (z.take n)).length : Int) + 1 := by omega
          have q9 : (n : Int) ≤ (n : Int) + 1 := by omega
          have r1 : ((keptOf l t (z.take n)).length : Int) + 1 ≤ (capa : Int) := by omega
          have r2 : (n : Int) + 1 ≤ (capi : Int) := by omega
          have r3 : (keptOf l t (z.take n)).length + 1 - (keptOf l t (z.take n)).length = 1 := by omega
          have r4 : n + 1 - n = 1 := by omega
          have S1 := sub1 (HAA.out.step (hb1.trans (HB5.out.mono hb1.size))) hki (j := (keptOf l t (z.take n)).length * 5) rfl
          rw [HKV.out, HZG.out] at S1
          have S2 := sub1 HW5.out.args.imgs hlt (j := n * 5) rfl
          have dd : Below w5.heap.size w5 w5.drew := (Below.refl _ _).drew
          have S1D := Lib.hid (S1.step dd)
          have S2D := Lib.hid (S2.step dd)
          clear S1 S2 dd
          rcases hcase with hc1 | ⟨hc1, hc2⟩
          all_goals
            go_wp2_with (fail)
            refine wp_region_mid 16 _ rfl (by kernel_rfl) (by kernel_rfl) ?_
            simp only [List.take_succ_cons, List.take_zero, List.drop_succ_cons, List.drop_zero]
            (repeat still_step)
            refine wpStill_nil ?_
            intro Qm hQm
            go_wp2_with (
              go_at_call 19
              refine (Same_any [ims[n]] _ _ _ S1D.out S2D.out).mono ?_
              rintro e w6 ⟨rfl, hb6⟩)
            (repeat still_step)
            refine wpStill_nil ?_
            go_wp2
            go_roundg (ims.length - (n + 1))
            case measure => omega
            case rel => exact ⟨n + 1, by omega, by go_num, congrArg (Value.int .i64) (by have := HKN.out.1; omega), congrArg (Value.int .i64) (by have := HKN.out.2; omega), ((hb1.trans (HB5.out.mono hb1.size)).drew).trans (hb6.mono ((hb1.trans (HB5.out.mono hb1.size)).drew).size)⟩
        · obtain ⟨hgi, hgv, hgn, hkn⟩ := goneOf_at hzn hk
          have hkk := HZK.out.symm.trans hk
          have hzo := HZO.out
          simp only [keeps, okU, Bool.or_eq_true, Bool.or_eq_false_iff, Bool.and_eq_false_iff, beq_iff_eq, beq_eq_false_iff_ne, decide_eq_false_iff_not] at hkk hzo
          obtain ⟨hf1, hf2⟩ := HF.out (by omega)
          have p1 : (u2 == 0) = true := by simp; omega
          have p2 : decide (u1 ≤ t) = true := by simp; omega
          have p3 : decide (0 < ims[n].hold.length) = false := decide_eq_false (by omega)
          have p4 : decide ((cl[n]'(by have := HL3.out.2.2; omega)) < 0) = false := by simp; omega
          have p5 : decide ((goneOf l t z).length ≤ (goneOf l t (z.take n)).length) = false := by simp; omega
          have b25 : Below w2.heap.size w2 w5 := b2r.trans (HB5.out.mono b2r.size)
          obtain ⟨-, -, ecx, -⟩ := HC.out w5 b25 n (by have := HL3.out.2.2; omega)
          obtain ⟨rfl, -, hxb, ecg, -⟩ := HGB.out w5 (.of_below b25) _ hgi
          rw [hgv, HZG.out] at ecg
          have gm1 : (goneOf l t (z.take n)).length ≤ 9000000000000000000 := by omega
          have g0 : (0 : Int) ≤ ((goneOf l t (z.take n)).length : Int) := by omega
          have g1 : ((goneOf l t (z.take n)).length : Int) < ((goneOf l t z).length : Int) := by omega
          have hy5 : bb < w5.heap.size := by have := b25.size; omega
          have hy6 : bc < w5.heap.size := by have := b25.size; omega
          have HKN := Lib.hid (And.intro hkn hgn)
          clear hgv hkn hgn hkk hzo hf1 hf2
          go_wp2_with (go_quiet (fail))
          go_roundg (ims.length - (n + 1))
          case measure => omega
          case rel => exact ⟨n + 1, by omega, by go_num, congrArg (Value.int .i64) (by have := HKN.out.1; omega), congrArg (Value.int .i64) (by have := HKN.out.2; omega), bl_drewN (hb1.trans (HB5.out.mono hb1.size)) _⟩
  · have hx2' : decide (x < 68719476736) = false := by simpa using hx2
    obtain ⟨aoe, cape, be, offe, rfl, hle, hme, -⟩ := img_open hC
    obtain ⟨aof, capf, bf, offf, rfl, hlf, hmf, -⟩ := strs_open hD
    unfold maxLen at hme hmf
    clear hC hD
    go_wp2
    clear c0 c1 c2 cf hWs
    go_loopg [105, 13, 14] ims.length (fun g' i k g wr => ∃ n : Nat, n + g' = ims.length ∧ i = .int .i64 n ∧ k = .int .i64 ((keptOf l t (z.take n)).length : Nat) ∧ g = .int .i64 ((goneOf l t (z.take n)).length : Nat) ∧ Below w3.heap.size w3 wr)
    case atStart => exact ⟨0, by omega, rfl, rfl, rfl, Below.refl _ _⟩
    case round =>
      obtain ⟨n, hn, rfl, rfl, rfl, hb1⟩ := hrel
      have hw := HW.out.step hb1
      by_cases hlt : n < ims.length
      case neg =>
        have hwb := hw.below
        clear hw
        go_wp2_with (fail)
        refine (awake_any _).mono ?_
        rintro e w9 ⟨rfl, hb⟩
        go_wp2
        go_ret
        exact ⟨rfl, bl_trans hwb hb⟩
      have b2r : Below w2.heap.size w2 wr := B23.out.trans (hb1.mono B23.out.size)
      obtain ⟨rfl, -, hxi, hv, hok, e0, e1', e2', e3', e4⟩ := HO.out wr (.of_below b2r) n hlt
      obtain ⟨rfl, hxc, ec, hcok⟩ := HC.out wr b2r n (by have := HL3.out.2.2; omega)
      obtain ⟨hva, hvc, _, _, rfl, -⟩ := hok.hold
      have hzn : n < z.length := by have := HL3.out.2.1; omega
      have hzg : z[n] = (ims[n], cl[n]'(by have := HL3.out.2.2; omega)) := by
        have := HZ.out
        subst this
        exact List.getElem_zip
      obtain ⟨u1, u2, hu⟩ : ∃ a b, untilV l ims[n] (cl[n]'(by have := HL3.out.2.2; omega)) = (a, b) := ⟨_, _, rfl⟩
      have HU := Lib.hid ((untilC_of OK.out.valid ims[n] (cl[n]'(by have := HL3.out.2.2; omega))).trans hu)
      have hzk : zK l t z[n] = keeps t (u1, u2) := by rw [hzg]; unfold zK; rw [hu]
      have hfree : u2 = 0 → ims[n].hold.length = 0 ∧ 0 ≤ cl[n]'(by have := HL3.out.2.2; omega) := fun h => until_free (l := l) (by rw [hu]; exact h)
      have hzo : okU (u1, u2) = true := by
        have := OK.out.ok z[n] (by rw [HZ.out]; exact List.getElem_mem hzn)
        rw [hzg] at this
        unfold zOk at this
        rwa [hu] at this
      have HF := Lib.hid hfree
      have HZK := Lib.hid hzk
      have HZG := Lib.hid hzg
      have HZO := Lib.hid hzo
      clear hfree hzk hzg hzo hu
      obtain ⟨c0, c1, c2, cf⟩ := blk3 hw.box
      have hWs : W.heap.size < wr.heap.size := lt_of_heap hw.box
      have n0 : (0 : Int) ≤ (n : Int) := by omega
      have n1 : (n : Int) < (cl.length : Int) := by have := HL3.out.2.2; omega
      have hs2 := b2r.size
      have hyi : bi < wr.heap.size := by omega
      have hyc : bc < wr.heap.size := by omega
      let W1 := wr.alloc (.cells #[.string ims[n].id, .int .i64 ims[n].t, .int .i64 ims[n].p, .slice hva ims[n].hold.length hvc, .int .u64 ims[n].dg] 26)
      have b1 : Below wr.heap.size wr W1.drew := (bl_alloc (Below.refl _ _) _).drew
      have okD : ImgOk (· < W1.drew.heap.size) W1.drew ims[n] (.slice hva ims[n].hold.length hvc) := imgOk_widen (box_img hok (.of_below (b1.mono hs2))) (fun j (hj : j < w2.heap.size) => Nat.lt_of_lt_of_le hj (b2r.trans (b1.mono hs2)).size)
      have hlD := hw.args.rules.step b1
      have hwD := hw.step b1
      have hxD : W1.drew.heap[wr.heap.size]? = some (.cells #[.string ims[n].id, .int .i64 ims[n].t, .int .i64 ims[n].p, .slice hva ims[n].hold.length hvc, .int .u64 ims[n].dg] 26 (0, 0)) := alloc1_0 _ _
      have HX1 := Lib.hid hxD
      have HWD := Lib.hid hwD
      have HB1 := Lib.hid b1
      clear hxD hwD b1 hw
      go_wp2_with (fail)
      refine wp_region_mid 8 _ rfl (by kernel_rfl) (by kernel_rfl) ?_
      simp only [List.take_succ_cons, List.take_zero, List.drop_succ_cons, List.drop_zero]
      (repeat still_step)
      refine wpStill_nil ?_
      intro Qm hQm
      go_wp2_with (
        go_at_call 10
        refine (Until_any l v ims[n] _ (cl[n]'(by have := HL3.out.2.2; omega)) _ hlD okD hcok).mono ?_
        rintro e w5 ⟨rfl, hb5⟩
        rw [HU.out])
      (repeat still_step)
      refine wpStill_nil ?_
      all_goals
        have hw5 := HWD.out.step hb5
        have hx5 := Below.at_old hb5 HX1.out
        have b5 := HB1.out.trans (hb5.mono HB1.out.size)
        have HB5 := Lib.hid b5
        clear hb5 c0 c1 c2 cf e0 e1' e2' e3' e4 ec okD hlD b5
        obtain ⟨c0, c1, c2, cf⟩ := blk3 hw5.box
        have hWs5 := lt_of_heap hw5.box
        obtain ⟨d0, d1, d2, d3, d4, df⟩ := blk5 hx5
        have hxs := lt_of_heap hx5
        have HW5 := Lib.hid hw5
        clear hw5 hx5
        rcases Bool.eq_false_or_eq_true (zK l t z[n]) with hk | hk
        · obtain ⟨hki, hkv, hkn, hgn⟩ := keptOf_at hzn hk
          have hkk := HZK.out.symm.trans hk
          have hcase : (u2 == 0) = false ∨ ((u2 == 0) = true ∧ decide (u1 ≤ t) = false) := by
            simp only [keeps, Bool.or_eq_true, Bool.and_eq_true, beq_iff_eq, decide_eq_true_eq] at hkk
            by_cases q : u2 = 0
            · right; simp; omega
            · left; simpa using q
          have HKV := Lib.hid hkv
          have HKN := Lib.hid (And.intro hkn hgn)
          clear hkv hkn hgn hkk
          obtain ⟨rfl, -, hxa, -⟩ := HKA.out w2 (SameOn.refl _ _) _ hki
          have hKm : (keptOf l t (z.take n)).length ≤ 9000000000000000000 := by omega
          have hK1 : IntKind.i64.wrap (((keptOf l t (z.take n)).length : Int) + 1) = ((keptOf l t (z.take n)).length : Int) + 1 := wrap_in (by omega) (by omega)
          have hn1 : IntKind.i64.wrap ((n : Int) + 1) = (n : Int) + 1 := wrap_in (by omega) (by omega)
          have q1 : decide ((keptOf l t z).length ≤ (keptOf l t (z.take n)).length) = false := by simp; omega
          have q2 : (((keptOf l t (z.take n)).length : Int) + 1).toNat = (keptOf l t (z.take n)).length + 1 := by omega
          have q3 : ((n : Int) + 1).toNat = n + 1 := by omega
          have q4 : (0 : Int) ≤ ((keptOf l t (z.take n)).length : Int) + 1 := by omega
          have q5 : (0 : Int) ≤ (n : Int) + 1 := by omega
          have q6 : ¬ capa = (keptOf l t (z.take n)).length := by omega
          have q7 : ¬ capi = n := by omega
          have q8 : ((keptOf l t (z.take n)).length : Int) ≤ ((keptOf l t (z.take n)).length : Int) + 1 := by omega
          have q9 : (n : Int) ≤ (n : Int) + 1 := by omega
          have r1 : ((keptOf l t (z.take n)).length : Int) + 1 ≤ (capa : Int) := by omega
          have r2 : (n : Int) + 1 ≤ (capi : Int) := by omega
          have r3 : (keptOf l t (z.take n)).length + 1 - (keptOf l t (z.take n)).length = 1 := by omega
          have r4 : n + 1 - n = 1 := by omega
          have S1 := sub1 (HAA.out.step (hb1.trans (HB5.out.mono hb1.size))) hki (j := (keptOf l t (z.take n)).length * 5) rfl
          rw [HKV.out, HZG.out] at S1
          have S2 := sub1 HW5.out.args.imgs hlt (j := n * 5) rfl
          have dd : Below w5.heap.size w5 w5.drew := (Below.refl _ _).drew
          have S1D := Lib.hid (S1.step dd)
          have S2D := Lib.hid (S2.step dd)
          clear S1 S2 dd
          rcases hcase with hc1 | ⟨hc1, hc2⟩
          all_goals
            go_wp2_with (fail)
            refine wp_region_mid 16 _ rfl (by kernel_rfl) (by kernel_rfl) ?_
            simp only [List.take_succ_cons, List.take_zero, List.drop_succ_cons, List.drop_zero]
            (repeat still_step)
            refine wpStill_nil ?_
            intro Qm hQm
            go_wp2_with (
              go_at_call 19
              refine (Same_any [ims[n]] _ _ _ S1D.out S2D.out).mono ?_
              rintro e w6 ⟨rfl, hb6⟩)
            (repeat still_step)
            refine wpStill_nil ?_
            go_wp2
            go_roundg (ims.length - (n + 1))
            case measure => omega
            case rel => exact ⟨n + 1, by omega, by go_num, congrArg (Value.int .i64) (by have := HKN.out.1; omega), congrArg (Value.int .i64) (by have := HKN.out.2; omega), ((hb1.trans (HB5.out.mono hb1.size)).drew).trans (hb6.mono ((hb1.trans (HB5.out.mono hb1.size)).drew).size)⟩
        · obtain ⟨hgi, hgv, hgn, hkn⟩ := goneOf_at hzn hk
          have hkk := HZK.out.symm.trans hk
          have hzo := HZO.out
          simp only [keeps, okU, Bool.or_eq_true, Bool.or_eq_false_iff, Bool.and_eq_false_iff, beq_iff_eq, beq_eq_false_iff_ne, decide_eq_false_iff_not] at hkk hzo
          obtain ⟨hf1, hf2⟩ := HF.out (by omega)
          have p1 : (u2 == 0) = true := by simp; omega
          have p2 : decide (u1 ≤ t) = true := by simp; omega
          have p3 : decide (0 < ims[n].hold.length) = false := decide_eq_false (by omega)
          have p4 : decide ((cl[n]'(by have := HL3.out.2.2; omega)) < 0) = false := by simp; omega
          have p5 : decide ((goneOf l t z).length ≤ (goneOf l t (z.take n)).length) = false := by simp; omega
          have b25 : Below w2.heap.size w2 w5 := b2r.trans (HB5.out.mono b2r.size)
          obtain ⟨-, -, ecx, -⟩ := HC.out w5 b25 n (by have := HL3.out.2.2; omega)
          obtain ⟨rfl, -, hxb, ecg, -⟩ := HGB.out w5 (.of_below b25) _ hgi
          rw [hgv, HZG.out] at ecg
          have gm1 : (goneOf l t (z.take n)).length ≤ 9000000000000000000 := by omega
          have g0 : (0 : Int) ≤ ((goneOf l t (z.take n)).length : Int) := by omega
          have g1 : ((goneOf l t (z.take n)).length : Int) < ((goneOf l t z).length : Int) := by omega
          have hy5 : bb < w5.heap.size := by have := b25.size; omega
          have hy6 : bc < w5.heap.size := by have := b25.size; omega
          have HKN := Lib.hid (And.intro hkn hgn)
          clear hgv hkn hgn hkk hzo hf1 hf2
          go_wp2_with (go_quiet (fail))
          go_roundg (ims.length - (n + 1))
          case measure => omega
          case rel => exact ⟨n + 1, by omega, by go_num, congrArg (Value.int .i64) (by have := HKN.out.1; omega), congrArg (Value.int .i64) (by have := HKN.out.2; omega), bl_drewN (hb1.trans (HB5.out.mono hb1.size)) _⟩
set_option maxRecDepth 100000 in
theorem part_lift (os : Os) (started : os.Started) (H : Type) (enc : TypeId × Value → H) :
    ReturnsInHanded {} Try.checked os 5 .any (Rows.retainPartitionSpec.pre6 enc Try.prog Try.f5 Rows.retainPartitionRow.domain false) (Rows.retainPartitionSpec.post enc Try.prog Try.f5 false true false false) :=
  law_lift (C := Try.checked) (s := Rows.retainPartitionSpec) (fn := Try.f5) ⟨rfl, fun H ds h => by
    match ds, h with
    | [a, b, c], _ => exact ⟨rfl, rfl, rfl⟩⟩ rfl Try.underlying4 (by kernel_rfl) laid0 own0 started (by kernel_rfl) Try.func5
    (ChangeSpec.witness6 (enc := enc) (C := Try.checked) false ⟨#[], #[.agg #[.slice none 0 0, .slice none 0 0, .slice none 0 0], .int .i64 0, .int .i64 0], []⟩ 8 (by kernel_rfl) (by kernel_rfl) (by kernel_rfl) (by kernel_rfl)) part_walk

/-- THE STATEMENT: RetainPartition. -/
theorem part_holds : Rows.RetainPartitionSaid :=
  OpenClaim.holds_of_wide 5 Try.f5 rfl rfl rfl rfl rfl rfl rfl ⟨rfl, rfl, rfl, rfl, rfl⟩ rfl rfl rfl rfl rfl (by kernel_rfl) Try.func5 (by kernel_rfl)
    (of_decide_eq_true (by kernel_rfl)) (by unfold Func.isWrapper; rw [if_neg (of_decide_eq_false (by kernel_rfl))]; exact ⟨rfl, rfl⟩)
    (fun os started H enc _ => part_lift os started H enc)
end Go.Proofs.Ytcociikmhfopnaa
