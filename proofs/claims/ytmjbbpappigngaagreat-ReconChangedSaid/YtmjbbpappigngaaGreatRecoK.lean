/-
  Layer 44 (recon): the examples (awake).
-/
import Derived.Test.YtmjbbpappigngaaGreatMgJ
import Derived.Test.YtmjbbpappigngaaGreatExcAwake
namespace Go.Tw.Exc
open Go.RowKit Go.Tw
def sA1 : ByteArray := ⟨#[97]⟩
def sB1 : ByteArray := ⟨#[98]⟩
def exR3 : Rec := ⟨1, sK, 0, 300, 0⟩
def exL3 : List Rec := [exR3]
theorem exR3_ok : RecOk exR3 := ⟨(show i64ok 1 by unfold i64ok; decide), (show 1 ≤ maxLen by decide), (show i64ok 0 by unfold i64ok; decide), (show i64ok 300 by unfold i64ok; decide), (show i64ok 0 by unfold i64ok; decide)⟩
def pA1 : Par := ⟨sB1, 0, 0, [], exL, []⟩
def pB1 : Par := ⟨sA1, 0, 0, [], [], exL3⟩
theorem ex_fkeys : fkeys (exL ++ exL3) = [sK] := by
  unfold fkeys exL exL3 exR exR3
  simp
theorem ex_differ : differC exL exL3 = [⟨sK, 500, 300⟩] := by
  have h1 : amountC exL sK = 500 := rfl
  have h2 : amountC exL3 sK = 300 := rfl
  unfold differC keysU
  rw [ex_fkeys]
  simp [ofB_kb, h1, h2]
theorem ex_correct : correctC [⟨sK, 500, 300⟩] = [⟨3, sK, 0, 0, 0⟩, ⟨1, sK, 0, 500, 0⟩] := rfl
end Go.Tw.Exc
namespace Go.Proofs.YtmjbbpappigngaaGreat
open Go.RowKit Go.Tw Go.Tw.Exc
theorem small44_exL : Small44 exL := ⟨by decide, fun r hr => by rw [List.mem_singleton.1 hr]; decide⟩
theorem small44_exL3 : Small44 exL3 := ⟨by decide, fun r hr => by rw [List.mem_singleton.1 hr]; decide⟩
theorem ex_agree : agreeC pA1 pB1 = false := by
  unfold agreeC
  show (decide ((differC exL exL3).length = 0) && _) = false
  rw [ex_differ]
  rfl
theorem exL3_sl (w : World) : SlIs tRec (· < (w.alloc (.cells #[.int .i64 1, .string ⟨#[107]⟩, .int .i64 0, .int .i64 300, .int .i64 0] 49)).heap.size) (w.alloc (.cells #[.int .i64 1, .string ⟨#[107]⟩, .int .i64 0, .int .i64 300, .int .i64 0] 49)) (.slice (some ⟨w.heap.size, 0, none⟩) 1 1) exL3 :=
  SlIs.of_block (css := [recCells exR3]) (l := exL3) (heap_alloc_new _ _) ⟨[], by rfl⟩ ⟨tRec_mk exR3_ok, trivial⟩ (by simp) (by decide) (by decide)
set_option maxRecDepth 100000 in
set_option maxHeartbeats 8000000 in
theorem awake44_any (w : World) : Calls Tryz.prog 7 #[] w fun e w' => e = .returned (.bool true) ∧ Below w.heap.size w w' := by
  go_enter Tryz.func7, Tryz.ntmps7
  go_wp2_with (fail)
  refine (rec44_any 1 500 sK w).mono ?_
  rintro e w1 ⟨rfl, hb1⟩
  have hl := exL_sl w1
  have hbl := bl_alloc (Below.refl w1.heap.size w1) (.cells #[.int .i64 1, .string ⟨#[107]⟩, .int .i64 0, .int .i64 500, .int .i64 0] 49)
  have HL := Lib.hid (show ParOk (· < (w1.alloc (.cells #[.int .i64 1, .string ⟨#[107]⟩, .int .i64 0, .int .i64 500, .int .i64 0] 49)).heap.size) (w1.alloc (.cells #[.int .i64 1, .string ⟨#[107]⟩, .int .i64 0, .int .i64 500, .int .i64 0] 49)) pA1 (.slice none 0 0) (.slice (some ⟨w1.heap.size, 0, none⟩) 1 1) (.slice none 0 0) from
    ⟨(show 1 ≤ maxLen by decide), (show i64ok 0 by unfold i64ok; decide), (show i64ok 0 by unfold i64ok; decide), SlIs.nil, hl, SlIs.nil⟩)
  have HB1 := Lib.hid (bl_trans hb1 hbl)
  clear hl hbl hb1
  go_upto_region 2 with (fail)
  have hxa := alloc2_1 w1 (.cells #[.int .i64 1, .string sK, .int .i64 0, .int .i64 500, .int .i64 0] 49) (.cells #[.string ⟨#[98]⟩, .int .i64 0, .int .i64 0, .slice none 0 0, .slice (some ⟨w1.heap.size, 0, none⟩) 1 1, .slice none 0 0] 29)
  obtain ⟨W2, hW2⟩ : ∃ W, (w1.alloc (.cells #[.int .i64 1, .string sK, .int .i64 0, .int .i64 500, .int .i64 0] 49)).alloc (.cells #[.string ⟨#[98]⟩, .int .i64 0, .int .i64 0, .slice none 0 0, .slice (some ⟨w1.heap.size, 0, none⟩) 1 1, .slice none 0 0] 29) = W := ⟨_, rfl⟩
  have HA := Lib.hid (show ParOk (· < W2.heap.size) W2 pA1 (.slice none 0 0) (.slice (some ⟨w1.heap.size, 0, none⟩) 1 1) (.slice none 0 0) from by rw [← hW2]; exact HL.out.step (bl_alloc (Below.refl _ _) _))
  have HB2 := Lib.hid (show Below w.heap.size w W2 from by rw [← hW2]; exact bl_alloc HB1.out _)
  rw [hW2] at hxa ⊢
  obtain ⟨b1, hb1⟩ : ∃ b, w1.heap.size = b := ⟨_, rfl⟩
  rw [hb1] at hxa HA ⊢
  have HXA := Lib.hid hxa
  clear hW2 hxa HL HB1 hb1
  go_wp2_with (fail)
  refine (rec44_any 1 300 sK W2).mono ?_
  rintro e w3 ⟨rfl, hb3⟩
  have HL3 := Lib.hid (show ParOk (· < (w3.alloc (.cells #[.int .i64 1, .string ⟨#[107]⟩, .int .i64 0, .int .i64 300, .int .i64 0] 49)).heap.size) (w3.alloc (.cells #[.int .i64 1, .string ⟨#[107]⟩, .int .i64 0, .int .i64 300, .int .i64 0] 49)) pB1 (.slice none 0 0) (.slice none 0 0) (.slice (some ⟨w3.heap.size, 0, none⟩) 1 1) from
    ⟨(show 1 ≤ maxLen by decide), (show i64ok 0 by unfold i64ok; decide), (show i64ok 0 by unfold i64ok; decide), SlIs.nil, SlIs.nil, exL3_sl w3⟩)
  go_upto_region 3 with (fail)
  have hxb := alloc2_1 w3 (.cells #[.int .i64 1, .string sK, .int .i64 0, .int .i64 300, .int .i64 0] 49) (.cells #[.string ⟨#[97]⟩, .int .i64 0, .int .i64 0, .slice none 0 0, .slice none 0 0, .slice (some ⟨w3.heap.size, 0, none⟩) 1 1] 29)
  obtain ⟨W4, hW4⟩ : ∃ W, (w3.alloc (.cells #[.int .i64 1, .string sK, .int .i64 0, .int .i64 300, .int .i64 0] 49)).alloc (.cells #[.string ⟨#[97]⟩, .int .i64 0, .int .i64 0, .slice none 0 0, .slice none 0 0, .slice (some ⟨w3.heap.size, 0, none⟩) 1 1] 29) = W := ⟨_, rfl⟩
  have hb4 : Below W2.heap.size W2 W4 := by rw [← hW4]; exact bl_alloc (bl_alloc hb3 _) _
  have HBB := Lib.hid (show ParOk (· < W4.heap.size) W4 pB1 (.slice none 0 0) (.slice none 0 0) (.slice (some ⟨w3.heap.size, 0, none⟩) 1 1) from by rw [← hW4]; exact HL3.out.step (bl_alloc (Below.refl _ _) _))
  have HA4 := Lib.hid (HA.out.step hb4)
  have HXA4 := Lib.hid (Go.Tw.Below.at_old hb4 HXA.out)
  have HB4 := Lib.hid (bl_trans HB2.out hb4)
  rw [hW4] at hxb ⊢
  obtain ⟨b3, hb3'⟩ : ∃ b, w3.heap.size = b := ⟨_, rfl⟩
  rw [hb3'] at hxb HBB ⊢
  have HXB4 := Lib.hid hxb
  clear hW4 hxb HL3 hb3' hb3 hb4 HA HB2 HXA
  obtain ⟨c0, c1, c2, c3, c4, c5, cf⟩ := blk6' HXA4.out
  obtain ⟨d0, d1, d2, d3, d4, d5, df⟩ := blk6' HXB4.out
  go_wp2_with (fail)
  refine (differ_any pA1 pB1 _ _ _ _ _ _ W4 HA4.out HBB.out small44_exL small44_exL3).mono ?_
  rintro e w5 ⟨⟨v5, rfl, ho5⟩, hb5⟩
  have HO5 := Lib.hid (show OwnSl tDif 63 W4.heap.size w5 v5 [⟨sK, 500, 300⟩] from by rw [show [⟨sK, 500, 300⟩] = differC pA1.ours pB1.thr from ex_differ.symm]; exact ho5)
  have HA5 := Lib.hid (HA4.out.step hb5)
  have HB5 := Lib.hid (HBB.out.step hb5)
  have HXA5 := Lib.hid (Go.Tw.Below.at_old hb5 HXA4.out)
  have HXB5 := Lib.hid (Go.Tw.Below.at_old hb5 HXB4.out)
  have HW5 := Lib.hid (bl_trans HB4.out hb5)
  clear ho5 hb5 HA4 HBB HXA4 HXB4 HB4 c0 c1 c2 c3 c4 c5 cf d0 d1 d2 d3 d4 d5 df
  obtain ⟨av, cv, bv, ov, rfl, -, -, hdo⟩ := dif_open HO5.out.sl
  obtain ⟨rfl, -, -, -, q0, q1, q2⟩ := hdo w5 (SameOn.refl _ _) 0 (by decide)
  obtain ⟨c0, c1, c2, c3, c4, c5, cf⟩ := blk6' HXA5.out
  obtain ⟨d0, d1, d2, d3, d4, d5, df⟩ := blk6' HXB5.out
  clear hdo
  simp only [List.length_cons, List.length_nil, Nat.zero_add, Nat.zero_mul, Nat.add_zero, List.getElem_cons_zero] at q0 q1 q2 ⊢
  have hk : sK.toList = [107] := by first | (unfold sK; simp; done) | decide +kernel | (unfold sK; go_simp; done)
  go_wp2_with (fail)
  refine (agree_any pA1 pB1 _ _ _ _ _ _ w5 HA5.out HB5.out small44_exL small44_exL3 small44_nil small44_nil).mono ?_
  rintro e w6 ⟨rfl, hb6⟩
  rw [ex_agree]
  have HA6 := Lib.hid (HA5.out.step hb6)
  have HXA6 := Lib.hid (Go.Tw.Below.at_old hb6 HXA5.out)
  have HO6 := Lib.hid (HO5.out.below hb6)
  have HW6 := Lib.hid (bl_trans HW5.out hb6)
  clear hb6 HA5 HB5 HXA5 HXB5 HO5 HW5 c0 c1 c2 c3 c4 c5 cf d0 d1 d2 d3 d4 d5 df q0 q1 q2
  have HE := Lib.hid (show ∀ W', ParOk (· < W'.heap.size) W' (emp ByteArray.empty) (.slice none 0 0) (.slice none 0 0) (.slice none 0 0) from fun W' => ⟨Nat.zero_le _, (show i64ok 0 by unfold i64ok; decide), (show i64ok 0 by unfold i64ok; decide), SlIs.nil, SlIs.nil, SlIs.nil⟩)
  go_wp2_with (fail)
  refine (agree_any (emp ByteArray.empty) (emp ByteArray.empty) _ _ _ _ _ _ w6 (HE.out w6) (HE.out w6) small44_nil small44_nil small44_nil small44_nil).mono ?_
  rintro e w7 ⟨rfl, hb7⟩
  rw [emp_agree]
  have HA7 := Lib.hid (HA6.out.step hb7)
  have HXA7 := Lib.hid (Go.Tw.Below.at_old hb7 HXA6.out)
  have HO7 := Lib.hid (HO6.out.below hb7)
  have HW7 := Lib.hid (bl_trans HW6.out hb7)
  clear hb7 HA6 HXA6 HO6 HW6 HE
  go_wp2_with (fail)
  refine (correct_any [⟨sK, 500, 300⟩] _ w7 HO7.out.sl (by decide)).mono ?_
  rintro e w8 ⟨⟨v8, rfl, ho8⟩, hb8⟩
  rw [ex_correct] at ho8
  have HC8 := Lib.hid ho8
  have HA8 := Lib.hid (HA7.out.step hb8)
  have HXA8 := Lib.hid (Go.Tw.Below.at_old hb8 HXA7.out)
  have HW8 := Lib.hid (bl_trans HW7.out hb8)
  clear hb8 HA7 HXA7 HO7 HW7 ho8
  obtain ⟨ac, cc, bc, oc, rfl, -, -, hco⟩ := rec_open HC8.out.sl
  have HCO := Lib.hid hco
  clear hco
  obtain ⟨c0, c1, c2, c3, c4, c5, cf⟩ := blk6' HXA8.out
  go_wp2_with (fail)
  refine (settle_yes pA1 _ _ _ w8 HA8.out small44_exL small44_nil (by rw [show claimC pA1.ours = 500 from ex_claim]; decide) (by rw [show claimC pA1.thr = 0 from ex_claim0]; decide) (by rw [show claimC pA1.ours = 500 from ex_claim, show claimC pA1.thr = 0 from ex_claim0]; decide) (by rw [show claimC pA1.ours = 500 from ex_claim, show claimC pA1.thr = 0 from ex_claim0]; unfold i64ok; decide)).mono ?_
  rintro e w9 ⟨rfl, hb9⟩
  rw [show claimC pA1.ours - claimC pA1.thr = 500 by rw [show claimC pA1.ours = 500 from ex_claim, show claimC pA1.thr = 0 from ex_claim0]; rfl]
  have HW9 := Lib.hid (bl_trans HW8.out hb9)
  have HB9 := Lib.hid hb9
  clear hb9 c0 c1 c2 c3 c4 c5 cf HA8 HXA8
  have HEB := Lib.hid (show ∀ W', ParOk (· < W'.heap.size) W' (emp sB1) (.slice none 0 0) (.slice none 0 0) (.slice none 0 0) from fun W' => ⟨(show 1 ≤ maxLen by decide), (show i64ok 0 by unfold i64ok; decide), (show i64ok 0 by unfold i64ok; decide), SlIs.nil, SlIs.nil, SlIs.nil⟩)
  have HEA := Lib.hid (show ∀ W', ParOk (· < W'.heap.size) W' (emp sA1) (.slice none 0 0) (.slice none 0 0) (.slice none 0 0) from fun W' => ⟨(show 1 ≤ maxLen by decide), (show i64ok 0 by unfold i64ok; decide), (show i64ok 0 by unfold i64ok; decide), SlIs.nil, SlIs.nil, SlIs.nil⟩)
  go_wp2_with (fail)
  refine (round_emp sB1 sA1 _ _ _ _ _ _ w9 (HEB.out w9) (HEA.out w9)).mono ?_
  rintro e w10 ⟨⟨u1, k1, u2, k2, u3, k3, g1, h1, g2, h2, g3, h3, rfl, -, -⟩, hb10⟩
  have HW10 := Lib.hid (bl_trans HW9.out hb10)
  have HB10 := Lib.hid (bl_trans HB9.out hb10)
  clear hb10 HW9 HB9
  go_upto_region 9 with (fail)
  have m7 := alloc2_0 w10 (.cells #[.string sB1, .int .i64 0, .int .i64 0, .slice u1 0 k1, .slice u2 0 k2, .slice u3 0 k3] 29) (.cells #[.string sA1, .int .i64 0, .int .i64 0, .slice g1 0 h1, .slice g2 0 h2, .slice g3 0 h3] 29)
  have m8 := alloc2_1 w10 (.cells #[.string sB1, .int .i64 0, .int .i64 0, .slice u1 0 k1, .slice u2 0 k2, .slice u3 0 k3] 29) (.cells #[.string sA1, .int .i64 0, .int .i64 0, .slice g1 0 h1, .slice g2 0 h2, .slice g3 0 h3] 29)
  obtain ⟨wr, hwr⟩ : ∃ W, (w10.alloc (.cells #[.string sB1, .int .i64 0, .int .i64 0, .slice u1 0 k1, .slice u2 0 k2, .slice u3 0 k3] 29)).alloc (.cells #[.string sA1, .int .i64 0, .int .i64 0, .slice g1 0 h1, .slice g2 0 h2, .slice g3 0 h3] 29) = W := ⟨_, rfl⟩
  have hbr : Below w10.heap.size w10 wr := by rw [← hwr]; exact bl_alloc (bl_alloc (Below.refl _ _) _) _
  rw [hwr] at m7 m8 ⊢
  have HWR := Lib.hid (bl_trans HW10.out hbr)
  have HBR := Lib.hid (bl_trans HB10.out hbr)
  obtain ⟨b7, hb7⟩ : ∃ k, w10.heap.size = k := ⟨_, rfl⟩
  rw [hb7] at m7 m8 ⊢
  have M7 := Lib.hid m7
  have M8 := Lib.hid m8
  clear hwr m7 m8 hbr hb7 HW10 HB10
  go_wp2_with (fail)
  refine (reconcile_emp sB1 sA1 _ _ _ _ _ _ _ _ _ _ _ _ wr (HEB.out wr) (HEA.out wr)).mono ?_
  rintro e w11 ⟨⟨v1, p1, v2, p2, v3, p3, r1, l1, r2, l2, r3, l3, rfl⟩, hb11⟩
  have N7 := Lib.hid (Go.Tw.Below.at_old hb11 M7.out)
  have N8 := Lib.hid (Go.Tw.Below.at_old hb11 M8.out)
  have HWN := Lib.hid (bl_trans HWR.out hb11)
  have HBN := Lib.hid (bl_trans HBR.out hb11)
  clear hb11 M7 M8 HWR HBR
  go_upto_region 10 with (fail)
  have hbz := bl_alloc (bl_alloc (Below.refl w11.heap.size w11) (.cells #[.string sB1, .int .i64 0, .int .i64 0, .slice v1 0 p1, .slice v2 0 p2, .slice v3 0 p3] 29)) (.cells #[.string sA1, .int .i64 0, .int .i64 0, .slice r1 0 l1, .slice r2 0 l2, .slice r3 0 l3] 29)
  obtain ⟨wz, hwz⟩ : ∃ W, (w11.alloc (.cells #[.string sB1, .int .i64 0, .int .i64 0, .slice v1 0 p1, .slice v2 0 p2, .slice v3 0 p3] 29)).alloc (.cells #[.string sA1, .int .i64 0, .int .i64 0, .slice r1 0 l1, .slice r2 0 l2, .slice r3 0 l3] 29) = W := ⟨_, rfl⟩
  rw [hwz] at hbz ⊢
  obtain ⟨s0, s1, s2, s3, s4, s5, sf⟩ := blk6' (Go.Tw.Below.at_old hbz N7.out)
  obtain ⟨t0, t1, t2, t3, t4, t5, tf⟩ := blk6' (Go.Tw.Below.at_old hbz N8.out)
  have HWZ := Lib.hid (bl_trans HWN.out hbz)
  obtain ⟨rfl, -, -, -, q0, q1, q2, q3, q4⟩ := HCO.out wz (.of_below (bl_trans HBN.out hbz)) 0 (by decide)
  obtain ⟨-, -, -, -, z0, z1, z2, z3, z4⟩ := HCO.out wz (.of_below (bl_trans HBN.out hbz)) 1 (by decide)
  simp only [Nat.zero_mul, Nat.one_mul, Nat.add_zero, List.getElem_cons_zero, List.getElem_cons_succ] at q0 q1 q2 q3 q4 z0 z1 z2 z3 z4 ⊢
  have hsa : sA1.toList = [97] := by first | (unfold sA1; simp; done) | decide +kernel | (unfold sA1; go_simp; done)
  have hsb : sB1.toList = [98] := by first | (unfold sB1; simp; done) | decide +kernel | (unfold sB1; go_simp; done)
  clear hwz hbz N7 N8 HWN HBN HCO HC8
  go_wp2_with (fail)
  go_ret
  exact ⟨rfl, HWZ.out⟩
end Go.Proofs.YtmjbbpappigngaaGreat
