/-
  Layer 44 (recon): the walks of the reference's Agree, of the law's records and small.
-/
import Derived.Test.YthdbojbblkfhaaaRecoH
namespace Go.Proofs.Ythdbojbblkfhaaa
open Go.RowKit Go.Tw Go.Tw.Exc
set_option maxRecDepth 100000 in
set_option maxHeartbeats 2000000 in
theorem agreeR_any (a b : Par) (a1 a2 a3 b1 b2 b3 : Value) (w : World) (ha : ParOk (· < w.heap.size) w a a1 a2 a3) (hb : ParOk (· < w.heap.size) w b b1 b2 b3) (s1 : Small44 a.ours) (s2 : Small44 b.thr) (s3 : Small44 b.ours) (s4 : Small44 a.thr) :
    Calls Try.prog 39 #[.agg #[.string a.nm, .int .i64 a.out, .int .i64 a.inn, a1, a2, a3], .agg #[.string b.nm, .int .i64 b.out, .int .i64 b.inn, b1, b2, b3]] w
      fun e w' => e = .returned (.bool (agreeC a b)) ∧ Below w.heap.size w w' := by
  have HA := Lib.hid ha
  have HB := Lib.hid hb
  obtain ⟨x1, y1, _, _, rfl, -⟩ := id ha.wt
  obtain ⟨x2, y2, _, _, rfl, -⟩ := id ha.ours
  obtain ⟨x3, y3, _, _, rfl, -⟩ := id ha.thr
  obtain ⟨z1, e1, _, _, rfl, -⟩ := id hb.wt
  obtain ⟨z2, e2, _, _, rfl, -⟩ := id hb.ours
  obtain ⟨z3, e3, _, _, rfl, -⟩ := id hb.thr
  have HS := Lib.hid (And.intro (And.intro s1 s2) (And.intro s3 s4))
  have HB2 := Lib.hid (show Below w.heap.size w ((w.alloc (.cells #[.string a.nm, .int .i64 a.out, .int .i64 a.inn, .slice x1 a.wt.length y1, .slice x2 a.ours.length y2, .slice x3 a.thr.length y3] 25)).alloc (.cells #[.string b.nm, .int .i64 b.out, .int .i64 b.inn, .slice z1 b.wt.length e1, .slice z2 b.ours.length e2, .slice z3 b.thr.length e3] 25)) from bl_alloc (bl_alloc (Below.refl _ _) _) _)
  clear ha hb s1 s2 s3 s4
  go_enter Try.func39, Try.ntmps39
  go_wp2_with (fail)
  refine (differR_any a b _ _ _ _ _ _ _ (HA.out.step HB2.out) (HB.out.step HB2.out) HS.out.1.1 HS.out.1.2).mono ?_
  rintro e w2 ⟨⟨v, rfl, ho⟩, hb2⟩
  obtain ⟨av, cv, rfl, -, -⟩ := ho.form
  have m0 := Go.Tw.Below.at_old hb2 (alloc2_0 w _ _)
  have m1 := Go.Tw.Below.at_old hb2 (alloc2_1 w _ _)
  have HB3 := Lib.hid (bl_trans HB2.out hb2)
  obtain ⟨c0, c1, c2, c3, c4, c5, cf⟩ := blk6' m0
  obtain ⟨d0, d1, d2, d3, d4, d5, df⟩ := blk6' m1
  obtain ⟨n, hn⟩ : ∃ n, (differC a.ours b.thr).length = n := ⟨_, rfl⟩
  rw [hn]
  have HN := Lib.hid hn
  clear hb2 ho m0 m1 hn HB2
  by_cases hz : n = 0
  · have hz1 : ((n : Int) == 0) = true := by simp; omega
    have HZ := Lib.hid hz
    clear hz
    go_wp2_with (fail)
    refine (differR_any b a _ _ _ _ _ _ _ (HB.out.step HB3.out) (HA.out.step HB3.out) HS.out.2.1 HS.out.2.2).mono ?_
    rintro e w3 ⟨⟨v, rfl, ho⟩, hb3⟩
    obtain ⟨av2, cv2, rfl, -, -⟩ := ho.form
    have HB4 := Lib.hid (bl_trans HB3.out hb3)
    obtain ⟨n2, hn2⟩ : ∃ n, (differC b.ours a.thr).length = n := ⟨_, rfl⟩
    rw [hn2]
    have HR := Lib.hid (show agreeC a b = ((n2 : Int) == 0) by
      unfold agreeC
      rw [HN.out, hn2, HZ.out]
      by_cases q : n2 = 0
      · subst q; rfl
      · have q2 : ¬ (n2 : Int) = 0 := by omega
        simp [q, q2])
    clear hb3 ho hn2
    go_wp2_with (fail)
    go_ret
    exact ⟨ret_bool HR.out, HB4.out⟩
  · have hz1 : ((n : Int) == 0) = false := by simp; omega
    have HR := Lib.hid (show agreeC a b = false by
      unfold agreeC
      rw [HN.out, decide_eq_false hz]; rfl)
    clear hz
    go_wp2_with (fail)
    go_ret
    exact ⟨ret_bool HR.out, HB3.out⟩
/-- a boolean; where it is true, P holds -/
def SmE (P : Prop) (e : Ending) : Prop := ∃ b, e = .returned (.bool b) ∧ (b = true → P)
set_option maxRecDepth 100000 in
set_option maxHeartbeats 4000000 in
theorem records_any (l : List Rec) (v : Value) (w : World) (h : SlIs tRec (· < w.heap.size) w v l) :
    Calls Try.prog 57 #[v] w fun e w' => SmE (Small44 l) e ∧ Below w.heap.size w w' := by
  obtain ⟨ao, cp, bb, off, rfl, hl1, hl2, ho⟩ := rec_open h
  unfold maxLen at hl2
  have HL := Lib.hid ho
  clear h ho
  go_enter Try.func57, Try.ntmps57
  go_wp2_with (fail)
  go_loopg [3] l.length (fun g i wr => ∃ k : Nat, k + g = l.length ∧ i = .int .i64 k ∧ Hid (∀ j (_ : j < k) (h : j < l.length), -1125899906842624 ≤ l[j].c ∧ l[j].c ≤ 1125899906842624) ∧ Below w.heap.size w wr)
  case atStart => exact ⟨0, by omega, rfl, Lib.hid (fun j h => absurd h (Nat.not_lt_zero _)), Below.refl _ _⟩
  case round =>
    obtain ⟨k, hk, rfl, HI, hb⟩ := hrel
    have HB := Lib.hid hb
    clear hb
    by_cases hlt : k < l.length
    · obtain ⟨rfl, -, -, hok, d0, d1, d2, d3, d4⟩ := HL.out wr (.of_below HB.out) k hlt
      have HX := Lib.hid (show (-1125899906842624 ≤ l[k].c ∧ l[k].c ≤ 1125899906842624) → ∀ j (_ : j < k + 1) (h : j < l.length), -1125899906842624 ≤ l[j].c ∧ l[j].c ≤ 1125899906842624 from fun hx j h1 h2 => by
        by_cases e : j = k
        · subst e; exact hx
        · exact HI.out j (by omega) h2)
      obtain ⟨x, hx⟩ : ∃ x, l[k] = x := ⟨_, rfl⟩
      rw [hx] at d0 d1 d2 d3 d4 HX
      have k0 : (0 : Int) ≤ (k : Int) := by omega
      have k1 : (k : Int) < (l.length : Int) := by omega
      clear hx hok
      by_cases h1 : 1099511627776 < x.c
      · go_wp2_with (fail)
        go_ret
        exact ⟨⟨false, rfl, fun h => by cases h⟩, HB.out⟩
      by_cases h2 : x.c < -1099511627776
      · go_wp2_with (fail)
        go_ret
        exact ⟨⟨false, rfl, fun h => by cases h⟩, HB.out⟩
      have HN := Lib.hid (HX.out ⟨by omega, by omega⟩)
      by_cases h3 : 20 < x.key.size
      · have h3' : (20 : Int) < (x.key.size : Int) := by omega
        go_wp2_with (fail)
        go_ret
        exact ⟨⟨false, rfl, fun h => by cases h⟩, HB.out⟩
      have h3' : ¬ (20 : Int) < (x.key.size : Int) := by omega
      go_wp2_with (fail)
      go_roundg (l.length - (k + 1))
      case measure => omega
      case rel => exact ⟨k + 1, by omega, by go_num, HN, HB.out⟩
    · obtain rfl : k = l.length := by omega
      have hkd : decide ((l.length : Int) < (l.length : Int)) = false := by simp
      have HC := Lib.hid (show ∀ r ∈ l, -1125899906842624 ≤ r.c ∧ r.c ≤ 1125899906842624 from fun r hr => by
        obtain ⟨j, hj, rfl⟩ := List.getElem_of_mem hr
        exact HI.out j hj hj)
      clear hlt hk
      by_cases h4 : l.length ≤ 40
      · have h4' : (l.length : Int) ≤ 40 := by omega
        go_wp2_with (fail)
        go_ret
        exact ⟨⟨true, by first | rfl | (exact ret_bool (by simp; omega)), fun _ => ⟨by omega, HC.out⟩⟩, HB.out⟩
      · have h4' : ¬ (l.length : Int) ≤ 40 := by omega
        go_wp2_with (fail)
        go_ret
        exact ⟨⟨false, by first | rfl | (exact ret_bool (by simp; omega)), fun h => by cases h⟩, HB.out⟩
set_option maxRecDepth 100000 in
set_option maxHeartbeats 4000000 in
theorem small44_any (p : Par) (vw vo vt : Value) (w : World) (h : ParOk (· < w.heap.size) w p vw vo vt) :
    Calls Try.prog 31 #[.agg #[.string p.nm, .int .i64 p.out, .int .i64 p.inn, vw, vo, vt]] w fun e w' => SmE (Small44 p.ours ∧ Small44 p.thr) e ∧ Below w.heap.size w w' := by
  have HP := Lib.hid h
  obtain ⟨x1, y1, _, _, rfl, -⟩ := id h.wt
  obtain ⟨x2, y2, _, _, rfl, -⟩ := id h.ours
  obtain ⟨x3, y3, _, _, rfl, -⟩ := id h.thr
  clear h
  go_enter Try.func31, Try.ntmps31
  go_wp2_with (fail)
  refine (records_any p.ours _ _ (HP.out.ours.step (bl_alloc (Below.refl _ _) _))).mono ?_
  rintro e w2 ⟨⟨b1, rfl, hq1⟩, hb2⟩
  have m0 := Go.Tw.Below.at_old hb2 (alloc1_0 w _)
  have HB2 := Lib.hid (bl_trans (bl_alloc (Below.refl w.heap.size w) _) hb2)
  have HX := Lib.hid m0
  clear hb2 m0
  obtain ⟨c0, c1, c2, c3, c4, c5, cf⟩ := blk6' HX.out
  cases b1
  case false =>
    go_wp2_with (fail)
    go_ret
    exact ⟨⟨false, rfl, fun h => by cases h⟩, HB2.out⟩
  have HQ1 := Lib.hid (hq1 rfl)
  clear hq1
  go_wp2_with (fail)
  refine (records_any p.thr _ _ (HP.out.thr.step HB2.out)).mono ?_
  rintro e w3 ⟨⟨b2, rfl, hq2⟩, hb3⟩
  have HB3 := Lib.hid (bl_trans HB2.out hb3)
  have HX3 := Lib.hid (Go.Tw.Below.at_old hb3 HX.out)
  clear hb3 HX c0 c1 c2 c3 c4 c5 cf
  obtain ⟨c0, c1, c2, c3, c4, c5, cf⟩ := blk6' HX3.out
  cases b2
  case false =>
    go_wp2_with (fail)
    go_ret
    exact ⟨⟨false, rfl, fun h => by cases h⟩, HB3.out⟩
  have HQ2 := Lib.hid (hq2 rfl)
  clear hq2
  go_wp2_with (fail)
  go_ret
  exact ⟨⟨_, rfl, fun _ => ⟨HQ1.out, HQ2.out⟩⟩, HB3.out⟩
end Go.Proofs.Ythdbojbblkfhaaa
