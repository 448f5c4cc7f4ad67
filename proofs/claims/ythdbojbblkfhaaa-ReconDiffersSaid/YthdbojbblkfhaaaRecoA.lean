/-
  Layer 44 (recon): the walks of Agree, Settle, rec.
-/
import Derived.Test.YthdbojbblkfhaaaRecoC
import Derived.Test.YthdbojbblkfhaaaExcClaims
namespace Go.Proofs.Ythdbojbblkfhaaa
open Go.RowKit Go.Tw Go.Tw.Exc
set_option maxHeartbeats 1000000 in
theorem rec44_any (k c : Int) (s : ByteArray) (w : World) :
    Calls Try.prog 58 #[.int .i64 k, .string s, .int .i64 c] w fun e w' => e = .returned (.agg #[.int .i64 k, .string s, .int .i64 0, .int .i64 c, .int .i64 0]) ∧ Below w.heap.size w w' := by
  go_enter Try.func58, Try.ntmps58
  go_wp2_with (fail)
  refine bodyPost_ret (v := .agg #[.int .i64 k, .string s, .int .i64 0, .int .i64 c, .int .i64 0]) (by simp [results, Try.results58, go_sem]) rfl ⟨rfl, ?_⟩
  (repeat (first | (with_reducible exact Below.refl _ _) | (with_reducible apply bl_drewN) | (with_reducible apply bl_alloc) | ((with_reducible refine bl_set ?_ _ ?_); rotate_left; focus (first | exact Nat.le_refl _ | (simp; done) | (simp; omega)))))
noncomputable def agreeC (a b : Par) : Bool := decide ((differC a.ours b.thr).length = 0) && decide ((differC b.ours a.thr).length = 0)
set_option maxRecDepth 100000 in
set_option maxHeartbeats 2000000 in
theorem agree_any (a b : Par) (a1 a2 a3 b1 b2 b3 : Value) (w : World) (ha : ParOk (· < w.heap.size) w a a1 a2 a3) (hb : ParOk (· < w.heap.size) w b b1 b2 b3) (s1 : Small44 a.ours) (s2 : Small44 b.thr) (s3 : Small44 b.ours) (s4 : Small44 a.thr) :
    Calls Try.prog 38 #[.agg #[.string a.nm, .int .i64 a.out, .int .i64 a.inn, a1, a2, a3], .agg #[.string b.nm, .int .i64 b.out, .int .i64 b.inn, b1, b2, b3]] w
      fun e w' => e = .returned (.bool (agreeC a b)) ∧ Below w.heap.size w w' := by
  have HA := Lib.hid ha
  have HB := Lib.hid hb
  obtain ⟨x1, y1, _, _, rfl, -⟩ := id ha.wt
  obtain ⟨x2, y2, _, _, rfl, -⟩ := id ha.ours
  obtain ⟨x3, y3, _, _, rfl, -⟩ := id ha.thr
  obtain ⟨z1, e1, _, _, rfl, -⟩ := id hb.wt
  obtain ⟨z2, e2, _, _, rfl, -⟩ := id hb.ours
  obtain ⟨z3, e3, _, _, rfl, -⟩ := id hb.thr
  have HS := Lib.hid (And.intro (And.intro s1 s2) (And.intro s3 s4))
  have HB2 := Lib.hid (show Below w.heap.size w ((w.alloc (.cells #[.string a.nm, .int .i64 a.out, .int .i64 a.inn, .slice x1 a.wt.length y1, .slice x2 a.ours.length y2, .slice x3 a.thr.length y3] 25)).alloc (.cells #[.string b.nm, .int .i64 b.out, .int .i64 b.inn, .slice z1 b.wt.length e1, .slice z2 b.ours.length e2, .slice z3 b.thr.length e3] 25)) from bl_alloc (bl_alloc (Below.refl _ _) _) _)
  clear ha hb s1 s2 s3 s4
  go_enter Try.func38, Try.ntmps38
  go_wp2_with (fail)
  refine (differ_any a b _ _ _ _ _ _ _ (HA.out.step HB2.out) (HB.out.step HB2.out) HS.out.1.1 HS.out.1.2).mono ?_
  rintro e w2 ⟨⟨v, rfl, ho⟩, hb2⟩
  obtain ⟨av, cv, rfl, -, -⟩ := ho.form
  have m0 := Go.Tw.Below.at_old hb2 (alloc2_0 w _ _)
  have m1 := Go.Tw.Below.at_old hb2 (alloc2_1 w _ _)
  have HB3 := Lib.hid (bl_trans HB2.out hb2)
  obtain ⟨c0, c1, c2, c3, c4, c5, cf⟩ := blk6' m0
  obtain ⟨d0, d1, d2, d3, d4, d5, df⟩ := blk6' m1
  obtain ⟨n, hn⟩ : ∃ n, (differC a.ours b.thr).length = n := ⟨_, rfl⟩
  rw [hn]
  have HN := Lib.hid hn
  clear hb2 ho m0 m1 hn HB2
  by_cases hz : n = 0
  · have hz1 : ((n : Int) == 0) = true := by simp; omega
    have HZ := Lib.hid hz
    clear hz
    go_wp2_with (fail)
    refine (differ_any b a _ _ _ _ _ _ _ (HB.out.step HB3.out) (HA.out.step HB3.out) HS.out.2.1 HS.out.2.2).mono ?_
    rintro e w3 ⟨⟨v, rfl, ho⟩, hb3⟩
    obtain ⟨av2, cv2, rfl, -, -⟩ := ho.form
    have HB4 := Lib.hid (bl_trans HB3.out hb3)
    obtain ⟨n2, hn2⟩ : ∃ n, (differC b.ours a.thr).length = n := ⟨_, rfl⟩
    rw [hn2]
    have HR := Lib.hid (show agreeC a b = ((n2 : Int) == 0) by
      unfold agreeC
      rw [HN.out, hn2, HZ.out]
      by_cases q : n2 = 0
      · subst q; rfl
      · have q2 : ¬ (n2 : Int) = 0 := by omega
        simp [q, q2])
    clear hb3 ho hn2
    go_wp2_with (fail)
    go_ret
    exact ⟨ret_bool HR.out, HB4.out⟩
  · have hz1 : ((n : Int) == 0) = false := by simp; omega
    have HR := Lib.hid (show agreeC a b = false by
      unfold agreeC
      rw [HN.out, decide_eq_false hz]; rfl)
    clear hz
    go_wp2_with (fail)
    go_ret
    exact ⟨ret_bool HR.out, HB3.out⟩
theorem fits44 {n : Int} (h1 : -1125899906842624 ≤ n) (h2 : n ≤ 1125899906842624) : fits n = true := by
  unfold fits
  simp
  omega
set_option maxRecDepth 100000 in
set_option maxHeartbeats 2000000 in
theorem settle_yes (p : Par) (vw vo vt : Value) (w : World) (h : ParOk (· < w.heap.size) w p vw vo vt) (s1 : Small44 p.ours) (s2 : Small44 p.thr) (f1 : fits (claimC p.ours) = true) (f2 : fits (claimC p.thr) = true) (f3 : fits (claimC p.ours - claimC p.thr) = true) (hi : i64ok (claimC p.ours - claimC p.thr)) :
    Calls Try.prog 59 #[.agg #[.string p.nm, .int .i64 p.out, .int .i64 p.inn, vw, vo, vt]] w fun e w' => e = .returned (.tuple #[.int .i64 (claimC p.ours - claimC p.thr), .int .i64 0]) ∧ Below w.heap.size w w' := by
  have HP := Lib.hid h
  obtain ⟨x1, y1, _, _, rfl, -⟩ := id h.wt
  obtain ⟨x2, y2, _, _, rfl, -⟩ := id h.ours
  obtain ⟨x3, y3, _, _, rfl, -⟩ := id h.thr
  have HS := Lib.hid (And.intro s1 s2)
  obtain ⟨c1, hc1⟩ : ∃ c, claimC p.ours = c := ⟨_, rfl⟩
  obtain ⟨c2, hc2⟩ : ∃ c, claimC p.thr = c := ⟨_, rfl⟩
  rw [hc1, hc2] at f3 hi ⊢
  rw [hc1] at f1
  rw [hc2] at f2
  have HC := Lib.hid (And.intro hc1 hc2)
  have g1 : IntKind.i64.wrap (c1 - c2) = c1 - c2 := by unfold i64ok at hi; exact wrap_in (by omega) (by omega)
  have HF1 := Lib.hid (show ∀ W', Calls Try.prog 76 #[.int .i64 c1] W' fun e w' => e = .returned (.bool true) ∧ W' = w' from fun W' => by rw [← f1]; exact fits_any c1 W')
  have HF2 := Lib.hid (show ∀ W', Calls Try.prog 76 #[.int .i64 c2] W' fun e w' => e = .returned (.bool true) ∧ W' = w' from fun W' => by rw [← f2]; exact fits_any c2 W')
  have HF3 := Lib.hid (show ∀ W', Calls Try.prog 76 #[.int .i64 (c1 - c2)] W' fun e w' => e = .returned (.bool true) ∧ W' = w' from fun W' => by rw [← f3]; exact fits_any (c1 - c2) W')
  clear h s1 s2 f1 f2 f3 hi hc1 hc2
  go_enter Try.func59, Try.ntmps59
  go_wp2_with (fail)
  refine (claims_any p _ _ _ _ (HP.out.step (bl_alloc (Below.refl _ _) _)) HS.out.1.1 HS.out.2.1 HS.out.1.2 HS.out.2.2).mono ?_
  rintro e w2 ⟨rfl, hb2⟩
  have HB := Lib.hid (bl_trans (bl_alloc (Below.refl w.heap.size w) _) hb2)
  rw [HC.out.1, HC.out.2]
  clear hb2
  go_wp2_with (fail)
  refine (HF1.out _).mono ?_
  rintro e w3 ⟨rfl, rfl⟩
  go_wp2_with (fail)
  refine (HF2.out _).mono ?_
  rintro e w3 ⟨rfl, rfl⟩
  go_wp2_with (fail)
  refine (HF3.out _).mono ?_
  rintro e w3 ⟨rfl, rfl⟩
  go_wp2_with (fail)
  go_ret2
  exact ⟨rfl, HB.out⟩
end Go.Proofs.Ythdbojbblkfhaaa
