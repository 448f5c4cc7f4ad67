/-
  Layer 44 (recon): the walks of Agree, Settle, rec.
-/
import Derived.Test.YtmjbbpappigngaaGreatRecoC
import Derived.Test.YtmjbbpappigngaaGreatExcClaims
import Derived.Test.YtmjbbpappigngaaGreatExcAck
import Derived.Test.YtmjbbpappigngaaGreatExcKeepP
import Derived.Test.YtmjbbpappigngaaGreatExcSend
namespace Go.Proofs.YtmjbbpappigngaaGreat
open Go.RowKit Go.Tw Go.Tw.Exc
set_option maxHeartbeats 1000000 in
theorem rec44_any (k c : Int) (s : ByteArray) (w : World) :
    Calls Tryz.prog 21 #[.int .i64 k, .string s, .int .i64 c] w fun e w' => e = .returned (.agg #[.int .i64 k, .string s, .int .i64 0, .int .i64 c, .int .i64 0]) ∧ Below w.heap.size w w' := by
  go_enter Tryz.func21, Tryz.ntmps21
  go_wp2_with (fail)
  refine bodyPost_ret (v := .agg #[.int .i64 k, .string s, .int .i64 0, .int .i64 c, .int .i64 0]) (by simp [results, Tryz.results21, go_sem]) rfl ⟨rfl, ?_⟩
  (repeat (first | (with_reducible exact Below.refl _ _) | (with_reducible apply bl_drewN) | (with_reducible apply bl_alloc) | ((with_reducible refine bl_set ?_ _ ?_); rotate_left; focus (first | exact Nat.le_refl _ | (simp; done) | (simp; omega)))))
noncomputable def agreeC (a b : Par) : Bool := decide ((differC a.ours b.thr).length = 0) && decide ((differC b.ours a.thr).length = 0)
set_option maxRecDepth 100000 in
set_option maxHeartbeats 2000000 in
theorem agree_any (a b : Par) (a1 a2 a3 b1 b2 b3 : Value) (w : World) (ha : ParOk (· < w.heap.size) w a a1 a2 a3) (hb : ParOk (· < w.heap.size) w b b1 b2 b3) (s1 : Small44 a.ours) (s2 : Small44 b.thr) (s3 : Small44 b.ours) (s4 : Small44 a.thr) :
    Calls Tryz.prog 17 #[.agg #[.string a.nm, .int .i64 a.out, .int .i64 a.inn, a1, a2, a3], .agg #[.string b.nm, .int .i64 b.out, .int .i64 b.inn, b1, b2, b3]] w
      fun e w' => e = .returned (.bool (agreeC a b)) ∧ Below w.heap.size w w' := by
  have HA := Lib.hid ha
  have HB := Lib.hid hb
  obtain ⟨x1, y1, _, _, rfl, -⟩ := id ha.wt
  obtain ⟨x2, y2, _, _, rfl, -⟩ := id ha.ours
  obtain ⟨x3, y3, _, _, rfl, -⟩ := id ha.thr
  obtain ⟨z1, e1, _, _, rfl, -⟩ := id hb.wt
  obtain ⟨z2, e2, _, _, rfl, -⟩ := id hb.ours
  obtain ⟨z3, e3, _, _, rfl, -⟩ := id hb.thr
  have HS := Lib.hid (And.intro (And.intro s1 s2) (And.intro s3 s4))
  have HB2 := Lib.hid (show Below w.heap.size w ((w.alloc (.cells #[.string a.nm, .int .i64 a.out, .int .i64 a.inn, .slice x1 a.wt.length y1, .slice x2 a.ours.length y2, .slice x3 a.thr.length y3] 29)).alloc (.cells #[.string b.nm, .int .i64 b.out, .int .i64 b.inn, .slice z1 b.wt.length e1, .slice z2 b.ours.length e2, .slice z3 b.thr.length e3] 29)) from bl_alloc (bl_alloc (Below.refl _ _) _) _)
  clear ha hb s1 s2 s3 s4
  go_enter Tryz.func17, Tryz.ntmps17
  go_wp2_with (fail)
  refine (differ_any a b _ _ _ _ _ _ _ (HA.out.step HB2.out) (HB.out.step HB2.out) HS.out.1.1 HS.out.1.2).mono ?_
  rintro e w2 ⟨⟨v, rfl, ho⟩, hb2⟩
  obtain ⟨av, cv, rfl, -, -⟩ := ho.form
  have m0 := Go.Tw.Below.at_old hb2 (alloc2_0 w _ _)
  have m1 := Go.Tw.Below.at_old hb2 (alloc2_1 w _ _)
  have HB3 := Lib.hid (bl_trans HB2.out hb2)
  obtain ⟨c0, c1, c2, c3, c4, c5, cf⟩ := blk6' m0
  obtain ⟨d0, d1, d2, d3, d4, d5, df⟩ := blk6' m1
  obtain ⟨n, hn⟩ : ∃ n, (differC a.ours b.thr).length = n := ⟨_, rfl⟩
  rw [hn]
  have HN := Lib.hid hn
  clear hb2 ho m0 m1 hn HB2
  by_cases hz : n = 0
  · have hz1 : ((n : Int) == 0) = true := by simp; omega
    have HZ := Lib.hid hz
    clear hz
    go_wp2_with (fail)
    refine (differ_any b a _ _ _ _ _ _ _ (HB.out.step HB3.out) (HA.out.step HB3.out) HS.out.2.1 HS.out.2.2).mono ?_
    rintro e w3 ⟨⟨v, rfl, ho⟩, hb3⟩
    obtain ⟨av2, cv2, rfl, -, -⟩ := ho.form
    have HB4 := Lib.hid (bl_trans HB3.out hb3)
    obtain ⟨n2, hn2⟩ : ∃ n, (differC b.ours a.thr).length = n := ⟨_, rfl⟩
    rw [hn2]
    have HR := Lib.hid (show agreeC a b = ((n2 : Int) == 0) by
      unfold agreeC
      rw [HN.out, hn2, HZ.out]
      by_cases q : n2 = 0
      · subst q; rfl
      · have q2 : ¬ (n2 : Int) = 0 := by omega
        simp [q, q2])
    clear hb3 ho hn2
    go_wp2_with (fail)
    go_ret
    exact ⟨ret_bool HR.out, HB4.out⟩
  · have hz1 : ((n : Int) == 0) = false := by simp; omega
    have HR := Lib.hid (show agreeC a b = false by
      unfold agreeC
      rw [HN.out, decide_eq_false hz]; rfl)
    clear hz
    go_wp2_with (fail)
    go_ret
    exact ⟨ret_bool HR.out, HB3.out⟩
theorem fits44 {n : Int} (h1 : -1125899906842624 ≤ n) (h2 : n ≤ 1125899906842624) : fits n = true := by
  unfold fits
  simp
  omega
set_option maxRecDepth 100000 in
set_option maxHeartbeats 2000000 in
theorem settle_yes (p : Par) (vw vo vt : Value) (w : World) (h : ParOk (· < w.heap.size) w p vw vo vt) (s1 : Small44 p.ours) (s2 : Small44 p.thr) (f1 : fits (claimC p.ours) = true) (f2 : fits (claimC p.thr) = true) (f3 : fits (claimC p.ours - claimC p.thr) = true) (hi : i64ok (claimC p.ours - claimC p.thr)) :
    Calls Tryz.prog 19 #[.agg #[.string p.nm, .int .i64 p.out, .int .i64 p.inn, vw, vo, vt]] w fun e w' => e = .returned (.tuple #[.int .i64 (claimC p.ours - claimC p.thr), .int .i64 0]) ∧ Below w.heap.size w w' := by
  have HP := Lib.hid h
  obtain ⟨x1, y1, _, _, rfl, -⟩ := id h.wt
  obtain ⟨x2, y2, _, _, rfl, -⟩ := id h.ours
  obtain ⟨x3, y3, _, _, rfl, -⟩ := id h.thr
  have HS := Lib.hid (And.intro s1 s2)
  obtain ⟨c1, hc1⟩ : ∃ c, claimC p.ours = c := ⟨_, rfl⟩
  obtain ⟨c2, hc2⟩ : ∃ c, claimC p.thr = c := ⟨_, rfl⟩
  rw [hc1, hc2] at f3 hi ⊢
  rw [hc1] at f1
  rw [hc2] at f2
  have HC := Lib.hid (And.intro hc1 hc2)
  have g1 : IntKind.i64.wrap (c1 - c2) = c1 - c2 := by unfold i64ok at hi; exact wrap_in (by omega) (by omega)
  have HF1 := Lib.hid (show ∀ W', Calls Tryz.prog 42 #[.int .i64 c1] W' fun e w' => e = .returned (.bool true) ∧ W' = w' from fun W' => by rw [← f1]; exact fits_any c1 W')
  have HF2 := Lib.hid (show ∀ W', Calls Tryz.prog 42 #[.int .i64 c2] W' fun e w' => e = .returned (.bool true) ∧ W' = w' from fun W' => by rw [← f2]; exact fits_any c2 W')
  have HF3 := Lib.hid (show ∀ W', Calls Tryz.prog 42 #[.int .i64 (c1 - c2)] W' fun e w' => e = .returned (.bool true) ∧ W' = w' from fun W' => by rw [← f3]; exact fits_any (c1 - c2) W')
  clear h s1 s2 f1 f2 f3 hi hc1 hc2
  go_enter Tryz.func19, Tryz.ntmps19
  go_wp2_with (fail)
  refine (claims_any p _ _ _ _ (HP.out.step (bl_alloc (Below.refl _ _) _)) HS.out.1.1 HS.out.2.1 HS.out.1.2 HS.out.2.2).mono ?_
  rintro e w2 ⟨rfl, hb2⟩
  have HB := Lib.hid (bl_trans (bl_alloc (Below.refl w.heap.size w) _) hb2)
  rw [HC.out.1, HC.out.2]
  clear hb2
  go_wp2_with (fail)
  refine (HF1.out _).mono ?_
  rintro e w3 ⟨rfl, rfl⟩
  go_wp2_with (fail)
  refine (HF2.out _).mono ?_
  rintro e w3 ⟨rfl, rfl⟩
  go_wp2_with (fail)
  refine (HF3.out _).mono ?_
  rintro e w3 ⟨rfl, rfl⟩
  go_wp2_with (fail)
  go_ret2
  exact ⟨rfl, HB.out⟩
end Go.Proofs.YtmjbbpappigngaaGreat
/-
  Layer 44 (recon): the walks of deliver (without files), acknowledge, Round (without files).
-/
namespace Go.Proofs.YtmjbbpappigngaaGreat
open Go.RowKit Go.Tw Go.Tw.Exc
/-- a partner, handed back -/
def PV (S : Nat → Prop) (w' : World) (q : Par) (v : Value) : Prop := ∃ u1 u2 u3, v = .agg #[.string q.nm, .int .i64 q.out, .int .i64 q.inn, u1, u2, u3] ∧ ParOk S w' q u1 u2 u3
set_option maxHeartbeats 1000000 in
theorem deliver0_any (p : Par) (x1 x2 x3 : Option Addr) (n1 n2 n3 y1 y2 y3 : Nat) (af : Option Addr) (cf : Nat) (vl : Value) (w : World) :
    Calls Tryz.prog 27 #[.agg #[.string p.nm, .int .i64 p.out, .int .i64 p.inn, .slice x1 n1 y1, .slice x2 n2 y2, .slice x3 n3 y3], .slice af 0 cf, vl] w
      fun e w' => e = .returned (.tuple #[.agg #[.string p.nm, .int .i64 p.out, .int .i64 p.inn, .slice x1 n1 y1, .slice x2 n2 y2, .slice x3 n3 y3], .int .i64 0]) ∧ Below w.heap.size w w' := by
  go_enter Tryz.func27, Tryz.ntmps27
  go_wp2_with (fail)
  have m0 := alloc2_0 w (.cells #[.string p.nm, .int .i64 p.out, .int .i64 p.inn, .slice x1 n1 y1, .slice x2 n2 y2, .slice x3 n3 y3] 29) (.cells #[.string ⟨#[]⟩, .int .i64 0, .int .i64 0, .slice none 0 0, .slice none 0 0, .slice none 0 0] 29)
  have m1 := alloc2_1 w (.cells #[.string p.nm, .int .i64 p.out, .int .i64 p.inn, .slice x1 n1 y1, .slice x2 n2 y2, .slice x3 n3 y3] 29) (.cells #[.string ⟨#[]⟩, .int .i64 0, .int .i64 0, .slice none 0 0, .slice none 0 0, .slice none 0 0] 29)
  obtain ⟨W1, hW1⟩ : ∃ W1, (w.alloc (.cells #[.string p.nm, .int .i64 p.out, .int .i64 p.inn, .slice x1 n1 y1, .slice x2 n2 y2, .slice x3 n3 y3] 29)).alloc (.cells #[.string ⟨#[]⟩, .int .i64 0, .int .i64 0, .slice none 0 0, .slice none 0 0, .slice none 0 0] 29) = W1 := ⟨_, rfl⟩
  have HB := Lib.hid (show Below w.heap.size w W1 by rw [← hW1]; exact bl_alloc (bl_alloc (Below.refl _ _) _) _)
  rw [hW1] at m0 m1 ⊢
  clear hW1
  go_wp2_with (fail)
  go_step3
  go_wp2_with (fail)
  go_step3
  go_wp2_with (fail)
  go_loopg [14] 0 (fun g i wr => g = 0 ∧ i = .int .i64 0 ∧ W1 = wr)
  case atStart => exact ⟨rfl, rfl, rfl⟩
  case round =>
    obtain ⟨-, rfl, rfl⟩ := hrel
    obtain ⟨c0, c1, c2, c3, c4, c5, cf⟩ := blk6' m0
    obtain ⟨d0, d1, d2, d3, d4, d5, df⟩ := blk6' m1
    go_wp2_with (fail)
    unfold Exit.noGoto
    refine bodyPost_ret (v := .tuple #[.agg #[.string p.nm, .int .i64 p.out, .int .i64 p.inn, .slice x1 n1 y1, .slice x2 n2 y2, .slice x3 n3 y3], .int .i64 0]) (by simp [results, Tryz.results27, go_sem, d0, d1, d2, d3, d4, d5]) rfl ⟨rfl, ?_⟩
    (repeat (first | (with_reducible exact HB.out) | (with_reducible apply bl_drewN) | (with_reducible apply bl_alloc) | ((with_reducible refine bl_set ?_ _ ?_); rotate_left; focus (first | exact Nat.le_refl _ | (simp; done) | (simp; omega)))))
set_option maxRecDepth 100000 in
set_option maxHeartbeats 2000000 in
theorem acknowledge_gen (S : Nat → Prop) (p o : Par) (vw vo vt ow oo ot : Value) (w : World) (hsp : ParOk S w p vw vo vt) (hss : ∀ k, S k → k < w.heap.size) (ho : ParOk (· < w.heap.size) w o ow oo ot) (hs : SmallP p) (hi : i64ok (o.inn - 1)) :
    Calls Tryz.prog 28 #[.agg #[.string p.nm, .int .i64 p.out, .int .i64 p.inn, vw, vo, vt], .agg #[.string o.nm, .int .i64 o.out, .int .i64 o.inn, ow, oo, ot]] w
      fun e w' => (∃ v, e = .returned v ∧ PV (fun k => S k ∨ (w.heap.size ≤ k ∧ k < w'.heap.size)) w' (ackC p (o.inn - 1)).1 v) ∧ Below w.heap.size w w' := by
  have h : ParOk (· < w.heap.size) w p vw vo vt := hsp.keep hss (SameOn.refl _ _)
  have HSP := Lib.hid hsp
  have HSS := Lib.hid hss
  have HS := Lib.hid hs
  have HI := Lib.hid hi
  obtain ⟨x1, y1, _, _, rfl, -⟩ := id h.wt
  obtain ⟨x2, y2, _, _, rfl, -⟩ := id h.ours
  obtain ⟨x3, y3, _, _, rfl, -⟩ := id h.thr
  obtain ⟨z1, e1, _, _, rfl, -⟩ := id ho.wt
  obtain ⟨z2, e2, _, _, rfl, -⟩ := id ho.ours
  obtain ⟨z3, e3, _, _, rfl, -⟩ := id ho.thr
  have g1 : IntKind.i64.wrap (o.inn - 1) = o.inn - 1 := by unfold i64ok at hi; exact wrap_in (by omega) (by omega)
  clear h ho hs hi hsp hss
  go_enter Tryz.func28, Tryz.ntmps28
  go_wp2_with (fail)
  refine (ack_gen S p (o.inn - 1) _ _ _ _ (HSP.out.keep (fun _ h => h) (fun k hk => (bl_alloc (bl_alloc (bl_alloc (Below.refl w.heap.size w) _) _) _).block k (HSS.out k hk))) (fun k h => by have := HSS.out k h; simp; omega) HS.out HI.out).mono ?_
  rintro e w2 ⟨he, hb⟩
  have m0 := Go.Tw.Below.at_old hb (alloc3_0 w _ _ _)
  have m1 := Go.Tw.Below.at_old hb (alloc3_1 w _ _ _)
  have m2 := Go.Tw.Below.at_old hb (alloc3_2 w _ _ _)
  have HB := Lib.hid (bl_trans (bl_alloc (bl_alloc (bl_alloc (Below.refl w.heap.size w) _) _) _) hb)
  have hsz : w.heap.size + 3 ≤ w2.heap.size := by have := hb.size; simpa using this
  by_cases hr : o.inn - 1 < 0 ∨ p.out ≤ o.inn - 1
  · have hac := ack_refused hr
    have HAC := Lib.hid hac
    rw [hac] at he
    obtain ⟨v1, v2, v3, rfl, hq⟩ := he
    obtain ⟨q1, f1, _, _, rfl, -⟩ := id hq.wt
    obtain ⟨q2, f2, _, _, rfl, -⟩ := id hq.ours
    obtain ⟨q3, f3, _, _, rfl, -⟩ := id hq.thr
    have HQ := Lib.hid hq
    clear hb hac hq hr
    simp only
    go_upto_region 2 with (fail)
    obtain ⟨wq, hwq⟩ : ∃ wq, w2.alloc (.cells #[.string p.nm, .int .i64 p.out, .int .i64 p.inn, .slice q1 p.wt.length f1, .slice q2 p.ours.length f2, .slice q3 p.thr.length f3] 29) = wq := ⟨_, rfl⟩
    have hbq : Below w2.heap.size w2 wq := by rw [← hwq]; exact bl_alloc (Below.refl _ _) _
    have h5 := alloc1_0 w2 (.cells #[.string p.nm, .int .i64 p.out, .int .i64 p.inn, .slice q1 p.wt.length f1, .slice q2 p.ours.length f2, .slice q3 p.thr.length f3] 29)
    rw [hwq] at h5 ⊢
    have HBQ := Lib.hid (bl_trans HB.out hbq)
    have HQQ := Lib.hid (HQ.out.keep (S' := fun k => S k ∨ (w.heap.size + 3 ≤ k ∧ k < wq.heap.size)) (w' := wq) (fun k hk => by
      have := hbq.size
      rcases hk with h | h
      · exact .inl h
      · have h1 := h.1
        simp only [World.size_alloc] at h1
        exact .inr ⟨by omega, by omega⟩) (fun k hk => hbq.block k (by
      rcases hk with h | h
      · have := HSS.out k h; omega
      · exact h.2)))
    obtain ⟨c0, c1, c2, c3, c4, c5, cf⟩ := blk6' (Go.Tw.Below.at_old hbq m0)
    obtain ⟨d0, d1, d2, d3, d4, d5, df⟩ := blk6' (Go.Tw.Below.at_old hbq m2)
    obtain ⟨s0, s1, s2, s3, s4, s5, sf⟩ := blk6' h5
    clear hwq hbq h5 m0 m1 m2
    go_wp2_with (fail)
    refine bodyPost_ret (v := .agg #[.string p.nm, .int .i64 p.out, .int .i64 p.inn, .slice x1 p.wt.length y1, .slice x2 p.ours.length y2, .slice x3 p.thr.length y3]) (by simp [results, Tryz.results28, go_sem, d0, d1, d2, d3, d4, d5]) rfl ⟨⟨_, rfl, by rw [HAC.out]; exact ⟨_, _, _, rfl, HSP.out.keep (fun _ h => .inl h) (fun k hk => (show Below w.heap.size w _ from by (repeat (first | (with_reducible exact HBQ.out) | (with_reducible apply bl_drewN) | (with_reducible apply bl_alloc) | ((with_reducible refine bl_set ?_ _ ?_); rotate_left; focus (first | exact Nat.le_refl _ | (simp; done) | (simp; omega)))))).block k (HSS.out k hk))⟩⟩, ?_⟩
    (repeat (first | (with_reducible exact HBQ.out) | (with_reducible apply bl_drewN) | (with_reducible apply bl_alloc) | ((with_reducible refine bl_set ?_ _ ?_); rotate_left; focus (first | exact Nat.le_refl _ | (simp; done) | (simp; omega)))))
  · have hac := ack_yes hr
    have HAC := Lib.hid hac
    rw [hac] at he
    obtain ⟨v1, v2, v3, rfl, hq⟩ := he
    obtain ⟨q1, f1, _, _, rfl, -⟩ := id hq.wt
    obtain ⟨q2, f2, _, _, rfl, -⟩ := id hq.ours
    obtain ⟨q3, f3, _, _, rfl, -⟩ := id hq.thr
    have HQ := Lib.hid hq
    clear hb hac hq hr
    simp only
    obtain ⟨l, hl⟩ : ∃ l, p.wt.filter (fun f => decide (o.inn - 1 < f.sq)) = l := ⟨_, rfl⟩
    rw [hl] at HAC HQ ⊢
    clear hl
    go_upto_region 2 with (fail)
    obtain ⟨wq, hwq⟩ : ∃ wq, w2.alloc (.cells #[.string p.nm, .int .i64 p.out, .int .i64 p.inn, .slice q1 l.length f1, .slice q2 p.ours.length f2, .slice q3 p.thr.length f3] 29) = wq := ⟨_, rfl⟩
    have hbq : Below w2.heap.size w2 wq := by rw [← hwq]; exact bl_alloc (Below.refl _ _) _
    have h5 := alloc1_0 w2 (.cells #[.string p.nm, .int .i64 p.out, .int .i64 p.inn, .slice q1 l.length f1, .slice q2 p.ours.length f2, .slice q3 p.thr.length f3] 29)
    rw [hwq] at h5 ⊢
    have HBQ := Lib.hid (bl_trans HB.out hbq)
    have HQQ := Lib.hid (HQ.out.keep (S' := fun k => S k ∨ (w.heap.size + 3 ≤ k ∧ k < wq.heap.size)) (w' := wq) (fun k hk => by
      have := hbq.size
      rcases hk with h | h
      · exact .inl h
      · have h1 := h.1
        simp only [World.size_alloc] at h1
        exact .inr ⟨by omega, by omega⟩) (fun k hk => hbq.block k (by
      rcases hk with h | h
      · have := HSS.out k h; omega
      · exact h.2)))
    obtain ⟨c0, c1, c2, c3, c4, c5, cf⟩ := blk6' (Go.Tw.Below.at_old hbq m0)
    obtain ⟨d0, d1, d2, d3, d4, d5, df⟩ := blk6' (Go.Tw.Below.at_old hbq m2)
    obtain ⟨s0, s1, s2, s3, s4, s5, sf⟩ := blk6' h5
    clear hwq hbq h5 m0 m1 m2
    go_wp2_with (fail)
    refine bodyPost_ret (v := .agg #[.string p.nm, .int .i64 p.out, .int .i64 p.inn, .slice q1 l.length f1, .slice q2 p.ours.length f2, .slice q3 p.thr.length f3]) (by simp [results, Tryz.results28, go_sem, d0, d1, d2, d3, d4, d5]) rfl ⟨⟨_, rfl, ?_⟩, ?_⟩
    · rw [HAC.out]
      refine ⟨_, _, _, rfl, HQQ.out.keep (fun k hk => ?_) ?_⟩
      · have h3 := HBQ.out.size
        rcases hk with h | h
        · exact .inl h
        · exact .inr ⟨by omega, by simpa using h.2⟩
      · intro k hk
        exact set6_ne (by
          rcases hk with h | h
          · have := HSS.out k h; omega
          · omega)
    · (repeat (first | (with_reducible exact HBQ.out) | (with_reducible apply bl_drewN) | (with_reducible apply bl_alloc) | ((with_reducible refine bl_set ?_ _ ?_); rotate_left; focus (first | exact Nat.le_refl _ | (simp; done) | (simp; omega)))))
end Go.Proofs.YtmjbbpappigngaaGreat
/-
  Layer 44 (recon): the walk of Round where no file waits.
-/
namespace Go.Proofs.YtmjbbpappigngaaGreat
open Go.RowKit Go.Tw Go.Tw.Exc
theorem pv_form {S : Nat → Prop} {w' : World} {q : Par} {v : Value} (h : PV S w' q v) : ∃ u1 c1 u2 c2 u3 c3, v = .agg #[.string q.nm, .int .i64 q.out, .int .i64 q.inn, .slice u1 q.wt.length c1, .slice u2 q.ours.length c2, .slice u3 q.thr.length c3] ∧ ParOk S w' q (.slice u1 q.wt.length c1) (.slice u2 q.ours.length c2) (.slice u3 q.thr.length c3) := by
  obtain ⟨u1, u2, u3, rfl, hq⟩ := h
  obtain ⟨x1, y1, _, _, rfl, -⟩ := id hq.wt
  obtain ⟨x2, y2, _, _, rfl, -⟩ := id hq.ours
  obtain ⟨x3, y3, _, _, rfl, -⟩ := id hq.thr
  exact ⟨_, _, _, _, _, _, rfl, hq⟩
theorem fil_form {S : Nat → Prop} {w' : World} {v : Value} {l : List Fil} (h : SlIs tFil S w' v l) (hl : l = []) : ∃ u c, v = .slice u 0 c := by
  obtain ⟨u, c, _, _, rfl, -⟩ := h
  rw [hl]
  exact ⟨_, _, rfl⟩
/-- the four boxes of Round -/
structure RB (w : World) (a b : Par) (a1 a2 a3 b1 b2 b3 : Value) (wx : World) : Prop where
  bel : Below w.heap.size w wx
  pa : wx.heap[w.heap.size]? = some (.cells #[.string a.nm, .int .i64 a.out, .int .i64 a.inn, a1, a2, a3] 29 (0, 0))
  pb : wx.heap[w.heap.size + 1]? = some (.cells #[.string b.nm, .int .i64 b.out, .int .i64 b.inn, b1, b2, b3] 29 (0, 0))
  ra : wx.heap[w.heap.size + 1 + 1]? = some (.cells #[.string ByteArray.empty, .int .i64 0, .int .i64 0, .slice none 0 0, .slice none 0 0, .slice none 0 0] 29 (0, 0))
  rb : wx.heap[w.heap.size + 1 + 1 + 1]? = some (.cells #[.string ByteArray.empty, .int .i64 0, .int .i64 0, .slice none 0 0, .slice none 0 0, .slice none 0 0] 29 (0, 0))
theorem RB.step {w : World} {a b : Par} {a1 a2 a3 b1 b2 b3 : Value} {wx wy : World} (h : RB w a b a1 a2 a3 b1 b2 b3 wx) (hb : Below wx.heap.size wx wy) : RB w a b a1 a2 a3 b1 b2 b3 wy :=
  ⟨bl_trans h.bel hb, Go.Tw.Below.at_old hb h.pa, Go.Tw.Below.at_old hb h.pb, Go.Tw.Below.at_old hb h.ra, Go.Tw.Below.at_old hb h.rb⟩
set_option maxRecDepth 100000 in
set_option maxHeartbeats 8000000 in
theorem round0_any (a b : Par) (a1 a2 a3 b1 b2 b3 : Value) (w : World) (ha : ParOk (· < w.heap.size) w a a1 a2 a3) (hb : ParOk (· < w.heap.size) w b b1 b2 b3) (hsa : SmallP a) (hsb : SmallP b) (ha0 : a.wt = []) (hb0 : b.wt = []) (hia : i64ok (a.inn - 1)) (hib : i64ok (b.inn - 1)) :
    Calls Tryz.prog 9 #[.agg #[.string a.nm, .int .i64 a.out, .int .i64 a.inn, a1, a2, a3], .agg #[.string b.nm, .int .i64 b.out, .int .i64 b.inn, b1, b2, b3], .slice none 0 0] w
      fun e w' => (∃ v1 v2, e = .returned (.tuple #[v1, v2, .int .i64 0]) ∧ PV (· < w'.heap.size) w' (ackC a (b.inn - 1)).1 v1 ∧ PV (· < w'.heap.size) w' (ackC b (a.inn - 1)).1 v2) ∧ Below w.heap.size w w' := by
  have HA := Lib.hid ha
  have HB := Lib.hid hb
  have HSA := Lib.hid hsa
  have HSB := Lib.hid hsb
  have HA0 := Lib.hid ha0
  have HB0 := Lib.hid hb0
  have HIA := Lib.hid hia
  have HIB := Lib.hid hib
  obtain ⟨x1, y1, _, _, rfl, -⟩ := id ha.wt
  obtain ⟨x2, y2, _, _, rfl, -⟩ := id ha.ours
  obtain ⟨x3, y3, _, _, rfl, -⟩ := id ha.thr
  obtain ⟨z1, e1, _, _, rfl, -⟩ := id hb.wt
  obtain ⟨z2, e2, _, _, rfl, -⟩ := id hb.ours
  obtain ⟨z3, e3, _, _, rfl, -⟩ := id hb.thr
  clear ha hb hsa hsb ha0 hb0 hia hib
  go_enter Tryz.func9, Tryz.ntmps9
  go_upto_region 1 with (fail)
  obtain ⟨wb, hwb⟩ : ∃ wb, (((w.alloc (.cells #[.string a.nm, .int .i64 a.out, .int .i64 a.inn, .slice x1 a.wt.length y1, .slice x2 a.ours.length y2, .slice x3 a.thr.length y3] 29)).alloc (.cells #[.string b.nm, .int .i64 b.out, .int .i64 b.inn, .slice z1 b.wt.length e1, .slice z2 b.ours.length e2, .slice z3 b.thr.length e3] 29)).alloc (.cells #[.string ⟨#[]⟩, .int .i64 0, .int .i64 0, .slice none 0 0, .slice none 0 0, .slice none 0 0] 29)).alloc (.cells #[.string ⟨#[]⟩, .int .i64 0, .int .i64 0, .slice none 0 0, .slice none 0 0, .slice none 0 0] 29) = wb := ⟨_, rfl⟩
  have HX := Lib.hid (show RB w a b (.slice x1 a.wt.length y1) (.slice x2 a.ours.length y2) (.slice x3 a.thr.length y3) (.slice z1 b.wt.length e1) (.slice z2 b.ours.length e2) (.slice z3 b.thr.length e3) wb from by
    rw [← hwb]
    exact ⟨bl_alloc (bl_alloc (bl_alloc (bl_alloc (Below.refl _ _) _) _) _) _, alloc4_0 w _ _ _ _, alloc4_1 w _ _ _ _, alloc4_2 w _ _ _ _, alloc4_3 w _ _ _ _⟩)
  rw [hwb]
  clear hwb
  have HXA := Lib.hid (box6D HX.out.pa)
  have HXB := Lib.hid (box6D HX.out.pb)
  have HW := Lib.hid (Below.refl wb.heap.size wb)
  refine wp_region_E 4 (fun w' => Below wb.heap.size wb w') (by kernel_rfl) ((by (repeat (first | (with_reducible exact Below.refl _ _) | (with_reducible exact HW.out) | (with_reducible apply bl_drewN) | (with_reducible apply bl_alloc) | (with_reducible apply Below.drew))); done)) (fun hHeld => ?_)
  refine wpE_take (i := 0) (v := ?_) rfl (by kernel_rfl) (fun _ _ _ h => h) (Or.inl ⟨by kernel_rfl, ?_⟩) (by assumption) ?_
  rotate_left
  focus (intro w9 hS9; obtain ⟨z0, z1, z2, z3, z4, z5⟩ := HXA.out w9 hS9; clear hS9; go_simp; (try with_reducible rfl))
  (try simp only [Act.put])
  (try simp only [List.setIfInBounds_toArray])
  (repeat (first | simp only [List.set_cons_succ] | simp only [List.set_cons_zero]))
  refine wpE_take (i := 2) (v := ?_) rfl (by kernel_rfl) (fun _ _ _ h => h) (Or.inl ⟨by kernel_rfl, ?_⟩) (by assumption) ?_
  rotate_left
  focus (intro w9 hS9; obtain ⟨z0, z1, z2, z3, z4, z5⟩ := HXB.out w9 hS9; clear hS9; go_simp; (try with_reducible rfl))
  (try simp only [Act.put])
  (try simp only [List.setIfInBounds_toArray])
  (repeat (first | simp only [List.set_cons_succ] | simp only [List.set_cons_zero]))
  refine wpE_ready (rs := [1]) (by kernel_rfl) (by kernel_rfl) ?_
  refine AllReadyE.cons rfl (fun K hK => ?_) AllReadyE.nil
  rw [if_pos (show _ = true by kernel_rfl)]
  go_simp
  go_wp2_with (
    go_at_call 26
    refine (resend_any a _ _ _ _ (HA.out.step (show Below w.heap.size w _ from bl_trans HX.out.bel (by (repeat (first | (with_reducible exact Below.refl _ _) | (with_reducible exact HW.out) | (with_reducible apply bl_drewN) | (with_reducible apply bl_alloc) | (with_reducible apply Below.drew))); done))) HSA.out).mono ?_
    rintro e w6 ⟨⟨vr, rfl, hr⟩, hb6⟩
    obtain ⟨af, cf, rfl⟩ := fil_form hr HA0.out
    have HP1 := Lib.hid (show Below wb.heap.size wb w6 from by (refine bl_trans ?_ hb6; exact (by (repeat (first | (with_reducible exact Below.refl _ _) | (with_reducible exact HW.out) | (with_reducible apply bl_drewN) | (with_reducible apply bl_alloc) | (with_reducible apply Below.drew))); done)))
    clear HW hb6 hr
    have HW := HP1
    clear HP1)
  clear hHeld
  refine hK.out _ _ (HW.out) (fun hHeld => ?_)
  clear hK K
  refine wpE_ready (rs := [3]) (by kernel_rfl) (by kernel_rfl) ?_
  refine AllReadyE.cons rfl (fun K hK => ?_) AllReadyE.nil
  rw [if_pos (show _ = true by kernel_rfl)]
  go_simp
  go_wp2_with (
    go_at_call 26
    refine (resend_any b _ _ _ _ (HB.out.step (show Below w.heap.size w _ from bl_trans HX.out.bel (by (repeat (first | (with_reducible exact Below.refl _ _) | (with_reducible exact HW.out) | (with_reducible apply bl_drewN) | (with_reducible apply bl_alloc) | (with_reducible apply Below.drew))); done))) HSB.out).mono ?_
    rintro e w6 ⟨⟨vr, rfl, hr⟩, hb6⟩
    obtain ⟨bf, df, rfl⟩ := fil_form hr HB0.out
    have HP1 := Lib.hid (show Below wb.heap.size wb w6 from by (refine bl_trans ?_ hb6; exact (by (repeat (first | (with_reducible exact Below.refl _ _) | (with_reducible exact HW.out) | (with_reducible apply bl_drewN) | (with_reducible apply bl_alloc) | (with_reducible apply Below.drew))); done)))
    clear HW hb6 hr
    have HW := HP1
    clear HP1)
  clear hHeld
  refine hK.out _ _ (HW.out) (fun hHeld => ?_)
  clear hK K
  clear hHeld
  refine wpE_out (by kernel_rfl) ?_
  refine wpAny_ready (rs := [4]) (by kernel_rfl) (by simp) ?_
  refine AllReady.cons rfl (fun K hK => ?_) AllReady.nil
  rw [if_pos (show _ = true by kernel_rfl)]
  go_simp
  refine hK _ _ ?_
  clear hK K
  refine wpAny_ready (rs := [5]) (by kernel_rfl) (by simp) ?_
  refine AllReady.cons rfl (fun K hK => ?_) AllReady.nil
  rw [if_pos (show _ = true by kernel_rfl)]
  go_simp
  refine hK _ _ ?_
  clear hK K
  refine wpAny_done (by kernel_rfl) ?_ _
  have HX6 := Lib.hid (HX.out.step HW.out)
  obtain ⟨c0, c1, c2, c3, c4, c5, cf'⟩ := blk6' HX6.out.pb
  clear HXA HXB HW HX
  go_wp2_with (fail)
  refine (deliver0_any b _ _ _ _ _ _ _ _ _ af cf (.slice none 0 0) _).mono ?_
  rintro e w7 ⟨rfl, hb7⟩
  have HX7 := Lib.hid (HX6.out.step hb7)
  clear c0 c1 c2 c3 c4 c5 cf' HX6 hb7
  obtain ⟨wc, hwc⟩ : ∃ wc, w7.alloc (.cells #[.string b.nm, .int .i64 b.out, .int .i64 b.inn, .slice z1 b.wt.length e1, .slice z2 b.ours.length e2, .slice z3 b.thr.length e3] 29) = wc := ⟨_, rfl⟩
  have hy0 := alloc1_0 w7 (.cells #[.string b.nm, .int .i64 b.out, .int .i64 b.inn, .slice z1 b.wt.length e1, .slice z2 b.ours.length e2, .slice z3 b.thr.length e3] 29)
  rw [hwc] at hy0
  have HY0 := Lib.hid hy0
  clear hy0
  have HX8 := Lib.hid (HX7.out.step (show Below w7.heap.size w7 wc by rw [← hwc]; exact bl_alloc (Below.refl _ _) _))
  go_upto_region 5 with (fail)
  (try rw [hwc])
  obtain ⟨b11, hb11⟩ : ∃ k, w7.heap.size = k := ⟨_, rfl⟩
  rw [hb11] at HY0 ⊢
  clear hwc hb11 HX7
  go_cut [13, 12] (fun v13 v12 wx => ∃ b13, v13 = .pointer (some ⟨b13, 0, none⟩) ∧ v12 = .int .i64 0 ∧ wx.heap[b13]? = some (.cells #[.string a.nm, .int .i64 a.out, .int .i64 a.inn, .slice x1 a.wt.length y1, .slice x2 a.ours.length y2, .slice x3 a.thr.length y3] 29 (0, 0)) ∧ Below wc.heap.size wc wx)
  case first =>
    have HXA := Lib.hid (box6D HX8.out.pa)
    have HW := Lib.hid (Below.refl wc.heap.size wc)
    refine wp_region_E 15 (fun w' => Below wc.heap.size wc w') (by kernel_rfl) ((by (repeat (first | (with_reducible exact Below.refl _ _) | (with_reducible exact HW.out) | (with_reducible apply bl_drewN) | (with_reducible apply bl_alloc) | (with_reducible apply Below.drew))); done)) (fun hHeld => ?_)
    refine wpE_take (i := 0) (v := ?_) rfl (by kernel_rfl) (fun _ _ _ h => h) (Or.inl ⟨by kernel_rfl, ?_⟩) (by assumption) ?_
    rotate_left
    focus (intro w9 hS9; obtain ⟨z0, z1, z2, z3, z4, z5⟩ := HXA.out w9 hS9; clear hS9; go_simp; (try with_reducible rfl))
    (try simp only [Act.put])
    (try simp only [List.setIfInBounds_toArray])
    (repeat (first | simp only [List.set_cons_succ] | simp only [List.set_cons_zero]))
    refine wpE_take (i := 1) (v := ?_) rfl (by kernel_rfl) (fun _ _ _ h => h) (Or.inl ⟨by kernel_rfl, ?_⟩) (by assumption) ?_
    rotate_left
    focus (intro w9 hS9; (try dsimp only at hS9); go_simp; (try with_reducible rfl))
    (try simp only [Act.put])
    (try simp only [List.setIfInBounds_toArray])
    (repeat (first | simp only [List.set_cons_succ] | simp only [List.set_cons_zero]))
    refine wpE_take (i := 2) (v := ?_) rfl (by kernel_rfl) (fun _ _ _ h => h) (Or.inl ⟨by kernel_rfl, ?_⟩) (by assumption) ?_
    rotate_left
    focus (intro w9 hS9; (try dsimp only at hS9); go_simp; (try with_reducible rfl))
    (try simp only [Act.put])
    (try simp only [List.setIfInBounds_toArray])
    (repeat (first | simp only [List.set_cons_succ] | simp only [List.set_cons_zero]))
    refine wpE_take (i := 3) (v := ?_) rfl (by kernel_rfl) (fun _ _ _ h => h) (Or.inl ⟨by kernel_rfl, ?_⟩) (by assumption) ?_
    rotate_left
    focus (intro w9 hS9; (try dsimp only at hS9); go_simp; (try with_reducible rfl))
    (try simp only [Act.put])
    (try simp only [List.setIfInBounds_toArray])
    (repeat (first | simp only [List.set_cons_succ] | simp only [List.set_cons_zero]))
    refine wpE_take (i := 4) (v := ?_) rfl (by kernel_rfl) (fun _ _ _ h => h) (Or.inl ⟨by kernel_rfl, ?_⟩) (by assumption) ?_
    rotate_left
    focus (intro w9 hS9; (try dsimp only at hS9); go_simp; (try with_reducible rfl))
    (try simp only [Act.put])
    (try simp only [List.setIfInBounds_toArray])
    (repeat (first | simp only [List.set_cons_succ] | simp only [List.set_cons_zero]))
    refine wpE_take (i := 5) (v := ?_) rfl (by kernel_rfl) (fun _ _ _ h => h) (Or.inl ⟨by kernel_rfl, ?_⟩) (by assumption) ?_
    rotate_left
    focus (intro w9 hS9; (try dsimp only at hS9); go_simp; (try with_reducible rfl))
    (try simp only [Act.put])
    (try simp only [List.setIfInBounds_toArray])
    (repeat (first | simp only [List.set_cons_succ] | simp only [List.set_cons_zero]))
    refine wpE_take (i := 6) (v := ?_) rfl (by kernel_rfl) (fun _ _ _ h => h) (Or.inl ⟨by kernel_rfl, ?_⟩) (by assumption) ?_
    rotate_left
    focus (intro w9 hS9; (try dsimp only at hS9); go_simp; (try with_reducible rfl))
    (try simp only [Act.put])
    (try simp only [List.setIfInBounds_toArray])
    (repeat (first | simp only [List.set_cons_succ] | simp only [List.set_cons_zero]))
    refine wpE_take (i := 7) (v := ?_) rfl (by kernel_rfl) (fun _ _ _ h => h) (Or.inl ⟨by kernel_rfl, ?_⟩) (by assumption) ?_
    rotate_left
    focus (intro w9 hS9; (try dsimp only at hS9); go_simp; (try with_reducible rfl))
    (try simp only [Act.put])
    (try simp only [List.setIfInBounds_toArray])
    (repeat (first | simp only [List.set_cons_succ] | simp only [List.set_cons_zero]))
    refine wpE_take (i := 8) (v := ?_) rfl (by kernel_rfl) (fun _ _ _ h => h) (Or.inl ⟨by kernel_rfl, ?_⟩) (by assumption) ?_
    rotate_left
    focus (intro w9 hS9; (try dsimp only at hS9); go_simp; (try with_reducible rfl))
    (try simp only [Act.put])
    (try simp only [List.setIfInBounds_toArray])
    (repeat (first | simp only [List.set_cons_succ] | simp only [List.set_cons_zero]))
    refine wpE_ready (rs := [9, 13]) (by kernel_rfl) (by kernel_rfl) ?_
    refine AllReadyE.cons rfl (fun K hK => ?_) (AllReadyE.cons rfl (fun K hK => ?_) AllReadyE.nil)
    · rw [if_pos (show _ = true by kernel_rfl)]
      go_simp
      go_wp2_with (
        go_at_call 27
        refine (deliver0_any a _ _ _ _ _ _ _ _ _ bf df (.slice none 0 0) _).mono ?_
        rintro e w9 ⟨rfl, hb9⟩
        have HP1 := Lib.hid (show Below wc.heap.size wc w9 from by (refine bl_trans ?_ hb9; exact (by (repeat (first | (with_reducible exact Below.refl _ _) | (with_reducible exact HW.out) | (with_reducible apply bl_drewN) | (with_reducible apply bl_alloc) | (with_reducible apply Below.drew))); done)))
        skip
        clear HW hb9
        have HW := HP1
        clear HP1)
      clear hHeld
      refine hK.out _ _ (HW.out) (fun hHeld => ?_)
      clear hK K
      refine wpE_take (i := 10) (v := ?_) rfl (by kernel_rfl) (fun _ _ _ h => h) (Or.inl ⟨by kernel_rfl, ?_⟩) (by assumption) ?_
      rotate_left
      focus (intro w9 hS9; (try dsimp only at hS9); go_simp; (try with_reducible rfl))
      (try simp only [Act.put])
      (try simp only [List.setIfInBounds_toArray])
      (repeat (first | simp only [List.set_cons_succ] | simp only [List.set_cons_zero]))
      refine wpE_take (i := 11) (v := ?_) rfl (by kernel_rfl) (fun _ _ _ h => h) (Or.inl ⟨by kernel_rfl, ?_⟩) (by assumption) ?_
      rotate_left
      focus (intro w9 hS9; (try dsimp only at hS9); go_simp; (try with_reducible rfl))
      (try simp only [Act.put])
      (try simp only [List.setIfInBounds_toArray])
      (repeat (first | simp only [List.set_cons_succ] | simp only [List.set_cons_zero]))
      refine wpE_take (i := 12) (v := ?_) rfl (by kernel_rfl) (fun _ _ _ h => h) (Or.inl ⟨by kernel_rfl, ?_⟩) (by assumption) ?_
      rotate_left
      focus (intro w9 hS9; (try dsimp only at hS9); go_simp; (try with_reducible rfl))
      (try simp only [Act.put])
      (try simp only [List.setIfInBounds_toArray])
      (repeat (first | simp only [List.set_cons_succ] | simp only [List.set_cons_zero]))
      refine wpE_ready (rs := [13]) (by kernel_rfl) (by kernel_rfl) ?_
      refine AllReadyE.cons rfl (fun K hK => ?_) AllReadyE.nil
      rw [if_pos (show _ = true by kernel_rfl)]
      go_simp
      clear hHeld
      refine hK.out _ _ ((by (repeat (first | (with_reducible exact Below.refl _ _) | (with_reducible exact HW.out) | (with_reducible apply bl_drewN) | (with_reducible apply bl_alloc) | (with_reducible apply Below.drew))); done)) (fun hHeld => ?_)
      clear hK K
      refine wpE_ready (rs := [14]) (by kernel_rfl) (by kernel_rfl) ?_
      refine AllReadyE.cons rfl (fun K hK => ?_) AllReadyE.nil
      rw [if_pos (show _ = true by kernel_rfl)]
      go_simp
      clear hHeld
      refine hK.out _ _ ((by (repeat (first | (with_reducible exact Below.refl _ _) | (with_reducible exact HW.out) | (with_reducible apply bl_drewN) | (with_reducible apply bl_alloc) | (with_reducible apply Below.drew))); done)) (fun hHeld => ?_)
      clear hK K
      clear hHeld
      refine wpE_out (by kernel_rfl) ?_
      refine wpAny_ready (rs := [15]) (by kernel_rfl) (by simp) ?_
      refine AllReady.cons rfl (fun K hK => ?_) AllReady.nil
      rw [if_pos (show _ = true by kernel_rfl)]
      go_simp
      refine hK _ _ ?_
      clear hK K
      refine wpAny_done (by kernel_rfl) ?_ _
      go_wp2_with (fail)
      go_meet
      exact ⟨_, rfl, rfl, alloc1_0 _ _, bl_alloc HW.out _⟩
    · rw [if_pos (show _ = true by kernel_rfl)]
      go_simp
      clear hHeld
      refine hK.out _ _ ((by (repeat (first | (with_reducible exact Below.refl _ _) | (with_reducible exact HW.out) | (with_reducible apply bl_drewN) | (with_reducible apply bl_alloc) | (with_reducible apply Below.drew))); done)) (fun hHeld => ?_)
      clear hK K
      refine wpE_ready (rs := [9]) (by kernel_rfl) (by kernel_rfl) ?_
      refine AllReadyE.cons rfl (fun K hK => ?_) AllReadyE.nil
      rw [if_pos (show _ = true by kernel_rfl)]
      go_simp
      go_wp2_with (
        go_at_call 27
        refine (deliver0_any a _ _ _ _ _ _ _ _ _ bf df (.slice none 0 0) _).mono ?_
        rintro e w9 ⟨rfl, hb9⟩
        have HP1 := Lib.hid (show Below wc.heap.size wc w9 from by (refine bl_trans ?_ hb9; exact (by (repeat (first | (with_reducible exact Below.refl _ _) | (with_reducible exact HW.out) | (with_reducible apply bl_drewN) | (with_reducible apply bl_alloc) | (with_reducible apply Below.drew))); done)))
        have m0 := Go.Tw.Below.at_old hb9 (alloc1_0 wc.drew _)
        clear HW hb9
        have HW := HP1
        clear HP1)
      clear hHeld
      refine hK.out _ _ (HW.out) (fun hHeld => ?_)
      clear hK K
      refine wpE_take (i := 10) (v := ?_) rfl (by kernel_rfl) (fun _ _ _ h => h) (Or.inl ⟨by kernel_rfl, ?_⟩) (by assumption) ?_
      rotate_left
      focus (intro w9 hS9; (try dsimp only at hS9); go_simp; (try with_reducible rfl))
      (try simp only [Act.put])
      (try simp only [List.setIfInBounds_toArray])
      (repeat (first | simp only [List.set_cons_succ] | simp only [List.set_cons_zero]))
      refine wpE_take (i := 11) (v := ?_) rfl (by kernel_rfl) (fun _ _ _ h => h) (Or.inl ⟨by kernel_rfl, ?_⟩) (by assumption) ?_
      rotate_left
      focus (intro w9 hS9; (try dsimp only at hS9); go_simp; (try with_reducible rfl))
      (try simp only [Act.put])
      (try simp only [List.setIfInBounds_toArray])
      (repeat (first | simp only [List.set_cons_succ] | simp only [List.set_cons_zero]))
      refine wpE_take (i := 12) (v := ?_) rfl (by kernel_rfl) (fun _ _ _ h => h) (Or.inl ⟨by kernel_rfl, ?_⟩) (by assumption) ?_
      rotate_left
      focus (intro w9 hS9; (try dsimp only at hS9); go_simp; (try with_reducible rfl))
      (try simp only [Act.put])
      (try simp only [List.setIfInBounds_toArray])
      (repeat (first | simp only [List.set_cons_succ] | simp only [List.set_cons_zero]))
      have M0 := Lib.hid (show w9.heap[wc.heap.size]? = some (.cells #[.string ⟨#[]⟩, .int .i64 0, .int .i64 0, .slice none 0 0, .slice none 0 0, .slice none 0 0] 29 (0, 0)) from m0)
      clear m0
      obtain ⟨y0', y1', y2', y3', y4', y5', yf⟩ := blk6' M0.out
      refine wpE_ready (rs := [14]) (by kernel_rfl) (by kernel_rfl) ?_
      refine AllReadyE.cons rfl (fun K hK => ?_) AllReadyE.nil
      rw [if_pos (show _ = true by kernel_rfl)]
      go_simp
      clear hHeld
      refine hK.out _ _ ((by (repeat (first | (with_reducible exact HW.out) | (with_reducible apply bl_drewN) | (with_reducible apply bl_alloc) | ((with_reducible refine bl_set ?_ _ ?_); rotate_left; focus (first | exact Nat.le_refl _ | (simp; done) | (simp; omega))))))) (fun hHeld => ?_)
      clear hK K
      clear hHeld
      refine wpE_out (by kernel_rfl) ?_
      refine wpAny_ready (rs := [15]) (by kernel_rfl) (by simp) ?_
      refine AllReady.cons rfl (fun K hK => ?_) AllReady.nil
      rw [if_pos (show _ = true by kernel_rfl)]
      go_simp
      refine hK _ _ ?_
      clear hK K
      refine wpAny_done (by kernel_rfl) ?_ _
      go_wp2_with (fail)
      go_meet
      exact ⟨_, rfl, rfl, set6_same M0.out, (by (repeat (first | (with_reducible exact HW.out) | (with_reducible apply bl_drewN) | (with_reducible apply bl_alloc) | ((with_reducible refine bl_set ?_ _ ?_); rotate_left; focus (first | exact Nat.le_refl _ | (simp; done) | (simp; omega))))))⟩
  case rest =>
    obtain ⟨b13, rfl, rfl, hx13, hbc⟩ := hcut
    have HX9 := Lib.hid (HX8.out.step hbc)
    have HX13 := Lib.hid hx13
    have HX11 := Lib.hid (Go.Tw.Below.at_old hbc HY0.out)
    clear hx13 hbc HX8 HY0
    have hw4 : w.heap.size + 4 ≤ wc.heap.size := by have := lt_of_heap HX9.out.rb; omega
    have H13 := Lib.hid (box6D HX13.out)
    have H11 := Lib.hid (box6D HX11.out)
    obtain ⟨qa, hqa⟩ : ∃ q, (ackC a (b.inn - 1)).1 = q := ⟨_, rfl⟩
    obtain ⟨qb, hqb⟩ : ∃ q, (ackC b (a.inn - 1)).1 = q := ⟨_, rfl⟩
    have HC1 := Lib.hid (show ∀ W', Below wc.heap.size wc W' → Calls Tryz.prog 28 #[.agg #[.string a.nm, .int .i64 a.out, .int .i64 a.inn, .slice x1 a.wt.length y1, .slice x2 a.ours.length y2, .slice x3 a.thr.length y3], .agg #[.string b.nm, .int .i64 b.out, .int .i64 b.inn, .slice z1 b.wt.length e1, .slice z2 b.ours.length e2, .slice z3 b.thr.length e3]] W'
        fun e w' => (∃ v, e = .returned v ∧ PV (fun k => k < w.heap.size ∨ (W'.heap.size ≤ k ∧ k < w'.heap.size)) w' qa v) ∧ Below W'.heap.size W' w' from fun W' hw => by
      rw [← hqa]
      have hb := bl_trans HX9.out.bel hw
      exact acknowledge_gen (· < w.heap.size) a b _ _ _ _ _ _ W' (HA.out.keep (fun _ h => h) (.of_below hb)) (fun k h => Nat.lt_of_lt_of_le h hb.size) (HB.out.step hb) HSA.out HIB.out)
    have HC2 := Lib.hid (show ∀ W', Below wc.heap.size wc W' → Calls Tryz.prog 28 #[.agg #[.string b.nm, .int .i64 b.out, .int .i64 b.inn, .slice z1 b.wt.length e1, .slice z2 b.ours.length e2, .slice z3 b.thr.length e3], .agg #[.string a.nm, .int .i64 a.out, .int .i64 a.inn, .slice x1 a.wt.length y1, .slice x2 a.ours.length y2, .slice x3 a.thr.length y3]] W'
        fun e w' => (∃ v, e = .returned v ∧ PV (fun k => k < w.heap.size ∨ (W'.heap.size ≤ k ∧ k < w'.heap.size)) w' qb v) ∧ Below W'.heap.size W' w' from fun W' hw => by
      rw [← hqb]
      have hb := bl_trans HX9.out.bel hw
      exact acknowledge_gen (· < w.heap.size) b a _ _ _ _ _ _ W' (HB.out.keep (fun _ h => h) (.of_below hb)) (fun k h => Nat.lt_of_lt_of_le h hb.size) (HA.out.step hb) HSB.out HIA.out)
    have HW := Lib.hid (Below.refl wc.heap.size wc)
    have HQE := Lib.hid (show (ackC a (b.inn - 1)).1 = qa ∧ (ackC b (a.inn - 1)).1 = qb from ⟨hqa, hqb⟩)
    clear hqa hqb HX13 HX11
    go_upto_region 8 with (fail)
    refine wp_region_E 6 (fun w' => Below wc.heap.size wc w') (by kernel_rfl) ((by (repeat (first | (with_reducible exact Below.refl _ _) | (with_reducible exact HW.out) | (with_reducible apply bl_drewN) | (with_reducible apply bl_alloc) | (with_reducible apply Below.drew))); done)) (fun hHeld => ?_)
    refine wpE_take (i := 0) (v := ?_) rfl (by kernel_rfl) (fun _ _ _ h => h) (Or.inl ⟨by kernel_rfl, ?_⟩) (by assumption) ?_
    rotate_left
    focus (intro w9 hS9; obtain ⟨z0, z1, z2, z3, z4, z5⟩ := H13.out w9 hS9; clear hS9; go_simp; (try with_reducible rfl))
    (try simp only [Act.put])
    (try simp only [List.setIfInBounds_toArray])
    (repeat (first | simp only [List.set_cons_succ] | simp only [List.set_cons_zero]))
    refine wpE_take (i := 1) (v := ?_) rfl (by kernel_rfl) (fun _ _ _ h => h) (Or.inl ⟨by kernel_rfl, ?_⟩) (by assumption) ?_
    rotate_left
    focus (intro w9 hS9; obtain ⟨z0, z1, z2, z3, z4, z5⟩ := H11.out w9 hS9; clear hS9; go_simp; (try with_reducible rfl))
    (try simp only [Act.put])
    (try simp only [List.setIfInBounds_toArray])
    (repeat (first | simp only [List.set_cons_succ] | simp only [List.set_cons_zero]))
    refine wpE_take (i := 3) (v := ?_) rfl (by kernel_rfl) (fun _ _ _ h => h) (Or.inl ⟨by kernel_rfl, ?_⟩) (by assumption) ?_
    rotate_left
    focus (intro w9 hS9; obtain ⟨z0, z1, z2, z3, z4, z5⟩ := H11.out w9 hS9; clear hS9; go_simp; (try with_reducible rfl))
    (try simp only [Act.put])
    (try simp only [List.setIfInBounds_toArray])
    (repeat (first | simp only [List.set_cons_succ] | simp only [List.set_cons_zero]))
    refine wpE_take (i := 4) (v := ?_) rfl (by kernel_rfl) (fun _ _ _ h => h) (Or.inl ⟨by kernel_rfl, ?_⟩) (by assumption) ?_
    rotate_left
    focus (intro w9 hS9; obtain ⟨z0, z1, z2, z3, z4, z5⟩ := H13.out w9 hS9; clear hS9; go_simp; (try with_reducible rfl))
    (try simp only [Act.put])
    (try simp only [List.setIfInBounds_toArray])
    (repeat (first | simp only [List.set_cons_succ] | simp only [List.set_cons_zero]))
    refine wpE_ready (rs := [2]) (by kernel_rfl) (by kernel_rfl) ?_
    refine AllReadyE.cons rfl (fun K hK => ?_) AllReadyE.nil
    rw [if_pos (show _ = true by kernel_rfl)]
    go_simp
    go_wp2_with (
      go_at_call 28
      refine (HC1.out _ (by (repeat (first | (with_reducible exact Below.refl _ _) | (with_reducible exact HW.out) | (with_reducible apply bl_drewN) | (with_reducible apply bl_alloc) | (with_reducible apply Below.drew))); done)).mono ?_
      rintro e w9 ⟨⟨v9, rfl, hv⟩, hb9⟩
      have HP1 := Lib.hid (show Below wc.heap.size wc w9 from by (refine bl_trans ?_ hb9; exact (by (repeat (first | (with_reducible exact Below.refl _ _) | (with_reducible exact HW.out) | (with_reducible apply bl_drewN) | (with_reducible apply bl_alloc) | (with_reducible apply Below.drew))); done)))
      clear HW
      have HW := HP1
      clear HP1
      obtain ⟨u1, f1, u2, f2, u3, f3, rfl, hqv⟩ := pv_form hv
      have HQA := Lib.hid hqv
      have hz9 := hb9.size
      clear hv hqv hb9)
    clear hHeld
    refine hK.out _ _ (HW.out) (fun hHeld => ?_)
    clear hK K
    refine wpE_ready (rs := [5]) (by kernel_rfl) (by kernel_rfl) ?_
    refine AllReadyE.cons rfl (fun K hK => ?_) AllReadyE.nil
    rw [if_pos (show _ = true by kernel_rfl)]
    go_simp
    go_wp2_with (
      go_at_call 28
      refine (HC2.out _ (by (repeat (first | (with_reducible exact Below.refl _ _) | (with_reducible exact HW.out) | (with_reducible apply bl_drewN) | (with_reducible apply bl_alloc) | (with_reducible apply Below.drew))); done)).mono ?_
      rintro e w10 ⟨⟨v9, rfl, hv⟩, hb9⟩
      have HP1 := Lib.hid (show Below wc.heap.size wc w10 from by (refine bl_trans ?_ hb9; exact (by (repeat (first | (with_reducible exact Below.refl _ _) | (with_reducible exact HW.out) | (with_reducible apply bl_drewN) | (with_reducible apply bl_alloc) | (with_reducible apply Below.drew))); done)))
      clear HW
      have HW := HP1
      clear HP1
      obtain ⟨g1, h1, g2, h2, g3, h3, rfl, hqv⟩ := pv_form hv
      have HQB := Lib.hid hqv
      have HS9 := Lib.hid hb9
      clear hv hqv hb9)
    clear hHeld
    refine hK.out _ _ (HW.out) (fun hHeld => ?_)
    clear hK K
    clear hHeld
    refine wpE_out (by kernel_rfl) ?_
    have HXF := Lib.hid (HX9.out.step HW.out)
    obtain ⟨c0, c1, c2, c3, c4, c5, cf'⟩ := blk6' HXF.out.ra
    obtain ⟨d0, d1, d2, d3, d4, d5, df'⟩ := blk6' HXF.out.rb
    refine wpAny_ready (rs := [6]) (by kernel_rfl) (by simp) ?_
    refine AllReady.cons rfl (fun K hK => ?_) AllReady.nil
    rw [if_pos (show _ = true by kernel_rfl)]
    go_simp
    refine hK _ _ ?_
    clear hK K
    refine wpAny_ready (rs := [7]) (by kernel_rfl) (by simp) ?_
    refine AllReady.cons rfl (fun K hK => ?_) AllReady.nil
    rw [if_pos (show _ = true by kernel_rfl)]
    go_simp
    refine hK _ _ ?_
    clear hK K
    refine wpAny_ready (rs := [8]) (by kernel_rfl) (by simp) ?_
    refine AllReady.cons rfl (fun K hK => ?_) AllReady.nil
    rw [if_pos (show _ = true by kernel_rfl)]
    go_simp
    refine hK _ _ ?_
    clear hK K
    refine wpAny_done (by kernel_rfl) ?_ _
    go_wp2_with (fail)
    have hzc : wc.heap.size ≤ w9.heap.size := hz9
    have hz10 : w9.heap.size ≤ w10.heap.size := HS9.out.size
    refine bodyPost_ret (v := .tuple #[.agg #[.string qa.nm, .int .i64 qa.out, .int .i64 qa.inn, .slice u1 qa.wt.length f1, .slice u2 qa.ours.length f2, .slice u3 qa.thr.length f3], .agg #[.string qb.nm, .int .i64 qb.out, .int .i64 qb.inn, .slice g1 qb.wt.length h1, .slice g2 qb.ours.length h2, .slice g3 qb.thr.length h3], .int .i64 0])
      (by simp [results, Tryz.results9, go_sem, c0, c1, c2, c3, c4, c5, d0, d1, d2, d3, d4, d5]) rfl ⟨⟨_, _, rfl, ?_, ?_⟩, ?_⟩
    · rw [HQE.out.1]
      refine ⟨_, _, _, rfl, HQA.out.keep (fun k hk => ?_) (fun k hk => ?_)⟩
      · simp
        rcases hk with h | h
        · omega
        · have := h.2; omega
      · have hne : k ≠ w.heap.size + 1 + 1 ∧ k ≠ w.heap.size + 1 + 1 + 1 ∧ k < w9.heap.size := by
          rcases hk with h | h
          · omega
          · have h1 : wc.heap.size ≤ k := h.1
            have h2 := h.2
            omega
        exact (set6_ne hne.2.1).trans ((set6_ne hne.1).trans (HS9.out.block k hne.2.2))
    · rw [HQE.out.2]
      refine ⟨_, _, _, rfl, HQB.out.keep (fun k hk => ?_) (fun k hk => ?_)⟩
      · simp
        rcases hk with h | h
        · omega
        · have := h.2; omega
      · have hne : k ≠ w.heap.size + 1 + 1 ∧ k ≠ w.heap.size + 1 + 1 + 1 := by
          rcases hk with h | h
          · omega
          · have h1 : w9.heap.size ≤ k := h.1
            omega
        exact (set6_ne hne.2).trans (set6_ne hne.1)
    · (repeat (first | (with_reducible exact HXF.out.bel) | (with_reducible apply bl_drewN) | (with_reducible apply bl_alloc) | ((with_reducible refine bl_set ?_ _ ?_); rotate_left; focus (first | exact Nat.le_refl _ | (simp; done) | (simp; omega)))))
end Go.Proofs.YtmjbbpappigngaaGreat
/-
  Layer 44 (recon): the walk of Reconcile at partners without anything.
-/
namespace Go.Proofs.YtmjbbpappigngaaGreat
open Go.RowKit Go.Tw Go.Tw.Exc
def emp (n : ByteArray) : Par := ⟨n, 0, 0, [], [], []⟩
theorem sl_emptyE {α : Type} {T : Ty α} {S S' : Nat → Prop} {w w' : World} {v : Value} (h : SlIs T S w v []) : SlIs T S' w' v [] := by
  obtain ⟨ao, cap, b, off, hv, h1, h2, h3, h4⟩ := h
  exact ⟨ao, cap, b, off, hv, h1, h2, h3, fun k hk => absurd hk (Nat.not_lt_zero _)⟩
theorem emp_on {S S' : Nat → Prop} {w w' : World} {n : ByteArray} {u1 u2 u3 : Value} (h : ParOk S w (emp n) u1 u2 u3) : ParOk S' w' (emp n) u1 u2 u3 := ⟨h.nm, h.out, h.inn, sl_emptyE h.wt, sl_emptyE h.ours, sl_emptyE h.thr⟩
theorem emp_ack (n : ByteArray) : (ackC (emp n) (0 - 1)).1 = emp n := by rw [ack_refused (.inl (by decide))]
theorem emp_small (n : ByteArray) : SmallP (emp n) := ⟨Nat.zero_le _, fun f hf => (by cases hf), Nat.zero_le _, Nat.zero_le _⟩
theorem small44_nil : Small44 [] := ⟨Nat.zero_le _, fun r hr => by cases hr⟩
theorem differ_nil : differC [] [] = [] := by
  unfold differC keysU fkeys
  simp
theorem emp_agree (a b : ByteArray) : agreeC (emp a) (emp b) = true := by
  unfold agreeC
  show (decide ((differC [] []).length = 0) && decide ((differC [] []).length = 0)) = true
  rw [differ_nil]; rfl
theorem round_emp (na nb : ByteArray) (a1 a2 a3 b1 b2 b3 : Value) (w : World) (ha : ParOk (· < w.heap.size) w (emp na) a1 a2 a3) (hb : ParOk (· < w.heap.size) w (emp nb) b1 b2 b3) :
    Calls Tryz.prog 9 #[.agg #[.string na, .int .i64 0, .int .i64 0, a1, a2, a3], .agg #[.string nb, .int .i64 0, .int .i64 0, b1, b2, b3], .slice none 0 0] w
      fun e w' => (∃ u1 c1 u2 c2 u3 c3 g1 h1 g2 h2 g3 h3, e = .returned (.tuple #[.agg #[.string na, .int .i64 0, .int .i64 0, .slice u1 0 c1, .slice u2 0 c2, .slice u3 0 c3], .agg #[.string nb, .int .i64 0, .int .i64 0, .slice g1 0 h1, .slice g2 0 h2, .slice g3 0 h3], .int .i64 0]) ∧
        ParOk (· < w'.heap.size) w' (emp na) (.slice u1 0 c1) (.slice u2 0 c2) (.slice u3 0 c3) ∧ ParOk (· < w'.heap.size) w' (emp nb) (.slice g1 0 h1) (.slice g2 0 h2) (.slice g3 0 h3)) ∧ Below w.heap.size w w' := by
  refine (round0_any (emp na) (emp nb) a1 a2 a3 b1 b2 b3 w ha hb (emp_small _) (emp_small _) rfl rfl (show i64ok (0 - 1) by unfold i64ok; decide) (show i64ok (0 - 1) by unfold i64ok; decide)).mono ?_
  rintro e w' ⟨⟨v1, v2, rfl, p1, p2⟩, hb'⟩
  have p1' : PV (· < w'.heap.size) w' (emp na) v1 := by have := p1; rwa [show (ackC (emp na) ((emp nb).inn - 1)).1 = emp na from emp_ack na] at this
  have p2' : PV (· < w'.heap.size) w' (emp nb) v2 := by have := p2; rwa [show (ackC (emp nb) ((emp na).inn - 1)).1 = emp nb from emp_ack nb] at this
  obtain ⟨u1, c1, u2, c2, u3, c3, rfl, hq1⟩ := pv_form p1'
  obtain ⟨g1, h1, g2, h2, g3, h3, rfl, hq2⟩ := pv_form p2'
  exact ⟨⟨u1, c1, u2, c2, u3, c3, g1, h1, g2, h2, g3, h3, rfl, hq1, hq2⟩, hb'⟩
theorem differ_emp (na nb : ByteArray) (a1 a2 a3 b1 b2 b3 : Value) (w : World) (ha : ParOk (· < w.heap.size) w (emp na) a1 a2 a3) (hb : ParOk (· < w.heap.size) w (emp nb) b1 b2 b3) :
    Calls Tryz.prog 22 #[.agg #[.string na, .int .i64 0, .int .i64 0, a1, a2, a3], .agg #[.string nb, .int .i64 0, .int .i64 0, b1, b2, b3]] w
      fun e w' => (∃ u c, e = .returned (.slice u 0 c)) ∧ Below w.heap.size w w' := by
  refine (differ_any (emp na) (emp nb) a1 a2 a3 b1 b2 b3 w ha hb small44_nil small44_nil).mono ?_
  rintro e w' ⟨⟨v, rfl, ho⟩, hb'⟩
  obtain ⟨u, c, rfl, -, -⟩ := ho.form
  refine ⟨⟨u, c, ?_⟩, hb'⟩
  rw [show differC (emp na).ours (emp nb).thr = [] from differ_nil]
  rfl
/-- the blocks from n on are as they were -/
structure KeepS (n : Nat) (w w' : World) : Prop where
  out : SameOn (fun k => n ≤ k ∧ k < w.heap.size) w w'
theorem KeepS.drew {n : Nat} {w w' : World} (h : KeepS n w w') : KeepS n w w'.drew := ⟨h.out⟩
theorem KeepS.set6 {n b : Nat} {w w' : World} {x0 x1 x2 x3 x4 x5 : Value} (h : KeepS n w w') (hb : b < n) : KeepS n w ((((((w'.setCell ⟨b, 0, none⟩ x0).setCell ⟨b, 1, none⟩ x1).setCell ⟨b, 2, none⟩ x2).setCell ⟨b, 3, none⟩ x3).setCell ⟨b, 4, none⟩ x4).setCell ⟨b, 5, none⟩ x5) :=
  ⟨fun k hk => (set6_ne (by have := hk.1; omega)).trans (h.out k hk)⟩
theorem KeepS.refl (n : Nat) (w : World) : KeepS n w w := ⟨fun _ _ => rfl⟩
theorem box6S {wb : World} {b n : Nat} {t : TypeId} {a0 a1 a2 a3 a4 a5 : Value} (h : wb.heap[b]? = some (.cells #[a0, a1, a2, a3, a4, a5] t (0, 0))) (hn : n ≤ b) : ∀ w', KeepS n wb w' → w'.cell? ⟨b, 0, none⟩ = some a0 ∧ w'.cell? ⟨b, 1, none⟩ = some a1 ∧ w'.cell? ⟨b, 2, none⟩ = some a2 ∧ w'.cell? ⟨b, 3, none⟩ = some a3 ∧ w'.cell? ⟨b, 4, none⟩ = some a4 ∧ w'.cell? ⟨b, 5, none⟩ = some a5 := fun w' hb => by
  obtain ⟨h0, h1, h2, h3, h4, h5, -⟩ := blk6' ((hb.out b ⟨hn, lt_of_heap h⟩).trans h)
  exact ⟨h0, h1, h2, h3, h4, h5⟩
set_option maxRecDepth 100000 in
set_option maxHeartbeats 8000000 in
theorem reconcile_emp (na nb : ByteArray) (x1 x2 x3 z1 z2 z3 : Option Addr) (y1 y2 y3 e1 e2 e3 : Nat) (w : World) (ha : ParOk (· < w.heap.size) w (emp na) (.slice x1 0 y1) (.slice x2 0 y2) (.slice x3 0 y3)) (hb : ParOk (· < w.heap.size) w (emp nb) (.slice z1 0 e1) (.slice z2 0 e2) (.slice z3 0 e3)) :
    Calls Tryz.prog 11 #[.agg #[.string na, .int .i64 0, .int .i64 0, .slice x1 0 y1, .slice x2 0 y2, .slice x3 0 y3], .agg #[.string nb, .int .i64 0, .int .i64 0, .slice z1 0 e1, .slice z2 0 e2, .slice z3 0 e3]] w
      fun e w' => (∃ u1 c1 u2 c2 u3 c3 g1 h1 g2 h2 g3 h3, e = .returned (.tuple #[.agg #[.string na, .int .i64 0, .int .i64 0, .slice u1 0 c1, .slice u2 0 c2, .slice u3 0 c3], .agg #[.string nb, .int .i64 0, .int .i64 0, .slice g1 0 h1, .slice g2 0 h2, .slice g3 0 h3], .int .i64 0, .int .i64 0])) ∧ Below w.heap.size w w' := by
  have HA := Lib.hid ha
  have HB := Lib.hid hb
  clear ha hb
  go_enter Tryz.func11, Tryz.ntmps11
  go_wp2_with (fail)
  refine (round_emp na nb _ _ _ _ _ _ _ (emp_on HA.out) (emp_on HB.out)).mono ?_
  rintro e w5 ⟨⟨u1, c1, u2, c2, u3, c3, g1, h1, g2, h2, g3, h3, rfl, hq1, hq2⟩, hb5⟩
  have HQ1 := Lib.hid hq1
  have HQ2 := Lib.hid hq2
  have HR2 := Lib.hid (Go.Tw.Below.at_old hb5 (alloc4_2 w _ _ _ _))
  have HR3 := Lib.hid (Go.Tw.Below.at_old hb5 (alloc4_3 w _ _ _ _))
  have HB5 := Lib.hid (bl_trans (bl_alloc (bl_alloc (bl_alloc (bl_alloc (Below.refl w.heap.size w) _) _) _) _) hb5)
  have hz5 : w.heap.size + 4 ≤ w5.heap.size := by have := hb5.size; simpa using this
  clear hq1 hq2 hb5
  go_upto_region 4 with (fail)
  obtain ⟨wq, hwq⟩ : ∃ wq, (w5.alloc (.cells #[.string na, .int .i64 0, .int .i64 0, .slice u1 0 c1, .slice u2 0 c2, .slice u3 0 c3] 29)).alloc (.cells #[.string nb, .int .i64 0, .int .i64 0, .slice g1 0 h1, .slice g2 0 h2, .slice g3 0 h3] 29) = wq := ⟨_, rfl⟩
  have m8 := alloc2_0 w5 (.cells #[.string na, .int .i64 0, .int .i64 0, .slice u1 0 c1, .slice u2 0 c2, .slice u3 0 c3] 29) (.cells #[.string nb, .int .i64 0, .int .i64 0, .slice g1 0 h1, .slice g2 0 h2, .slice g3 0 h3] 29)
  have m9 := alloc2_1 w5 (.cells #[.string na, .int .i64 0, .int .i64 0, .slice u1 0 c1, .slice u2 0 c2, .slice u3 0 c3] 29) (.cells #[.string nb, .int .i64 0, .int .i64 0, .slice g1 0 h1, .slice g2 0 h2, .slice g3 0 h3] 29)
  have hbq : Below w5.heap.size w5 wq := by rw [← hwq]; exact bl_alloc (bl_alloc (Below.refl _ _) _) _
  rw [hwq] at m8 m9 ⊢
  have HM8 := Lib.hid m8
  have HM9 := Lib.hid m9
  have HQR2 := Lib.hid (Go.Tw.Below.at_old hbq HR2.out)
  have HQR3 := Lib.hid (Go.Tw.Below.at_old hbq HR3.out)
  have HBQ := Lib.hid (bl_trans HB5.out hbq)
  obtain ⟨b8, hb8⟩ : ∃ k, w5.heap.size = k := ⟨_, rfl⟩
  rw [hb8] at HM8 HM9 hz5 ⊢
  clear hwq m8 m9 hbq HR2 HR3 HB5 hb8
  have HX8 := Lib.hid (box6D HM8.out)
  have HX9 := Lib.hid (box6D HM9.out)
  have HW := Lib.hid (Below.refl wq.heap.size wq)
  refine wp_region_E 6 (fun w' => Below wq.heap.size wq w') (by kernel_rfl) ((by (repeat (first | (with_reducible exact Below.refl _ _) | (with_reducible exact HW.out) | (with_reducible apply bl_drewN) | (with_reducible apply bl_alloc) | (with_reducible apply Below.drew))); done)) (fun hHeld => ?_)
  refine wpE_take (i := 0) (v := ?_) rfl (by kernel_rfl) (fun _ _ _ h => h) (Or.inl ⟨by kernel_rfl, ?_⟩) (by assumption) ?_
  rotate_left
  focus (intro w9 hS9; obtain ⟨z0, z1, z2, z3, z4, z5⟩ := HX8.out w9 hS9; clear hS9; go_simp; (try with_reducible rfl))
  (try simp only [Act.put])
  (try simp only [List.setIfInBounds_toArray])
  (repeat (first | simp only [List.set_cons_succ] | simp only [List.set_cons_zero]))
  refine wpE_take (i := 1) (v := ?_) rfl (by kernel_rfl) (fun _ _ _ h => h) (Or.inl ⟨by kernel_rfl, ?_⟩) (by assumption) ?_
  rotate_left
  focus (intro w9 hS9; obtain ⟨z0, z1, z2, z3, z4, z5⟩ := HX9.out w9 hS9; clear hS9; go_simp; (try with_reducible rfl))
  (try simp only [Act.put])
  (try simp only [List.setIfInBounds_toArray])
  (repeat (first | simp only [List.set_cons_succ] | simp only [List.set_cons_zero]))
  refine wpE_take (i := 3) (v := ?_) rfl (by kernel_rfl) (fun _ _ _ h => h) (Or.inl ⟨by kernel_rfl, ?_⟩) (by assumption) ?_
  rotate_left
  focus (intro w9 hS9; obtain ⟨z0, z1, z2, z3, z4, z5⟩ := HX9.out w9 hS9; clear hS9; go_simp; (try with_reducible rfl))
  (try simp only [Act.put])
  (try simp only [List.setIfInBounds_toArray])
  (repeat (first | simp only [List.set_cons_succ] | simp only [List.set_cons_zero]))
  refine wpE_take (i := 4) (v := ?_) rfl (by kernel_rfl) (fun _ _ _ h => h) (Or.inl ⟨by kernel_rfl, ?_⟩) (by assumption) ?_
  rotate_left
  focus (intro w9 hS9; obtain ⟨z0, z1, z2, z3, z4, z5⟩ := HX8.out w9 hS9; clear hS9; go_simp; (try with_reducible rfl))
  (try simp only [Act.put])
  (try simp only [List.setIfInBounds_toArray])
  (repeat (first | simp only [List.set_cons_succ] | simp only [List.set_cons_zero]))
  refine wpE_ready (rs := [2]) (by kernel_rfl) (by kernel_rfl) ?_
  refine AllReadyE.cons rfl (fun K hK => ?_) AllReadyE.nil
  rw [if_pos (show _ = true by kernel_rfl)]
  go_simp
  go_wp2_with (
    go_at_call 22
    refine (differ_emp na nb _ _ _ _ _ _ _ (emp_on HQ1.out) (emp_on HQ2.out)).mono ?_
    rintro e w9 ⟨⟨d1, k1, rfl⟩, hb9⟩
    have HP1 := Lib.hid (show Below wq.heap.size wq w9 from by (refine bl_trans ?_ hb9; exact (by (repeat (first | (with_reducible exact Below.refl _ _) | (with_reducible exact HW.out) | (with_reducible apply bl_drewN) | (with_reducible apply bl_alloc) | (with_reducible apply Below.drew))); done)))
    clear HW hb9
    have HW := HP1
    clear HP1)
  clear hHeld
  refine hK.out _ _ (HW.out) (fun hHeld => ?_)
  clear hK K
  refine wpE_ready (rs := [5]) (by kernel_rfl) (by kernel_rfl) ?_
  refine AllReadyE.cons rfl (fun K hK => ?_) AllReadyE.nil
  rw [if_pos (show _ = true by kernel_rfl)]
  go_simp
  go_wp2_with (
    go_at_call 22
    refine (differ_emp nb na _ _ _ _ _ _ _ (emp_on HQ2.out) (emp_on HQ1.out)).mono ?_
    rintro e w9 ⟨⟨d2, k2, rfl⟩, hb9⟩
    have HP1 := Lib.hid (show Below wq.heap.size wq w9 from by (refine bl_trans ?_ hb9; exact (by (repeat (first | (with_reducible exact Below.refl _ _) | (with_reducible exact HW.out) | (with_reducible apply bl_drewN) | (with_reducible apply bl_alloc) | (with_reducible apply Below.drew))); done)))
    clear HW hb9
    have HW := HP1
    clear HP1)
  clear hHeld
  refine hK.out _ _ (HW.out) (fun hHeld => ?_)
  clear hK K
  clear hHeld
  refine wpE_out (by kernel_rfl) ?_
  refine wpAny_ready (rs := [6]) (by kernel_rfl) (by simp) ?_
  refine AllReady.cons rfl (fun K hK => ?_) AllReady.nil
  rw [if_pos (show _ = true by kernel_rfl)]
  go_simp
  refine hK _ _ ?_
  clear hK K
  refine wpAny_ready (rs := [7]) (by kernel_rfl) (by simp) ?_
  refine AllReady.cons rfl (fun K hK => ?_) AllReady.nil
  rw [if_pos (show _ = true by kernel_rfl)]
  go_simp
  refine hK _ _ ?_
  clear hK K
  refine wpAny_done (by kernel_rfl) ?_ _
  have HN8 := Lib.hid (Go.Tw.Below.at_old HW.out HM8.out)
  have HN9 := Lib.hid (Go.Tw.Below.at_old HW.out HM9.out)
  have HNR2 := Lib.hid (Go.Tw.Below.at_old HW.out HQR2.out)
  have HNR3 := Lib.hid (Go.Tw.Below.at_old HW.out HQR3.out)
  have HBN := Lib.hid (bl_trans HBQ.out HW.out)
  clear HX8 HX9 HW HM8 HM9 HQR2 HQR3 HBQ
  obtain ⟨s0, s1, s2, s3, s4, s5, sf⟩ := blk6' HN8.out
  obtain ⟨t0, t1, t2, t3, t4, t5, tf⟩ := blk6' HN9.out
  go_wp2_with (fail)
  refine (round_emp na nb _ _ _ _ _ _ _ (emp_on HQ1.out) (emp_on HQ2.out)).mono ?_
  rintro e w6 ⟨⟨v1, k1', v2, k2', v3, k3', r1, l1, r2, l2, r3, l3, rfl, hq1, hq2⟩, hb6⟩
  have HV1 := Lib.hid hq1
  have HV2 := Lib.hid hq2
  have HO8 := Lib.hid (Go.Tw.Below.at_old hb6 HN8.out)
  have HO9 := Lib.hid (Go.Tw.Below.at_old hb6 HN9.out)
  have HOR2 := Lib.hid (Go.Tw.Below.at_old hb6 HNR2.out)
  have HOR3 := Lib.hid (Go.Tw.Below.at_old hb6 HNR3.out)
  have HBO := Lib.hid (bl_trans HBN.out hb6)
  clear hq1 hq2 hb6 HN8 HN9 HNR2 HNR3 HBN s0 s1 s2 s3 s4 s5 sf t0 t1 t2 t3 t4 t5 tf
  obtain ⟨s0, s1, s2, s3, s4, s5, sf⟩ := blk6' HO8.out
  obtain ⟨t0, t1, t2, t3, t4, t5, tf⟩ := blk6' HO9.out
  go_upto_region 14 with (fail)
  obtain ⟨wz, hwz⟩ : ∃ wz, ((((((((((((w6.setCell ⟨b8, 0, none⟩ (.string na)).setCell ⟨b8, 1, none⟩ (.int .i64 0)).setCell ⟨b8, 2, none⟩ (.int .i64 0)).setCell ⟨b8, 3, none⟩ (.slice v1 0 k1')).setCell ⟨b8, 4, none⟩ (.slice v2 0 k2')).setCell ⟨b8, 5, none⟩ (.slice v3 0 k3')).setCell ⟨b8 + 1, 0, none⟩ (.string nb)).setCell ⟨b8 + 1, 1, none⟩ (.int .i64 0)).setCell ⟨b8 + 1, 2, none⟩ (.int .i64 0)).setCell ⟨b8 + 1, 3, none⟩ (.slice r1 0 l1)).setCell ⟨b8 + 1, 4, none⟩ (.slice r2 0 l2)).setCell ⟨b8 + 1, 5, none⟩ (.slice r3 0 l3)) = wz := ⟨_, rfl⟩
  have HZ8 := Lib.hid (show wz.heap[b8]? = some (.cells #[.string na, .int .i64 0, .int .i64 0, .slice v1 0 k1', .slice v2 0 k2', .slice v3 0 k3'] 29 (0, 0)) by rw [← hwz]; exact (set6_ne (by omega)).trans (set6_same HO8.out))
  have HZ9 := Lib.hid (show wz.heap[b8 + 1]? = some (.cells #[.string nb, .int .i64 0, .int .i64 0, .slice r1 0 l1, .slice r2 0 l2, .slice r3 0 l3] 29 (0, 0)) by rw [← hwz]; exact set6_same ((set6_ne (by omega)).trans HO9.out))
  have HZR2 := Lib.hid (show wz.heap[w.heap.size + 1 + 1]? = some (.cells #[.string ⟨#[]⟩, .int .i64 0, .int .i64 0, .slice none 0 0, .slice none 0 0, .slice none 0 0] 29 (0, 0)) by rw [← hwz]; exact (set6_ne (by omega)).trans ((set6_ne (by omega)).trans HOR2.out))
  have HZR3 := Lib.hid (show wz.heap[w.heap.size + 1 + 1 + 1]? = some (.cells #[.string ⟨#[]⟩, .int .i64 0, .int .i64 0, .slice none 0 0, .slice none 0 0, .slice none 0 0] 29 (0, 0)) by rw [← hwz]; exact (set6_ne (by omega)).trans ((set6_ne (by omega)).trans HOR3.out))
  have hl8 : w.heap.size ≤ b8 := by omega
  have hl9 : w.heap.size ≤ b8 + 1 := by omega
  have HBZ := Lib.hid (show Below w.heap.size w wz by rw [← hwz]; exact bl_set (bl_set (bl_set (bl_set (bl_set (bl_set (bl_set (bl_set (bl_set (bl_set (bl_set (bl_set HBO.out _ hl8) _ hl8) _ hl8) _ hl8) _ hl8) _ hl8) _ hl9) _ hl9) _ hl9) _ hl9) _ hl9) _ hl9)
  rw [hwz]
  clear hwz s0 s1 s2 s3 s4 s5 sf t0 t1 t2 t3 t4 t5 tf HO8 HO9 HOR2 HOR3 HBO
  obtain ⟨s0, s1, s2, s3, s4, s5, sf⟩ := blk6' HZ8.out
  obtain ⟨t0, t1, t2, t3, t4, t5, tf⟩ := blk6' HZ9.out
  go_wp2_with (fail)
  refine (agree_any (emp na) (emp nb) _ _ _ _ _ _ wz (emp_on HV1.out) (emp_on HV2.out) small44_nil small44_nil small44_nil small44_nil).mono ?_
  rintro e w7 ⟨rfl, hb7⟩
  rw [emp_agree]
  have HY8 := Lib.hid (Go.Tw.Below.at_old hb7 HZ8.out)
  have HY9 := Lib.hid (Go.Tw.Below.at_old hb7 HZ9.out)
  have HYR2 := Lib.hid (Go.Tw.Below.at_old hb7 HZR2.out)
  have HYR3 := Lib.hid (Go.Tw.Below.at_old hb7 HZR3.out)
  have HBY := Lib.hid (bl_trans HBZ.out hb7)
  clear hb7 HZ8 HZ9 HZR2 HZR3 HBZ s0 s1 s2 s3 s4 s5 sf t0 t1 t2 t3 t4 t5 tf
  go_upto_region 18 with (fail)
  have hw0 : IntKind.i64.wrap 0 = 0 := by decide
  have hl87 : b8 + 1 < w7.heap.size := lt_of_heap HY9.out
  have HX8 := Lib.hid (box6S (n := w.heap.size + 4) HY8.out hz5)
  have HX9 := Lib.hid (box6S (n := w.heap.size + 4) HY9.out (Nat.le_succ_of_le hz5))
  refine wp_region_E 9 (fun w' => KeepS (w.heap.size + 4) w7 w') (by kernel_rfl) (⟨SameOn.refl _ _⟩) (fun hHeld => ?_)
  refine wpE_take (i := 0) (v := ?_) rfl (by kernel_rfl) (fun _ _ _ h => h) (Or.inl ⟨by kernel_rfl, ?_⟩) (by assumption) ?_
  rotate_left
  focus (intro w9 hS9; obtain ⟨z0, z1, z2, z3, z4, z5⟩ := HX8.out w9 hS9; clear hS9; go_simp; (try with_reducible rfl))
  (try simp only [Act.put])
  (try simp only [List.setIfInBounds_toArray])
  (repeat (first | simp only [List.set_cons_succ] | simp only [List.set_cons_zero]))
  refine wpE_take (i := 1) (v := ?_) rfl (by kernel_rfl) (fun _ _ _ h => h) (Or.inl ⟨by kernel_rfl, ?_⟩) (by assumption) ?_
  rotate_left
  focus (intro w9 hS9; obtain ⟨z0, z1, z2, z3, z4, z5⟩ := HX9.out w9 hS9; clear hS9; go_simp; (try with_reducible rfl))
  (try simp only [Act.put])
  (try simp only [List.setIfInBounds_toArray])
  (repeat (first | simp only [List.set_cons_succ] | simp only [List.set_cons_zero]))
  refine wpE_take (i := 2) (v := ?_) rfl (by kernel_rfl) (fun _ _ _ h => h) (Or.inl ⟨by kernel_rfl, ?_⟩) (by assumption) ?_
  rotate_left
  focus (intro w9 hS9; (try dsimp only at hS9); go_simp; (try with_reducible rfl))
  (try simp only [Act.put])
  (try simp only [List.setIfInBounds_toArray])
  (repeat (first | simp only [List.set_cons_succ] | simp only [List.set_cons_zero]))
  refine wpE_take (i := 3) (v := ?_) rfl (by kernel_rfl) (fun _ _ _ h => h) (Or.inl ⟨by kernel_rfl, ?_⟩) (by assumption) ?_
  rotate_left
  focus (intro w9 hS9; (try dsimp only at hS9); go_simp; (try with_reducible rfl))
  (try simp only [Act.put])
  (try simp only [List.setIfInBounds_toArray])
  (repeat (first | simp only [List.set_cons_succ] | simp only [List.set_cons_zero]))
  refine wpE_take (i := 4) (v := ?_) rfl (by kernel_rfl) (fun _ _ _ h => h) (Or.inl ⟨by kernel_rfl, ?_⟩) (by assumption) ?_
  rotate_left
  focus (intro w9 hS9; (try dsimp only at hS9); go_simp; (try with_reducible rfl))
  (try simp only [Act.put])
  (try simp only [List.setIfInBounds_toArray])
  (repeat (first | simp only [List.set_cons_succ] | simp only [List.set_cons_zero]))
  refine wpE_take (i := 5) (v := ?_) rfl (by kernel_rfl) (fun _ _ _ h => h) (Or.inl ⟨by kernel_rfl, ?_⟩) (by assumption) ?_
  rotate_left
  focus (intro w9 hS9; (try dsimp only at hS9); go_simp; (try with_reducible rfl))
  (try simp only [Act.put])
  (try simp only [List.setIfInBounds_toArray])
  (repeat (first | simp only [List.set_cons_succ] | simp only [List.set_cons_zero]))
  refine wpE_take (i := 6) (v := ?_) rfl (by kernel_rfl) (fun _ _ _ h => h) (Or.inl ⟨by kernel_rfl, ?_⟩) (by assumption) ?_
  rotate_left
  focus (intro w9 hS9; (try dsimp only at hS9); go_simp; (try with_reducible rfl))
  (try simp only [Act.put])
  (try simp only [List.setIfInBounds_toArray])
  (repeat (first | simp only [List.set_cons_succ] | simp only [List.set_cons_zero]))
  obtain ⟨s0, s1, s2, s3, s4, s5, sf⟩ := blk6' HYR2.out
  obtain ⟨t0, t1, t2, t3, t4, t5, tf⟩ := blk6' HYR3.out
  refine wpE_ready (rs := [7]) (by kernel_rfl) (by kernel_rfl) ?_
  refine AllReadyE.cons rfl (fun K hK => ?_) AllReadyE.nil
  rw [if_pos (show _ = true by kernel_rfl)]
  go_simp
  clear hHeld
  refine hK.out _ _ ?_ (fun hHeld => ?_)
  · with_reducible exact KeepS.drew (KeepS.set6 (KeepS.refl _ _) (by omega))
  clear hK K
  refine wpE_ready (rs := [8]) (by kernel_rfl) (by kernel_rfl) ?_
  refine AllReadyE.cons rfl (fun K hK => ?_) AllReadyE.nil
  rw [if_pos (show _ = true by kernel_rfl)]
  go_simp
  clear hHeld
  refine hK.out _ _ ?_ (fun hHeld => ?_)
  · with_reducible exact KeepS.drew (KeepS.set6 (KeepS.set6 (KeepS.refl _ _) (by omega)) (by omega))
  clear hK K
  clear hHeld
  refine wpE_out (by kernel_rfl) ?_
  refine wpAny_ready (rs := [9]) (by kernel_rfl) (by simp) ?_
  refine AllReady.cons rfl (fun K hK => ?_) AllReady.nil
  rw [if_pos (show _ = true by kernel_rfl)]
  go_simp
  refine hK _ _ ?_
  clear hK K
  refine wpAny_ready (rs := [10]) (by kernel_rfl) (by simp) ?_
  refine AllReady.cons rfl (fun K hK => ?_) AllReady.nil
  rw [if_pos (show _ = true by kernel_rfl)]
  go_simp
  refine hK _ _ ?_
  clear hK K
  refine wpAny_done (by kernel_rfl) ?_ _
  go_wp2_with (fail)
  refine bodyPost_ret (v := .tuple #[.agg #[.string na, .int .i64 0, .int .i64 0, .slice v1 0 k1', .slice v2 0 k2', .slice v3 0 k3'], .agg #[.string nb, .int .i64 0, .int .i64 0, .slice r1 0 l1, .slice r2 0 l2, .slice r3 0 l3], .int .i64 0, .int .i64 0])
    (by simp [results, Tryz.results11, go_sem, s0, s1, s2, s3, s4, s5, t0, t1, t2, t3, t4, t5]) rfl ⟨⟨_, _, _, _, _, _, _, _, _, _, _, _, rfl⟩, ?_⟩
  have h2 : w.heap.size ≤ w.heap.size + 1 + 1 := by omega
  have h3 : w.heap.size ≤ w.heap.size + 1 + 1 + 1 := by omega
  exact Below.drew (bl_set (bl_set (bl_set (bl_set (bl_set (bl_set (bl_set (bl_set (bl_set (bl_set (bl_set (bl_set HBY.out _ h2) _ h2) _ h2) _ h2) _ h2) _ h2) _ h3) _ h3) _ h3) _ h3) _ h3) _ h3)
end Go.Proofs.YtmjbbpappigngaaGreat
