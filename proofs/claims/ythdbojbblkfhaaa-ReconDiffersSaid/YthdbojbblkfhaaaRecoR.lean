/-
  Layer 44 (recon): the walks of deliver (without files), acknowledge, Round (without files).
-/
import Derived.Test.YthdbojbblkfhaaaRecoC
import Derived.Test.YthdbojbblkfhaaaExcAck
import Derived.Test.YthdbojbblkfhaaaExcKeepP
namespace Go.Proofs.Ythdbojbblkfhaaa
open Go.RowKit Go.Tw Go.Tw.Exc
/-- a partner, handed back -/
def PV (S : Nat → Prop) (w' : World) (q : Par) (v : Value) : Prop := ∃ u1 u2 u3, v = .agg #[.string q.nm, .int .i64 q.out, .int .i64 q.inn, u1, u2, u3] ∧ ParOk S w' q u1 u2 u3
set_option maxHeartbeats 1000000 in
theorem deliver0_any (p : Par) (x1 x2 x3 : Option Addr) (n1 n2 n3 y1 y2 y3 : Nat) (af : Option Addr) (cf : Nat) (vl : Value) (w : World) :
    Calls Try.prog 77 #[.agg #[.string p.nm, .int .i64 p.out, .int .i64 p.inn, .slice x1 n1 y1, .slice x2 n2 y2, .slice x3 n3 y3], .slice af 0 cf, vl] w
      fun e w' => e = .returned (.tuple #[.agg #[.string p.nm, .int .i64 p.out, .int .i64 p.inn, .slice x1 n1 y1, .slice x2 n2 y2, .slice x3 n3 y3], .int .i64 0]) ∧ Below w.heap.size w w' := by
  go_enter Try.func77, Try.ntmps77
  go_wp2_with (fail)
  have m0 := alloc2_0 w (.cells #[.string p.nm, .int .i64 p.out, .int .i64 p.inn, .slice x1 n1 y1, .slice x2 n2 y2, .slice x3 n3 y3] 25) (.cells #[.string ⟨#[]⟩, .int .i64 0, .int .i64 0, .slice none 0 0, .slice none 0 0, .slice none 0 0] 25)
  have m1 := alloc2_1 w (.cells #[.string p.nm, .int .i64 p.out, .int .i64 p.inn, .slice x1 n1 y1, .slice x2 n2 y2, .slice x3 n3 y3] 25) (.cells #[.string ⟨#[]⟩, .int .i64 0, .int .i64 0, .slice none 0 0, .slice none 0 0, .slice none 0 0] 25)
  obtain ⟨W1, hW1⟩ : ∃ W1, (w.alloc (.cells #[.string p.nm, .int .i64 p.out, .int .i64 p.inn, .slice x1 n1 y1, .slice x2 n2 y2, .slice x3 n3 y3] 25)).alloc (.cells #[.string ⟨#[]⟩, .int .i64 0, .int .i64 0, .slice none 0 0, .slice none 0 0, .slice none 0 0] 25) = W1 := ⟨_, rfl⟩
  have HB := Lib.hid (show Below w.heap.size w W1 by rw [← hW1]; exact bl_alloc (bl_alloc (Below.refl _ _) _) _)
  rw [hW1] at m0 m1 ⊢
  clear hW1
  go_wp2_with (fail)
  go_step3
  go_wp2_with (fail)
  go_step3
  go_wp2_with (fail)
  go_loopg [14] 0 (fun g i wr => g = 0 ∧ i = .int .i64 0 ∧ W1 = wr)
  case atStart => exact ⟨rfl, rfl, rfl⟩
  case round =>
    obtain ⟨-, rfl, rfl⟩ := hrel
    obtain ⟨c0, c1, c2, c3, c4, c5, cf⟩ := blk6' m0
    obtain ⟨d0, d1, d2, d3, d4, d5, df⟩ := blk6' m1
    go_wp2_with (fail)
    unfold Exit.noGoto
    refine bodyPost_ret (v := .tuple #[.agg #[.string p.nm, .int .i64 p.out, .int .i64 p.inn, .slice x1 n1 y1, .slice x2 n2 y2, .slice x3 n3 y3], .int .i64 0]) (by simp [results, Try.results77, go_sem, d0, d1, d2, d3, d4, d5]) rfl ⟨rfl, ?_⟩
    (repeat (first | (with_reducible exact HB.out) | (with_reducible apply bl_drewN) | (with_reducible apply bl_alloc) | ((with_reducible refine bl_set ?_ _ ?_); rotate_left; focus (first | exact Nat.le_refl _ | (simp; done) | (simp; omega)))))
set_option maxRecDepth 100000 in
set_option maxHeartbeats 2000000 in
theorem acknowledge_gen (S : Nat → Prop) (p o : Par) (vw vo vt ow oo ot : Value) (w : World) (hsp : ParOk S w p vw vo vt) (hss : ∀ k, S k → k < w.heap.size) (ho : ParOk (· < w.heap.size) w o ow oo ot) (hs : SmallP p) (hi : i64ok (o.inn - 1)) :
    Calls Try.prog 78 #[.agg #[.string p.nm, .int .i64 p.out, .int .i64 p.inn, vw, vo, vt], .agg #[.string o.nm, .int .i64 o.out, .int .i64 o.inn, ow, oo, ot]] w
      fun e w' => (∃ v, e = .returned v ∧ PV (fun k => S k ∨ (w.heap.size ≤ k ∧ k < w'.heap.size)) w' (ackC p (o.inn - 1)).1 v) ∧ Below w.heap.size w w' := by
  have h : ParOk (· < w.heap.size) w p vw vo vt := hsp.keep hss (SameOn.refl _ _)
  have HSP := Lib.hid hsp
  have HSS := Lib.hid hss
  have HS := Lib.hid hs
  have HI := Lib.hid hi
  obtain ⟨x1, y1, _, _, rfl, -⟩ := id h.wt
  obtain ⟨x2, y2, _, _, rfl, -⟩ := id h.ours
  obtain ⟨x3, y3, _, _, rfl, -⟩ := id h.thr
  obtain ⟨z1, e1, _, _, rfl, -⟩ := id ho.wt
  obtain ⟨z2, e2, _, _, rfl, -⟩ := id ho.ours
  obtain ⟨z3, e3, _, _, rfl, -⟩ := id ho.thr
  have g1 : IntKind.i64.wrap (o.inn - 1) = o.inn - 1 := by unfold i64ok at hi; exact wrap_in (by omega) (by omega)
  clear h ho hs hi hsp hss
  go_enter Try.func78, Try.ntmps78
  go_wp2_with (fail)
  refine (ack_gen S p (o.inn - 1) _ _ _ _ (HSP.out.keep (fun _ h => h) (fun k hk => (bl_alloc (bl_alloc (bl_alloc (Below.refl w.heap.size w) _) _) _).block k (HSS.out k hk))) (fun k h => by have := HSS.out k h; simp; omega) HS.out HI.out).mono ?_
  rintro e w2 ⟨he, hb⟩
  have m0 := Go.Tw.Below.at_old hb (alloc3_0 w _ _ _)
  have m1 := Go.Tw.Below.at_old hb (alloc3_1 w _ _ _)
  have m2 := Go.Tw.Below.at_old hb (alloc3_2 w _ _ _)
  have HB := Lib.hid (bl_trans (bl_alloc (bl_alloc (bl_alloc (Below.refl w.heap.size w) _) _) _) hb)
  have hsz : w.heap.size + 3 ≤ w2.heap.size := by have := hb.size; simpa using this
  by_cases hr : o.inn - 1 < 0 ∨ p.out ≤ o.inn - 1
  · have hac := ack_refused hr
    have HAC := Lib.hid hac
    rw [hac] at he
    obtain ⟨v1, v2, v3, rfl, hq⟩ := he
    obtain ⟨q1, f1, _, _, rfl, -⟩ := id hq.wt
    obtain ⟨q2, f2, _, _, rfl, -⟩ := id hq.ours
    obtain ⟨q3, f3, _, _, rfl, -⟩ := id hq.thr
    have HQ := Lib.hid hq
    clear hb hac hq hr
    simp only
    go_upto_region 2 with (fail)
    obtain ⟨wq, hwq⟩ : ∃ wq, w2.alloc (.cells #[.string p.nm, .int .i64 p.out, .int .i64 p.inn, .slice q1 p.wt.length f1, .slice q2 p.ours.length f2, .slice q3 p.thr.length f3] 25) = wq := ⟨_, rfl⟩
    have hbq : Below w2.heap.size w2 wq := by rw [← hwq]; exact bl_alloc (Below.refl _ _) _
    have h5 := alloc1_0 w2 (.cells #[.string p.nm, .int .i64 p.out, .int .i64 p.inn, .slice q1 p.wt.length f1, .slice q2 p.ours.length f2, .slice q3 p.thr.length f3] 25)
    rw [hwq] at h5 ⊢
    have HBQ := Lib.hid (bl_trans HB.out hbq)
    have HQQ := Lib.hid (HQ.out.keep (S' := fun k => S k ∨ (w.heap.size + 3 ≤ k ∧ k < wq.heap.size)) (w' := wq) (fun k hk => by
      have := hbq.size
      rcases hk with h | h
      · exact .inl h
      · have h1 := h.1
        simp only [World.size_alloc] at h1
        exact .inr ⟨by omega, by omega⟩) (fun k hk => hbq.block k (by
      rcases hk with h | h
      · have := HSS.out k h; omega
      · exact h.2)))
    obtain ⟨c0, c1, c2, c3, c4, c5, cf⟩ := blk6' (Go.Tw.Below.at_old hbq m0)
    obtain ⟨d0, d1, d2, d3, d4, d5, df⟩ := blk6' (Go.Tw.Below.at_old hbq m2)
    obtain ⟨s0, s1, s2, s3, s4, s5, sf⟩ := blk6' h5
    clear hwq hbq h5 m0 m1 m2
    go_wp2_with (fail)
    refine bodyPost_ret (v := .agg #[.string p.nm, .int .i64 p.out, .int .i64 p.inn, .slice x1 p.wt.length y1, .slice x2 p.ours.length y2, .slice x3 p.thr.length y3]) (by simp [results, Try.results78, go_sem, d0, d1, d2, d3, d4, d5]) rfl ⟨⟨_, rfl, by rw [HAC.out]; exact ⟨_, _, _, rfl, HSP.out.keep (fun _ h => .inl h) (fun k hk => (show Below w.heap.size w _ from by (repeat (first | (with_reducible exact HBQ.out) | (with_reducible apply bl_drewN) | (with_reducible apply bl_alloc) | ((with_reducible refine bl_set ?_ _ ?_); rotate_left; focus (first | exact Nat.le_refl _ | (simp; done) | (simp; omega)))))).block k (HSS.out k hk))⟩⟩, ?_⟩
    (repeat (first | (with_reducible exact HBQ.out) | (with_reducible apply bl_drewN) | (with_reducible apply bl_alloc) | ((with_reducible refine bl_set ?_ _ ?_); rotate_left; focus (first | exact Nat.le_refl _ | (simp; done) | (simp; omega)))))
  · have hac := ack_yes hr
    have HAC := Lib.hid hac
    rw [hac] at he
    obtain ⟨v1, v2, v3, rfl, hq⟩ := he
    obtain ⟨q1, f1, _, _, rfl, -⟩ := id hq.wt
    obtain ⟨q2, f2, _, _, rfl, -⟩ := id hq.ours
    obtain ⟨q3, f3, _, _, rfl, -⟩ := id hq.thr
    have HQ := Lib.hid hq
    clear hb hac hq hr
    simp only
    obtain ⟨l, hl⟩ : ∃ l, p.wt.filter (fun f => decide (o.inn - 1 < f.sq)) = l := ⟨_, rfl⟩
    rw [hl] at HAC HQ ⊢
    clear hl
    go_upto_region 2 with (fail)
    obtain ⟨wq, hwq⟩ : ∃ wq, w2.alloc (.cells #[.string p.nm, .int .i64 p.out, .int .i64 p.inn, .slice q1 l.length f1, .slice q2 p.ours.length f2, .slice q3 p.thr.length f3] 25) = wq := ⟨_, rfl⟩
    have hbq : Below w2.heap.size w2 wq := by rw [← hwq]; exact bl_alloc (Below.refl _ _) _
    have h5 := alloc1_0 w2 (.cells #[.string p.nm, .int .i64 p.out, .int .i64 p.inn, .slice q1 l.length f1, .slice q2 p.ours.length f2, .slice q3 p.thr.length f3] 25)
    rw [hwq] at h5 ⊢
    have HBQ := Lib.hid (bl_trans HB.out hbq)
    have HQQ := Lib.hid (HQ.out.keep (S' := fun k => S k ∨ (w.heap.size + 3 ≤ k ∧ k < wq.heap.size)) (w' := wq) (fun k hk => by
      have := hbq.size
      rcases hk with h | h
      · exact .inl h
      · have h1 := h.1
        simp only [World.size_alloc] at h1
        exact .inr ⟨by omega, by omega⟩) (fun k hk => hbq.block k (by
      rcases hk with h | h
      · have := HSS.out k h; omega
      · exact h.2)))
    obtain ⟨c0, c1, c2, c3, c4, c5, cf⟩ := blk6' (Go.Tw.Below.at_old hbq m0)
    obtain ⟨d0, d1, d2, d3, d4, d5, df⟩ := blk6' (Go.Tw.Below.at_old hbq m2)
    obtain ⟨s0, s1, s2, s3, s4, s5, sf⟩ := blk6' h5
    clear hwq hbq h5 m0 m1 m2
    go_wp2_with (fail)
    refine bodyPost_ret (v := .agg #[.string p.nm, .int .i64 p.out, .int .i64 p.inn, .slice q1 l.length f1, .slice q2 p.ours.length f2, .slice q3 p.thr.length f3]) (by simp [results, Try.results78, go_sem, d0, d1, d2, d3, d4, d5]) rfl ⟨⟨_, rfl, ?_⟩, ?_⟩
    · rw [HAC.out]
      refine ⟨_, _, _, rfl, HQQ.out.keep (fun k hk => ?_) ?_⟩
      · have h3 := HBQ.out.size
        rcases hk with h | h
        · exact .inl h
        · exact .inr ⟨by omega, by simpa using h.2⟩
      · intro k hk
        exact set6_ne (by
          rcases hk with h | h
          · have := HSS.out k h; omega
          · omega)
    · (repeat (first | (with_reducible exact HBQ.out) | (with_reducible apply bl_drewN) | (with_reducible apply bl_alloc) | ((with_reducible refine bl_set ?_ _ ?_); rotate_left; focus (first | exact Nat.le_refl _ | (simp; done) | (simp; omega)))))
end Go.Proofs.Ythdbojbblkfhaaa
