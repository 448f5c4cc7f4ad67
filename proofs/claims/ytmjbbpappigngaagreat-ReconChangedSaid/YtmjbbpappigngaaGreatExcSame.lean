/-
  Layer 43 (exchange): the walks of SameRecords, SameFiles, Same of equal things.
-/
import Derived.Test.YtmjbbpappigngaaGreatExcPartR
namespace Go.Proofs.YtmjbbpappigngaaGreat
open Go.RowKit Go.Tw Go.Tw.Exc
set_option maxRecDepth 100000 in
set_option maxHeartbeats 2000000 in
theorem sameRec_any (l : List Rec) (va vb : Value) (w : World) (ha : SlIs tRec (· < w.heap.size) w va l) (hb : SlIs tRec (· < w.heap.size) w vb l) :
    Calls Tryz.prog 37 #[va, vb] w fun e w' => e = .returned (.bool true) ∧ ∃ n, w' = w.drewN n := by
  obtain ⟨aa, capa, ba, offa, rfl, hla, hma, hoa⟩ := rec_open ha
  obtain ⟨ab, capb, bb, offb, rfl, hlb, hmb, hob⟩ := rec_open hb
  unfold maxLen at hma hmb
  clear ha hb
  go_enter Tryz.func37, Tryz.ntmps37
  go_wp2
  go_loopg [5] l.length (fun g i wr => ∃ k n : Nat, k + g = l.length ∧ i = .int .i64 k ∧ wr = w.drewN n)
  case atStart => exact ⟨0, 0, by omega, rfl, rfl⟩
  case round =>
    obtain ⟨k, n, hk, rfl, rfl⟩ := hrel
    by_cases hlt : k < l.length
    · obtain ⟨rfl, -, hx1, hok, c0, c1, c2, c3, c4⟩ := hoa w (SameOn.refl _ _) k hlt
      obtain ⟨rfl, -, hx2, -, d0, d1, d2, d3, d4⟩ := hob w (SameOn.refl _ _) k hlt
      clear hoa hob
      obtain ⟨r, hr⟩ : ∃ r, l[k] = r := ⟨_, rfl⟩
      rw [hr] at c0 c1 c2 c3 c4 d0 d1 d2 d3 d4
      have k0 : (0 : Int) ≤ (k : Int) := by omega
      have k1 : (k : Int) < (l.length : Int) := by omega
      clear hr hok
      go_wp2_with (go_quiet (fail))
      go_roundg (l.length - (k + 1))
      case measure => omega
      case rel => exact ⟨k + 1, _, by omega, by go_num, rfl⟩
    · obtain rfl : k = l.length := by omega
      have hkd : decide ((l.length : Int) < (l.length : Int)) = false := by simp
      clear hoa hob hlt
      go_wp2
      go_ret
      exact ⟨rfl, _, rfl⟩
set_option maxRecDepth 100000 in
set_option maxHeartbeats 4000000 in
theorem sameFil_any (l : List Fil) (va vb : Value) (w : World) (ha : SlIs tFil (· < w.heap.size) w va l) (hb : SlIs tFil (· < w.heap.size) w vb l) :
    Calls Tryz.prog 36 #[va, vb] w fun e w' => e = .returned (.bool true) ∧ ∃ n, w' = w.drewN n := by
  obtain ⟨aa, capa, ba, offa, rfl, hla, hma, hoa⟩ := fil_open ha
  obtain ⟨ab, capb, bb, offb, rfl, hlb, hmb, hob⟩ := fil_open hb
  unfold maxLen at hma hmb
  clear ha hb
  go_enter Tryz.func36, Tryz.ntmps36
  go_wp2
  go_loopg [5] l.length (fun g i wr => ∃ k : Nat, k + g = l.length ∧ i = .int .i64 k ∧ Hid (∃ n, wr = w.drewN n))
  case atStart => exact ⟨0, by omega, rfl, Lib.hid ⟨0, rfl⟩⟩
  case round =>
    obtain ⟨k, hk, rfl, HW⟩ := hrel
    have hS : SameOn (· < w.heap.size) w wr := by obtain ⟨n, rfl⟩ := HW.out; exact fun _ _ => rfl
    have hsz : wr.heap.size = w.heap.size := by obtain ⟨n, rfl⟩ := HW.out; rfl
    by_cases hlt : k < l.length
    · obtain ⟨rfl, -, hx1, va, hfa, c0, c1, c2, c3⟩ := hoa wr hS k hlt
      obtain ⟨rfl, -, hx2, vb, hfb, d0, d1, d2, d3⟩ := hob wr hS k hlt
      clear hoa hob
      have HC := Lib.hid (show ∀ n', Calls Tryz.prog 37 #[va, vb] (wr.drewN n') fun e w' => e = .returned (.bool true) ∧ ∃ n, w' = (wr.drewN n').drewN n from fun n' =>
        sameRec_any l[k].rs va vb _ (hfa.rs.keep (fun q h => by show q < wr.heap.size; rw [hsz]; exact h) (fun q _ => rfl)) (hfb.rs.keep (fun q h => by show q < wr.heap.size; rw [hsz]; exact h) (fun q _ => rfl)))
      obtain ⟨aar, cpa, b1, o1, rfl, -⟩ := hfa.rs
      obtain ⟨abr, cpb, b2, o2, rfl, -⟩ := hfb.rs
      obtain ⟨r, hr⟩ : ∃ r, l[k] = r := ⟨_, rfl⟩
      rw [hr] at c0 c1 c2 c3 d0 d1 d2 d3 HC
      have k0 : (0 : Int) ≤ (k : Int) := by omega
      have k1 : (k : Int) < (l.length : Int) := by omega
      clear hr hfa hfb hS hsz
      go_wp2_with (go_quiet ((go_at_call 37; exact Calls.quiet_of (HC.out _))))
      go_roundg (l.length - (k + 1))
      case measure => omega
      case rel => exact ⟨k + 1, by omega, by go_num, by obtain ⟨n, rfl⟩ := HW.out; exact Lib.hid ⟨_, World.drewN_drewN _ _ _⟩⟩
    · obtain rfl : k = l.length := by omega
      have hkd : decide ((l.length : Int) < (l.length : Int)) = false := by simp
      clear hoa hob hlt
      go_wp2
      go_ret
      exact ⟨rfl, HW.out⟩
set_option maxRecDepth 100000 in
set_option maxHeartbeats 2000000 in
theorem same_any (p : Par) (a1 a2 a3 b1 b2 b3 : Value) (w : World) (ha : ParOk (· < w.heap.size) w p a1 a2 a3) (hb : ParOk (· < w.heap.size) w p b1 b2 b3) :
    Calls Tryz.prog 13 #[.agg #[.string p.nm, .int .i64 p.out, .int .i64 p.inn, a1, a2, a3], .agg #[.string p.nm, .int .i64 p.out, .int .i64 p.inn, b1, b2, b3]] w fun e w' => e = .returned (.bool true) ∧ Below w.heap.size w w' := by
  have HA := Lib.hid ha
  have HB := Lib.hid hb
  obtain ⟨x1, y1, _, _, rfl, -⟩ := id ha.wt
  obtain ⟨x2, y2, _, _, rfl, -⟩ := id ha.ours
  obtain ⟨x3, y3, _, _, rfl, -⟩ := id ha.thr
  obtain ⟨z1, u1, _, _, rfl, -⟩ := id hb.wt
  obtain ⟨z2, u2, _, _, rfl, -⟩ := id hb.ours
  obtain ⟨z3, u3, _, _, rfl, -⟩ := id hb.thr
  clear ha hb
  go_enter Tryz.func13, Tryz.ntmps13
  go_wp2_with (first
    | (go_at_call 36
       refine (sameFil_any p.wt _ _ _ (HA.out.wt.step (by ((repeat (first | (with_reducible exact Below.refl _ _) | (with_reducible apply bl_drewN) | (with_reducible apply bl_alloc) | (with_reducible apply Below.drew)))
                                                           done))) (HB.out.wt.step (by ((repeat (first | (with_reducible exact Below.refl _ _) | (with_reducible apply bl_drewN) | (with_reducible apply bl_alloc) | (with_reducible apply Below.drew)))
                                                                                        done)))).mono ?_
       rintro e w' ⟨rfl, n1, rfl⟩)
    | (go_at_call 37
       have K2 := K1
       refine (sameRec_any p.thr _ _ _ (HA.out.thr.step (by ((repeat (first | (with_reducible exact Below.refl _ _) | (with_reducible apply bl_drewN) | (with_reducible apply bl_alloc) | (with_reducible apply Below.drew)))
                                                             done))) (HB.out.thr.step (by ((repeat (first | (with_reducible exact Below.refl _ _) | (with_reducible apply bl_drewN) | (with_reducible apply bl_alloc) | (with_reducible apply Below.drew)))
                                                                                           done)))).mono ?_
       rintro e w' ⟨rfl, n3, rfl⟩)
    | (go_at_call 37
       refine (sameRec_any p.ours _ _ _ (HA.out.ours.step (by ((repeat (first | (with_reducible exact Below.refl _ _) | (with_reducible apply bl_drewN) | (with_reducible apply bl_alloc) | (with_reducible apply Below.drew)))
                                                               done))) (HB.out.ours.step (by ((repeat (first | (with_reducible exact Below.refl _ _) | (with_reducible apply bl_drewN) | (with_reducible apply bl_alloc) | (with_reducible apply Below.drew)))
                                                                                              done)))).mono ?_
       rintro e w' ⟨rfl, n2, rfl⟩
       have K1 := Lib.hid True.intro))
  go_ret
  exact ⟨rfl, by ((repeat (first | (with_reducible exact Below.refl _ _) | (with_reducible apply bl_drewN) | (with_reducible apply bl_alloc) | (with_reducible apply Below.drew)))
                  done)⟩
end Go.Proofs.YtmjbbpappigngaaGreat
