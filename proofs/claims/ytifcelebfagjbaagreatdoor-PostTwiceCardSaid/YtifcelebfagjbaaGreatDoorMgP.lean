/-
  Layer proofs, merged: PoE2 PoE PoE3 PoE4 PoRt PoAw.
-/
import Derived.Test.YtifcelebfagjbaaGreatDoorMgD
import Derived.Lib.QuietBelow
import Derived.Deep.Cut
import Derived.Test.YtifcelebfagjbaaGreatDoorMgM
import Derived.Test.YtifcelebfagjbaaGreatDoorMgO
namespace Go.Proofs.YtifcelebfagjbaaGreatDoor
open Go.RowKit Go.Tw Go.Tw.Ord Go.Tw.Po Go.Sort
set_option maxRecDepth 100000 in
set_option maxHeartbeats 2000000 in
theorem sameC_any (x : Chg) (v1 v2 : Value) (w : World) (h1 : SlIs tSI (· < w.heap.size) w v1 x.ls) (h2 : SlIs tSI (· < w.heap.size) w v2 x.ls) :
  Calls Tryz.prog 59 #[.agg #[.string x.key, .string x.veh, .string x.sys, .int .i64 x.cls, .int .i64 x.tm, v1, .int .i64 x.c], .agg #[.string x.key, .string x.veh, .string x.sys, .int .i64 x.cls, .int .i64 x.tm, v2, .int .i64 x.c]] w fun e w' => e = .returned (.bool true) ∧ Below w.heap.size w w' := by
 obtain ⟨ao1, cap1, b1, off1, rfl, p1, p2, ho1⟩ := si_open h1; obtain ⟨ao2, cap2, b2, off2, rfl, q1, q2, ho2⟩ := si_open h2; unfold maxLen at p2 q2; have HO1 := Lib.hid ho1; have HO2 := Lib.hid ho2; have HB := Lib.hid (bl_alloc (bl_alloc (Below.refl w.heap.size w) (.cells #[.string x.key, .string x.veh, .string x.sys, .int .i64 x.cls, .int .i64 x.tm, .slice ao1 x.ls.length cap1, .int .i64 x.c] 49)) (.cells #[.string x.key, .string x.veh, .string x.sys, .int .i64 x.cls, .int .i64 x.tm, .slice ao2 x.ls.length cap2, .int .i64 x.c] 49)); have n0 := heap_alloc2_old w (.cells #[.string x.key, .string x.veh, .string x.sys, .int .i64 x.cls, .int .i64 x.tm, .slice ao1 x.ls.length cap1, .int .i64 x.c] 49) (.cells #[.string x.key, .string x.veh, .string x.sys, .int .i64 x.cls, .int .i64 x.tm, .slice ao2 x.ls.length cap2, .int .i64 x.c] 49); have n1 := heap_alloc2_new w (.cells #[.string x.key, .string x.veh, .string x.sys, .int .i64 x.cls, .int .i64 x.tm, .slice ao1 x.ls.length cap1, .int .i64 x.c] 49) (.cells #[.string x.key, .string x.veh, .string x.sys, .int .i64 x.cls, .int .i64 x.tm, .slice ao2 x.ls.length cap2, .int .i64 x.c] 49); have HN0 := Lib.hid n0; have HN1 := Lib.hid n1; have k1 : (x.key.toList == x.key.toList) = true := by simp
 have k4 : (x.veh.toList == x.veh.toList) = true := by simp
 have k5 : (x.sys.toList == x.sys.toList) = true := by simp
 have k2 : (x.tm == x.tm) = true := by simp
 have k3 : (x.tm != x.tm) = false := by simp
 clear h1 h2 ho1 ho2 n0 n1
 go_enter Tryz.func59, Tryz.ntmps59
 go_wp2; clear k1 k2 k3 k4 k5
 go_loopg [5] x.ls.length (fun g i wr => ∃ k : Nat, k + g = x.ls.length ∧ i = .int .i64 k ∧ Hid (wr.heap[w.heap.size]? = some (.cells #[.string x.key, .string x.veh, .string x.sys, .int .i64 x.cls, .int .i64 x.tm, .slice ao1 x.ls.length cap1, .int .i64 x.c] 49 (0, 0)) ∧ wr.heap[w.heap.size + 1]? = some (.cells #[.string x.key, .string x.veh, .string x.sys, .int .i64 x.cls, .int .i64 x.tm, .slice ao2 x.ls.length cap2, .int .i64 x.c] 49 (0, 0)) ∧ Below w.heap.size w wr))
 case atStart => exact ⟨0, by omega, rfl, Lib.hid ⟨HN0.out, HN1.out, HB.out⟩⟩
 case round =>
  obtain ⟨k, hk, rfl, HW⟩ := hrel; clear HB HN0 HN1; obtain ⟨-, -, -, -, -, c2, -⟩ := blk7 HW.out.1; obtain ⟨-, -, -, -, -, d2, -⟩ := blk7 HW.out.2.1; have hbw := HW.out.2.2
  by_cases hlt : k < x.ls.length
  · obtain ⟨rfl, -, hb1, -, y0, y1⟩ := HO1.out wr (.of_below hbw) k hlt
    obtain ⟨rfl, -, hb2, -, z0, z1⟩ := HO2.out wr (.of_below hbw) k hlt; have k0 : (0 : Int) ≤ (k : Int) := by omega
    have k1 : (k : Int) < (x.ls.length : Int) := by omega
    have hke : (x.ls[k].s.toList == x.ls[k].s.toList) = true := by simp
    generalize x.ls[k].s = ys at *; generalize x.ls[k].n = yn at *; clear hbw
    go_wp2_with (go_quiet (fail))
    go_roundg (x.ls.length - (k + 1))
    case measure => omega
    case rel => exact ⟨k + 1, by omega, by go_num, Lib.hid ⟨HW.out.1, HW.out.2.1, bl_drewN HW.out.2.2 _⟩⟩
  · have hkd : decide ((k : Int) < (x.ls.length : Int)) = false := by simp; omega
    go_wp2; go_ret; exact ⟨rfl, hbw⟩
end Go.Proofs.YtifcelebfagjbaaGreatDoor
namespace Go.Proofs.YtifcelebfagjbaaGreatDoor
open Go.RowKit Go.Tw Go.Tw.Ord Go.Tw.Po Go.Sort
set_option maxRecDepth 100000 in
set_option maxHeartbeats 2000000 in
theorem sameE_any (x : Ent) (v1 v2 : Value) (w : World) (h1 : SlIs tSI (· < w.heap.size) w v1 x.ps) (h2 : SlIs tSI (· < w.heap.size) w v2 x.ps) :
  Calls Tryz.prog 40 #[.agg #[.string x.key, .int .i64 x.tm, v1], .agg #[.string x.key, .int .i64 x.tm, v2]] w fun e w' => e = .returned (.bool true) ∧ Below w.heap.size w w' := by
 obtain ⟨ao1, cap1, b1, off1, rfl, p1, p2, ho1⟩ := si_open h1; obtain ⟨ao2, cap2, b2, off2, rfl, q1, q2, ho2⟩ := si_open h2; unfold maxLen at p2 q2; have HO1 := Lib.hid ho1; have HO2 := Lib.hid ho2; have HB := Lib.hid (bl_alloc (bl_alloc (Below.refl w.heap.size w) (.cells #[.string x.key, .int .i64 x.tm, .slice ao1 x.ps.length cap1] 56)) (.cells #[.string x.key, .int .i64 x.tm, .slice ao2 x.ps.length cap2] 56)); have n0 := heap_alloc2_old w (.cells #[.string x.key, .int .i64 x.tm, .slice ao1 x.ps.length cap1] 56) (.cells #[.string x.key, .int .i64 x.tm, .slice ao2 x.ps.length cap2] 56); have n1 := heap_alloc2_new w (.cells #[.string x.key, .int .i64 x.tm, .slice ao1 x.ps.length cap1] 56) (.cells #[.string x.key, .int .i64 x.tm, .slice ao2 x.ps.length cap2] 56); have HN0 := Lib.hid n0; have HN1 := Lib.hid n1; have k1 : (x.key.toList == x.key.toList) = true := by simp
 have k2 : (x.tm == x.tm) = true := by simp
 have k3 : (x.tm != x.tm) = false := by simp
 clear h1 h2 ho1 ho2 n0 n1
 go_enter Tryz.func40, Tryz.ntmps40
 go_wp2; clear k1 k2 k3
 go_loopg [5] x.ps.length (fun g i wr => ∃ k : Nat, k + g = x.ps.length ∧ i = .int .i64 k ∧ Hid (wr.heap[w.heap.size]? = some (.cells #[.string x.key, .int .i64 x.tm, .slice ao1 x.ps.length cap1] 56 (0, 0)) ∧ wr.heap[w.heap.size + 1]? = some (.cells #[.string x.key, .int .i64 x.tm, .slice ao2 x.ps.length cap2] 56 (0, 0)) ∧ Below w.heap.size w wr))
 case atStart => exact ⟨0, by omega, rfl, Lib.hid ⟨HN0.out, HN1.out, HB.out⟩⟩
 case round =>
  obtain ⟨k, hk, rfl, HW⟩ := hrel; clear HB HN0 HN1; obtain ⟨-, -, c2, -⟩ := blk3 HW.out.1; obtain ⟨-, -, d2, -⟩ := blk3 HW.out.2.1; have hbw := HW.out.2.2
  by_cases hlt : k < x.ps.length
  · obtain ⟨rfl, -, hb1, -, y0, y1⟩ := HO1.out wr (.of_below hbw) k hlt
    obtain ⟨rfl, -, hb2, -, z0, z1⟩ := HO2.out wr (.of_below hbw) k hlt; have k0 : (0 : Int) ≤ (k : Int) := by omega
    have k1 : (k : Int) < (x.ps.length : Int) := by omega
    have hke : (x.ps[k].s.toList == x.ps[k].s.toList) = true := by simp
    generalize x.ps[k].s = ys at *; generalize x.ps[k].n = yn at *; clear hbw
    go_wp2_with (go_quiet (fail))
    go_roundg (x.ps.length - (k + 1))
    case measure => omega
    case rel => exact ⟨k + 1, by omega, by go_num, Lib.hid ⟨HW.out.1, HW.out.2.1, bl_drewN HW.out.2.2 _⟩⟩
  · have hkd : decide ((k : Int) < (x.ps.length : Int)) = false := by simp; omega
    go_wp2; go_ret; exact ⟨rfl, hbw⟩
end Go.Proofs.YtifcelebfagjbaaGreatDoor
namespace Go.Proofs.YtifcelebfagjbaaGreatDoor
open Go.RowKit Go.Tw Go.Tw.Ord Go.Tw.Po Go.Sort
set_option maxRecDepth 100000 in
set_option maxHeartbeats 4000000 in
theorem lsame_any (l : List Ent) (v1 v2 : Value) (w : World) (h1 : SlIs (tEnt 101) (· < w.heap.size) w v1 l) (h2 : SlIs (tEnt 101) (· < w.heap.size) w v2 l) :
  Calls Tryz.prog 54 #[.agg #[v1], .agg #[v2]] w fun e w' => e = .returned (.bool true) ∧ Below w.heap.size w w' := by
 obtain ⟨ao1, cap1, b1, off1, rfl, p1, p2, ho1⟩ := ent_open h1; obtain ⟨ao2, cap2, b2, off2, rfl, q1, q2, ho2⟩ := ent_open h2; unfold maxLen at p2 q2; have HO1 := Lib.hid ho1; have HO2 := Lib.hid ho2; have HB := Lib.hid (bl_alloc (bl_alloc (Below.refl w.heap.size w) (.cells #[.slice ao1 l.length cap1] 68)) (.cells #[.slice ao2 l.length cap2] 68)); have HN0 := Lib.hid (heap_alloc2_old w (.cells #[.slice ao1 l.length cap1] 68) (.cells #[.slice ao2 l.length cap2] 68)); have HN1 := Lib.hid (heap_alloc2_new w (.cells #[.slice ao1 l.length cap1] 68) (.cells #[.slice ao2 l.length cap2] 68)); clear h1 h2 ho1 ho2
 go_enter Tryz.func54, Tryz.ntmps54
 go_wp2
 go_loopg [5] l.length (fun g i wr => ∃ k : Nat, k + g = l.length ∧ i = .int .i64 k ∧ Hid (wr.heap[w.heap.size]? = some (.cells #[.slice ao1 l.length cap1] 68 (0, 0)) ∧ wr.heap[w.heap.size + 1]? = some (.cells #[.slice ao2 l.length cap2] 68 (0, 0)) ∧ Below w.heap.size w wr))
 case atStart => exact ⟨0, by omega, rfl, Lib.hid ⟨HN0.out, HN1.out, HB.out⟩⟩
 case round =>
  obtain ⟨k, hk, rfl, HW⟩ := hrel; clear HB HN0 HN1; have c2 := cell_of_row _ _ 0 _ _ _ HW.out.1; have d2 := cell_of_row _ _ 0 _ _ _ HW.out.2.1; have hbw := HW.out.2.2
  by_cases hlt : k < l.length
  · obtain ⟨rfl, -, hb1, -, u1, s1, y0, y1, y2⟩ := HO1.out wr (.of_below hbw) k hlt
    obtain ⟨rfl, -, hb2, -, u2, s2, z0, z1, z2⟩ := HO2.out wr (.of_below hbw) k hlt; have k0 : (0 : Int) ≤ (k : Int) := by omega
    have k1 : (k : Int) < (l.length : Int) := by omega
    generalize l[k] = y at *; have r1 : SlIs tSI (· < wr.heap.size) wr u1 y.ps := s1.keep (fun q (hq : q < w.heap.size) => Nat.lt_of_lt_of_le hq hbw.size) (SameOn.refl _ _); have r2 : SlIs tSI (· < wr.heap.size) wr u2 y.ps := s2.keep (fun q (hq : q < w.heap.size) => Nat.lt_of_lt_of_le hq hbw.size) (SameOn.refl _ _)
    obtain ⟨a1, n1, m1, hu1⟩ : ∃ a n c, u1 = .slice a n c := by
     obtain ⟨a, c, _, _, e, -⟩ := s1; exact ⟨a, _, c, e⟩
    obtain ⟨a2, n2, m2, hu2⟩ : ∃ a n c, u2 = .slice a n c := by
     obtain ⟨a, c, _, _, e, -⟩ := s2; exact ⟨a, _, c, e⟩
    subst hu1 hu2; have HCE := Lib.hid (show ∀ W, Below wr.heap.size wr W → Calls Tryz.prog 40 #[.agg #[.string y.key, .int .i64 y.tm, .slice a1 n1 m1], .agg #[.string y.key, .int .i64 y.tm, .slice a2 n2 m2]] W fun e w' => e = .returned (.bool true) ∧ Below W.heap.size W w' from fun W hW => sameE_any y _ _ W (r1.step hW) (r2.step hW))
    go_upto_region 6 with (fail)
    have cA := fun d os => Calls.regrown_of (HCE.out _ (below_regrown wr d os))
    have c2' := cell_regrown c2; have d2' := cell_regrown d2; have y0' := cell_regrown y0; have y1' := cell_regrown y1; have y2' := cell_regrown y2; have z0' := cell_regrown z0; have z1' := cell_regrown z1; have z2' := cell_regrown z2; clear s1 s2 r1 r2 y0 y1 y2 z0 z1 z2 c2 d2 hbw HO1 HO2; refine wp_region_quiet_below (by kernel_rfl) (by kernel_rfl) ?_
    (repeat (quiet_step (first | (go_at_call 40; with_reducible exact cA _ _))))
    refine wpQuiet_nil ?_; intro _ hw'; obtain ⟨⟨dq, osq⟩, hw''⟩ := hw'; subst hw''; have HQ := Lib.hid (below_regrown wr dq osq); clear cA c2' d2' y0' y1' y2' z0' z1' z2' HCE; obtain ⟨wq, hwq⟩ : ∃ wq, grow (redrawn wr dq) osq = wq := ⟨_, rfl⟩; rw [hwq] at HQ ⊢; clear hwq; go_wp2
    go_roundg (l.length - (k + 1))
    case measure => omega
    case rel => exact ⟨k + 1, by omega, by go_num, Lib.hid ⟨(HQ.out.block _ (lt_of_heap HW.out.1)).trans HW.out.1, (HQ.out.block _ (lt_of_heap HW.out.2.1)).trans HW.out.2.1, bl_trans HW.out.2.2 HQ.out⟩⟩
  · have hkd : decide ((k : Int) < (l.length : Int)) = false := by simp; omega
    go_wp2; go_ret; exact ⟨rfl, hbw⟩
end Go.Proofs.YtifcelebfagjbaaGreatDoor
namespace Go.Proofs.YtifcelebfagjbaaGreatDoor
open Go.RowKit Go.Tw Go.Tw.Ord Go.Tw.Po Go.Sort
set_option maxRecDepth 100000 in
set_option maxHeartbeats 2000000 in
theorem csame_any (l : List Chg) (v1 v2 : Value) (w : World) (h1 : SlIs (tChg 140) (· < w.heap.size) w v1 l) (h2 : SlIs (tChg 140) (· < w.heap.size) w v2 l) :
  Calls Tryz.prog 27 #[v1, v2] w fun e w' => e = .returned (.bool true) ∧ Below w.heap.size w w' := by
 obtain ⟨ao1, cap1, b1, off1, rfl, p1, p2, ho1⟩ := chg_open h1; obtain ⟨ao2, cap2, b2, off2, rfl, q1, q2, ho2⟩ := chg_open h2; unfold maxLen at p2 q2; have HO1 := Lib.hid ho1; have HO2 := Lib.hid ho2; clear h1 h2 ho1 ho2
 go_enter Tryz.func27, Tryz.ntmps27
 go_wp2
 go_loopg [5] l.length (fun g i wr => ∃ k : Nat, k + g = l.length ∧ i = .int .i64 k ∧ Hid (Below w.heap.size w wr))
 case atStart => exact ⟨0, by omega, rfl, Lib.hid (Below.refl _ _)⟩
 case round =>
  obtain ⟨k, hk, rfl, HW⟩ := hrel; have hbw := HW.out
  by_cases hlt : k < l.length
  · obtain ⟨rfl, -, hb1, -, u1, s1, y0, y1, y2, y3, y4, y5, y6⟩ := HO1.out wr (.of_below hbw) k hlt
    obtain ⟨rfl, -, hb2, -, u2, s2, z0, z1, z2, z3, z4, z5, z6⟩ := HO2.out wr (.of_below hbw) k hlt; have k0 : (0 : Int) ≤ (k : Int) := by omega
    have k1 : (k : Int) < (l.length : Int) := by omega
    generalize l[k] = y at *; have r1 : SlIs tSI (· < wr.heap.size) wr u1 y.ls := s1.keep (fun q (hq : q < w.heap.size) => Nat.lt_of_lt_of_le hq hbw.size) (SameOn.refl _ _); have r2 : SlIs tSI (· < wr.heap.size) wr u2 y.ls := s2.keep (fun q (hq : q < w.heap.size) => Nat.lt_of_lt_of_le hq hbw.size) (SameOn.refl _ _)
    obtain ⟨a1, n1, m1, hu1⟩ : ∃ a n c, u1 = .slice a n c := by
     obtain ⟨a, c, _, _, e, -⟩ := s1; exact ⟨a, _, c, e⟩
    obtain ⟨a2, n2, m2, hu2⟩ : ∃ a n c, u2 = .slice a n c := by
     obtain ⟨a, c, _, _, e, -⟩ := s2; exact ⟨a, _, c, e⟩
    subst hu1 hu2; have HCE := Lib.hid (show ∀ W, Below wr.heap.size wr W → Calls Tryz.prog 59 #[.agg #[.string y.key, .string y.veh, .string y.sys, .int .i64 y.cls, .int .i64 y.tm, .slice a1 n1 m1, .int .i64 y.c], .agg #[.string y.key, .string y.veh, .string y.sys, .int .i64 y.cls, .int .i64 y.tm, .slice a2 n2 m2, .int .i64 y.c]] W fun e w' => e = .returned (.bool true) ∧ Below W.heap.size W w' from fun W hW => sameC_any y _ _ W (r1.step hW) (r2.step hW))
    go_upto_region 6 with (fail)
    have cA := fun d os => Calls.regrown_of (HCE.out _ (below_regrown wr d os))
    have y0' := cell_regrown y0; have y1' := cell_regrown y1; have y2' := cell_regrown y2; have y3' := cell_regrown y3; have y4' := cell_regrown y4; have y5' := cell_regrown y5; have y6' := cell_regrown y6; have z0' := cell_regrown z0; have z1' := cell_regrown z1; have z2' := cell_regrown z2; have z3' := cell_regrown z3; have z4' := cell_regrown z4; have z5' := cell_regrown z5; have z6' := cell_regrown z6; clear s1 s2 r1 r2 y0 y1 y2 y3 y4 y5 y6 z0 z1 z2 z3 z4 z5 z6 hbw HO1 HO2; refine wp_region_quiet_below (by kernel_rfl) (by kernel_rfl) ?_
    (repeat (quiet_step (first | (go_at_call 59; with_reducible exact cA _ _))))
    refine wpQuiet_nil ?_; intro _ hw'; obtain ⟨⟨dq, osq⟩, hw''⟩ := hw'; subst hw''; have HQ := Lib.hid (below_regrown wr dq osq); clear cA y0' y1' y2' y3' y4' y5' y6' z0' z1' z2' z3' z4' z5' z6' HCE; obtain ⟨wq, hwq⟩ : ∃ wq, grow (redrawn wr dq) osq = wq := ⟨_, rfl⟩; rw [hwq] at HQ ⊢; clear hwq; go_wp2
    go_roundg (l.length - (k + 1))
    case measure => omega
    case rel => exact ⟨k + 1, by omega, by go_num, Lib.hid (bl_trans HW.out HQ.out)⟩
  · have hkd : decide ((k : Int) < (l.length : Int)) = false := by simp; omega
    go_wp2; go_ret; exact ⟨rfl, hbw⟩
end Go.Proofs.YtifcelebfagjbaaGreatDoor
namespace Go.Proofs.YtifcelebfagjbaaGreatDoor
open Go.RowKit Go.Tw Go.Tw.Ord Go.Tw.Po Go.Sort
set_option maxRecDepth 100000 in
set_option maxHeartbeats 8000000 in
theorem bcheckR_any (ve vd : Value) (es : List Ent) (ds : List Chg) (w : World) (he : SlIs (tEnt 101) (· < w.heap.size) w ve es) (hd : SlIs (tChg eL) (· < w.heap.size) w vd ds) (hls : ∀ x ∈ ds, x.ls.length ≤ 1000) (hel : es.length ≤ 10000) :
  Calls Tryz.prog 18 #[.agg #[ve, vd]] w fun e w' => e = .returned (.int .i64 (checkP ⟨es, ds⟩)) ∧ Below w.heap.size w w' := by
 have n0 := alloc1_0 w (.cells #[ve, vd] 70); have HN := Lib.hid (show BB w.heap.size ve vd _ from n0); have HB0 := Lib.hid (bl_alloc (Below.refl w.heap.size w) (.cells #[ve, vd] 70)); obtain ⟨ae, ce, be, oe, rfl, hl1, hm1, ho1⟩ := ent_open he; obtain ⟨ad, cd, bd, od, rfl, hl2, hm2, ho2⟩ := chg_open hd; have HO := Lib.hid ho1; have HO2 := Lib.hid ho2; have HLS := Lib.hid hls; unfold maxLen at hm1 hm2; obtain ⟨d0, d1, -⟩ := blk2 n0; clear he hd ho1 ho2 hls n0
 go_enter Tryz.func18, Tryz.ntmps18
 go_wp2; generalize w.alloc (.cells #[.slice ae es.length ce, .slice ad ds.length cd] 70) = w0 at HN HB0 d0 d1 ⊢
 go_loopg [4] es.length (fun g i wr => ∃ k : Nat, k + g = es.length ∧ i = .int .i64 k ∧ Hid (orL (es.map entC) = orL ((es.drop k).map entC)) ∧ Hid (Below w0.heap.size w0 wr))
 case atStart => exact ⟨0, by omega, rfl, Lib.hid rfl, Lib.hid (Below.refl _ _)⟩
 case round =>
  obtain ⟨k, hk, rfl, HT, HBW⟩ := hrel; have HWW := Lib.hid (bl_trans HB0.out HBW.out)
  by_cases hlt : k < es.length
  · obtain ⟨rfl, -, hbi, hok, hv, hsl, e0, e1, e2⟩ := HO.out wr (.of_below HWW.out) k hlt
    have k0 : (0 : Int) ≤ (k : Int) := by omega
    have k1 : (k : Int) < (es.length : Int) := by omega
    have HST := Lib.hid (orM_drop (f := entC) hlt); generalize es[k] = y at *
    obtain ⟨hva, hvn, hvc, hve⟩ : ∃ a n c, hv = .slice a n c := by
     obtain ⟨a, c, _, _, e, -⟩ := hsl; exact ⟨a, _, c, e⟩
    subst hve; have hsl1 : SlIs tSI (· < wr.heap.size) wr (.slice hva hvn hvc) y.ps := hsl.keep (fun q (hq : q < w.heap.size) => Nat.lt_of_lt_of_le hq HWW.out.size) (SameOn.refl _ _); have HCK := Lib.hid (lcheckR_any y (.slice hva hvn hvc) _ hok hsl1); have HBA := HBW; clear hsl hsl1 hok; obtain ⟨z, hz⟩ : ∃ z, entC y = z := ⟨_, rfl⟩; rw [hz] at HCK HST; clear hz
    by_cases hz0 : z = 0
    · subst hz0
      go_wp2_with (fail)
      with_reducible refine HCK.out.mono ?_
      rintro r w2 ⟨rfl, hb2⟩; have HB2 := Lib.hid (bl_trans HBA.out hb2); clear hb2 HCK; go_wp2
      go_roundg (es.length - (k + 1))
      case measure => omega
      case rel => exact ⟨k + 1, by omega, by go_num, Lib.hid (HT.out.trans (HST.out.trans (if_pos (by trivial)))), HB2⟩
    · have hz1 : (z != 0) = true := by simpa using hz0
      have hzz := HT.out.trans (HST.out.trans (if_neg hz0)); have HR := Lib.hid (show checkP ⟨es, ds⟩ = z from (ck_e (b := ⟨es, ds⟩) (by simp only; rw [hzz]; exact hz0)).trans hzz); clear hzz hz0
      go_wp2_with (fail)
      with_reducible refine HCK.out.mono ?_
      rintro r w2 ⟨rfl, hb2⟩; have HB2 := Lib.hid (bl_trans HB0.out (bl_trans HBA.out hb2)); clear hb2 HCK; go_wp2; go_ret; exact ⟨ret_int HR.out, HB2.out⟩
  · have hkd : decide ((k : Int) < (es.length : Int)) = false := by simp; omega
    have HZ := Lib.hid (HT.out.trans (orM_end (by omega))); obtain ⟨wm, rfl⟩ : ∃ wm : World, wm = wr := ⟨_, rfl⟩; have HBM := HWW; have HGM := Lib.hid (show BB w.heap.size (.slice ae es.length ce) (.slice ad ds.length cd) wm from (HBW.out.block _ (lt_of_heap HN.out)).trans HN.out); clear HBW HWW HT HN HB0; clear d0 d1; go_wp2
    go_loopg [6] es.length (fun g i wr => ∃ k : Nat, k + g = es.length ∧ i = .int .i64 k ∧ Hid ((keysE (es.take k)).Nodup) ∧ Hid (Below wm.heap.size wm wr))
    case atStart => exact ⟨0, by omega, rfl, Lib.hid List.nodup_nil, Lib.hid (Below.refl _ _)⟩
    case round =>
     obtain ⟨k, hk, rfl, HNO, HBW⟩ := hrel; have HWW := Lib.hid (bl_trans HBM.out HBW.out)
     by_cases hlt : k < es.length
     · have k0 : (0 : Int) ≤ (k : Int) := by omega
       have k1 : (k : Int) < (es.length : Int) := by omega
       have HKD := Lib.hid (keysE_dup hlt); have HKN := Lib.hid (keysE_new hlt HNO.out); obtain ⟨wk, rfl⟩ : ∃ wk : World, wk = wr := ⟨_, rfl⟩; go_wp2
       go_loopg [7] k (fun g i wr => ∃ j : Nat, j + g = k ∧ i = .int .i64 j ∧ Hid (hasS (keysE (es.take j)) es[k].key = false) ∧ Hid (Below wk.heap.size wk wr))
       case atStart => exact ⟨0, by omega, rfl, Lib.hid (by simp [hasS_no, keysE]), Lib.hid (Below.refl _ _)⟩
       case round =>
        obtain ⟨j, hj, rfl, HJ, HBV⟩ := hrel; have HWV := Lib.hid (bl_trans HWW.out HBV.out)
        by_cases hlt2 : j < k
        · have hje : j < es.length := by omega
          obtain ⟨-, -, -, -, -, -, f0, -⟩ := HO.out wr (.of_below HWV.out) k hlt; obtain ⟨hao, -, hbi, -, -, -, e0, -⟩ := HO.out wr (.of_below HWV.out) j hje; have HTJ := Lib.hid (keysE_take hje)
          have HMJ := Lib.hid (show es[j].key = es[k].key → hasS (keysE (es.take k)) es[k].key = true from fun e => hasS_iff.2 (by
           rw [← e]; unfold keysE; refine List.mem_map.2 ⟨es[j], ?_, rfl⟩; rw [List.mem_take_iff_getElem]
           exact ⟨j, by omega, rfl⟩))
          subst hao; have j0 : (0 : Int) ≤ (j : Int) := by omega
          have j1 : (j : Int) < (es.length : Int) := by omega
          have j2 : (j : Int) < (k : Int) := by omega
          generalize es[j].key = kj at e0 HTJ HMJ; generalize es[k].key = kk at *; obtain ⟨q, hq⟩ : ∃ q, (kj.toList == kk.toList) = q := ⟨_, rfl⟩; have HQ := Lib.hid (show decide (kj = kk) = q by rw [← hq, eq_str])
          cases q with
          | true =>
           have HR := Lib.hid (ck_d (b := ⟨es, ds⟩) HZ.out (HKD.out (HMJ.out (by simpa using HQ.out))))
           go_wp2_with (go_quiet (fail))
           go_ret; exact ⟨ret_int HR.out, bl_drewN HWV.out _⟩
          | false =>
           have HJ2 := Lib.hid (show hasS (keysE (es.take (j + 1))) kk = false from by
            rw [HTJ.out, hasS_no, List.mem_append, List.mem_singleton]; rintro (h | h)
            · exact (hasS_no.1 HJ.out) h
            · have := HQ.out; rw [h] at this; simp at this)
           go_wp2_with (go_quiet (fail))
           go_roundg (k - (j + 1))
           case measure => omega
           case rel => exact ⟨j + 1, by omega, by go_num, HJ2, Lib.hid (bl_drewN HBV.out _)⟩
        · have hjd : decide ((j : Int) < (k : Int)) = false := by simp; omega
          obtain rfl : j = k := by omega
          have HN2 := Lib.hid (HKN.out HJ.out); have HBO := Lib.hid (bl_trans HBW.out HBV.out); go_wp2
          go_roundg (es.length - (j + 1))
          case measure => omega
          case rel => exact ⟨j + 1, by omega, by go_num, HN2, HBO⟩
     · have hkd : decide ((k : Int) < (es.length : Int)) = false := by simp; omega
       rw [show es.take k = es from List.take_of_length_le (by omega)] at HNO; have HGR := Lib.hid (show BB w.heap.size (.slice ae es.length ce) (.slice ad ds.length cd) wr from (HBW.out.block _ (lt_of_heap HGM.out)).trans HGM.out); obtain ⟨wo, rfl⟩ : ∃ wo : World, wo = wr := ⟨_, rfl⟩; go_wp2
       go_loopg [8] ds.length (fun g i wr => ∃ j : Nat, j + g = ds.length ∧ i = .int .i64 j ∧ Hid (orL (ds.map chkC) = orL ((ds.drop j).map chkC)) ∧ Hid (Below wo.heap.size wo wr))
       case atStart => exact ⟨0, by omega, rfl, Lib.hid rfl, Lib.hid (Below.refl _ _)⟩
       case round =>
        obtain ⟨j, hj, rfl, HT, HBV⟩ := hrel; have HWV := Lib.hid (bl_trans HWW.out HBV.out)
        by_cases hlt2 : j < ds.length
        · obtain ⟨rfl, -, hbi, hok, hv, hsl, e0, e1, e2, e3, e4, e5, e6⟩ := HO2.out wr (.of_below HWV.out) j hlt2
          have k0 : (0 : Int) ≤ (j : Int) := by omega
          have k1 : (j : Int) < (ds.length : Int) := by omega
          have hyl := HLS.out _ (List.getElem_mem hlt2); have HST := Lib.hid (orM_drop (f := chkC) hlt2); generalize ds[j] = y at *
          obtain ⟨hva, hvn, hvc, hve⟩ : ∃ a n c, hv = .slice a n c := by
           obtain ⟨a, c, _, _, e, -⟩ := hsl; exact ⟨a, _, c, e⟩
          subst hve; have hsl1 : SlIs tSI (· < wr.heap.size) wr (.slice hva hvn hvc) y.ls := hsl.keep (fun q (hq : q < w.heap.size) => Nat.lt_of_lt_of_le hq HWV.out.size) (SameOn.refl _ _); have HCK := Lib.hid (pcheckR_any y (.slice hva hvn hvc) _ hok hsl1 hyl); have HBA := HBV; have gy := (HBV.out.block _ (lt_of_heap HGR.out)).trans HGR.out; obtain ⟨d0, d1, -⟩ := blk2 gy; clear gy; clear hsl hsl1 hok; obtain ⟨z, hz⟩ : ∃ z, chkC y = z := ⟨_, rfl⟩; rw [hz] at HCK HST; clear hz
          by_cases hz0 : z = 0
          · subst hz0
            go_wp2_with (fail)
            with_reducible refine HCK.out.mono ?_
            rintro r w2 ⟨rfl, hb2⟩; have HB2 := Lib.hid (bl_trans HBA.out hb2); clear hb2 HCK; go_wp2
            go_roundg (ds.length - (j + 1))
            case measure => omega
            case rel => exact ⟨j + 1, by omega, by go_num, Lib.hid (HT.out.trans (HST.out.trans (if_pos (by trivial)))), HB2⟩
          · have hz1 : (z != 0) = true := by simpa using hz0
            have hzz := HT.out.trans (HST.out.trans (if_neg hz0)); have HR := Lib.hid (show checkP ⟨es, ds⟩ = z from (ck_c (b := ⟨es, ds⟩) HZ.out HNO.out (by simp only; rw [hzz]; exact hz0)).trans hzz); clear hzz hz0
            go_wp2_with (fail)
            with_reducible refine HCK.out.mono ?_
            rintro r w2 ⟨rfl, hb2⟩; have HB2 := Lib.hid (bl_trans HWW.out (bl_trans HBA.out hb2)); clear hb2 HCK; go_wp2; go_ret; exact ⟨ret_int HR.out, HB2.out⟩
        · have hjd : decide ((j : Int) < (ds.length : Int)) = false := by simp; omega
          have HZC := Lib.hid (HT.out.trans (orM_end (by omega))); have HGV := Lib.hid (show BB w.heap.size (.slice ae es.length ce) (.slice ad ds.length cd) wr from (HBV.out.block _ (lt_of_heap HGR.out)).trans HGR.out); obtain ⟨d0, d1, -⟩ := blk2 HGV.out; obtain ⟨wp, rfl⟩ : ∃ wp : World, wp = wr := ⟨_, rfl⟩; go_wp2; clear d0 d1
          go_loopg [10] ds.length (fun g i wr => ∃ m : Nat, m + g = ds.length ∧ i = .int .i64 ((m : Int) + 1) ∧ Hid (∀ q (hq : q + 1 < ds.length), q < m → ltB ds[q].key ds[q + 1].key = true) ∧ Hid (Below wp.heap.size wp wr))
          case atStart => exact ⟨0, by omega, rfl, Lib.hid (fun q _ h => by omega), Lib.hid (Below.refl _ _)⟩
          case round =>
           obtain ⟨m, hm, rfl, HT, HBX⟩ := hrel; have HWX := Lib.hid (bl_trans HWV.out HBX.out); have gx := (HBX.out.block _ (lt_of_heap HGV.out)).trans HGV.out; obtain ⟨d0, d1, -⟩ := blk2 gx; clear gx
           by_cases hlt3 : m + 1 < ds.length
           · obtain ⟨hao, -, -, -, hv1, -, e0, -⟩ := HO2.out wr (.of_below HWX.out) m (by omega)
             obtain ⟨-, -, -, -, hv2, -, f0, -⟩ := HO2.out wr (.of_below HWX.out) (m + 1) hlt3; subst hao; have j0 : (0 : Int) ≤ (m : Int) := by omega
             have j1 : (m : Int) + 1 < (ds.length : Int) := by omega
             have j2 : (m : Int) < (ds.length : Int) := by omega
             have j3 : (0 : Int) ≤ (m : Int) + 1 := by omega
             have js : IntKind.i64.wrap ((m : Int) + 1 - 1) = (m : Int) := (show IntKind.i64.wrap ((m : Int) + 1 - 1) = (m : Int) + 1 - 1 from wrap_in (by omega) (by omega)).trans (by omega); have jt : ((m : Int) + 1).toNat = m + 1 := by omega
             have HBA := Lib.hid (show ∀ a b : ByteArray, Op.bytesLess a.toList b.toList = ltB a b from fun a b => less_str _ _); have HCO := Lib.hid (fun (h : ltB ds[m].key ds[m + 1].key = false) => ck_o (b := ⟨es, ds⟩) HZ.out HNO.out HZC.out (fun h2 => by have := h2 m hlt3; rw [h] at this; cases this))
             have HGO := Lib.hid (fun (hq : ltB ds[m].key ds[m + 1].key = true) i (hi : i + 1 < ds.length) (h : i < m + 1) => show ltB ds[i].key ds[i + 1].key = true from by
              by_cases e : i = m
              · subst e; exact hq
              · exact HT.out i hi (by omega))
             generalize ds[m].key = ka at e0 HCO HGO; generalize ds[m + 1].key = kb2 at f0 HCO HGO; obtain ⟨q, hq⟩ : ∃ q, ltB ka kb2 = q := ⟨_, rfl⟩; have HQ := Lib.hid hq; clear hq
             cases q with
             | true =>
              have g1 : Op.bytesLess kb2.toList ka.toList = false := (HBA.out _ _).trans (ltB_asymm HQ.out); have g2 : (kb2.toList == ka.toList) = false := by rw [eq_str]; simpa using fun e => ltB_ne HQ.out e.symm
              have HG := Lib.hid (HGO.out HQ.out)
              go_wp2_with (go_quiet (fail))
              go_roundg (ds.length - (m + 1))
              case measure => omega
              case rel => exact ⟨m + 1, by omega, by go_num, HG, Lib.hid (bl_drewN HBX.out _)⟩
             | false =>
              have HR := Lib.hid (HCO.out HQ.out)
              by_cases he : kb2 = ka
              · have g2 : (kb2.toList == ka.toList) = true := by rw [eq_str]; simpa using he
                have g1 : Op.bytesLess kb2.toList ka.toList = false := (HBA.out _ _).trans (by rw [he]; exact ltB_irrefl _); clear he
                go_wp2_with (go_quiet (fail))
                go_ret; exact ⟨ret_int HR.out, bl_drewN HWX.out _⟩
              · have g2 : (kb2.toList == ka.toList) = false := by rw [eq_str]; simpa using he
                have g1 : Op.bytesLess kb2.toList ka.toList = true := (HBA.out _ _).trans (by
                 cases h : ltB kb2 ka with
                 | true => rfl
                 | false => exact absurd (ltB_total h HQ.out) he)
                clear he
                go_wp2_with (go_quiet (fail))
                go_ret; exact ⟨ret_int HR.out, bl_drewN HWX.out _⟩
           · have hmd : decide ((m : Int) + 1 < (ds.length : Int)) = false := by simp; omega
             have HR := Lib.hid (ck_0 (b := ⟨es, ds⟩) HZ.out HNO.out HZC.out (fun i hi => HT.out i hi (by have h2 : i + 1 < ds.length := hi; omega))); go_wp2; go_ret; exact ⟨ret_int HR.out, HWX.out⟩
set_option maxHeartbeats 1000000 in
theorem bsame_any (es : List Ent) (ds : List Chg) (v1 d1 v2 d2 : Value) (w : World) (h1 : SlIs (tEnt 101) (· < w.heap.size) w v1 es) (g1 : SlIs (tChg eL) (· < w.heap.size) w d1 ds) (h2 : SlIs (tEnt 101) (· < w.heap.size) w v2 es) (g2 : SlIs (tChg eL) (· < w.heap.size) w d2 ds) :
  Calls Tryz.prog 22 #[.agg #[v1, d1], .agg #[v2, d2]] w fun e w' => e = .returned (.bool true) ∧ Below w.heap.size w w' := by
 have n0 := alloc2_0 w (.cells #[v1, d1] 70) (.cells #[v2, d2] 70); have n1 := alloc2_1 w (.cells #[v1, d1] 70) (.cells #[v2, d2] 70); have HB0 := Lib.hid (bl_alloc (bl_alloc (Below.refl w.heap.size w) (.cells #[v1, d1] 70)) (.cells #[v2, d2] 70)); obtain ⟨a1, c1, _, _, rfl, -⟩ := id h1; obtain ⟨a2, c2, _, _, rfl, -⟩ := id h2; obtain ⟨a3, c3, _, _, rfl, -⟩ := id g1; obtain ⟨a4, c4, _, _, rfl, -⟩ := id g2; have HL := Lib.hid (lsame_any es _ _ _ (h1.step HB0.out) (h2.step HB0.out)); have G1 := Lib.hid g1; have G2 := Lib.hid g2; have N0 := Lib.hid n0; have N1 := Lib.hid n1; obtain ⟨x0, x1, -⟩ := blk2 n0; obtain ⟨y0, y1, -⟩ := blk2 n1; clear h1 h2 g1 g2 n0 n1
 go_enter Tryz.func22, Tryz.ntmps22
 go_wp2_with (fail)
 with_reducible refine HL.out.mono ?_
 clear HL; rintro r w2 ⟨rfl, hb2⟩; have HB2 := Lib.hid (bl_trans HB0.out hb2); have HCS := Lib.hid (csame_any ds _ _ w2 (G1.out.step HB2.out) (G2.out.step HB2.out)); have n0 := (hb2.block _ (lt_of_heap N0.out)).trans N0.out; have n1 := (hb2.block _ (lt_of_heap N1.out)).trans N1.out; clear x0 x1 y0 y1 hb2; obtain ⟨x0, x1, -⟩ := blk2 n0; obtain ⟨y0, y1, -⟩ := blk2 n1; clear n0 n1
 go_wp2_with (fail)
 with_reducible refine HCS.out.mono ?_
 clear HCS; rintro r w3 ⟨rfl, hb3⟩; have HB3 := Lib.hid (bl_trans HB2.out hb3); clear hb3; go_wp2; go_ret; exact ⟨rfl, HB3.out⟩
end Go.Proofs.YtifcelebfagjbaaGreatDoor
namespace Go.Proofs.YtifcelebfagjbaaGreatDoor
open Go.RowKit Go.Tw Go.Tw.Ord Go.Tw.Po Go.Sort
def zCfg (va : Value) : Array Value := #[.slice none 0 0, .slice none 0 0, .slice none 0 0, .slice none 0 0, .slice none 0 0, .slice none 0 0, .int .i64 0, .int .i64 0, .slice none 0 0, .int .i64 0, .slice none 0 0, .slice none 0 0, .slice none 0 0, .slice none 0 0, .slice none 0 0, .slice none 0 0, .slice none 0 0, va, .slice none 0 0, .slice none 0 0, .slice none 0 0, .slice none 0 0, .int .i64 0, .slice none 0 0, .string ⟨#[]⟩]
theorem zCfgA (va : Value) : CfgA (zCfg va) va := ⟨rfl, rfl⟩
def agX (vx : Value) : Value := .agg #[.string ⟨#[116, 58, 99, 49, 46, 53]⟩, .string ⟨#[65, 66, 49, 50]⟩, .string ⟨#[109]⟩, .int .i64 1, .int .i64 100, vx, .int .i64 400]
theorem cokX : COk cX := ⟨by decide, by decide, by decide, by decide⟩
theorem chgX : ChgOk cX := ⟨by decide, by decide, by decide, by unfold i64ok; decide, by unfold i64ok; decide, by unfold i64ok; decide⟩
theorem oneSI {W : World} {s : ByteArray} {n : Int} {t : TypeId} (h : SIOk ⟨s, n⟩) : SlIs tSI (fun k => W.heap.size ≤ k ∧ k < (W.alloc (.cells #[.string s, .int .i64 n] t)).heap.size) (W.alloc (.cells #[.string s, .int .i64 n] t)) (.slice (some ⟨W.heap.size, 0, none⟩) 1 1) [⟨s, n⟩] :=
 (NewL.ofOwn ownSI (OwnSl.lit (T := tSI) (l := [⟨s, n⟩]) (css := [siCells ⟨s, n⟩]) rfl ⟨tSI_mk h, trivial⟩ (Nat.le_refl _) (show 1 ≤ maxLen by decide)) (Nat.le_refl _)).sl
set_option maxHeartbeats 1000000 in
theorem charge_any (w : World) : Calls Tryz.prog 29 #[] w fun e w' => (∃ a c, e = .returned (agX (.slice a 1 c)) ∧ SlIs tSI (· < w'.heap.size) w' (.slice a 1 c) cX.ls) ∧ Below w.heap.size w w' := by
 have n0 := alloc2_0 w (.cells #[.string ⟨#[116, 58, 99, 49, 46, 53]⟩, .string ⟨#[65, 66, 49, 50]⟩, .string ⟨#[109]⟩, .int .i64 1, .int .i64 100, .slice (some ⟨w.heap.size + 1, 0, none⟩) 1 1, .int .i64 400] 49) (.cells #[.string ⟨#[98, 97, 115, 101]⟩, .int .i64 400] 140); have HB0 := Lib.hid (bl_alloc (bl_alloc (Below.refl w.heap.size w) (.cells #[.string ⟨#[116, 58, 99, 49, 46, 53]⟩, .string ⟨#[65, 66, 49, 50]⟩, .string ⟨#[109]⟩, .int .i64 1, .int .i64 100, .slice (some ⟨w.heap.size + 1, 0, none⟩) 1 1, .int .i64 400] 49)) (.cells #[.string ⟨#[98, 97, 115, 101]⟩, .int .i64 400] 140)); have HS := Lib.hid ((oneSI (W := w.alloc (.cells #[.string ⟨#[116, 58, 99, 49, 46, 53]⟩, .string ⟨#[65, 66, 49, 50]⟩, .string ⟨#[109]⟩, .int .i64 1, .int .i64 100, .slice (some ⟨w.heap.size + 1, 0, none⟩) 1 1, .int .i64 400] 49)) (s := ⟨#[98, 97, 115, 101]⟩) (n := 400) (t := 140) ⟨by decide, by unfold i64ok; decide⟩).keep (S' := (· < ((w.alloc (.cells #[.string ⟨#[116, 58, 99, 49, 46, 53]⟩, .string ⟨#[65, 66, 49, 50]⟩, .string ⟨#[109]⟩, .int .i64 1, .int .i64 100, .slice (some ⟨w.heap.size + 1, 0, none⟩) 1 1, .int .i64 400] 49)).alloc (.cells #[.string ⟨#[98, 97, 115, 101]⟩, .int .i64 400] 140)).heap.size)) (fun _ h => h.2) (SameOn.refl _ _)); obtain ⟨x0, x1, x2, x3, x4, x5, x6, -⟩ := blk7 n0; clear n0
 go_enter Tryz.func29, Tryz.ntmps29
 go_wp2; refine bodyPost_ret (v := agX (.slice (some ⟨w.heap.size + 1, 0, none⟩) 1 1)) (by simp [results, Tryz.results29, go_sem, x0, x1, x2, x3, x4, x5, x6, agX]) rfl ⟨⟨_, _, rfl, by have h := HS.out; simp only [World.size_alloc] at h ⊢; exact h⟩, HB0.out⟩
structure AwS (g1 g3 g5 g7 g9 : Nat) (kx : ByteArray) (v1 d1 v3 d3 v5 d5 v7 d7 vp : Value) (wr : World) : Prop where
 b1 : BB g1 v1 d1 wr
 b3 : BB g3 v3 d3 wr
 b5 : BB g5 v5 d5 wr
 b7 : BB g7 v7 d7 wr
 b9 : wr.heap[g9]? = some (.cells #[.string kx, .int .i64 100, vp] 56 (0, 0))
 s1 : SlIs (tEnt 101) (· < wr.heap.size) wr v1 [e0X]
 t1 : SlIs (tChg eL) (· < wr.heap.size) wr d1 [cX]
 s3 : SlIs (tEnt 101) (· < wr.heap.size) wr v3 [e0X, p0X]
 t3 : SlIs (tChg eL) (· < wr.heap.size) wr d3 [cX]
 s5 : SlIs (tEnt 101) (· < wr.heap.size) wr v5 [e0X, v0X]
 t5 : SlIs (tChg eL) (· < wr.heap.size) wr d5 []
 s7 : SlIs (tEnt 101) (· < wr.heap.size) wr v7 [e0X]
 t7 : SlIs (tChg eL) (· < wr.heap.size) wr d7 [cX]
 p9 : SlIs tSI (· < wr.heap.size) wr vp [⟨aX, 300⟩, ⟨rX, -300⟩]
theorem AwS.step {g1 g3 g5 g7 g9 : Nat} {kx : ByteArray} {v1 d1 v3 d3 v5 d5 v7 d7 vp : Value} {wr w' : World} (h : AwS g1 g3 g5 g7 g9 kx v1 d1 v3 d3 v5 d5 v7 d7 vp wr) (hb : Below wr.heap.size wr w') : AwS g1 g3 g5 g7 g9 kx v1 d1 v3 d3 v5 d5 v7 d7 vp w' :=
 ⟨(hb.block _ (lt_of_heap h.b1)).trans h.b1, (hb.block _ (lt_of_heap h.b3)).trans h.b3, (hb.block _ (lt_of_heap h.b5)).trans h.b5, (hb.block _ (lt_of_heap h.b7)).trans h.b7, (hb.block _ (lt_of_heap h.b9)).trans h.b9,
  h.s1.step hb, h.t1.step hb, h.s3.step hb, h.t3.step hb, h.s5.step hb, h.t5.step hb, h.s7.step hb, h.t7.step hb, h.p9.step hb⟩
theorem bokX0 : BOk [cX] 0 ⟨[], []⟩ := ⟨by decide, by decide, fun _ h => by simp at h, List.Pairwise.nil, fun _ h => by simp at h, fun x h => by simp at h; subst h; exact cokX, fun _ h => by simp at h⟩
theorem bokX1 : BOk [cX] 1 ⟨[e0X], [cX]⟩ := by
 have := bokX0.apply (c := []) (x := cX) (by decide) (by simp); rw [applyX] at this; exact this
theorem fitX : Fit (posL [e0X, p0X]) := fit_all.1 (by decide)
theorem cf0 : CfOk [] := fun _ h => by simp at h
theorem oneChg {W : World} {x : Chg} {vx : Value} (hx : ChgOk x) (h : SlIs tSI (· < W.heap.size) W vx x.ls) : SlIs (tChg eL) (· < (W.alloc (.cells (cCells x vx).toArray 49)).heap.size) (W.alloc (.cells (cCells x vx).toArray 49)) (.slice (some ⟨W.heap.size, 0, none⟩) 1 1) [x] :=
 (OwnSl.lit (T := tChg eL) (l := [x]) (css := [cCells x vx]) (by simp) ⟨tChg_mk hx h, trivial⟩ (Nat.le_refl _) (show 1 ≤ maxLen by decide)).sl
theorem bkBox {w1 : World} {v d : Value} {es : List Ent} {ds : List Chg} {S1 S2 : Nat → Prop} (hv : SlIs (tEnt 101) S1 w1 v es) (h1 : ∀ k, S1 k → k < w1.heap.size) (hd : SlIs (tChg eL) S2 w1 d ds) (h2 : ∀ k, S2 k → k < w1.heap.size) :
  ∀ W, Below (w1.alloc (.cells #[v, d] 70)).heap.size (w1.alloc (.cells #[v, d] 70)) W → BB w1.heap.size v d W ∧ SlIs (tEnt 101) (· < W.heap.size) W v es ∧ SlIs (tChg eL) (· < W.heap.size) W d ds := fun W hW => by
 have hb : Below w1.heap.size w1 W := bl_trans (bl_alloc (Below.refl w1.heap.size w1) _) hW; exact ⟨(hW.block _ (by simp)).trans (heap_alloc_new _ _), (hv.keep h1 (SameOn.refl _ _)).step hb, (hd.keep h2 (SameOn.refl _ _)).step hb⟩
set_option maxRecDepth 100000 in
set_option maxHeartbeats 16000000 in
theorem awake_any (w : World) (hf : FmtAll w) : Calls Tryz.prog 11 #[] w fun e w' => e = .returned (.bool true) ∧ Below w.heap.size w w' := by
 have HF := Lib.hid hf; have HC0 := Lib.hid (charge_any w); unfold agX at HC0; clear hf
 go_enter Tryz.func11, Tryz.ntmps11
 go_wp2_with (fail)
 with_reducible refine HC0.out.mono ?_
 clear HC0; rintro r wa ⟨⟨a, c, rfl, hsa⟩, hba⟩
 have HAP := Lib.hid (show Calls Tryz.prog 21 #[.agg #[.slice none 0 0, .slice none 0 0, .slice none 0 0, .slice none 0 0, .slice none 0 0, .slice none 0 0, .int .i64 0, .int .i64 0, .slice none 0 0, .int .i64 0, .slice none 0 0, .slice none 0 0, .slice none 0 0, .slice none 0 0, .slice none 0 0, .slice none 0 0, .slice none 0 0, .slice none 0 0, .slice none 0 0, .slice none 0 0, .slice none 0 0, .slice none 0 0, .int .i64 0, .slice none 0 0, .string ⟨#[]⟩], .agg #[.slice none 0 0, .slice none 0 0], .agg #[.string ⟨#[116, 58, 99, 49, 46, 53]⟩, .string ⟨#[65, 66, 49, 50]⟩, .string ⟨#[109]⟩, .int .i64 1, .int .i64 100, .slice a 1 c, .int .i64 400]] wa (BookE wa (.agg #[.slice none 0 0, .slice none 0 0]) (⟨[e0X], [cX]⟩, 0)) from by
  have h := apply_any [cX] 0 [] (zCfg (.slice none 0 0)) (.slice none 0 0) (.slice none 0 0) (.slice none 0 0) (.slice a 1 c) [] [] cX wa (zCfgA _) SlIs.nil cf0 bokX0 (by decide) cokX SlIs.nil SlIs.nil chgX hsa (HF.out.step hba); rw [applyX] at h
  exact h)
 have HBa := Lib.hid hba; unfold BookE at HAP; clear hsa hba
 go_wp2_with (fail)
 with_reducible refine HAP.out.mono ?_
 clear HAP; rintro r w1 ⟨v1, d1, rfl, hv1, hd1, hb1, -⟩; have HB1 := Lib.hid (bl_trans HBa.out hb1); clear hb1 HBa; obtain ⟨a1, c1, _, _, hvv, -⟩ := id hv1; have hvv : v1 = .slice a1 1 c1 := hvv; subst hvv; obtain ⟨a2, c2, _, _, hvv, -⟩ := id hd1; have hvv : d1 = .slice a2 1 c2 := hvv; subst hvv
 go_upto_region 2 with (fail)
 have HBB1 := Lib.hid (bl_alloc (Below.refl w1.heap.size w1) (.cells #[(.slice a1 1 c1), (.slice a2 1 c2)] 70)); have HK1 := Lib.hid (bkBox hv1 (fun k h => h.2) hd1 (fun k h => h.2)); clear hv1 hd1; generalize w1.alloc (.cells #[(.slice a1 1 c1), (.slice a2 1 c2)] 70) = u1 at HBB1 HK1 ⊢; generalize w1.heap.size = g1 at HK1 ⊢; have HU1 := Lib.hid (bl_trans HB1.out HBB1.out); obtain ⟨hbb, hs1, ht1⟩ := HK1.out u1 (Below.refl _ _); obtain ⟨x0, x1, -⟩ := blk2 hbb
 have HPY := Lib.hid (show Calls Tryz.prog 30 #[.agg #[.slice a1 1 c1, .slice a2 1 c2], .string ⟨#[97, 110, 110]⟩, .int .i64 50, .int .i64 200] u1 (BookE u1 (.agg #[.slice a1 1 c1, .slice a2 1 c2]) (⟨[e0X, p0X], [cX]⟩, 0)) from by
  have h := pay_any [cX] 1 (.slice a1 1 c1) (.slice a2 1 c2) [e0X] [cX] nX 50 200 u1 bokX1 (by decide) hs1 ht1 (by decide) (by unfold i64ok; decide) (by unfold i64ok; decide) (HF.out.step HU1.out); rw [payX] at h
  exact h)
 unfold BookE at HPY; clear hbb hs1 ht1 HB1 HBB1
 go_wp2_with (fail)
 with_reducible refine HPY.out.mono ?_
 clear HPY; rintro r w3 ⟨v3, d3, rfl, hv3, hd3, hb3, -⟩; have HT3 := Lib.hid hb3; obtain ⟨a3, c3, _, _, hvv, -⟩ := id hv3; have hvv : v3 = .slice a3 2 c3 := hvv; subst hvv; obtain ⟨a4, c4, _, _, hvv, -⟩ := id hd3; have hvv : d3 = .slice a4 1 c4 := hvv; subst hvv; clear hb3 x0 x1
 go_upto_region 3 with (fail)
 have HBB3 := Lib.hid (bl_alloc (Below.refl w3.heap.size w3) (.cells #[(.slice a3 2 c3), (.slice a4 1 c4)] 70)); have HK3 := Lib.hid (bkBox hv3 (fun k h => h.2) hd3 (fun k h => h.2)); clear hv3 hd3; generalize w3.alloc (.cells #[(.slice a3 2 c3), (.slice a4 1 c4)] 70) = u3 at HBB3 HK3 ⊢; generalize w3.heap.size = g3 at HK3 ⊢; have HU3 := Lib.hid (bl_trans HT3.out HBB3.out); clear HT3 HBB3; obtain ⟨hbb, hs1, ht1⟩ := HK1.out u3 HU3.out; obtain ⟨x0, x1, -⟩ := blk2 hbb
 have HVO := Lib.hid (show Calls Tryz.prog 31 #[.agg #[.slice none 0 0, .slice none 0 0, .slice none 0 0, .slice none 0 0, .slice none 0 0, .slice none 0 0, .int .i64 0, .int .i64 0, .slice none 0 0, .int .i64 0, .slice none 0 0, .slice none 0 0, .slice none 0 0, .slice none 0 0, .slice none 0 0, .slice none 0 0, .slice none 0 0, .slice none 0 0, .slice none 0 0, .slice none 0 0, .slice none 0 0, .slice none 0 0, .int .i64 0, .slice none 0 0, .string ⟨#[]⟩], .agg #[.slice a1 1 c1, .slice a2 1 c2], .string ⟨#[116, 58, 99, 49, 46, 53]⟩, .int .i64 300] u3 (BookE u3 (.agg #[.slice a1 1 c1, .slice a2 1 c2]) (⟨[e0X, v0X], []⟩, 0)) from by
  have h := void_any [cX] 1 [] (zCfg (.slice none 0 0)) (.slice none 0 0) (.slice a1 1 c1) (.slice a2 1 c2) [e0X] [cX] kX 300 u3 (zCfgA _) SlIs.nil cf0 bokX1 (by decide) hs1 ht1 (by unfold i64ok; decide) (HF.out.step (bl_trans HU1.out HU3.out)); rw [voidX] at h
  exact h)
 unfold BookE at HVO; clear hbb hs1 ht1
 go_wp2_with (fail)
 with_reducible refine HVO.out.mono ?_
 clear HVO; rintro r w5 ⟨v5, d5, rfl, hv5, hd5, hb5, -⟩; have HT5 := Lib.hid hb5; obtain ⟨a5, c5, _, _, hvv, -⟩ := id hv5; have hvv : v5 = .slice a5 2 c5 := hvv; subst hvv; obtain ⟨a6, c6, _, _, hvv, -⟩ := id hd5; have hvv : d5 = .slice a6 0 c6 := hvv; subst hvv; clear hb5 x0 x1
 go_upto_region 4 with (fail)
 have HBB5 := Lib.hid (bl_alloc (Below.refl w5.heap.size w5) (.cells #[(.slice a5 2 c5), (.slice a6 0 c6)] 70)); have HK5 := Lib.hid (bkBox hv5 (fun k h => h.2) hd5 (fun k h => h.2)); clear hv5 hd5; generalize w5.alloc (.cells #[(.slice a5 2 c5), (.slice a6 0 c6)] 70) = u5 at HBB5 HK5 ⊢; generalize w5.heap.size = g5 at HK5 ⊢; have HU5 := Lib.hid (bl_trans HT5.out HBB5.out); clear HT5 HBB5; have HC0 := Lib.hid (charge_any u5); unfold agX at HC0
 go_wp2_with (fail)
 with_reducible refine HC0.out.mono ?_
 clear HC0; rintro r wb ⟨⟨ab, cb, rfl, hsb⟩, hbb⟩; have HSb := Lib.hid hsb; have HUb := Lib.hid hbb; clear hsb hbb; have HSB := Lib.hid (show SlIs (tChg eL) (· < (wb.alloc (.cells #[.string ⟨#[116, 58, 99, 49, 46, 53]⟩, .string ⟨#[65, 66, 49, 50]⟩, .string ⟨#[109]⟩, .int .i64 1, .int .i64 100, .slice ab 1 cb, .int .i64 400] 49)).heap.size) (wb.alloc (.cells #[.string ⟨#[116, 58, 99, 49, 46, 53]⟩, .string ⟨#[65, 66, 49, 50]⟩, .string ⟨#[109]⟩, .int .i64 1, .int .i64 100, .slice ab 1 cb, .int .i64 400] 49)) (.slice (some ⟨wb.heap.size, 0, none⟩) 1 1) [cX] from oneChg chgX HSb.out); have HUc := Lib.hid (bl_trans HUb.out (bl_alloc (Below.refl wb.heap.size wb) (.cells #[.string ⟨#[116, 58, 99, 49, 46, 53]⟩, .string ⟨#[65, 66, 49, 50]⟩, .string ⟨#[109]⟩, .int .i64 1, .int .i64 100, .slice ab 1 cb, .int .i64 400] 49)))
 have HSYN := Lib.hid (show Calls Tryz.prog 23 #[.agg #[.slice none 0 0, .slice none 0 0, .slice none 0 0, .slice none 0 0, .slice none 0 0, .slice none 0 0, .int .i64 0, .int .i64 0, .slice none 0 0, .int .i64 0, .slice none 0 0, .slice none 0 0, .slice none 0 0, .slice none 0 0, .slice none 0 0, .slice none 0 0, .slice none 0 0, .slice none 0 0, .slice none 0 0, .slice none 0 0, .slice none 0 0, .slice none 0 0, .int .i64 0, .slice none 0 0, .string ⟨#[]⟩], .agg #[.slice none 0 0, .slice none 0 0], .slice (some ⟨wb.heap.size, 0, none⟩) 1 1, .int .i64 300] (wb.alloc (.cells #[.string ⟨#[116, 58, 99, 49, 46, 53]⟩, .string ⟨#[65, 66, 49, 50]⟩, .string ⟨#[109]⟩, .int .i64 1, .int .i64 100, .slice ab 1 cb, .int .i64 400] 49)) (BookE _ (.agg #[.slice none 0 0, .slice none 0 0]) (⟨[e0X], [cX]⟩, 0)) from by
  have h := sync_any [cX] 0 [] (zCfg (.slice none 0 0)) (.slice none 0 0) (.slice none 0 0) (.slice none 0 0) (.slice (some ⟨wb.heap.size, 0, none⟩) 1 1) [] [] [cX] 300 _ (zCfgA _) SlIs.nil cf0 bokX0 (by decide) SlIs.nil SlIs.nil HSB.out (fun _ h => h) (by decide) (fun x h => by rw [List.mem_singleton] at h; subst h; exact chgX) (by unfold i64ok; decide) (HF.out.step (bl_trans (bl_trans (bl_trans HU1.out HU3.out) HU5.out) HUc.out)); rw [syncX] at h
  exact h)
 unfold BookE at HSYN
 go_wp2_with (fail)
 with_reducible refine HSYN.out.mono ?_
 clear HSYN HSB HSb HUb; rintro r w7 ⟨v7, d7, rfl, hv7, hd7, hb7, -⟩; have HT7 := Lib.hid hb7; obtain ⟨a7, c7, _, _, hvv, -⟩ := id hv7; have hvv : v7 = .slice a7 1 c7 := hvv; subst hvv; obtain ⟨a8, c8, _, _, hvv, -⟩ := id hd7; have hvv : d7 = .slice a8 1 c8 := hvv; subst hvv; clear hb7
 go_upto_region 5 with (fail)
 have HBB7 := Lib.hid (bl_alloc (Below.refl w7.heap.size w7) (.cells #[(.slice a7 1 c7), (.slice a8 1 c8)] 70)); have HK7 := Lib.hid (bkBox hv7 (fun k h => h.2) hd7 (fun k h => h.2)); clear hv7 hd7; generalize w7.alloc (.cells #[(.slice a7 1 c7), (.slice a8 1 c8)] 70) = u7 at HBB7 HK7 ⊢; generalize w7.heap.size = g7 at HK7 ⊢; have HU57 := Lib.hid (bl_trans HUc.out (bl_trans HT7.out HBB7.out)); clear HT7 HBB7 HUc; have HC0 := Lib.hid (charge_any u7); unfold agX at HC0
 go_wp2_with (fail)
 with_reducible refine HC0.out.mono ?_
 clear HC0; rintro r wd ⟨⟨ad, cd, rfl, hsd⟩, hbd⟩; obtain ⟨kx, hkx⟩ : ∃ kx : ByteArray, kx = ⟨#[116, 58, 99, 49, 46, 53, 35, 50]⟩ := ⟨_, rfl⟩
 have HEY := Lib.hid (show Calls Tryz.prog 12 #[.agg #[.slice none 0 0, .slice none 0 0, .slice none 0 0, .slice none 0 0, .slice none 0 0, .slice none 0 0, .int .i64 0, .int .i64 0, .slice none 0 0, .int .i64 0, .slice none 0 0, .slice none 0 0, .slice none 0 0, .slice none 0 0, .slice none 0 0, .slice none 0 0, .slice none 0 0, .slice none 0 0, .slice none 0 0, .slice none 0 0, .slice none 0 0, .slice none 0 0, .int .i64 0, .slice none 0 0, .string ⟨#[]⟩], .agg #[.string ⟨#[116, 58, 99, 49, 46, 53]⟩, .string ⟨#[65, 66, 49, 50]⟩, .string ⟨#[109]⟩, .int .i64 1, .int .i64 100, .slice ad 1 cd, .int .i64 400], .int .i64 100, .int .i64 2] wd (fun r w' => (∃ vp, r = .returned (.tuple #[.agg #[.string kx, .int .i64 100, vp], .int .i64 0]) ∧ SlIs tSI (· < w'.heap.size) w' vp [⟨aX, 300⟩, ⟨rX, -300⟩]) ∧ Below wd.heap.size wd w') from by
  have h := entry_any [] (zCfg (.slice none 0 0)) (.slice none 0 0) cX (.slice ad 1 cd) 100 2 wd (zCfgA _) SlIs.nil cf0 chgX cokX hsd (by unfold i64ok; decide) (by unfold i64ok; decide) (HF.out.step (bl_trans (bl_trans (bl_trans (bl_trans HU1.out HU3.out) HU5.out) HU57.out) hbd)); rw [entryX] at h; rw [hkx]
  exact h)
 have HUd := Lib.hid hbd; have HKX := Lib.hid hkx; clear hsd hbd hkx
 go_wp2_with (fail)
 with_reducible refine HEY.out.mono ?_
 clear HEY; rintro r w9 ⟨⟨vp, rfl, hvp⟩, hb9⟩; obtain ⟨ap, cp, _, _, hvv, -⟩ := id hvp; have hvv : vp = .slice ap 2 cp := hvv; subst hvv; have HVP := Lib.hid hvp; have HU9 := Lib.hid (bl_trans HUd.out hb9); clear hvp hb9 HUd
 go_upto_region 6 with (fail)
 have n9 := heap_alloc_new w9 (.cells #[.string kx, .int .i64 100, .slice ap 2 cp] 56); have hb9 := bl_alloc (Below.refl w9.heap.size w9) (.cells #[.string kx, .int .i64 100, .slice ap 2 cp] 56); have HVQ := Lib.hid (HVP.out.step hb9); have HUA := Lib.hid (bl_trans HU9.out hb9); clear hb9 HU9 HVP; generalize w9.alloc (.cells #[.string kx, .int .i64 100, .slice ap 2 cp] 56) = uA at n9 HVQ HUA ⊢; generalize w9.heap.size = g9 at n9 ⊢; have HN9 := Lib.hid n9
 have HQ := Lib.hid (show AwS g1 g3 g5 g7 g9 kx (.slice a1 1 c1) (.slice a2 1 c2) (.slice a3 2 c3) (.slice a4 1 c4) (.slice a5 2 c5) (.slice a6 0 c6) (.slice a7 1 c7) (.slice a8 1 c8) (.slice ap 2 cp) uA from by
  obtain ⟨q1, q2, q3⟩ := HK1.out uA (bl_trans HU3.out (bl_trans HU5.out (bl_trans HU57.out HUA.out))); obtain ⟨q4, q5, q6⟩ := HK3.out uA (bl_trans HU5.out (bl_trans HU57.out HUA.out)); obtain ⟨q7, q8, q9⟩ := HK5.out uA (bl_trans HU57.out HUA.out); obtain ⟨q10, q11, q12⟩ := HK7.out uA HUA.out
  exact ⟨q1, q4, q7, q10, n9, q2, q3, q5, q6, q8, q9, q11, q12, HVQ.out⟩)
 have HWA := Lib.hid (bl_trans HU1.out (bl_trans HU3.out (bl_trans HU5.out (bl_trans HU57.out HUA.out)))); clear n9 HVQ HK1 HK3 HK5 HK7 HU1 HU3 HU5 HU57 HUA; have HSM := Lib.hid (bsame_any [e0X] [cX] (.slice a1 1 c1) (.slice a2 1 c2) (.slice a7 1 c7) (.slice a8 1 c8) uA HQ.out.s1 HQ.out.t1 HQ.out.s7 HQ.out.t7); obtain ⟨x0, x1, -⟩ := blk2 HQ.out.b1; obtain ⟨y0, y1, -⟩ := blk2 HQ.out.b3; obtain ⟨z0, z1, -⟩ := blk2 HQ.out.b5; obtain ⟨t0, t1, -⟩ := blk2 HQ.out.b7
 go_wp2_with (fail)
 with_reducible refine HSM.out.mono ?_
 clear HSM; rintro r w10 ⟨rfl, hb10⟩; have HQ2 := Lib.hid (HQ.out.step hb10); have HW2 := Lib.hid (bl_trans HWA.out hb10); clear hb10 x0 x1 y0 y1 z0 z1 t0 t1 HQ HWA; obtain ⟨x0, x1, -⟩ := blk2 HQ2.out.b1; obtain ⟨z0, z1, -⟩ := blk2 HQ2.out.b5; obtain ⟨e0, e1, e2, -⟩ := blk3 HQ2.out.b9; obtain ⟨_, _, pb, po, hpe, -, -, hpo⟩ := si_open HQ2.out.p9; obtain ⟨hpa, -, -, -, pc0, pc1⟩ := hpo w10 (SameOn.refl _ _) 0 (by decide)
 injection hpe with hp1 hp2 hp3
 rw [hpa] at hp1; subst hp1; obtain ⟨_, _, eb, eo, hee, -, -, heo⟩ := ent_open HQ2.out.s1; obtain ⟨hea, -, -, -, hev, -, ec0, -, -⟩ := heo w10 (SameOn.refl _ _) 0 (by decide)
 injection hee with he1 he2 he3
 rw [hea] at he1; subst he1; simp only [List.getElem_cons_zero] at pc0 pc1 ec0; have hkk : (kx.toList == [116, 58, 99, 49, 46, 53, 35, 50]) = true := by rw [HKX.out, ByteArray.toList_eq]; decide
 obtain ⟨ka, hka⟩ : ∃ ka : ByteArray, ka = aX := ⟨_, rfl⟩; obtain ⟨ke, hke⟩ : ∃ ke : ByteArray, ke = e0X.key := ⟨_, rfl⟩; rw [← hka] at pc0; rw [← hke] at ec0; rw [Nat.zero_mul, Nat.add_zero] at pc0 pc1 ec0; have hkb : (ka.toList == [99, 97, 115, 101, 58, 65, 66, 49, 50]) = true := by rw [hka, ByteArray.toList_eq]; decide
 have hkc : (ke.toList == [116, 58, 99, 49, 46, 53, 35, 48]) = true := by rw [hke, ByteArray.toList_eq]; decide
 have HP1 := Lib.hid (show Calls Tryz.prog 19 #[.agg #[.slice (some ⟨eb, eo, none⟩) 1 c1, .slice a2 1 c2], .string ⟨#[116, 58, 99, 49, 46, 53]⟩] w10 (fun e w' => e = .returned (.int .i64 400) ∧ Below w10.heap.size w10 w') from by
  have h := posted_any [cX] (some ⟨eb, eo, none⟩) 1 c1 (.slice a2 1 c2) kX w10 HQ2.out.t1; rw [postedX] at h
  exact h)
 clear hpo heo hka hke hpa hea hp2 hp3 he2 he3
 go_wp2_with (fail)
 with_reducible refine HP1.out.mono ?_
 clear HP1; rintro r w11 ⟨rfl, hb11⟩; have HQ3 := Lib.hid (HQ2.out.step hb11); have HW3 := Lib.hid (bl_trans HW2.out hb11); clear hb11 x0 x1 z0 z1 e0 e1 e2 pc0 pc1 ec0 hev; obtain ⟨z0, z1, -⟩ := blk2 HQ3.out.b5
 have HP2 := Lib.hid (show Calls Tryz.prog 19 #[.agg #[.slice a5 2 c5, .slice a6 0 c6], .string ⟨#[116, 58, 99, 49, 46, 53]⟩] w11 (fun e w' => e = .returned (.int .i64 0) ∧ Below w11.heap.size w11 w') from by
  have h := posted_any [] a5 2 c5 (.slice a6 0 c6) kX w11 HQ3.out.t5; rw [postedY] at h
  exact h)
 go_wp2_with (fail)
 with_reducible refine HP2.out.mono ?_
 clear HP2; rintro r w12 ⟨rfl, hb12⟩; have HQ4 := Lib.hid (HQ3.out.step hb12); have HW4 := Lib.hid (bl_trans HW3.out hb12); clear hb12 z0 z1; obtain ⟨z0, z1, -⟩ := blk2 HQ4.out.b3
 have HBL := Lib.hid (show Calls Tryz.prog 26 #[.agg #[.slice a3 2 c3], .string ⟨#[97, 99, 99, 111, 117, 110, 116, 58, 97, 110, 110]⟩] w12 (fun e w' => e = .returned (.int .i64 (-50)) ∧ Below w12.heap.size w12 w') from by
  have h := balR_any [e0X, p0X] (.slice a3 2 c3) naX w12 HQ4.out.s3 ⟨by decide, fitX⟩; rw [balX] at h
  exact h)
 go_wp2_with (fail)
 with_reducible refine HBL.out.mono ?_
 clear HBL; rintro r w13 ⟨rfl, hb13⟩; have HQ5 := Lib.hid (HQ4.out.step hb13); have HW5 := Lib.hid (bl_trans HW4.out hb13); clear hb13 z0 z1; obtain ⟨z0, z1, -⟩ := blk2 HQ5.out.b3
 have HCK := Lib.hid (show Calls Tryz.prog 17 #[.agg #[.slice a3 2 c3, .slice a4 1 c4]] w13 (fun e w' => e = .returned (.int .i64 0) ∧ Below w13.heap.size w13 w') from by
  have h := bcheck_any (.slice a3 2 c3) (.slice a4 1 c4) [e0X, p0X] [cX] w13 HQ5.out.s3 HQ5.out.t3 (fun x h => by rw [List.mem_singleton] at h; subst h; decide) (by decide); rw [checkX] at h
  exact h)
 go_wp2_with (fail)
 with_reducible refine HCK.out.mono ?_
 clear HCK; rintro r w14 ⟨rfl, hb14⟩; have HW6 := Lib.hid (bl_trans HW5.out hb14); clear hb14 z0 z1; have HZB := Lib.hid (show SlIs (tChg eL) (· < (w14.alloc (.cells #[.string ⟨#[]⟩, .string ⟨#[]⟩, .string ⟨#[]⟩, .int .i64 0, .int .i64 0, .slice none 0 0, .int .i64 0] 49)).heap.size) (w14.alloc (.cells #[.string ⟨#[]⟩, .string ⟨#[]⟩, .string ⟨#[]⟩, .int .i64 0, .int .i64 0, .slice none 0 0, .int .i64 0] 49)) (.slice (some ⟨w14.heap.size, 0, none⟩) 1 1) [zeroC] from oneChg (x := zeroC) ⟨by decide, by decide, by decide, by unfold i64ok; decide, by unfold i64ok; decide, by unfold i64ok; decide⟩ SlIs.nil)
 have HCZ := Lib.hid (show Calls Tryz.prog 17 #[.agg #[.slice none 0 0, .slice (some ⟨w14.heap.size, 0, none⟩) 1 1]] (w14.alloc (.cells #[.string ⟨#[]⟩, .string ⟨#[]⟩, .string ⟨#[]⟩, .int .i64 0, .int .i64 0, .slice none 0 0, .int .i64 0] 49)) (fun e w' => e = .returned (.int .i64 6) ∧ Below (w14.alloc (.cells #[.string ⟨#[]⟩, .string ⟨#[]⟩, .string ⟨#[]⟩, .int .i64 0, .int .i64 0, .slice none 0 0, .int .i64 0] 49)).heap.size (w14.alloc (.cells #[.string ⟨#[]⟩, .string ⟨#[]⟩, .string ⟨#[]⟩, .int .i64 0, .int .i64 0, .slice none 0 0, .int .i64 0] 49)) w') from by
  have h := bcheck_any (.slice none 0 0) (.slice (some ⟨w14.heap.size, 0, none⟩) 1 1) [] [zeroC] _ SlIs.nil HZB.out (fun x h => by rw [List.mem_singleton] at h; subst h; decide) (by decide); rw [checkY] at h
  exact h)
 have HW7 := Lib.hid (bl_trans HW6.out (bl_alloc (Below.refl w14.heap.size w14) (.cells #[.string ⟨#[]⟩, .string ⟨#[]⟩, .string ⟨#[]⟩, .int .i64 0, .int .i64 0, .slice none 0 0, .int .i64 0] 49)))
 go_wp2_with (fail)
 with_reducible refine HCZ.out.mono ?_
 clear HCZ; rintro r w15 ⟨rfl, hb15⟩; have HW8 := Lib.hid (bl_trans HW7.out hb15); clear hb15; go_wp2; go_ret; exact ⟨rfl, HW8.out⟩
end Go.Proofs.YtifcelebfagjbaaGreatDoor
