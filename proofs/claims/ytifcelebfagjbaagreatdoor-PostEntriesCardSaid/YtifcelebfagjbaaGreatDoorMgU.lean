/-
  Layer 31: the reference's One, of equal charges.
-/
import Derived.Test.YtifcelebfagjbaaGreatDoorMgG
namespace Go.Proofs.YtifcelebfagjbaaGreatDoor
open Go.RowKit Go.Tw Go.Tw.Ord Go.Tw.Po Go.Sort
set_option maxRecDepth 100000 in
set_option maxHeartbeats 2000000 in
theorem sameC_any (x : Chg) (v1 v2 : Value) (w : World) (h1 : SlIs tSI (· < w.heap.size) w v1 x.ls) (h2 : SlIs tSI (· < w.heap.size) w v2 x.ls) :
    Calls Tryz.prog 59 #[.agg #[.string x.key, .string x.veh, .string x.sys, .int .i64 x.cls, .int .i64 x.tm, v1, .int .i64 x.c], .agg #[.string x.key, .string x.veh, .string x.sys, .int .i64 x.cls, .int .i64 x.tm, v2, .int .i64 x.c]] w fun e w' => e = .returned (.bool true) ∧ Below w.heap.size w w' := by
  obtain ⟨ao1, cap1, b1, off1, rfl, p1, p2, ho1⟩ := si_open h1
  obtain ⟨ao2, cap2, b2, off2, rfl, q1, q2, ho2⟩ := si_open h2
  unfold maxLen at p2 q2
  have HO1 := Lib.hid ho1
  have HO2 := Lib.hid ho2
  have HB := Lib.hid (bl_alloc (bl_alloc (Below.refl w.heap.size w) (.cells #[.string x.key, .string x.veh, .string x.sys, .int .i64 x.cls, .int .i64 x.tm, .slice ao1 x.ls.length cap1, .int .i64 x.c] 49)) (.cells #[.string x.key, .string x.veh, .string x.sys, .int .i64 x.cls, .int .i64 x.tm, .slice ao2 x.ls.length cap2, .int .i64 x.c] 49))
  have n0 := heap_alloc2_old w (.cells #[.string x.key, .string x.veh, .string x.sys, .int .i64 x.cls, .int .i64 x.tm, .slice ao1 x.ls.length cap1, .int .i64 x.c] 49) (.cells #[.string x.key, .string x.veh, .string x.sys, .int .i64 x.cls, .int .i64 x.tm, .slice ao2 x.ls.length cap2, .int .i64 x.c] 49)
  have n1 := heap_alloc2_new w (.cells #[.string x.key, .string x.veh, .string x.sys, .int .i64 x.cls, .int .i64 x.tm, .slice ao1 x.ls.length cap1, .int .i64 x.c] 49) (.cells #[.string x.key, .string x.veh, .string x.sys, .int .i64 x.cls, .int .i64 x.tm, .slice ao2 x.ls.length cap2, .int .i64 x.c] 49)
  have HN0 := Lib.hid n0
  have HN1 := Lib.hid n1
  have k1 : (x.key.toList == x.key.toList) = true := by simp
  have k4 : (x.veh.toList == x.veh.toList) = true := by simp
  have k5 : (x.sys.toList == x.sys.toList) = true := by simp
  have k2 : (x.tm == x.tm) = true := by simp
  have k3 : (x.tm != x.tm) = false := by simp
  clear h1 h2 ho1 ho2 n0 n1
  go_enter Tryz.func59, Tryz.ntmps59
  go_wp2
  clear k1 k2 k3 k4 k5
  go_loopg [5] x.ls.length (fun g i wr => ∃ k : Nat, k + g = x.ls.length ∧ i = .int .i64 k ∧ Hid (wr.heap[w.heap.size]? = some (.cells #[.string x.key, .string x.veh, .string x.sys, .int .i64 x.cls, .int .i64 x.tm, .slice ao1 x.ls.length cap1, .int .i64 x.c] 49 (0, 0)) ∧ wr.heap[w.heap.size + 1]? = some (.cells #[.string x.key, .string x.veh, .string x.sys, .int .i64 x.cls, .int .i64 x.tm, .slice ao2 x.ls.length cap2, .int .i64 x.c] 49 (0, 0)) ∧ Below w.heap.size w wr))
  case atStart => exact ⟨0, by omega, rfl, Lib.hid ⟨HN0.out, HN1.out, HB.out⟩⟩
  case round =>
    obtain ⟨k, hk, rfl, HW⟩ := hrel
    clear HB HN0 HN1
    obtain ⟨-, -, -, -, -, c2, -⟩ := blk7 HW.out.1
    obtain ⟨-, -, -, -, -, d2, -⟩ := blk7 HW.out.2.1
    have hbw := HW.out.2.2
    by_cases hlt : k < x.ls.length
    · obtain ⟨rfl, -, hb1, -, y0, y1⟩ := HO1.out wr (.of_below hbw) k hlt
      obtain ⟨rfl, -, hb2, -, z0, z1⟩ := HO2.out wr (.of_below hbw) k hlt
      have k0 : (0 : Int) ≤ (k : Int) := by omega
      have k1 : (k : Int) < (x.ls.length : Int) := by omega
      have hke : (x.ls[k].s.toList == x.ls[k].s.toList) = true := by simp
      generalize x.ls[k].s = ys at *
      generalize x.ls[k].n = yn at *
      clear hbw
      go_wp2_with (go_quiet (fail))
      go_roundg (x.ls.length - (k + 1))
      case measure => omega
      case rel => exact ⟨k + 1, by omega, by go_num, Lib.hid ⟨HW.out.1, HW.out.2.1, bl_drewN HW.out.2.2 _⟩⟩
    · have hkd : decide ((k : Int) < (x.ls.length : Int)) = false := by simp; omega
      go_wp2
      go_ret
      exact ⟨rfl, hbw⟩
end Go.Proofs.YtifcelebfagjbaaGreatDoor
