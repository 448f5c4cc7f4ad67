/-
  Layer 32: the reference's SameEntry, of equal entries.
-/
import Derived.Test.YtifcelebfagjbaaGreatDoorMgG
import Derived.Test.YtifcelebfagjbaaGreatDoorMgU
import Derived.Lib.QuietBelow
import Derived.Deep.Cut
import Derived.Test.YtifcelebfagjbaaGreatDoorMgN
import Derived.Test.YtifcelebfagjbaaGreatDoorMgS
import Derived.Test.YtifcelebfagjbaaGreatDoorMgJ
import Derived.Laws.Strings2
import Derived.Test.YtifcelebfagjbaaGreatDoorPoCz
import Derived.Deep.DeepCutAuto
import Derived.Test.YtifcelebfagjbaaGreatDoorMgQ
namespace Go.Proofs.YtifcelebfagjbaaGreatDoor
open Go.RowKit Go.Tw Go.Tw.Ord Go.Tw.Po Go.Sort
set_option maxRecDepth 100000 in
set_option maxHeartbeats 2000000 in
theorem sameE_any (x : Ent) (v1 v2 : Value) (w : World) (h1 : SlIs tSI (· < w.heap.size) w v1 x.ps) (h2 : SlIs tSI (· < w.heap.size) w v2 x.ps) :
    Calls Tryz.prog 40 #[.agg #[.string x.key, .int .i64 x.tm, v1], .agg #[.string x.key, .int .i64 x.tm, v2]] w fun e w' => e = .returned (.bool true) ∧ Below w.heap.size w w' := by
  obtain ⟨ao1, cap1, b1, off1, rfl, p1, p2, ho1⟩ := si_open h1
  obtain ⟨ao2, cap2, b2, off2, rfl, q1, q2, ho2⟩ := si_open h2
  unfold maxLen at p2 q2
  have HO1 := Lib.hid ho1
  have HO2 := Lib.hid ho2
  have HB := Lib.hid (bl_alloc (bl_alloc (Below.refl w.heap.size w) (.cells #[.string x.key, .int .i64 x.tm, .slice ao1 x.ps.length cap1] 56)) (.cells #[.string x.key, .int .i64 x.tm, .slice ao2 x.ps.length cap2] 56))
  have n0 := heap_alloc2_old w (.cells #[.string x.key, .int .i64 x.tm, .slice ao1 x.ps.length cap1] 56) (.cells #[.string x.key, .int .i64 x.tm, .slice ao2 x.ps.length cap2] 56)
  have n1 := heap_alloc2_new w (.cells #[.string x.key, .int .i64 x.tm, .slice ao1 x.ps.length cap1] 56) (.cells #[.string x.key, .int .i64 x.tm, .slice ao2 x.ps.length cap2] 56)
  have HN0 := Lib.hid n0
  have HN1 := Lib.hid n1
  have k1 : (x.key.toList == x.key.toList) = true := by simp
  have k2 : (x.tm == x.tm) = true := by simp
  have k3 : (x.tm != x.tm) = false := by simp
  clear h1 h2 ho1 ho2 n0 n1
  go_enter Tryz.func40, Tryz.ntmps40
  go_wp2
  clear k1 k2 k3
  go_loopg [5] x.ps.length (fun g i wr => ∃ k : Nat, k + g = x.ps.length ∧ i = .int .i64 k ∧ Hid (wr.heap[w.heap.size]? = some (.cells #[.string x.key, .int .i64 x.tm, .slice ao1 x.ps.length cap1] 56 (0, 0)) ∧ wr.heap[w.heap.size + 1]? = some (.cells #[.string x.key, .int .i64 x.tm, .slice ao2 x.ps.length cap2] 56 (0, 0)) ∧ Below w.heap.size w wr))
  case atStart => exact ⟨0, by omega, rfl, Lib.hid ⟨HN0.out, HN1.out, HB.out⟩⟩
  case round =>
    obtain ⟨k, hk, rfl, HW⟩ := hrel
    clear HB HN0 HN1
    obtain ⟨-, -, c2, -⟩ := blk3 HW.out.1
    obtain ⟨-, -, d2, -⟩ := blk3 HW.out.2.1
    have hbw := HW.out.2.2
    by_cases hlt : k < x.ps.length
    · obtain ⟨rfl, -, hb1, -, y0, y1⟩ := HO1.out wr (.of_below hbw) k hlt
      obtain ⟨rfl, -, hb2, -, z0, z1⟩ := HO2.out wr (.of_below hbw) k hlt
      have k0 : (0 : Int) ≤ (k : Int) := by omega
      have k1 : (k : Int) < (x.ps.length : Int) := by omega
      have hke : (x.ps[k].s.toList == x.ps[k].s.toList) = true := by simp
      generalize x.ps[k].s = ys at *
      generalize x.ps[k].n = yn at *
      clear hbw
      go_wp2_with (go_quiet (fail))
      go_roundg (x.ps.length - (k + 1))
      case measure => omega
      case rel => exact ⟨k + 1, by omega, by go_num, Lib.hid ⟨HW.out.1, HW.out.2.1, bl_drewN HW.out.2.2 _⟩⟩
    · have hkd : decide ((k : Int) < (x.ps.length : Int)) = false := by simp; omega
      go_wp2
      go_ret
      exact ⟨rfl, hbw⟩
end Go.Proofs.YtifcelebfagjbaaGreatDoor
/-
  Layer 32: the reference's Same, of equal ledgers.
-/
namespace Go.Proofs.YtifcelebfagjbaaGreatDoor
open Go.RowKit Go.Tw Go.Tw.Ord Go.Tw.Po Go.Sort
set_option maxRecDepth 100000 in
set_option maxHeartbeats 4000000 in
theorem lsame_any (l : List Ent) (v1 v2 : Value) (w : World) (h1 : SlIs (tEnt 101) (· < w.heap.size) w v1 l) (h2 : SlIs (tEnt 101) (· < w.heap.size) w v2 l) :
    Calls Tryz.prog 54 #[.agg #[v1], .agg #[v2]] w fun e w' => e = .returned (.bool true) ∧ Below w.heap.size w w' := by
  obtain ⟨ao1, cap1, b1, off1, rfl, p1, p2, ho1⟩ := ent_open h1
  obtain ⟨ao2, cap2, b2, off2, rfl, q1, q2, ho2⟩ := ent_open h2
  unfold maxLen at p2 q2
  have HO1 := Lib.hid ho1
  have HO2 := Lib.hid ho2
  have HB := Lib.hid (bl_alloc (bl_alloc (Below.refl w.heap.size w) (.cells #[.slice ao1 l.length cap1] 68)) (.cells #[.slice ao2 l.length cap2] 68))
  have HN0 := Lib.hid (heap_alloc2_old w (.cells #[.slice ao1 l.length cap1] 68) (.cells #[.slice ao2 l.length cap2] 68))
  have HN1 := Lib.hid (heap_alloc2_new w (.cells #[.slice ao1 l.length cap1] 68) (.cells #[.slice ao2 l.length cap2] 68))
  clear h1 h2 ho1 ho2
  go_enter Tryz.func54, Tryz.ntmps54
  go_wp2
  go_loopg [5] l.length (fun g i wr => ∃ k : Nat, k + g = l.length ∧ i = .int .i64 k ∧ Hid (wr.heap[w.heap.size]? = some (.cells #[.slice ao1 l.length cap1] 68 (0, 0)) ∧ wr.heap[w.heap.size + 1]? = some (.cells #[.slice ao2 l.length cap2] 68 (0, 0)) ∧ Below w.heap.size w wr))
  case atStart => exact ⟨0, by omega, rfl, Lib.hid ⟨HN0.out, HN1.out, HB.out⟩⟩
  case round =>
    obtain ⟨k, hk, rfl, HW⟩ := hrel
    clear HB HN0 HN1
    have c2 := cell_of_row _ _ 0 _ _ _ HW.out.1
    have d2 := cell_of_row _ _ 0 _ _ _ HW.out.2.1
    have hbw := HW.out.2.2
    by_cases hlt : k < l.length
    · obtain ⟨rfl, -, hb1, -, u1, s1, y0, y1, y2⟩ := HO1.out wr (.of_below hbw) k hlt
      obtain ⟨rfl, -, hb2, -, u2, s2, z0, z1, z2⟩ := HO2.out wr (.of_below hbw) k hlt
      have k0 : (0 : Int) ≤ (k : Int) := by omega
      have k1 : (k : Int) < (l.length : Int) := by omega
      generalize l[k] = y at *
      have r1 : SlIs tSI (· < wr.heap.size) wr u1 y.ps := s1.keep (fun q (hq : q < w.heap.size) => Nat.lt_of_lt_of_le hq hbw.size) (SameOn.refl _ _)
      have r2 : SlIs tSI (· < wr.heap.size) wr u2 y.ps := s2.keep (fun q (hq : q < w.heap.size) => Nat.lt_of_lt_of_le hq hbw.size) (SameOn.refl _ _)
      obtain ⟨a1, n1, m1, hu1⟩ : ∃ a n c, u1 = .slice a n c := by
        obtain ⟨a, c, _, _, e, -⟩ := s1
        exact ⟨a, _, c, e⟩
      obtain ⟨a2, n2, m2, hu2⟩ : ∃ a n c, u2 = .slice a n c := by
        obtain ⟨a, c, _, _, e, -⟩ := s2
        exact ⟨a, _, c, e⟩
      subst hu1 hu2
      have HCE := Lib.hid (show ∀ W, Below wr.heap.size wr W → Calls Tryz.prog 40 #[.agg #[.string y.key, .int .i64 y.tm, .slice a1 n1 m1], .agg #[.string y.key, .int .i64 y.tm, .slice a2 n2 m2]] W fun e w' => e = .returned (.bool true) ∧ Below W.heap.size W w' from fun W hW => sameE_any y _ _ W (r1.step hW) (r2.step hW))
      go_upto_region 6 with (fail)
      have cA := fun d os => Calls.regrown_of (HCE.out _ (below_regrown wr d os))
      have c2' := cell_regrown c2
      have d2' := cell_regrown d2
      have y0' := cell_regrown y0
      have y1' := cell_regrown y1
      have y2' := cell_regrown y2
      have z0' := cell_regrown z0
      have z1' := cell_regrown z1
      have z2' := cell_regrown z2
      clear s1 s2 r1 r2 y0 y1 y2 z0 z1 z2 c2 d2 hbw HO1 HO2
      refine wp_region_quiet_below (by kernel_rfl) (by kernel_rfl) ?_
      (repeat (quiet_step (first | (go_at_call 40; with_reducible exact cA _ _))))
      refine wpQuiet_nil ?_
      intro _ hw'
      obtain ⟨⟨dq, osq⟩, hw''⟩ := hw'
      subst hw''
      have HQ := Lib.hid (below_regrown wr dq osq)
      clear cA c2' d2' y0' y1' y2' z0' z1' z2' HCE
      obtain ⟨wq, hwq⟩ : ∃ wq, grow (redrawn wr dq) osq = wq := ⟨_, rfl⟩
      rw [hwq] at HQ ⊢
      clear hwq
      go_wp2
      go_roundg (l.length - (k + 1))
      case measure => omega
      case rel => exact ⟨k + 1, by omega, by go_num, Lib.hid ⟨(HQ.out.block _ (lt_of_heap HW.out.1)).trans HW.out.1, (HQ.out.block _ (lt_of_heap HW.out.2.1)).trans HW.out.2.1, bl_trans HW.out.2.2 HQ.out⟩⟩
    · have hkd : decide ((k : Int) < (l.length : Int)) = false := by simp; omega
      go_wp2
      go_ret
      exact ⟨rfl, hbw⟩
end Go.Proofs.YtifcelebfagjbaaGreatDoor
/-
  Layer 31: the reference's Same, of equal lists of charges.
-/
namespace Go.Proofs.YtifcelebfagjbaaGreatDoor
open Go.RowKit Go.Tw Go.Tw.Ord Go.Tw.Po Go.Sort
set_option maxRecDepth 100000 in
set_option maxHeartbeats 2000000 in
theorem csame_any (l : List Chg) (v1 v2 : Value) (w : World) (h1 : SlIs (tChg 140) (· < w.heap.size) w v1 l) (h2 : SlIs (tChg 140) (· < w.heap.size) w v2 l) :
    Calls Tryz.prog 27 #[v1, v2] w fun e w' => e = .returned (.bool true) ∧ Below w.heap.size w w' := by
  obtain ⟨ao1, cap1, b1, off1, rfl, p1, p2, ho1⟩ := chg_open h1
  obtain ⟨ao2, cap2, b2, off2, rfl, q1, q2, ho2⟩ := chg_open h2
  unfold maxLen at p2 q2
  have HO1 := Lib.hid ho1
  have HO2 := Lib.hid ho2
  clear h1 h2 ho1 ho2
  go_enter Tryz.func27, Tryz.ntmps27
  go_wp2
  go_loopg [5] l.length (fun g i wr => ∃ k : Nat, k + g = l.length ∧ i = .int .i64 k ∧ Hid (Below w.heap.size w wr))
  case atStart => exact ⟨0, by omega, rfl, Lib.hid (Below.refl _ _)⟩
  case round =>
    obtain ⟨k, hk, rfl, HW⟩ := hrel
    have hbw := HW.out
    by_cases hlt : k < l.length
    · obtain ⟨rfl, -, hb1, -, u1, s1, y0, y1, y2, y3, y4, y5, y6⟩ := HO1.out wr (.of_below hbw) k hlt
      obtain ⟨rfl, -, hb2, -, u2, s2, z0, z1, z2, z3, z4, z5, z6⟩ := HO2.out wr (.of_below hbw) k hlt
      have k0 : (0 : Int) ≤ (k : Int) := by omega
      have k1 : (k : Int) < (l.length : Int) := by omega
      generalize l[k] = y at *
      have r1 : SlIs tSI (· < wr.heap.size) wr u1 y.ls := s1.keep (fun q (hq : q < w.heap.size) => Nat.lt_of_lt_of_le hq hbw.size) (SameOn.refl _ _)
      have r2 : SlIs tSI (· < wr.heap.size) wr u2 y.ls := s2.keep (fun q (hq : q < w.heap.size) => Nat.lt_of_lt_of_le hq hbw.size) (SameOn.refl _ _)
      obtain ⟨a1, n1, m1, hu1⟩ : ∃ a n c, u1 = .slice a n c := by
        obtain ⟨a, c, _, _, e, -⟩ := s1
        exact ⟨a, _, c, e⟩
      obtain ⟨a2, n2, m2, hu2⟩ : ∃ a n c, u2 = .slice a n c := by
        obtain ⟨a, c, _, _, e, -⟩ := s2
        exact ⟨a, _, c, e⟩
      subst hu1 hu2
      have HCE := Lib.hid (show ∀ W, Below wr.heap.size wr W → Calls Tryz.prog 59 #[.agg #[.string y.key, .string y.veh, .string y.sys, .int .i64 y.cls, .int .i64 y.tm, .slice a1 n1 m1, .int .i64 y.c], .agg #[.string y.key, .string y.veh, .string y.sys, .int .i64 y.cls, .int .i64 y.tm, .slice a2 n2 m2, .int .i64 y.c]] W fun e w' => e = .returned (.bool true) ∧ Below W.heap.size W w' from fun W hW => sameC_any y _ _ W (r1.step hW) (r2.step hW))
      go_upto_region 6 with (fail)
      have cA := fun d os => Calls.regrown_of (HCE.out _ (below_regrown wr d os))
      have y0' := cell_regrown y0
      have y1' := cell_regrown y1
      have y2' := cell_regrown y2
      have y3' := cell_regrown y3
      have y4' := cell_regrown y4
      have y5' := cell_regrown y5
      have y6' := cell_regrown y6
      have z0' := cell_regrown z0
      have z1' := cell_regrown z1
      have z2' := cell_regrown z2
      have z3' := cell_regrown z3
      have z4' := cell_regrown z4
      have z5' := cell_regrown z5
      have z6' := cell_regrown z6
      clear s1 s2 r1 r2 y0 y1 y2 y3 y4 y5 y6 z0 z1 z2 z3 z4 z5 z6 hbw HO1 HO2
      refine wp_region_quiet_below (by kernel_rfl) (by kernel_rfl) ?_
      (repeat (quiet_step (first | (go_at_call 59; with_reducible exact cA _ _))))
      refine wpQuiet_nil ?_
      intro _ hw'
      obtain ⟨⟨dq, osq⟩, hw''⟩ := hw'
      subst hw''
      have HQ := Lib.hid (below_regrown wr dq osq)
      clear cA y0' y1' y2' y3' y4' y5' y6' z0' z1' z2' z3' z4' z5' z6' HCE
      obtain ⟨wq, hwq⟩ : ∃ wq, grow (redrawn wr dq) osq = wq := ⟨_, rfl⟩
      rw [hwq] at HQ ⊢
      clear hwq
      go_wp2
      go_roundg (l.length - (k + 1))
      case measure => omega
      case rel => exact ⟨k + 1, by omega, by go_num, Lib.hid (bl_trans HW.out HQ.out)⟩
    · have hkd : decide ((k : Int) < (l.length : Int)) = false := by simp; omega
      go_wp2
      go_ret
      exact ⟨rfl, hbw⟩
end Go.Proofs.YtifcelebfagjbaaGreatDoor
/-
  Layer 37 (post): the reference's Check, Same.
-/
namespace Go.Proofs.YtifcelebfagjbaaGreatDoor
open Go.RowKit Go.Tw Go.Tw.Ord Go.Tw.Po Go.Sort
set_option maxRecDepth 100000 in
set_option maxHeartbeats 8000000 in
theorem bcheckR_any (ve vd : Value) (es : List Ent) (ds : List Chg) (w : World) (he : SlIs (tEnt 101) (· < w.heap.size) w ve es) (hd : SlIs (tChg eL) (· < w.heap.size) w vd ds) (hls : ∀ x ∈ ds, x.ls.length ≤ 1000) (hel : es.length ≤ 10000) :
    Calls Tryz.prog 18 #[.agg #[ve, vd]] w fun e w' => e = .returned (.int .i64 (checkP ⟨es, ds⟩)) ∧ Below w.heap.size w w' := by
  have n0 := alloc1_0 w (.cells #[ve, vd] 70)
  have HN := Lib.hid (show BB w.heap.size ve vd _ from n0)
  have HB0 := Lib.hid (bl_alloc (Below.refl w.heap.size w) (.cells #[ve, vd] 70))
  obtain ⟨ae, ce, be, oe, rfl, hl1, hm1, ho1⟩ := ent_open he
  obtain ⟨ad, cd, bd, od, rfl, hl2, hm2, ho2⟩ := chg_open hd
  have HO := Lib.hid ho1
  have HO2 := Lib.hid ho2
  have HLS := Lib.hid hls
  unfold maxLen at hm1 hm2
  obtain ⟨d0, d1, -⟩ := blk2 n0
  clear he hd ho1 ho2 hls n0
  go_enter Tryz.func18, Tryz.ntmps18
  go_wp2
  generalize w.alloc (.cells #[.slice ae es.length ce, .slice ad ds.length cd] 70) = w0 at HN HB0 d0 d1 ⊢
  go_loopg [4] es.length (fun g i wr => ∃ k : Nat, k + g = es.length ∧ i = .int .i64 k ∧ Hid (orL (es.map entC) = orL ((es.drop k).map entC)) ∧ Hid (Below w0.heap.size w0 wr))
  case atStart => exact ⟨0, by omega, rfl, Lib.hid rfl, Lib.hid (Below.refl _ _)⟩
  case round =>
    obtain ⟨k, hk, rfl, HT, HBW⟩ := hrel
    have HWW := Lib.hid (bl_trans HB0.out HBW.out)
    by_cases hlt : k < es.length
    · obtain ⟨rfl, -, hbi, hok, hv, hsl, e0, e1, e2⟩ := HO.out wr (.of_below HWW.out) k hlt
      have k0 : (0 : Int) ≤ (k : Int) := by omega
      have k1 : (k : Int) < (es.length : Int) := by omega
      have HST := Lib.hid (orM_drop (f := entC) hlt)
      generalize es[k] = y at *
      obtain ⟨hva, hvn, hvc, hve⟩ : ∃ a n c, hv = .slice a n c := by
        obtain ⟨a, c, _, _, e, -⟩ := hsl
        exact ⟨a, _, c, e⟩
      subst hve
      have hsl1 : SlIs tSI (· < wr.heap.size) wr (.slice hva hvn hvc) y.ps := hsl.keep (fun q (hq : q < w.heap.size) => Nat.lt_of_lt_of_le hq HWW.out.size) (SameOn.refl _ _)
      have HCK := Lib.hid (lcheckR_any y (.slice hva hvn hvc) _ hok hsl1)
      have HBA := HBW
      clear hsl hsl1 hok
      obtain ⟨z, hz⟩ : ∃ z, entC y = z := ⟨_, rfl⟩
      rw [hz] at HCK HST
      clear hz
      by_cases hz0 : z = 0
      · subst hz0
        go_wp2_with (fail)
        with_reducible refine HCK.out.mono ?_
        rintro r w2 ⟨rfl, hb2⟩
        have HB2 := Lib.hid (bl_trans HBA.out hb2)
        clear hb2 HCK
        go_wp2
        go_roundg (es.length - (k + 1))
        case measure => omega
        case rel => exact ⟨k + 1, by omega, by go_num, Lib.hid (HT.out.trans (HST.out.trans (if_pos (by trivial)))), HB2⟩
      · have hz1 : (z != 0) = true := by simpa using hz0
        have hzz := HT.out.trans (HST.out.trans (if_neg hz0))
        have HR := Lib.hid (show checkP ⟨es, ds⟩ = z from (ck_e (b := ⟨es, ds⟩) (by simp only; rw [hzz]; exact hz0)).trans hzz)
        clear hzz hz0
        go_wp2_with (fail)
        with_reducible refine HCK.out.mono ?_
        rintro r w2 ⟨rfl, hb2⟩
        have HB2 := Lib.hid (bl_trans HB0.out (bl_trans HBA.out hb2))
        clear hb2 HCK
        go_wp2
        go_ret
        exact ⟨ret_int HR.out, HB2.out⟩
    · have hkd : decide ((k : Int) < (es.length : Int)) = false := by simp; omega
      have HZ := Lib.hid (HT.out.trans (orM_end (by omega)))
      obtain ⟨wm, rfl⟩ : ∃ wm : World, wm = wr := ⟨_, rfl⟩
      have HBM := HWW
      have HGM := Lib.hid (show BB w.heap.size (.slice ae es.length ce) (.slice ad ds.length cd) wm from (HBW.out.block _ (lt_of_heap HN.out)).trans HN.out)
      clear HBW HWW HT HN HB0
      clear d0 d1
      go_wp2
      go_loopg [6] es.length (fun g i wr => ∃ k : Nat, k + g = es.length ∧ i = .int .i64 k ∧ Hid ((keysE (es.take k)).Nodup) ∧ Hid (Below wm.heap.size wm wr))
      case atStart => exact ⟨0, by omega, rfl, Lib.hid List.nodup_nil, Lib.hid (Below.refl _ _)⟩
      case round =>
        obtain ⟨k, hk, rfl, HNO, HBW⟩ := hrel
        have HWW := Lib.hid (bl_trans HBM.out HBW.out)
        by_cases hlt : k < es.length
        · have k0 : (0 : Int) ≤ (k : Int) := by omega
          have k1 : (k : Int) < (es.length : Int) := by omega
          have HKD := Lib.hid (keysE_dup hlt)
          have HKN := Lib.hid (keysE_new hlt HNO.out)
          obtain ⟨wk, rfl⟩ : ∃ wk : World, wk = wr := ⟨_, rfl⟩
          go_wp2
          go_loopg [7] k (fun g i wr => ∃ j : Nat, j + g = k ∧ i = .int .i64 j ∧ Hid (hasS (keysE (es.take j)) es[k].key = false) ∧ Hid (Below wk.heap.size wk wr))
          case atStart => exact ⟨0, by omega, rfl, Lib.hid (by simp [hasS_no, keysE]), Lib.hid (Below.refl _ _)⟩
          case round =>
            obtain ⟨j, hj, rfl, HJ, HBV⟩ := hrel
            have HWV := Lib.hid (bl_trans HWW.out HBV.out)
            by_cases hlt2 : j < k
            · have hje : j < es.length := by omega
              obtain ⟨-, -, -, -, -, -, f0, -⟩ := HO.out wr (.of_below HWV.out) k hlt
              obtain ⟨hao, -, hbi, -, -, -, e0, -⟩ := HO.out wr (.of_below HWV.out) j hje
              have HTJ := Lib.hid (keysE_take hje)
              have HMJ := Lib.hid (show es[j].key = es[k].key → hasS (keysE (es.take k)) es[k].key = true from fun e => hasS_iff.2 (by
                rw [← e]
                unfold keysE
                refine List.mem_map.2 ⟨es[j], ?_, rfl⟩
                rw [List.mem_take_iff_getElem]
                exact ⟨j, by omega, rfl⟩))
              subst hao
              have j0 : (0 : Int) ≤ (j : Int) := by omega
              have j1 : (j : Int) < (es.length : Int) := by omega
              have j2 : (j : Int) < (k : Int) := by omega
              generalize es[j].key = kj at e0 HTJ HMJ
              generalize es[k].key = kk at *
              obtain ⟨q, hq⟩ : ∃ q, (kj.toList == kk.toList) = q := ⟨_, rfl⟩
              have HQ := Lib.hid (show decide (kj = kk) = q by rw [← hq, eq_str])
              cases q with
              | true =>
                have HR := Lib.hid (ck_d (b := ⟨es, ds⟩) HZ.out (HKD.out (HMJ.out (by simpa using HQ.out))))
                go_wp2_with (go_quiet (fail))
                go_ret
                exact ⟨ret_int HR.out, bl_drewN HWV.out _⟩
              | false =>
                have HJ2 := Lib.hid (show hasS (keysE (es.take (j + 1))) kk = false from by
                  rw [HTJ.out, hasS_no, List.mem_append, List.mem_singleton]
                  rintro (h | h)
                  · exact (hasS_no.1 HJ.out) h
                  · have := HQ.out; rw [h] at this; simp at this)
                go_wp2_with (go_quiet (fail))
                go_roundg (k - (j + 1))
                case measure => omega
                case rel => exact ⟨j + 1, by omega, by go_num, HJ2, Lib.hid (bl_drewN HBV.out _)⟩
            · have hjd : decide ((j : Int) < (k : Int)) = false := by simp; omega
              obtain rfl : j = k := by omega
              have HN2 := Lib.hid (HKN.out HJ.out)
              have HBO := Lib.hid (bl_trans HBW.out HBV.out)
              go_wp2
              go_roundg (es.length - (j + 1))
              case measure => omega
              case rel => exact ⟨j + 1, by omega, by go_num, HN2, HBO⟩
        · have hkd : decide ((k : Int) < (es.length : Int)) = false := by simp; omega
          rw [show es.take k = es from List.take_of_length_le (by omega)] at HNO
          have HGR := Lib.hid (show BB w.heap.size (.slice ae es.length ce) (.slice ad ds.length cd) wr from (HBW.out.block _ (lt_of_heap HGM.out)).trans HGM.out)
          obtain ⟨wo, rfl⟩ : ∃ wo : World, wo = wr := ⟨_, rfl⟩
          go_wp2
          go_loopg [8] ds.length (fun g i wr => ∃ j : Nat, j + g = ds.length ∧ i = .int .i64 j ∧ Hid (orL (ds.map chkC) = orL ((ds.drop j).map chkC)) ∧ Hid (Below wo.heap.size wo wr))
          case atStart => exact ⟨0, by omega, rfl, Lib.hid rfl, Lib.hid (Below.refl _ _)⟩
          case round =>
            obtain ⟨j, hj, rfl, HT, HBV⟩ := hrel
            have HWV := Lib.hid (bl_trans HWW.out HBV.out)
            by_cases hlt2 : j < ds.length
            · obtain ⟨rfl, -, hbi, hok, hv, hsl, e0, e1, e2, e3, e4, e5, e6⟩ := HO2.out wr (.of_below HWV.out) j hlt2
              have k0 : (0 : Int) ≤ (j : Int) := by omega
              have k1 : (j : Int) < (ds.length : Int) := by omega
              have hyl := HLS.out _ (List.getElem_mem hlt2)
              have HST := Lib.hid (orM_drop (f := chkC) hlt2)
              generalize ds[j] = y at *
              obtain ⟨hva, hvn, hvc, hve⟩ : ∃ a n c, hv = .slice a n c := by
                obtain ⟨a, c, _, _, e, -⟩ := hsl
                exact ⟨a, _, c, e⟩
              subst hve
              have hsl1 : SlIs tSI (· < wr.heap.size) wr (.slice hva hvn hvc) y.ls := hsl.keep (fun q (hq : q < w.heap.size) => Nat.lt_of_lt_of_le hq HWV.out.size) (SameOn.refl _ _)
              have HCK := Lib.hid (pcheckR_any y (.slice hva hvn hvc) _ hok hsl1 hyl)
              have HBA := HBV
              have gy := (HBV.out.block _ (lt_of_heap HGR.out)).trans HGR.out
              obtain ⟨d0, d1, -⟩ := blk2 gy
              clear gy
              clear hsl hsl1 hok
              obtain ⟨z, hz⟩ : ∃ z, chkC y = z := ⟨_, rfl⟩
              rw [hz] at HCK HST
              clear hz
              by_cases hz0 : z = 0
              · subst hz0
                go_wp2_with (fail)
                with_reducible refine HCK.out.mono ?_
                rintro r w2 ⟨rfl, hb2⟩
                have HB2 := Lib.hid (bl_trans HBA.out hb2)
                clear hb2 HCK
                go_wp2
                go_roundg (ds.length - (j + 1))
                case measure => omega
                case rel => exact ⟨j + 1, by omega, by go_num, Lib.hid (HT.out.trans (HST.out.trans (if_pos (by trivial)))), HB2⟩
              · have hz1 : (z != 0) = true := by simpa using hz0
                have hzz := HT.out.trans (HST.out.trans (if_neg hz0))
                have HR := Lib.hid (show checkP ⟨es, ds⟩ = z from (ck_c (b := ⟨es, ds⟩) HZ.out HNO.out (by simp only; rw [hzz]; exact hz0)).trans hzz)
                clear hzz hz0
                go_wp2_with (fail)
                with_reducible refine HCK.out.mono ?_
                rintro r w2 ⟨rfl, hb2⟩
                have HB2 := Lib.hid (bl_trans HWW.out (bl_trans HBA.out hb2))
                clear hb2 HCK
                go_wp2
                go_ret
                exact ⟨ret_int HR.out, HB2.out⟩
            · have hjd : decide ((j : Int) < (ds.length : Int)) = false := by simp; omega
              have HZC := Lib.hid (HT.out.trans (orM_end (by omega)))
              have HGV := Lib.hid (show BB w.heap.size (.slice ae es.length ce) (.slice ad ds.length cd) wr from (HBV.out.block _ (lt_of_heap HGR.out)).trans HGR.out)
              obtain ⟨d0, d1, -⟩ := blk2 HGV.out
              obtain ⟨wp, rfl⟩ : ∃ wp : World, wp = wr := ⟨_, rfl⟩
              go_wp2
              clear d0 d1
              go_loopg [10] ds.length (fun g i wr => ∃ m : Nat, m + g = ds.length ∧ i = .int .i64 ((m : Int) + 1) ∧ Hid (∀ q (hq : q + 1 < ds.length), q < m → ltB ds[q].key ds[q + 1].key = true) ∧ Hid (Below wp.heap.size wp wr))
              case atStart => exact ⟨0, by omega, rfl, Lib.hid (fun q _ h => by omega), Lib.hid (Below.refl _ _)⟩
              case round =>
                obtain ⟨m, hm, rfl, HT, HBX⟩ := hrel
                have HWX := Lib.hid (bl_trans HWV.out HBX.out)
                have gx := (HBX.out.block _ (lt_of_heap HGV.out)).trans HGV.out
                obtain ⟨d0, d1, -⟩ := blk2 gx
                clear gx
                by_cases hlt3 : m + 1 < ds.length
                · obtain ⟨hao, -, -, -, hv1, -, e0, -⟩ := HO2.out wr (.of_below HWX.out) m (by omega)
                  obtain ⟨-, -, -, -, hv2, -, f0, -⟩ := HO2.out wr (.of_below HWX.out) (m + 1) hlt3
                  subst hao
                  have j0 : (0 : Int) ≤ (m : Int) := by omega
                  have j1 : (m : Int) + 1 < (ds.length : Int) := by omega
                  have j2 : (m : Int) < (ds.length : Int) := by omega
                  have j3 : (0 : Int) ≤ (m : Int) + 1 := by omega
                  have js : IntKind.i64.wrap ((m : Int) + 1 - 1) = (m : Int) := (show IntKind.i64.wrap ((m : Int) + 1 - 1) = (m : Int) + 1 - 1 from wrap_in (by omega) (by omega)).trans (by omega)
                  have jt : ((m : Int) + 1).toNat = m + 1 := by omega
                  have HBA := Lib.hid (show ∀ a b : ByteArray, Op.bytesLess a.toList b.toList = ltB a b from fun a b => less_str _ _)
                  have HCO := Lib.hid (fun (h : ltB ds[m].key ds[m + 1].key = false) => ck_o (b := ⟨es, ds⟩) HZ.out HNO.out HZC.out (fun h2 => by have := h2 m hlt3; rw [h] at this; cases this))
                  have HGO := Lib.hid (fun (hq : ltB ds[m].key ds[m + 1].key = true) i (hi : i + 1 < ds.length) (h : i < m + 1) => show ltB ds[i].key ds[i + 1].key = true from by
                    by_cases e : i = m
                    · subst e; exact hq
                    · exact HT.out i hi (by omega))
                  generalize ds[m].key = ka at e0 HCO HGO
                  generalize ds[m + 1].key = kb2 at f0 HCO HGO
                  obtain ⟨q, hq⟩ : ∃ q, ltB ka kb2 = q := ⟨_, rfl⟩
                  have HQ := Lib.hid hq
                  clear hq
                  cases q with
                  | true =>
                    have g1 : Op.bytesLess kb2.toList ka.toList = false := (HBA.out _ _).trans (ltB_asymm HQ.out)
                    have g2 : (kb2.toList == ka.toList) = false := by rw [eq_str]; simpa using fun e => ltB_ne HQ.out e.symm
                    have HG := Lib.hid (HGO.out HQ.out)
                    go_wp2_with (go_quiet (fail))
                    go_roundg (ds.length - (m + 1))
                    case measure => omega
                    case rel => exact ⟨m + 1, by omega, by go_num, HG, Lib.hid (bl_drewN HBX.out _)⟩
                  | false =>
                    have HR := Lib.hid (HCO.out HQ.out)
                    by_cases he : kb2 = ka
                    · have g2 : (kb2.toList == ka.toList) = true := by rw [eq_str]; simpa using he
                      have g1 : Op.bytesLess kb2.toList ka.toList = false := (HBA.out _ _).trans (by rw [he]; exact ltB_irrefl _)
                      clear he
                      go_wp2_with (go_quiet (fail))
                      go_ret
                      exact ⟨ret_int HR.out, bl_drewN HWX.out _⟩
                    · have g2 : (kb2.toList == ka.toList) = false := by rw [eq_str]; simpa using he
                      have g1 : Op.bytesLess kb2.toList ka.toList = true := (HBA.out _ _).trans (by
                        cases h : ltB kb2 ka with
                        | true => rfl
                        | false => exact absurd (ltB_total h HQ.out) he)
                      clear he
                      go_wp2_with (go_quiet (fail))
                      go_ret
                      exact ⟨ret_int HR.out, bl_drewN HWX.out _⟩
                · have hmd : decide ((m : Int) + 1 < (ds.length : Int)) = false := by simp; omega
                  have HR := Lib.hid (ck_0 (b := ⟨es, ds⟩) HZ.out HNO.out HZC.out (fun i hi => HT.out i hi (by have h2 : i + 1 < ds.length := hi; omega)))
                  go_wp2
                  go_ret
                  exact ⟨ret_int HR.out, HWX.out⟩
set_option maxHeartbeats 1000000 in
theorem bsame_any (es : List Ent) (ds : List Chg) (v1 d1 v2 d2 : Value) (w : World) (h1 : SlIs (tEnt 101) (· < w.heap.size) w v1 es) (g1 : SlIs (tChg eL) (· < w.heap.size) w d1 ds) (h2 : SlIs (tEnt 101) (· < w.heap.size) w v2 es) (g2 : SlIs (tChg eL) (· < w.heap.size) w d2 ds) :
    Calls Tryz.prog 22 #[.agg #[v1, d1], .agg #[v2, d2]] w fun e w' => e = .returned (.bool true) ∧ Below w.heap.size w w' := by
  have n0 := alloc2_0 w (.cells #[v1, d1] 70) (.cells #[v2, d2] 70)
  have n1 := alloc2_1 w (.cells #[v1, d1] 70) (.cells #[v2, d2] 70)
  have HB0 := Lib.hid (bl_alloc (bl_alloc (Below.refl w.heap.size w) (.cells #[v1, d1] 70)) (.cells #[v2, d2] 70))
  obtain ⟨a1, c1, _, _, rfl, -⟩ := id h1
  obtain ⟨a2, c2, _, _, rfl, -⟩ := id h2
  obtain ⟨a3, c3, _, _, rfl, -⟩ := id g1
  obtain ⟨a4, c4, _, _, rfl, -⟩ := id g2
  have HL := Lib.hid (lsame_any es _ _ _ (h1.step HB0.out) (h2.step HB0.out))
  have G1 := Lib.hid g1
  have G2 := Lib.hid g2
  have N0 := Lib.hid n0
  have N1 := Lib.hid n1
  obtain ⟨x0, x1, -⟩ := blk2 n0
  obtain ⟨y0, y1, -⟩ := blk2 n1
  clear h1 h2 g1 g2 n0 n1
  go_enter Tryz.func22, Tryz.ntmps22
  go_wp2_with (fail)
  with_reducible refine HL.out.mono ?_
  clear HL
  rintro r w2 ⟨rfl, hb2⟩
  have HB2 := Lib.hid (bl_trans HB0.out hb2)
  have HCS := Lib.hid (csame_any ds _ _ w2 (G1.out.step HB2.out) (G2.out.step HB2.out))
  have n0 := (hb2.block _ (lt_of_heap N0.out)).trans N0.out
  have n1 := (hb2.block _ (lt_of_heap N1.out)).trans N1.out
  clear x0 x1 y0 y1 hb2
  obtain ⟨x0, x1, -⟩ := blk2 n0
  obtain ⟨y0, y1, -⟩ := blk2 n1
  clear n0 n1
  go_wp2_with (fail)
  with_reducible refine HCS.out.mono ?_
  clear HCS
  rintro r w3 ⟨rfl, hb3⟩
  have HB3 := Lib.hid (bl_trans HB2.out hb3)
  clear hb3
  go_wp2
  go_ret
  exact ⟨rfl, HB3.out⟩
end Go.Proofs.YtifcelebfagjbaaGreatDoor
