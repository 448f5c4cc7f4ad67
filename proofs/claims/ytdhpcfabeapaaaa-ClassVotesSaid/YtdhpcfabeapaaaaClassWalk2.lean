/-
  Layer 12 (class): the walk of the reference's Check.
-/
import Derived.Test.YtdhpcfabeapaaaaClassWalk
namespace Go.Proofs.Ytdhpcfabeapaaaa
open Go.RowKit Go.Tw Go.Tw.Class

set_option maxRecDepth 100000 in
set_option maxHeartbeats 1000000 in
theorem checkR_any (l : List Rule) (v : Value) (w : World) (h : SlIs tRule (· < w.heap.size) w v l) :
    Calls Try.prog 11 #[v] w fun e w' => e = .returned (.int .i64 (chkAll l)) ∧ Below w.heap.size w w' := by
  obtain ⟨ao, cap, b, off, rfl, hl, hm, ho⟩ := rule_open h
  unfold maxLen at hm
  clear h
  by_cases h9 : 9 < l.length
  · go_enter Try.func11, Try.ntmps11
    go_wp2
    go_ret
    exact ⟨by simp [chkAll, h9], Below.refl _ _⟩
  go_enter Try.func11, Try.ntmps11
  go_wp2
  go_loopg [3] l.length (fun g i wr => ∃ k : Nat, k + g = l.length ∧ i = .int .i64 k ∧ chkAll l = chk (l.take k) (l.drop k) ∧ Below w.heap.size w wr)
  case atStart => exact ⟨0, by omega, rfl, by rw [chkAll, if_neg h9]; rfl, Below.refl _ _⟩
  case round =>
    obtain ⟨k, hk, rfl, he, hb1⟩ := hrel
    have HE := Lib.hid he; clear he
    by_cases hlt : k < l.length
    · obtain ⟨rfl, hb, c0, c1, c2, -⟩ := ho wr hb1 k hlt
      have k0 : (0 : Int) ≤ (k : Int) := by omega
      have k1 : (k : Int) < (l.length : Int) := by omega
      by_cases q0 : l[k].f < 1
      · have q0' : decide (l[k].f < 1) = true := by simpa using q0
        clear ho
        go_wp2_with (go_quiet (fail))
        go_ret
        refine ⟨ret_int (b := 1) (HE.out.trans (chk_1 hlt ?_)), ?_⟩
        · omega
        · repeat (first | exact hb1 | apply bl_drewN)
      have q0' : decide (l[k].f < 1) = false := by simpa using q0
      by_cases q1 : l[k].t < l[k].f
      · have q1' : decide (l[k].t < l[k].f) = true := by simpa using q1
        clear ho
        go_wp2_with (go_quiet (fail))
        go_ret
        refine ⟨ret_int (b := 1) (HE.out.trans (chk_1 hlt ?_)), ?_⟩
        · omega
        · repeat (first | exact hb1 | apply bl_drewN)
      have q1' : decide (l[k].t < l[k].f) = false := by simpa using q1
      by_cases q2 : 20 < l[k].t
      · clear ho
        go_wp2_with (go_quiet (fail))
        go_ret
        refine ⟨ret_int (b := 1) (HE.out.trans (chk_1 hlt ?_)), ?_⟩
        · omega
        · repeat (first | exact hb1 | apply bl_drewN)
      have hbad : bad1 l[k] = false := bad1_no (by omega) (by omega) (by omega)
      by_cases hc : isC l[k].c = true
      case neg =>
        have hc' : isC l[k].c = false := by simpa using hc
        clear ho hc
        go_wp2_with (first | (go_at_call 21; refine (known_any _ _).mono ?_; rintro e w' ⟨rfl, rfl⟩) | go_quiet (fail))
        go_ret
        refine ⟨ret_int (b := 20) (HE.out.trans (chk_20 hlt hbad hc')), ?_⟩
        repeat (first | exact hb1 | apply bl_drewN)
      by_cases hk0 : 0 < k
      case pos =>
        obtain ⟨_, _, _, d1, _, -⟩ := ho wr hb1 (k - 1) (by omega)
        have t1 : (1 : Int) ≤ (k : Int) := by omega
        have t2 : (0 : Int) ≤ (k : Int) - 1 := by omega
        have t3 : (k : Int) - 1 < (l.length : Int) := by omega
        have t5 : ((k : Int) - 1).toNat = k - 1 := by omega
        have t4 : IntKind.i64.wrap ((k : Int) - 1) = (k : Int) - 1 := wrap_in (by omega) (by omega)
        by_cases q3 : l[k].f ≤ l[k - 1].t
        case pos =>
          clear ho
          go_wp2_with (first | (go_at_call 21; refine (known_any _ _).mono ?_; rintro e w' ⟨rfl, rfl⟩) | go_quiet (fail))
          go_ret
          refine ⟨ret_int (b := 15) (HE.out.trans (chk_15 hlt hbad hc hk0 q3)), ?_⟩
          repeat (first | exact hb1 | apply bl_drewN)
        have hq3 : 0 < k → l[k - 1].t < l[k].f := fun _ => by omega
        have HO := Lib.hid ho; clear ho
        have HQ := Lib.hid hq3; clear hq3
        go_wp2_with (first | (go_at_call 21; refine (known_any _ _).mono ?_; rintro e w' ⟨rfl, rfl⟩) | go_quiet (fail))
        have ho := HO.out; clear HO
        have hq3 := HQ.out; clear HQ
        clear d1
        obtain ⟨wo, hwo⟩ : ∃ wo : World, wo = wr := ⟨_, rfl⟩
        subst hwo
        obtain ⟨g0, hg0⟩ : ∃ g0 : Nat, g0 = gk := ⟨_, rfl⟩
        subst hg0
        go_loopg [4] k (fun g i wi => ∃ j : Nat, j + g = k ∧ i = .int .i64 j ∧ ((l.take j).any fun p => p.c == l[k].c) = false ∧ Below w.heap.size w wi)
        case atStart => exact ⟨0, by omega, rfl, rfl, by repeat (first | exact hb1 | apply bl_drewN)⟩
        case round =>
          obtain ⟨j, hj, rfl, ha, hb2⟩ := hrel
          have HA := Lib.hid ha; clear ha
          by_cases hjk : j < k
          · obtain ⟨_, _, e0, e1, e2, -⟩ := ho wr hb2 j (by omega)
            obtain ⟨_, _, f0, f1, f2, -⟩ := ho wr hb2 k hlt
            have j0 : (0 : Int) ≤ (j : Int) := by omega
            have j1 : (j : Int) < (l.length : Int) := by omega
            clear ho c0 c1 c2
            rcases Bool.eq_false_or_eq_true (l[j].c == l[k].c) with hq | hq
            · go_wp2_with (go_quiet (fail))
              go_ret
              refine ⟨ret_int (b := 9) (HE.out.trans (chk_9 hlt hbad hc hq3 ?_)), ?_⟩
              · exact any_at hjk (by omega) hq
              · repeat (first | exact hb2 | apply bl_drewN)
            · go_wp2_with (go_quiet (fail))
              go_roundg (k - (j + 1))
              case measure => omega
              case rel => exact ⟨j + 1, by omega, by go_num, any_on (by omega) HA.out hq, by repeat (first | exact hb2 | apply bl_drewN)⟩
          · obtain rfl : k = j := by omega
            clear ho c0 c1 c2
            go_wp2
            go_roundg (l.length - (k + 1))
            case measure => omega
            case rel => exact ⟨k + 1, by omega, by go_num, HE.out.trans (chk_on hlt hbad hc hq3 HA.out), by repeat (first | exact hb2 | apply bl_drewN)⟩
      have hd : decide ((0 : Int) < (k : Int)) = false := by simp; omega
      have hq3 : 0 < k → l[k - 1].t < l[k].f := fun h => absurd h hk0
      have HO := Lib.hid ho; clear ho
      have HQ := Lib.hid hq3; clear hq3
      go_wp2_with (first | (go_at_call 21; refine (known_any _ _).mono ?_; rintro e w' ⟨rfl, rfl⟩) | go_quiet (fail))
      have ho := HO.out; clear HO
      have hq3 := HQ.out; clear HQ
      clear hd
      obtain ⟨wo, hwo⟩ : ∃ wo : World, wo = wr := ⟨_, rfl⟩
      subst hwo
      obtain ⟨g0, hg0⟩ : ∃ g0 : Nat, g0 = gk := ⟨_, rfl⟩
      subst hg0
      go_loopg [4] k (fun g i wi => ∃ j : Nat, j + g = k ∧ i = .int .i64 j ∧ ((l.take j).any fun p => p.c == l[k].c) = false ∧ Below w.heap.size w wi)
      case atStart => exact ⟨0, by omega, rfl, rfl, by repeat (first | exact hb1 | apply bl_drewN)⟩
      case round =>
        obtain ⟨j, hj, rfl, ha, hb2⟩ := hrel
        have HA := Lib.hid ha; clear ha
        by_cases hjk : j < k
        · obtain ⟨_, _, e0, e1, e2, -⟩ := ho wr hb2 j (by omega)
          obtain ⟨_, _, f0, f1, f2, -⟩ := ho wr hb2 k hlt
          have j0 : (0 : Int) ≤ (j : Int) := by omega
          have j1 : (j : Int) < (l.length : Int) := by omega
          clear ho c0 c1 c2
          rcases Bool.eq_false_or_eq_true (l[j].c == l[k].c) with hq | hq
          · go_wp2_with (go_quiet (fail))
            go_ret
            refine ⟨ret_int (b := 9) (HE.out.trans (chk_9 hlt hbad hc hq3 ?_)), ?_⟩
            · exact any_at hjk (by omega) hq
            · repeat (first | exact hb2 | apply bl_drewN)
          · go_wp2_with (go_quiet (fail))
            go_roundg (k - (j + 1))
            case measure => omega
            case rel => exact ⟨j + 1, by omega, by go_num, any_on (by omega) HA.out hq, by repeat (first | exact hb2 | apply bl_drewN)⟩
        · obtain rfl : k = j := by omega
          clear ho c0 c1 c2
          go_wp2
          go_roundg (l.length - (k + 1))
          case measure => omega
          case rel => exact ⟨k + 1, by omega, by go_num, HE.out.trans (chk_on hlt hbad hc hq3 HA.out), by repeat (first | exact hb2 | apply bl_drewN)⟩
    · clear ho
      go_wp2
      go_ret
      refine ⟨?_, hb1⟩
      rw [HE.out, chk_end (by omega)]; rfl
end Go.Proofs.Ytdhpcfabeapaaaa
