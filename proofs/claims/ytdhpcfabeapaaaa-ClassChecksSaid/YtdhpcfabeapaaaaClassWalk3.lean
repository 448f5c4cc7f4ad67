/-
  Layer 12 (class): the walks of Majority.
-/
import Derived.Test.YtdhpcfabeapaaaaClassWalk
namespace Go.Proofs.Ytdhpcfabeapaaaa
open Go.RowKit Go.Tw Go.Tw.Class

set_option maxRecDepth 100000 in
set_option maxHeartbeats 1000000 in
theorem maj_any (l : List Int) (v : Value) (w : World) (h : SlIs tInt (· < w.heap.size) w v l) :
    Calls Try.prog 18 #[v] w fun e w' => e = .returned (.int .i64 (majC l)) ∧ Below w.heap.size w w' := by
  obtain ⟨ao, cap, b, off, rfl, hl, hm, ho⟩ := ints_open h
  unfold maxLen at hm
  clear h
  go_enter Try.func18, Try.ntmps18
  go_wp2
  go_loopg [11] l.length (fun g i wr => ∃ k : Nat, k + g = l.length ∧ i = .int .i64 k ∧ Counts wr w.heap.size 41 (l.take k) ∧ Below w.heap.size w wr)
  case atStart =>
    refine ⟨0, by omega, rfl, ⟨_, rfl, heap_alloc_new _ _, fun j hj => ?_⟩, bl_alloc (Below.refl _ _) _⟩
    match j, hj with
    | 0, _ | 1, _ | 2, _ | 3, _ | 4, _ | 5, _ | 6, _ | 7, _ | 8, _ | 9, _ => rfl
  case round =>
    obtain ⟨k, hk, rfl, hs, hb1⟩ := hrel
    by_cases hlt : k < l.length
    · obtain ⟨rfl, hb, c0, -⟩ := ho wr hb1 k hlt
      clear ho
      rcases Bool.eq_false_or_eq_true (isC l[k]) with hc | hc
      · have hb9 : 1 ≤ l[k] ∧ l[k] ≤ 9 := by simpa [isC] using hc
        obtain ⟨b1, b2⟩ := hb9
        obtain ⟨s1, s2⟩ := hs.cell (c := l[k]) (by omega) (by omega)
        have n1 := cntT_nonneg (l.take k) l[k]
        have n2 := cntT_le (l.take k) l[k]
        rw [List.length_take] at n2
        have n3 : cntT (l.take k) l[k] ≤ 9223372036854775806 := by omega
        clear n2
        go_wp2_with (go_at_call 20; refine (is_any _ _).mono ?_; rintro e w' ⟨rfl, rfl⟩)
        go_roundg (l.length - (k + 1))
        case measure => omega
        case rel =>
          refine ⟨k + 1, by omega, by go_num, ?_, bl_set hb1 _ (Nat.le_refl _)⟩
          rw [List.take_succ_eq_append_getElem hlt]
          exact hs.set hc
      · go_wp2_with (go_at_call 20; refine (is_any _ _).mono ?_; rintro e w' ⟨rfl, rfl⟩)
        go_roundg (l.length - (k + 1))
        case measure => omega
        case rel =>
          refine ⟨k + 1, by omega, by go_num, ?_, hb1⟩
          rw [List.take_succ_eq_append_getElem hlt]
          exact hs.pass hc
    · clear ho
      rw [List.take_of_length_le (by omega)] at hs
      have hS := hs
      obtain ⟨A, hA1, hA2, hA3⟩ := hs
      obtain ⟨wo, hwo⟩ : ∃ wo : World, wo = wr := ⟨_, rfl⟩
      subst hwo
      obtain ⟨g0, hg0⟩ : ∃ g0 : Nat, g0 = gk := ⟨_, rfl⟩
      subst hg0
      go_wp2_with (refine wpList_load_row rfl 41 _ rfl w.heap.size rfl 41 A _ _ hA2 Try.underlying41 rfl (by rw [hA1]; kernel_rfl) ?_)
      clear hA2
      go_loopg [6, 24] 10 (fun g best i wi => ∃ k : Nat, k + g = 10 ∧ i = .int .i64 k ∧ best = .int .i64 (majF l (k - 1)).1 ∧ wi = wo)
      case atStart => exact ⟨0, by omega, rfl, rfl, rfl⟩
      case round =>
        obtain ⟨j, hj, rfl, rfl, rfl⟩ := hrel
        by_cases hj10 : j < 10
        · obtain ⟨i1, i2, i3, i4⟩ := majF_inv l (j - 1)
          have hix := fun w : World => run_index_one (P := Try.prog) Try.underlying41 Try.underlying3 rfl (by kernel_rfl) hj10 (hA3 j hj10) w
          clear hA3
          obtain ⟨best, hbest⟩ : ∃ best : Int, best = (majF l (j - 1)).1 := ⟨_, rfl⟩
          obtain ⟨s1, s2⟩ := hS.cell (c := best) (by omega) (by omega)
          rw [← hbest]
          have HB := Lib.hid hbest; clear hbest
          have b0 : 0 ≤ best := by have := HB.out; omega
          have b9 : best < 10 := by have := HB.out; omega
          clear i1 i2 i3 i4
          by_cases hj1 : 1 ≤ j
          · have hcj : isC (j : Int) = true := by simp [isC]; omega
            rw [cntT_pos hcj] at hix
            go_wp2
            all_goals
              go_roundg (10 - (j + 1))
              case measure => omega
              case rel =>
                refine ⟨j + 1, by omega, by go_num, ?_, rfl⟩
                first
                  | (refine congrArg _ (maj_yes HB.out hj1 ?_ ‹_› (.inl ‹_›)).symm; omega)
                  | (refine congrArg _ (maj_no HB.out hj1 ?_ (.inl ‹_›)).symm; omega)
                  | (have hh : (best == 0) = true ∨ cntT l best < cnt l j := by assumption
                     refine congrArg _ (maj_yes HB.out hj1 ?_ ‹_› (.inr ?_)).symm
                     · omega
                     · simp at hh; omega)
                  | (have hh : (best == 0) = false ∧ cnt l j ≤ cntT l best := by assumption
                     refine congrArg _ (maj_no HB.out hj1 ?_ (.inr ⟨‹_›, hh.2⟩)).symm
                     omega)
          · go_wp2
            go_roundg (10 - (j + 1))
            case measure => omega
            case rel =>
              refine ⟨j + 1, by omega, by go_num, ?_, rfl⟩
              rw [HB.out, show j = 0 by omega]
        · clear hA3
          go_wp2
          go_ret
          exact ⟨ret_int (by rw [majC, show j - 1 = 9 by omega]), hb1⟩

set_option maxRecDepth 100000 in
set_option maxHeartbeats 1000000 in
theorem majR_any (l : List Int) (v : Value) (w : World) (h : SlIs tInt (· < w.heap.size) w v l) :
    Calls Try.prog 19 #[v] w fun e w' => e = .returned (.int .i64 (majC l)) ∧ w = w' := by
  obtain ⟨ao, cap, b, off, rfl, hl, hm, ho⟩ := ints_open h
  unfold maxLen at hm
  clear h
  go_enter Try.func19, Try.ntmps19
  go_wp2
  go_loopg [3, 4, 5] 9 (fun g best most i wr => ∃ k : Nat, k + g = 9 ∧ i = .int .i64 (k + 1) ∧ best = .int .i64 (majF l k).1 ∧ most = .int .i64 (majF l k).2 ∧ w = wr)
  case atStart => exact ⟨0, by omega, rfl, rfl, rfl, rfl⟩
  case round =>
    obtain ⟨k, hk, rfl, rfl, rfl, rfl⟩ := hrel
    by_cases hk9 : k < 9
    · obtain ⟨g0, hg0⟩ : ∃ g0 : Nat, g0 = gk := ⟨_, rfl⟩
      subst hg0
      go_wp2
      go_loopg [6, 7] l.length (fun g n i wi => ∃ j : Nat, j + g = l.length ∧ i = .int .i64 j ∧ n = .int .i64 (cnt (l.take j) (k + 1)) ∧ w = wi)
      case atStart => exact ⟨0, by omega, rfl, rfl, rfl⟩
      case round =>
        obtain ⟨j, hj, rfl, rfl, rfl⟩ := hrel
        by_cases hlt : j < l.length
        · obtain ⟨rfl, hb, c0, -⟩ := ho w (Below.refl _ _) j hlt
          have hsn := cnt_snoc (l.take j) l[j] (k + 1)
          rw [← List.take_succ_eq_append_getElem hlt] at hsn
          have n1 := cnt_nonneg (l.take j) (k + 1)
          have n2 := cnt_le (l.take j) (k + 1)
          rw [List.length_take] at n2
          have n3 : cnt (l.take j) (k + 1) ≤ 9223372036854775806 := by omega
          have HS := Lib.hid hsn
          clear ho hsn n2
          rcases Bool.eq_false_or_eq_true (l[j] == (k : Int) + 1) with hq | hq
          all_goals
            go_wp2
            go_roundg (l.length - (j + 1))
            case measure => omega
            case rel =>
              refine ⟨j + 1, by omega, by go_num, ?_, rfl⟩
              rw [HS.out]
              simp at hq
              simp [hq]
        · clear ho
          rw [List.take_of_length_le (by omega)]
          go_wp2
          all_goals
            go_roundg (9 - (k + 1))
            case measure => omega
            case rel =>
              refine ⟨k + 1, by omega, by go_num, ?_, ?_, rfl⟩
              all_goals first
                | rw [majF_yes ‹_›]
                | rw [majF_no (by omega)]
    · clear ho
      go_wp2
      go_ret
      exact ⟨ret_int (by rw [majC, show k = 9 by omega]), rfl⟩
end Go.Proofs.Ytdhpcfabeapaaaa
