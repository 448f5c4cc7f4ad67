/-
  Layer 12 (class): the walks: each function of the program and of the reference computes what ClassPure says.
-/
import Derived.Test.YtdhpcfabeapaaaaProg
import Derived.Test.YtdhpcfabeapaaaaClassPure
namespace Go.Proofs.Ytdhpcfabeapaaaa
open Go.RowKit Go.Tw Go.Tw.Class

theorem two {a b c d : Value} (h1 : a = c) (h2 : b = d) : Ending.returned (.tuple #[a, b]) = .returned (.tuple #[c, d]) := by rw [h1, h2]
theorem three {a b c d e f : Value} (h1 : a = d) (h2 : b = e) (h3 : c = f) : Ending.returned (.tuple #[a, b, c]) = .returned (.tuple #[d, e, f]) := by rw [h1, h2, h3]

theorem is_any (n : Int) (w : World) :
    Calls Try.prog 20 #[.int .i64 n] w fun e w' => e = .returned (.bool (isC n)) ∧ w = w' := by
  go_enter Try.func20, Try.ntmps20
  go_wp2
  all_goals go_ret
  all_goals exact ⟨by simp [isC, *] <;> omega, rfl⟩
theorem known_any (n : Int) (w : World) :
    Calls Try.prog 21 #[.int .i64 n] w fun e w' => e = .returned (.bool (isC n)) ∧ w = w' := by
  go_enter Try.func21, Try.ntmps21
  go_wp2
  all_goals go_ret
  all_goals exact ⟨by simp [isC, *] <;> omega, rfl⟩

theorem recon_any (d m : Int) (w : World) :
    Calls Try.prog 16 #[.int .i64 d, .int .i64 m] w fun e w' => e = .returned (.tuple #[.int .i64 (reconC d m).1, .bool (reconC d m).2]) ∧ w = w' := by
  rcases Bool.eq_false_or_eq_true (isC m) with hm | hm <;> rcases Bool.eq_false_or_eq_true (isC d) with hd | hd
  all_goals
    go_enter Try.func16, Try.ntmps16
    go_wp2_with (first | (go_at_call 20; refine (is_any _ _).mono ?_; rintro e w' ⟨rfl, rfl⟩))
  all_goals go_ret2
  all_goals exact ⟨by simp [reconC, *], rfl⟩
theorem reconR_any (d m : Int) (w : World) :
    Calls Try.prog 17 #[.int .i64 d, .int .i64 m] w fun e w' => e = .returned (.tuple #[.int .i64 (reconC d m).1, .bool (reconC d m).2]) ∧ w = w' := by
  rcases Bool.eq_false_or_eq_true (isC m) with hm | hm <;> rcases Bool.eq_false_or_eq_true (isC d) with hd | hd
  all_goals
    go_enter Try.func17, Try.ntmps17
    go_wp2_with (first | (go_at_call 21; refine (known_any _ _).mono ?_; rintro e w' ⟨rfl, rfl⟩))
  all_goals go_ret2
  all_goals exact ⟨by simp [reconC, *], rfl⟩

set_option maxHeartbeats 400000 in
theorem of_any (l : List Rule) (v : Value) (ax : Int) (w : World) (h : SlIs tRule (· < w.heap.size) w v l) :
    Calls Try.prog 12 #[v, .int .i64 ax] w fun e w' => e = .returned (.tuple #[.int .i64 (ofC ax l).1, .int .i64 (ofC ax l).2]) ∧ Below w.heap.size w w' := by
  obtain ⟨ao, cap, b, off, rfl, hl, hm, ho⟩ := rule_open h
  unfold maxLen at hm
  clear h
  go_enter Try.func12, Try.ntmps12
  go_wp2
  go_loopg [10] l.length (fun g i wr => ∃ k : Nat, k + g = l.length ∧ i = .int .i64 k ∧ ofC ax l = ofC ax (l.drop k) ∧ Below w.heap.size w wr)
  case atStart => exact ⟨0, by omega, rfl, rfl, Below.refl _ _⟩
  case round =>
    obtain ⟨k, hk, rfl, he, hb1⟩ := hrel
    have HE := Lib.hid he; clear he
    by_cases hlt : k < l.length
    · obtain ⟨rfl, hb, c0, c1, c2, -⟩ := ho wr hb1 k hlt
      clear ho
      go_wp2
      · refine bodyPost_ret (v := .tuple #[.int .i64 l[k].c, .int .i64 0]) (by simp [results, Try.results12, go_sem]) rfl ⟨?_, hb1.alloc hb1.size _⟩
        rw [HE.out, ofC_drop hlt, if_pos ⟨‹_›, ‹_›⟩]
      all_goals
        go_roundg (l.length - (k + 1))
        case measure => omega
        case rel =>
          refine ⟨k + 1, by omega, by go_num, ?_, hb1.alloc hb1.size _⟩
          rw [HE.out, ofC_drop hlt, if_neg (by omega)]
    · clear ho
      go_wp2
      go_ret2
      refine ⟨?_, hb1⟩
      rw [HE.out, ofC_end (by omega)]; rfl

set_option maxHeartbeats 400000 in
theorem ofR_any (l : List Rule) (v : Value) (ax : Int) (w : World) (h : SlIs tRule (· < w.heap.size) w v l) :
    Calls Try.prog 13 #[v, .int .i64 ax] w fun e w' => e = .returned (.tuple #[.int .i64 (ofC ax l).1, .int .i64 (ofC ax l).2]) ∧ Below w.heap.size w w' := by
  obtain ⟨ao, cap, b, off, rfl, hl, hm, ho⟩ := rule_open h
  unfold maxLen at hm
  clear h
  go_enter Try.func13, Try.ntmps13
  go_wp2
  go_loopg [6] l.length (fun g i wr => ∃ k : Nat, k + g = l.length ∧ i = .int .i64 k ∧ ofC ax l = ofC ax (l.drop k) ∧ Below w.heap.size w wr)
  case atStart => exact ⟨0, by omega, rfl, rfl, Below.refl _ _⟩
  case round =>
    obtain ⟨k, hk, rfl, he, hb1⟩ := hrel
    have HE := Lib.hid he; clear he
    by_cases hlt : k < l.length
    · obtain ⟨rfl, hb, c0, c1, c2, -⟩ := ho wr hb1 k hlt
      clear ho
      go_wp2
      · refine bodyPost_ret (v := .tuple #[.int .i64 l[k].c, .int .i64 0]) (by simp [results, Try.results13, go_sem]) rfl ⟨?_, hb1⟩
        rw [HE.out, ofC_drop hlt, if_pos ⟨‹_›, ‹_›⟩]
      all_goals
        go_roundg (l.length - (k + 1))
        case measure => omega
        case rel =>
          refine ⟨k + 1, by omega, by go_num, ?_, hb1⟩
          rw [HE.out, ofC_drop hlt, if_neg (by omega)]
    · clear ho
      go_wp2
      go_ret2
      refine ⟨?_, hb1⟩
      rw [HE.out, ofC_end (by omega)]; rfl

set_option maxHeartbeats 400000 in
theorem range_any (l : List Rule) (v : Value) (c : Int) (w : World) (h : SlIs tRule (· < w.heap.size) w v l) :
    Calls Try.prog 14 #[v, .int .i64 c] w fun e w' => e = .returned (.tuple #[.int .i64 (rangeC c l).1, .int .i64 (rangeC c l).2.1, .bool (rangeC c l).2.2]) ∧ Below w.heap.size w w' := by
  obtain ⟨ao, cap, b, off, rfl, hl, hm, ho⟩ := rule_open h
  unfold maxLen at hm
  clear h
  go_enter Try.func14, Try.ntmps14
  go_wp2
  go_loopg [11] l.length (fun g i wr => ∃ k : Nat, k + g = l.length ∧ i = .int .i64 k ∧ rangeC c l = rangeC c (l.drop k) ∧ Below w.heap.size w wr)
  case atStart => exact ⟨0, by omega, rfl, rfl, Below.refl _ _⟩
  case round =>
    obtain ⟨k, hk, rfl, he, hb1⟩ := hrel
    have HE := Lib.hid he; clear he
    by_cases hlt : k < l.length
    · obtain ⟨rfl, hb, c0, c1, c2, -⟩ := ho wr hb1 k hlt
      clear ho
      rcases Bool.eq_false_or_eq_true (l[k].c == c) with hc | hc
      · go_wp2_with (go_quiet (fail))
        refine bodyPost_ret (v := .tuple #[.int .i64 l[k].f, .int .i64 l[k].t, .bool true]) (by simp [results, Try.results14, go_sem]) rfl ⟨?_, ?_⟩
        · rw [HE.out, rangeC_drop hlt, if_pos (by simpa using hc)]
        · exact below_drewN (hb1.alloc hb1.size _) _
      · go_wp2
        go_roundg (l.length - (k + 1))
        case measure => omega
        case rel =>
          refine ⟨k + 1, by omega, by go_num, ?_, hb1.alloc hb1.size _⟩
          rw [HE.out, rangeC_drop hlt, if_neg (by simpa using hc)]
    · clear ho
      go_wp2
      go_ret3
      refine ⟨?_, hb1⟩
      rw [HE.out, rangeC_end (by omega)]; rfl
set_option maxHeartbeats 400000 in
theorem rangeR_any (l : List Rule) (v : Value) (c : Int) (w : World) (h : SlIs tRule (· < w.heap.size) w v l) :
    Calls Try.prog 15 #[v, .int .i64 c] w fun e w' => e = .returned (.tuple #[.int .i64 (rangeC c l).1, .int .i64 (rangeC c l).2.1, .bool (rangeC c l).2.2]) ∧ Below w.heap.size w w' := by
  obtain ⟨ao, cap, b, off, rfl, hl, hm, ho⟩ := rule_open h
  unfold maxLen at hm
  clear h
  go_enter Try.func15, Try.ntmps15
  go_wp2
  go_loopg [7] l.length (fun g i wr => ∃ k : Nat, k + g = l.length ∧ i = .int .i64 k ∧ rangeC c l = rangeC c (l.drop k) ∧ Below w.heap.size w wr)
  case atStart => exact ⟨0, by omega, rfl, rfl, Below.refl _ _⟩
  case round =>
    obtain ⟨k, hk, rfl, he, hb1⟩ := hrel
    have HE := Lib.hid he; clear he
    by_cases hlt : k < l.length
    · obtain ⟨rfl, hb, c0, c1, c2, -⟩ := ho wr hb1 k hlt
      clear ho
      rcases Bool.eq_false_or_eq_true (l[k].c == c) with hc | hc
      · go_wp2_with (go_quiet (fail))
        refine bodyPost_ret (v := .tuple #[.int .i64 l[k].f, .int .i64 l[k].t, .bool true]) (by simp [results, Try.results15, go_sem]) rfl ⟨?_, ?_⟩
        · rw [HE.out, rangeC_drop hlt, if_pos (by simpa using hc)]
        · exact below_drewN hb1 _
      · go_wp2
        go_roundg (l.length - (k + 1))
        case measure => omega
        case rel =>
          refine ⟨k + 1, by omega, by go_num, ?_, hb1⟩
          rw [HE.out, rangeC_drop hlt, if_neg (by simpa using hc)]
    · clear ho
      go_wp2
      go_ret3
      refine ⟨?_, hb1⟩
      rw [HE.out, rangeC_end (by omega)]; rfl

set_option maxHeartbeats 1000000 in
theorem check_any (l : List Rule) (v : Value) (w : World) (h : SlIs tRule (· < w.heap.size) w v l) :
    Calls Try.prog 10 #[v] w fun e w' => e = .returned (.int .i64 (chkAll l)) ∧ Below w.heap.size w w' := by
  obtain ⟨ao, cap, b, off, rfl, hl, hm, ho⟩ := rule_open h
  unfold maxLen at hm
  clear h
  by_cases h9 : 9 < l.length
  · go_enter Try.func10, Try.ntmps10
    go_wp2
    go_ret
    exact ⟨by simp [chkAll, h9], Below.refl _ _⟩
  go_enter Try.func10, Try.ntmps10
  go_wp2
  go_loopg [11] l.length (fun g i wr => ∃ k : Nat, k + g = l.length ∧ i = .int .i64 k ∧ chkAll l = chk (l.take k) (l.drop k) ∧ Seen wr w.heap.size 45 (l.take k) ∧ Below w.heap.size w wr)
  case atStart =>
    refine ⟨0, by omega, rfl, by rw [chkAll, if_neg h9]; rfl, ⟨_, rfl, heap_alloc_new _ _, fun j hj => ?_⟩, (Below.refl _ _).alloc (Nat.le_refl _) _⟩
    match j, hj with
    | 0, _ | 1, _ | 2, _ | 3, _ | 4, _ | 5, _ | 6, _ | 7, _ | 8, _ | 9, _ => rfl
  case round =>
    obtain ⟨k, hk, rfl, he, hs, hb1⟩ := hrel
    have HE := Lib.hid he; clear he
    by_cases hlt : k < l.length
    · obtain ⟨rfl, hb, c0, c1, c2, -⟩ := ho wr hb1 k hlt
      have hS := hs.lt
      have hbr : b < wr.heap.size := by omega
      by_cases hk0 : 0 < k
      · obtain ⟨m, rfl⟩ : ∃ m, k = m + 1 := ⟨k - 1, by omega⟩
        obtain ⟨_, _, _, d1, _, -⟩ := ho wr hb1 m (by omega)
        clear ho
        have hw1 : IntKind.i64.wrap (m : Int) = m := wrap_in (by omega) (by omega)
        have hm0 : (0 : Int) ≤ (m : Int) := by omega
        have hm1 : (m : Int) < (l.length : Int) := by omega
        rcases Bool.eq_false_or_eq_true (isC l[m + 1].c) with hc | hc
        · obtain ⟨s1, s2⟩ := hs.cell (c := l[m + 1].c) (by simp [isC] at hc; omega) (by simp [isC] at hc; omega)
          have b1 : 1 ≤ l[m + 1].c := by simp [isC] at hc; omega
          have b2 : l[m + 1].c ≤ 9 := by simp [isC] at hc; omega
          go_wp2_with (first | (go_at_call 20; refine (is_any _ _).mono ?_; rintro e w' ⟨rfl, rfl⟩) | go_quiet (fail))
          all_goals first
            | (go_ret; refine ⟨ret_int (b := 1) (HE.out.trans (chk_1 hlt ?_)), ?_⟩; omega; (repeat (first | exact hb1 | apply bl_drewN | apply bl_alloc | (refine bl_set ?_ _ ?_; rotate_left; exact Nat.le_refl _))))
            | (go_ret; refine ⟨ret_int (b := 15) (HE.out.trans (chk_15 hlt (bad1_no ?_ ?_ ?_) hc (Nat.succ_pos m) ‹l[m + 1].f ≤ l[m].t›)), ?_⟩; omega; omega; omega; (repeat (first | exact hb1 | apply bl_drewN | apply bl_alloc | (refine bl_set ?_ _ ?_; rotate_left; exact Nat.le_refl _))))
            | (go_ret; refine ⟨ret_int (b := 9) (HE.out.trans (chk_9 hlt (bad1_no ?_ ?_ ?_) hc (fun _ => ‹l[m].t < l[m + 1].f›) ‹_›)), ?_⟩; omega; omega; omega; (repeat (first | exact hb1 | apply bl_drewN | apply bl_alloc | (refine bl_set ?_ _ ?_; rotate_left; exact Nat.le_refl _))))
            | (go_roundg (l.length - ((m + 1) + 1))
               case measure => omega
               case rel =>
                 refine ⟨(m + 1) + 1, by omega, by go_num, HE.out.trans (chk_on hlt (bad1_no (by omega) (by omega) (by omega)) hc (fun _ => ‹l[m].t < l[m + 1].f›) ‹_›), ?_, ?_⟩
                 · rw [List.take_succ_eq_append_getElem hlt]
                   exact (hs.alloc _).drewN.set (by omega) (by omega)
                 · (repeat (first | exact hb1 | apply bl_drewN | apply bl_alloc | (refine bl_set ?_ _ ?_; rotate_left; exact Nat.le_refl _))))
        · go_wp2_with (first | (go_at_call 20; refine (is_any _ _).mono ?_; rintro e w' ⟨rfl, rfl⟩) | go_quiet (fail))
          all_goals first
            | (go_ret; refine ⟨ret_int (b := 1) (HE.out.trans (chk_1 hlt ?_)), ?_⟩; omega; (repeat (first | exact hb1 | apply bl_drewN | apply bl_alloc | (refine bl_set ?_ _ ?_; rotate_left; exact Nat.le_refl _))))
            | (go_ret; refine ⟨ret_int (b := 20) (HE.out.trans (chk_20 hlt (bad1_no ?_ ?_ ?_) hc)), ?_⟩; omega; omega; omega; (repeat (first | exact hb1 | apply bl_drewN | apply bl_alloc | (refine bl_set ?_ _ ?_; rotate_left; exact Nat.le_refl _))))
      · have hd : decide ((0 : Int) < (k : Int)) = false := by simp; omega
        clear ho
        rcases Bool.eq_false_or_eq_true (isC l[k].c) with hc | hc
        · obtain ⟨s1, s2⟩ := hs.cell (c := l[k].c) (by simp [isC] at hc; omega) (by simp [isC] at hc; omega)
          have b1 : 1 ≤ l[k].c := by simp [isC] at hc; omega
          have b2 : l[k].c ≤ 9 := by simp [isC] at hc; omega
          go_wp2_with (first | (go_at_call 20; refine (is_any _ _).mono ?_; rintro e w' ⟨rfl, rfl⟩) | go_quiet (fail))
          all_goals first
            | (go_ret; refine ⟨ret_int (b := 1) (HE.out.trans (chk_1 hlt ?_)), ?_⟩; omega; (repeat (first | exact hb1 | apply bl_drewN | apply bl_alloc | (refine bl_set ?_ _ ?_; rotate_left; exact Nat.le_refl _))))
            | (go_ret; refine ⟨ret_int (b := 9) (HE.out.trans (chk_9 hlt (bad1_no ?_ ?_ ?_) hc (fun h => absurd h hk0) ‹_›)), ?_⟩; omega; omega; omega; (repeat (first | exact hb1 | apply bl_drewN | apply bl_alloc | (refine bl_set ?_ _ ?_; rotate_left; exact Nat.le_refl _))))
            | (go_roundg (l.length - (k + 1))
               case measure => omega
               case rel =>
                 refine ⟨k + 1, by omega, by go_num, HE.out.trans (chk_on hlt (bad1_no (by omega) (by omega) (by omega)) hc (fun h => absurd h hk0) ‹_›), ?_, ?_⟩
                 · rw [List.take_succ_eq_append_getElem hlt]
                   exact (hs.alloc _).drewN.set (by omega) (by omega)
                 · (repeat (first | exact hb1 | apply bl_drewN | apply bl_alloc | (refine bl_set ?_ _ ?_; rotate_left; exact Nat.le_refl _))))
        · go_wp2_with (first | (go_at_call 20; refine (is_any _ _).mono ?_; rintro e w' ⟨rfl, rfl⟩) | go_quiet (fail))
          all_goals first
            | (go_ret; refine ⟨ret_int (b := 1) (HE.out.trans (chk_1 hlt ?_)), ?_⟩; omega; (repeat (first | exact hb1 | apply bl_drewN | apply bl_alloc | (refine bl_set ?_ _ ?_; rotate_left; exact Nat.le_refl _))))
            | (go_ret; refine ⟨ret_int (b := 20) (HE.out.trans (chk_20 hlt (bad1_no ?_ ?_ ?_) hc)), ?_⟩; omega; omega; omega; (repeat (first | exact hb1 | apply bl_drewN | apply bl_alloc | (refine bl_set ?_ _ ?_; rotate_left; exact Nat.le_refl _))))
    · clear ho
      go_wp2
      go_ret
      refine ⟨?_, hb1⟩
      rw [HE.out, chk_end (by omega)]; rfl
end Go.Proofs.Ytdhpcfabeapaaaa
