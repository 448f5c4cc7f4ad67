/-
  Layer 6 (match): the walks of small functions: bit, has, same, the orders, free, great.
-/
import Derived.Test.YtepceaoccnmkiaaMatchTab
import Derived.Test.YtepceaoccnmkiaaMatchRestP
namespace Go.Tw.Match
open Go.RowKit
theorem hasC_div {set : Nat} {j : Int} (h : 0 ≤ j) : hasC set j = decide (set / bitC j % 2 = 1) := by
  unfold hasC bitC
  rw [if_neg (by omega), decide_eq_true h, Bool.true_and, Nat.testBit_eq_decide_div_mod_eq]
theorem befC_drop {a b : List Int} {k : Nat} (h : k < a.length) (h2 : k < b.length) : befC (a.drop k) (b.drop k) = if a[k] = b[k] then befC (a.drop (k + 1)) (b.drop (k + 1)) else decide (0 ≤ a[k]) && (decide (b[k] < 0) || decide (a[k] < b[k])) := by
  rw [List.drop_eq_getElem_cons h, List.drop_eq_getElem_cons h2, befC]
theorem befC_end {a b : List Int} {k : Nat} (h : a.length ≤ k ∨ b.length ≤ k) : befC (a.drop k) (b.drop k) = false := by
  rcases h with h | h
  · rw [List.drop_eq_nil_of_le h, befC]
    intro x a y b h1
    cases h1
  · rw [List.drop_eq_nil_of_le h]
    cases a.drop k <;> rfl
end Go.Tw.Match
namespace Go.Proofs.Ytepceaoccnmkiaa
open Go.RowKit Go.Tw Go.Tw.Match
theorem bit_any (j : Int) (w : World) (hj : -1 ≤ j) (h8 : j ≤ 8) :
    Calls Try.prog 35 #[.int .i64 j] w fun e w' => e = .returned (.int .i64 (bitC j : Nat)) ∧ w = w' := by
  by_cases hn : j < 0
  · have HB := Lib.hid (show bitC j = 0 by unfold bitC; rw [if_pos hn])
    go_enter Try.func35, Try.ntmps35
    go_wp2
    go_ret
    exact ⟨by rw [HB.out]; rfl, rfl⟩
  · have HB := Lib.hid (show bitC j = 2 ^ j.toNat by unfold bitC; rw [if_neg hn])
    have j0 : 0 ≤ j := by omega
    go_enter Try.func35, Try.ntmps35
    go_wp2
    go_loopg [4, 3] j.toNat (fun g i n wr => ∃ (k q : Nat), k + g = j.toNat ∧ i = .int .i64 k ∧ n = .int .i64 q ∧ q = 2 ^ k ∧ w = wr)
    case atStart => exact ⟨0, 1, by omega, rfl, rfl, rfl, rfl⟩
    case round =>
      obtain ⟨k, q, hk, rfl, rfl, hq, rfl⟩ := hrel
      have hq8 : q ≤ 256 := by rw [hq]; exact Nat.le_trans (Nat.pow_le_pow_right (by decide) (show k ≤ 8 by omega)) (by decide)
      have HQ := Lib.hid hq; clear hq
      have k0 : (0 : Int) ≤ (k : Int) := by omega
      by_cases hlt : (k : Int) < j
      · go_wp2
        go_roundg (j.toNat - (k + 1))
        case measure => omega
        case rel => exact ⟨k + 1, 2 * q, by omega, by go_num, by go_num, by rw [HQ.out, Nat.pow_succ, Nat.mul_comm], rfl⟩
      · have hd : decide ((k : Int) < j) = false := by simp; omega
        have HR := Lib.hid (show q = bitC j by rw [HQ.out, HB.out, show k = j.toNat by omega])
        go_wp2
        go_ret
        exact ⟨by rw [← HR.out]; rfl, rfl⟩
theorem has_any (set : Nat) (j : Int) (w : World) (hs : set ≤ 256) (hj : -1 ≤ j) (h8 : j ≤ 8) :
    Calls Try.prog 34 #[.int .i64 set, .int .i64 j] w fun e w' => e = .returned (.bool (hasC set j)) ∧ w = w' := by
  by_cases hn : j < 0
  · have HB := Lib.hid (show hasC set j = false by unfold hasC; rw [decide_eq_false (by omega)]; rfl)
    go_enter Try.func34, Try.ntmps34
    go_wp2
    go_ret
    exact ⟨by rw [HB.out]; rfl, rfl⟩
  · have j0 : 0 ≤ j := by omega
    have HB := Lib.hid (hasC_div (set := set) j0)
    have hb1 : 1 ≤ bitC j := by unfold bitC; rw [if_neg hn]; exact Nat.one_le_two_pow
    have hb2 : (1 : Int) ≤ ((bitC j : Nat) : Int) := by omega
    have HX := Lib.hid (show ((wrap64 ((set : Int) / ((bitC j : Nat) : Int))).tmod 2 == 1) = hasC set j by
      have e : (set : Int) / ((bitC j : Nat) : Int) = ((set / bitC j : Nat) : Int) := by simp
      have hle : set / bitC j ≤ set := Nat.div_le_self _ _
      rw [e, HB.out]
      generalize set / bitC j = z at *
      rw [IntWalk.wrap64_in _ ⟨by omega, by omega⟩, show ((z : Nat) : Int).tmod 2 = ((z % 2 : Nat) : Int) by rw [Int.tmod_eq_emod_of_nonneg (by omega)]; simp, Bool.eq_iff_iff]
      simp only [beq_iff_eq, decide_eq_true_eq]
      omega)
    have s0 : (0 : Int) ≤ (set : Int) := by omega
    go_enter Try.func34, Try.ntmps34
    go_wp2_with (go_at_call 35; refine (bit_any _ _ hj h8).mono ?_; rintro e w' ⟨rfl, rfl⟩)
    go_ret
    exact ⟨congrArg (fun b => Ending.returned (.bool b)) HX.out, rfl⟩

theorem same_any (a b : List Int) (va vb : Value) (w : World) (ha : SlIs tInt (· < w.heap.size) w va a) (hb : SlIs tInt (· < w.heap.size) w vb b) :
    Calls Try.prog 20 #[va, vb] w fun e w' => e = .returned (.bool (decide (a = b))) ∧ ∃ n, w' = w.drewN n := by
  obtain ⟨aa, ca, ba, oa, rfl, ha1, ha2, hia⟩ := Go.Tw.Match.ints_at ha
  obtain ⟨ab, cb, bb, ob, rfl, hb1, hb2, hib⟩ := Go.Tw.Match.ints_at hb
  unfold maxLen at ha2 hb2
  have HA := Lib.hid hia
  have HB := Lib.hid hib
  clear ha hb hia hib
  by_cases hl : a.length = b.length
  case neg =>
    have hne : ((a.length : Int) != (b.length : Int)) = true := by rw [bne_iff_ne]; omega
    have HR := Lib.hid (show decide (a = b) = false from decide_eq_false (fun e => hl (by rw [e])))
    clear hl
    go_enter Try.func20, Try.ntmps20
    go_wp2
    go_ret
    exact ⟨by rw [HR.out]; rfl, 0, rfl⟩
  have hne : ((a.length : Int) != (b.length : Int)) = false := by rw [bne_eq_false_iff_eq]; omega
  have HL := Lib.hid hl; clear hl
  go_enter Try.func20, Try.ntmps20
  go_wp2
  go_loopg [13] a.length (fun g i wr => ∃ k n : Nat, k + g = a.length ∧ i = .int .i64 k ∧ Hid (a.take k = b.take k) ∧ wr = w.drewN n)
  case atStart => exact ⟨0, 0, by omega, rfl, Lib.hid rfl, rfl⟩
  case round =>
    obtain ⟨k, n, hk, rfl, HE, rfl⟩ := hrel
    by_cases hlt : k < a.length
    case neg =>
      have hlb : k = a.length := by omega
      have HR := Lib.hid (show decide (a = b) = true from decide_eq_true (by
        have := HE.out
        rw [hlb, List.take_length, HL.out, List.take_length] at this
        exact this))
      have hd : decide ((k : Int) < (a.length : Int)) = false := by simp; omega
      clear hlb
      go_wp2
      go_ret
      exact ⟨by rw [HR.out]; rfl, _, rfl⟩
    have hlb : k < b.length := by have := HL.out; omega
    obtain ⟨rfl, -, x0, -⟩ := HA.out _ (Below.refl _ _) k hlt
    obtain ⟨rfl, -, y0, -⟩ := HB.out _ (Below.refl _ _) k hlb
    have k0 : (0 : Int) ≤ (k : Int) := by omega
    have k1 : (k : Int) < (a.length : Int) := by omega
    have k2 : (k : Int) < (b.length : Int) := by omega
    by_cases he : a[k] = b[k]
    · have hq : (a[k] != b[k]) = false := by rw [bne_eq_false_iff_eq]; exact he
      have HE2 := Lib.hid (show a.take (k + 1) = b.take (k + 1) by rw [List.take_succ_eq_append_getElem hlt, List.take_succ_eq_append_getElem hlb, HE.out, he])
      clear he
      go_wp2_with (go_quiet (fail))
      go_roundg (a.length - (k + 1))
      case measure => omega
      case rel => exact ⟨k + 1, _, by omega, by go_num, HE2, rfl⟩
    · have hq : (a[k] != b[k]) = true := by rw [bne_iff_ne]; exact he
      have HR := Lib.hid (show decide (a = b) = false from decide_eq_false (fun e => he (by subst e; rfl)))
      clear he
      go_wp2_with (go_quiet (fail))
      go_ret
      exact ⟨by rw [HR.out]; rfl, _, World.drewN_drewN _ _ _⟩
set_option maxHeartbeats 1000000 in
theorem before_any (a b : List Int) (va vb : Value) (w : World) (ha : SlIs tInt (· < w.heap.size) w va a) (hb : SlIs tInt (· < w.heap.size) w vb b) (hab : a.length ≤ b.length) (hna : ∀ x ∈ a, -1 ≤ x) (hnb : ∀ x ∈ b, -1 ≤ x) :
    Calls Try.prog 33 #[va, vb] w fun e w' => e = .returned (.bool (befC a b)) ∧ ∃ n, w' = w.drewN n := by
  obtain ⟨aa, ca, ba, oa, rfl, ha1, ha2, hia⟩ := Go.Tw.Match.ints_at ha
  obtain ⟨ab, cb, bb, ob, rfl, hb1, hb2, hib⟩ := Go.Tw.Match.ints_at hb
  unfold maxLen at ha2 hb2
  have HA := Lib.hid hia
  have HB := Lib.hid hib
  clear ha hb hia hib
  have HNA := Lib.hid hna
  have HNB := Lib.hid hnb
  clear hna hnb
  go_enter Try.func33, Try.ntmps33
  go_wp2
  go_loopg [8] a.length (fun g i wr => ∃ k n : Nat, k + g = a.length ∧ i = .int .i64 k ∧ befC a b = befC (a.drop k) (b.drop k) ∧ wr = w.drewN n)
  case atStart => exact ⟨0, 0, by omega, rfl, rfl, rfl⟩
  case round =>
    obtain ⟨k, n, hk, rfl, he, rfl⟩ := hrel
    have HE := Lib.hid he; clear he
    by_cases hlt : k < a.length
    case neg =>
      have HR := Lib.hid (show befC a b = false by rw [HE.out, befC_end (.inl (by omega))])
      have hd : decide ((k : Int) < (a.length : Int)) = false := by simp; omega
      go_wp2
      go_ret
      exact ⟨by rw [HR.out]; rfl, _, rfl⟩
    have k0 : (0 : Int) ≤ (k : Int) := by omega
    have k1 : (k : Int) < (a.length : Int) := by omega
    have hlb : k < b.length := by omega
    have k2 : (k : Int) < (b.length : Int) := by omega
    obtain ⟨rfl, -, x0, -⟩ := HA.out _ (Below.refl _ _) k hlt
    obtain ⟨rfl, -, y0, -⟩ := HB.out _ (Below.refl _ _) k hlb
    have hra := HNA.out _ (List.getElem_mem hlt)
    have hrb := HNB.out _ (List.getElem_mem hlb)
    have HD := Lib.hid (befC_drop hlt hlb)
    by_cases heq : a[k] = b[k]
    · have hq : (a[k] != b[k]) = false := by rw [bne_eq_false_iff_eq]; exact heq
      have HS := Lib.hid (show befC a b = befC (a.drop (k + 1)) (b.drop (k + 1)) by rw [HE.out, HD.out, if_pos heq])
      clear heq
      go_wp2_with (go_quiet (fail))
      go_roundg (a.length - (k + 1))
      case measure => omega
      case rel => exact ⟨k + 1, _, by omega, by go_num, HS.out, rfl⟩
    · have hq : (a[k] != b[k]) = true := by rw [bne_iff_ne]; exact heq
      have HS := Lib.hid (show befC a b = (decide (0 ≤ a[k]) && (decide (b[k] < 0) || decide (a[k] < b[k]))) by rw [HE.out, HD.out, if_neg heq])
      have hcase : (decide (0 ≤ a[k]) = false ∧ decide (b[k] < 0) = false) ∨ (decide (0 ≤ a[k]) = true ∧ decide (b[k] < 0) = true) ∨ (decide (0 ≤ a[k]) = true ∧ decide (b[k] < 0) = false) := by
        simp
        omega
      clear heq
      rcases hcase with ⟨q1, q2⟩ | ⟨q1, q2⟩ | ⟨q1, q2⟩
      all_goals
        rw [q1, q2] at HS
        go_wp2_with (go_quiet (fail))
        go_ret
        exact ⟨by rw [HS.out]; rfl, _, by rw [World.drewN_drewN, World.drewN_drewN]⟩
set_option maxHeartbeats 1000000 in
theorem beforeL_any (a b : List Int) (va vb : Value) (w : World) (ha : SlIs tInt (· < w.heap.size) w va a) (hb : SlIs tInt (· < w.heap.size) w vb b) (hna : ∀ x ∈ a, -1 ≤ x) (hnb : ∀ x ∈ b, -1 ≤ x) :
    Calls Try.prog 25 #[va, vb] w fun e w' => e = .returned (.bool (befC a b)) ∧ ∃ n, w' = w.drewN n := by
  obtain ⟨aa, ca, ba, oa, rfl, ha1, ha2, hia⟩ := Go.Tw.Match.ints_at ha
  obtain ⟨ab, cb, bb, ob, rfl, hb1, hb2, hib⟩ := Go.Tw.Match.ints_at hb
  unfold maxLen at ha2 hb2
  have HA := Lib.hid hia
  have HB := Lib.hid hib
  clear ha hb hia hib
  have HNA := Lib.hid hna
  have HNB := Lib.hid hnb
  clear hna hnb
  go_enter Try.func25, Try.ntmps25
  go_wp2
  go_loopg [5] a.length (fun g i wr => ∃ k n : Nat, k + g = a.length ∧ i = .int .i64 k ∧ befC a b = befC (a.drop k) (b.drop k) ∧ wr = w.drewN n)
  case atStart => exact ⟨0, 0, by omega, rfl, rfl, rfl⟩
  case round =>
    obtain ⟨k, n, hk, rfl, he, rfl⟩ := hrel
    have HE := Lib.hid he; clear he
    by_cases hlt : k < a.length
    case neg =>
      have HR := Lib.hid (show befC a b = false by rw [HE.out, befC_end (.inl (by omega))])
      have hd : decide ((k : Int) < (a.length : Int)) = false := by simp; omega
      go_wp2
      go_ret
      exact ⟨by rw [HR.out]; rfl, _, rfl⟩
    have k0 : (0 : Int) ≤ (k : Int) := by omega
    have k1 : (k : Int) < (a.length : Int) := by omega
    by_cases hlb : k < b.length
    case neg =>
      have HR := Lib.hid (show befC a b = false by rw [HE.out, befC_end (.inr (by omega))])
      have hd2 : decide ((k : Int) < (b.length : Int)) = false := by simp; omega
      go_wp2
      go_ret
      exact ⟨by rw [HR.out]; rfl, _, rfl⟩
    have k2 : (k : Int) < (b.length : Int) := by omega
    obtain ⟨rfl, -, x0, -⟩ := HA.out _ (Below.refl _ _) k hlt
    obtain ⟨rfl, -, y0, -⟩ := HB.out _ (Below.refl _ _) k hlb
    have hra := HNA.out _ (List.getElem_mem hlt)
    have hrb := HNB.out _ (List.getElem_mem hlb)
    have HD := Lib.hid (befC_drop hlt hlb)
    by_cases heq : a[k] = b[k]
    · have hq : (a[k] != b[k]) = false := by rw [bne_eq_false_iff_eq]; exact heq
      have HS := Lib.hid (show befC a b = befC (a.drop (k + 1)) (b.drop (k + 1)) by rw [HE.out, HD.out, if_pos heq])
      clear heq
      go_wp2_with (go_quiet (fail))
      go_roundg (a.length - (k + 1))
      case measure => omega
      case rel => exact ⟨k + 1, _, by omega, by go_num, HS.out, rfl⟩
    · have hq : (a[k] != b[k]) = true := by rw [bne_iff_ne]; exact heq
      have HS := Lib.hid (show befC a b = (decide (0 ≤ a[k]) && (decide (b[k] < 0) || decide (a[k] < b[k]))) by rw [HE.out, HD.out, if_neg heq])
      have hcase : (decide (0 ≤ a[k]) = false ∧ decide (b[k] < 0) = false) ∨ (decide (0 ≤ a[k]) = true ∧ decide (b[k] < 0) = true) ∨ (decide (0 ≤ a[k]) = true ∧ decide (b[k] < 0) = false) := by
        simp
        omega
      clear heq
      rcases hcase with ⟨q1, q2⟩ | ⟨q1, q2⟩ | ⟨q1, q2⟩
      all_goals
        rw [q1, q2] at HS
        go_wp2_with (go_quiet (fail))
        go_ret
        exact ⟨by rw [HS.out]; rfl, _, by rw [World.drewN_drewN, World.drewN_drewN]⟩
set_option maxHeartbeats 1000000 in
theorem beforeR_any (a b : List Int) (va vb : Value) (w : World) (ha : SlIs tInt (· < w.heap.size) w va a) (hb : SlIs tInt (· < w.heap.size) w vb b) (hna : ∀ x ∈ a, -1 ≤ x) (hnb : ∀ x ∈ b, -1 ≤ x) :
    Calls Try.prog 36 #[va, vb] w fun e w' => e = .returned (.bool (befC a b)) ∧ ∃ n, w' = w.drewN n := by
  obtain ⟨aa, ca, ba, oa, rfl, ha1, ha2, hia⟩ := Go.Tw.Match.ints_at ha
  obtain ⟨ab, cb, bb, ob, rfl, hb1, hb2, hib⟩ := Go.Tw.Match.ints_at hb
  unfold maxLen at ha2 hb2
  have HA := Lib.hid hia
  have HB := Lib.hid hib
  clear ha hb hia hib
  have HNA := Lib.hid hna
  have HNB := Lib.hid hnb
  clear hna hnb
  go_enter Try.func36, Try.ntmps36
  go_wp2
  go_loopg [5] a.length (fun g i wr => ∃ k n : Nat, k + g = a.length ∧ i = .int .i64 k ∧ befC a b = befC (a.drop k) (b.drop k) ∧ wr = w.drewN n)
  case atStart => exact ⟨0, 0, by omega, rfl, rfl, rfl⟩
  case round =>
    obtain ⟨k, n, hk, rfl, he, rfl⟩ := hrel
    have HE := Lib.hid he; clear he
    by_cases hlt : k < a.length
    case neg =>
      have HR := Lib.hid (show befC a b = false by rw [HE.out, befC_end (.inl (by omega))])
      have hd : decide ((k : Int) < (a.length : Int)) = false := by simp; omega
      go_wp2
      go_ret
      exact ⟨by rw [HR.out]; rfl, _, rfl⟩
    have k0 : (0 : Int) ≤ (k : Int) := by omega
    have k1 : (k : Int) < (a.length : Int) := by omega
    by_cases hlb : k < b.length
    case neg =>
      have HR := Lib.hid (show befC a b = false by rw [HE.out, befC_end (.inr (by omega))])
      have hd2 : decide ((k : Int) < (b.length : Int)) = false := by simp; omega
      go_wp2
      go_ret
      exact ⟨by rw [HR.out]; rfl, _, rfl⟩
    have k2 : (k : Int) < (b.length : Int) := by omega
    obtain ⟨rfl, -, x0, -⟩ := HA.out _ (Below.refl _ _) k hlt
    obtain ⟨rfl, -, y0, -⟩ := HB.out _ (Below.refl _ _) k hlb
    have hra := HNA.out _ (List.getElem_mem hlt)
    have hrb := HNB.out _ (List.getElem_mem hlb)
    have HD := Lib.hid (befC_drop hlt hlb)
    by_cases heq : a[k] = b[k]
    · have hq : (a[k] != b[k]) = false := by rw [bne_eq_false_iff_eq]; exact heq
      have HS := Lib.hid (show befC a b = befC (a.drop (k + 1)) (b.drop (k + 1)) by rw [HE.out, HD.out, if_pos heq])
      clear heq
      go_wp2_with (go_quiet (fail))
      go_roundg (a.length - (k + 1))
      case measure => omega
      case rel => exact ⟨k + 1, _, by omega, by go_num, HS.out, rfl⟩
    · have hq : (a[k] != b[k]) = true := by rw [bne_iff_ne]; exact heq
      have HS := Lib.hid (show befC a b = (decide (0 ≤ a[k]) && (decide (b[k] < 0) || decide (a[k] < b[k]))) by rw [HE.out, HD.out, if_neg heq])
      have hcase : (decide (0 ≤ a[k]) = false ∧ decide (b[k] < 0) = false) ∨ (decide (0 ≤ a[k]) = true ∧ decide (b[k] < 0) = true) ∨ (decide (0 ≤ a[k]) = true ∧ decide (b[k] < 0) = false) := by
        simp
        omega
      clear heq
      rcases hcase with ⟨q1, q2⟩ | ⟨q1, q2⟩ | ⟨q1, q2⟩
      all_goals
        rw [q1, q2] at HS
        go_wp2_with (go_quiet (fail))
        go_ret
        exact ⟨by rw [HS.out]; rfl, _, by rw [World.drewN_drewN, World.drewN_drewN]⟩
end Go.Proofs.Ytepceaoccnmkiaa
