/-
  Layer 10 (plate): the walks: the reference's Same, weight, Before, SameTexts; few, cut.
-/
import Derived.Test.YthpmclhpagcbiaaPlateDistR
namespace Go.Tw.Plate
open Go.RowKit
/-- the order of strings -/
def ltL : List Int → List Int → Bool
  | [], [] => false
  | [], _ :: _ => true
  | _ :: _, [] => false
  | x :: a, y :: b => if x = y then ltL a b else decide (x < y)
theorem ltL_drop {a b : List Int} {k : Nat} (h : k < a.length) (h2 : k < b.length) : ltL (a.drop k) (b.drop k) = if a[k] = b[k] then ltL (a.drop (k + 1)) (b.drop (k + 1)) else decide (a[k] < b[k]) := by
  rw [List.drop_eq_getElem_cons h, List.drop_eq_getElem_cons h2, ltL]
theorem ltL_end {a b : List Int} {k : Nat} (h : k ≤ a.length) (h2 : k ≤ b.length) (h3 : a.length ≤ k ∨ b.length ≤ k) : ltL (a.drop k) (b.drop k) = decide (a.length < b.length) := by
  by_cases q : a.length ≤ k
  · rw [List.drop_eq_nil_of_le q]
    by_cases q2 : b.length ≤ k
    · rw [List.drop_eq_nil_of_le q2, ltL]; symm; simp; omega
    · rw [List.drop_eq_getElem_cons (by omega), ltL]; symm; simp; omega
  · rw [List.drop_eq_getElem_cons (by omega), List.drop_eq_nil_of_le (show b.length ≤ k by omega), ltL]; symm; simp; omega
def clampW (n : Int) : Int := if n < 0 then 0 else min n 1000
end Go.Tw.Plate
namespace Go.Proofs.Ythpmclhpagcbiaa
open Go.RowKit Go.Tw Go.Tw.Plate

theorem SameR_any (s t : ByteArray) (w : World) (hs : s.size ≤ 1000000) (ht : t.size ≤ 1000000) :
    Calls Try.prog 19 #[.string s, .string t] w fun e w' => e = .returned (.bool (decide (distS s t ≤ 2))) ∧ Below w.heap.size w w' := by
  go_enter Try.func19, Try.ntmps19
  go_wp2_with (go_at_call 17; refine (DistanceR_any s t _ hs ht).mono ?_; rintro e w' ⟨rfl, hb⟩)
  go_ret
  exact ⟨rfl, hb⟩
theorem weight_any (n : Int) (w : World) :
    Calls Try.prog 39 #[.int .i64 n] w fun e w' => e = .returned (.int .i64 (clampW n)) ∧ w = w' := by
  by_cases h : n < 0
  · have HR := Lib.hid (show clampW n = 0 by unfold clampW; rw [if_pos h])
    go_enter Try.func39, Try.ntmps39
    go_wp2
    go_ret
    exact ⟨ret_int HR.out, rfl⟩
  · have HR := Lib.hid (show clampW n = min n 1000 by unfold clampW; rw [if_neg h])
    go_enter Try.func39, Try.ntmps39
    go_wp2_with (go_at_call 31; refine (least_any _ _ _).mono ?_; rintro e w' ⟨rfl, rfl⟩)
    go_ret
    exact ⟨ret_int HR.out, rfl⟩

set_option maxRecDepth 100000 in
set_option maxHeartbeats 1000000 in
theorem Before_any (s t : ByteArray) (w : World) (hs : s.size ≤ 1000000) (ht : t.size ≤ 1000000) :
    Calls Try.prog 37 #[.string s, .string t] w fun e w' => e = .returned (.bool (ltL (codes s) (codes t))) ∧ Below w.heap.size w w' := by
  go_enter Try.func37, Try.ntmps37
  go_wp2
  go_loopg [5] s.size (fun g i wr => ∃ k : Nat, k + g = s.size ∧ k ≤ t.size ∧ i = .int .i64 k ∧ ltL (codes s) (codes t) = ltL ((codes s).drop k) ((codes t).drop k) ∧ Below w.heap.size w wr)
  case atStart => exact ⟨0, by omega, by omega, rfl, rfl, Below.refl _ _⟩
  case round =>
    obtain ⟨k, hk, hkt, rfl, he, hb⟩ := hrel
    have HE := Lib.hid he; clear he
    by_cases h1 : k < s.size
    case neg =>
      have h1d : decide ((k : Int) < (s.size : Int)) = false := by simp; omega
      have HF := Lib.hid (ltL_end (a := codes s) (b := codes t) (k := k) (by rw [codes_len]; omega) (by rw [codes_len]; omega) (.inl (by rw [codes_len]; omega)))
      go_wp2
      go_ret
      exact ⟨ret_bool (by rw [HE.out, HF.out, codes_len, codes_len]), hb⟩
    by_cases h2 : k < t.size
    case neg =>
      have HF := Lib.hid (ltL_end (a := codes s) (b := codes t) (k := k) (by rw [codes_len]; omega) (by rw [codes_len]; omega) (.inr (by rw [codes_len]; omega)))
      go_wp2
      go_ret
      exact ⟨ret_bool (by rw [HE.out, HF.out, codes_len, codes_len]), hb⟩
    have k0 : (0 : Int) ≤ (k : Int) := by omega
    have k1 : (k : Int) < (s.size : Int) := by omega
    have k2 : (k : Int) < (t.size : Int) := by omega
    have HD := Lib.hid (ltL_drop (a := codes s) (b := codes t) (k := k) (by rw [codes_len]; exact h1) (by rw [codes_len]; exact h2))
    rw [codes_get s h1, codes_get t h2] at HD
    rcases beq_cases (s[k].toNat : Int) (t[k].toNat : Int) with heq | heq
    · have HQ := Lib.hid (show (s[k].toNat : Int) = (t[k].toNat : Int) by simpa using heq)
      have hne : ((s[k].toNat : Int) != (t[k].toNat : Int)) = false := by simp [bne, heq]
      go_wp2_with (go_quiet (fail))
      go_roundg (s.size - (k + 1))
      case measure => omega
      case rel => exact ⟨k + 1, by omega, by omega, by go_num, by rw [HE.out, HD.out, if_pos HQ.out], bl_drewN hb _⟩
    · have HQ := Lib.hid (show ¬ (s[k].toNat : Int) = (t[k].toNat : Int) by simpa using heq)
      have hne : ((s[k].toNat : Int) != (t[k].toNat : Int)) = true := by simp [bne, heq]
      go_wp2_with (go_quiet (fail))
      go_ret
      exact ⟨ret_bool (by rw [HE.out, HD.out, if_neg HQ.out]; simp), bl_drewN (bl_drewN hb _) _⟩
end Go.Proofs.Ythpmclhpagcbiaa
