/-
  Layer 10 (plate): the walk of the reference's Before: it draws and does nothing else.
-/
import Derived.Test.YthpmclhpagcbiaaPlateSort
namespace Go.Proofs.Ythpmclhpagcbiaa
open Go.RowKit Go.Tw Go.Tw.Plate

theorem quiet_add {P : Program} {f : FuncId} {args : Array Value} {w : World} {a n : Nat} {v : Value}
    (h : Calls P f args (w.drewN (a + n)) fun e w' => e = .returned v ∧ ∃ m, w' = (w.drewN (a + n)).drewN m) :
    Calls P f args (w.drewN (a + n)) fun e w'' => e = .returned v ∧ ∃ m, w'' = w.drewN (a + m) :=
  h.mono fun _ _ ⟨he, m, hm⟩ => ⟨he, n + m, by rw [hm, World.drewN_drewN, Nat.add_assoc]⟩
set_option maxRecDepth 100000 in
set_option maxHeartbeats 1000000 in
theorem Before_quiet (s t : ByteArray) (w : World) (hs : s.size ≤ 1000000) (ht : t.size ≤ 1000000) :
    Calls Try.prog 37 #[.string s, .string t] w fun e w' => e = .returned (.bool (ltL (codes s) (codes t))) ∧ ∃ n, w' = w.drewN n := by
  go_enter Try.func37, Try.ntmps37
  go_wp2
  go_loopg [5] s.size (fun g i wr => ∃ k : Nat, k + g = s.size ∧ k ≤ t.size ∧ i = .int .i64 k ∧ ltL (codes s) (codes t) = ltL ((codes s).drop k) ((codes t).drop k) ∧ ∃ n, wr = w.drewN n)
  case atStart => exact ⟨0, by omega, by omega, rfl, rfl, 0, rfl⟩
  case round =>
    obtain ⟨k, hk, hkt, rfl, he, n, rfl⟩ := hrel
    have HE := Lib.hid he; clear he
    by_cases h1 : k < s.size
    case neg =>
      have h1d : decide ((k : Int) < (s.size : Int)) = false := by simp; omega
      have HF := Lib.hid (ltL_end (a := codes s) (b := codes t) (k := k) (by rw [codes_len]; omega) (by rw [codes_len]; omega) (.inl (by rw [codes_len]; omega)))
      go_wp2
      go_ret
      exact ⟨ret_bool (by rw [HE.out, HF.out, codes_len, codes_len]), _, rfl⟩
    by_cases h2 : k < t.size
    case neg =>
      have HF := Lib.hid (ltL_end (a := codes s) (b := codes t) (k := k) (by rw [codes_len]; omega) (by rw [codes_len]; omega) (.inr (by rw [codes_len]; omega)))
      go_wp2
      go_ret
      exact ⟨ret_bool (by rw [HE.out, HF.out, codes_len, codes_len]), _, rfl⟩
    have k0 : (0 : Int) ≤ (k : Int) := by omega
    have k1 : (k : Int) < (s.size : Int) := by omega
    have k2 : (k : Int) < (t.size : Int) := by omega
    have HD := Lib.hid (ltL_drop (a := codes s) (b := codes t) (k := k) (by rw [codes_len]; exact h1) (by rw [codes_len]; exact h2))
    rw [codes_get s h1, codes_get t h2] at HD
    rcases beq_cases (s[k].toNat : Int) (t[k].toNat : Int) with heq | heq
    · have HQ := Lib.hid (show (s[k].toNat : Int) = (t[k].toNat : Int) by simpa using heq)
      have hne : ((s[k].toNat : Int) != (t[k].toNat : Int)) = false := by simp [bne, heq]
      go_wp2_with (go_quiet (fail))
      go_roundg (s.size - (k + 1))
      case measure => omega
      case rel => exact ⟨k + 1, by omega, by omega, by go_num, by rw [HE.out, HD.out, if_pos HQ.out], _, rfl⟩
    · have HQ := Lib.hid (show ¬ (s[k].toNat : Int) = (t[k].toNat : Int) by simpa using heq)
      have hne : ((s[k].toNat : Int) != (t[k].toNat : Int)) = true := by simp [bne, heq]
      go_wp2_with (go_quiet (fail))
      go_ret
      exact ⟨ret_bool (by rw [HE.out, HD.out, if_neg HQ.out]; simp), _, by rw [World.drewN_drewN, World.drewN_drewN]⟩
end Go.Proofs.Ythpmclhpagcbiaa
