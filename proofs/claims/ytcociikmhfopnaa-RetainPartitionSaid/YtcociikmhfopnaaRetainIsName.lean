/-
  tollwayref40.IsName.
-/
import Derived.Test.YtcociikmhfopnaaRetainName
namespace Go.Proofs.Ytcociikmhfopnaa
open Go.RowKit Go.Tw Go.Tw.Retain

set_option maxRecDepth 100000 in
set_option maxHeartbeats 1000000 in
theorem IsName_any (s : ByteArray) (w : World) : Calls Try.prog 35 #[.string s] w fun e w' => e = .returned (.bool (nameC s)) ∧ Below w.heap.size w w' := by
  by_cases h0 : s.size = 0
  · have hs : s = ByteArray.empty := by
      apply ByteArray.ext
      exact Array.eq_empty_of_size_eq_zero h0
    subst hs
    go_enter Try.func35, Try.ntmps35
    go_wp2
    go_ret
    exact ⟨ret_bool (name_no (fun h => by have := h.1; simp at this)), Below.refl _ _⟩
  by_cases h12 : 12 < s.size
  · have hlt : (12 : Int) < (s.size : Int) := by omega
    have h1 : ¬ (s.size : Int) < 1 := by omega
    go_enter Try.func35, Try.ntmps35
    go_wp2
    go_ret
    exact ⟨ret_bool (name_no (fun h => by have := h.2.1; omega)), Below.refl _ _⟩
  have hle : ¬ (12 : Int) < (s.size : Int) := by omega
  have h1 : ¬ (s.size : Int) < 1 := by omega
  have hp : 0 < s.size := by omega
  obtain ⟨c, hc⟩ : ∃ c : Nat, c = (s[0]'hp).toNat := ⟨_, rfl⟩
  by_cases hz : 97 ≤ c ∧ c ≤ 122
  case neg =>
    have hbad : nameC s = false := name_no (fun h => by have h1 := h.2.2 0 hp; unfold nb at h1; omega)
    have HB := Lib.hid hbad; clear hbad
    have g12 : ((s[0]'hp).toNat : Int) < 97 ∨ ((97 : Int) ≤ ((s[0]'hp).toNat : Int) ∧ (122 : Int) < ((s[0]'hp).toNat : Int)) := by omega
    clear hz hc
    rcases g12 with g1 | ⟨g1, g1'⟩
    all_goals
      go_enter Try.func35, Try.ntmps35
      go_wp2
      all_goals first
        | (go_ret; exact ⟨ret_bool HB.out, Below.refl _ _⟩)
        | (exfalso; rename_i hh; simp at hh; omega)
  have HZ := Lib.hid hz
  have HC := Lib.hid hc
  have g1 : (97 : Int) ≤ ((s[0]'hp).toNat : Int) := by omega
  have g2 : ((s[0]'hp).toNat : Int) ≤ 122 := by omega
  have g3 : decide (((s[0]'hp).toNat : Int) < 97) = false := by simp; omega
  have g4 : decide ((122 : Int) < ((s[0]'hp).toNat : Int)) = false := by simp; omega
  clear hz hc
  go_enter Try.func35, Try.ntmps35
  go_wp2
  all_goals first
    | (exfalso; rename_i hh; simp at hh; omega)
    | skip
  go_loopg [3] s.size (fun g i wr => ∃ k : Nat, k + g = s.size ∧ i = .int .i64 k ∧ (∀ i (h : i < k) (h2 : i < s.size), nb i s[i]) ∧ wr = w)
  case atStart => exact ⟨0, by omega, rfl, fun i h => absurd h (Nat.not_lt_zero _), rfl⟩
  case round =>
    obtain ⟨k, hk, rfl, hall, rfl⟩ := hrel
    have HA := Lib.hid hall; clear hall
    by_cases hlt : k < s.size
    case neg =>
      go_wp2
      go_ret
      exact ⟨ret_bool (name_yes ⟨by omega, by omega, fun i h => HA.out i (by omega) h⟩), Below.refl _ _⟩
    have k0 : (0 : Int) ≤ (k : Int) := by omega
    have k1 : (k : Int) < (s.size : Int) := by omega
    clear g1 g2 g3 g4
    have e45 : (s[k].toNat = 45 ∧ ((s[k].toNat : Int) == 45) = true) ∨ (¬ s[k].toNat = 45 ∧ ((s[k].toNat : Int) == 45) = false) := by
      by_cases e : s[k].toNat = 45
      · exact .inl ⟨e, by simp [e]⟩
      · exact .inr ⟨e, by simp; omega⟩
    have z0 : k = 0 → 97 ≤ s[k].toNat ∧ s[k].toNat ≤ 122 := by
      rintro rfl
      have := HC.out; have h3 := HZ.out; omega
    have Z0 := Lib.hid z0; clear z0
    rcases e45 with ⟨e, e'⟩ | ⟨e, e'⟩
    all_goals
      have E := Lib.hid e; clear e
      go_wp2
      all_goals first
        | (go_ret
           exact ⟨ret_bool (name_no (fun h => by have h1 := h.2.2 k hlt; have h2 := E.out; unfold nb at h1; omega)), Below.refl _ _⟩)
        | (exfalso; rename_i hh; simp at hh; omega)
        | (exfalso; rename_i hh _; simp at hh; omega)
        | (exfalso; rename_i hh _; simp [e'] at hh; omega)
        | (exfalso; have h2 := E.out; omega)
        | (go_roundg (s.size - (k + 1))
           case measure => omega
           case rel =>
             refine ⟨k + 1, by omega, by go_num, fun i h h2 => ?_, rfl⟩
             by_cases e : i = k
             · subst e
               by_cases hi : i = 0
               · exact .inl (Z0.out hi)
               · have h4 := E.out; unfold nb; omega
             · exact HA.out i (by omega) h2)
end Go.Proofs.Ytcociikmhfopnaa
