/-
  Layer 10 (plate): the walks: cmp.Compare of strings, cmp.Or.
-/
import Derived.Test.YthpmclhpagcbiaaPlateSmall2
import Derived.Test.YthpmclhpagcbiaaShelf
namespace Go.Tw.Plate
/-- what cmp.Compare answers for strings -/
def cmpS (a b : ByteArray) : Int := if Op.bytesLess a.toList b.toList = true then -1 else if (a.toList == b.toList) = true then 0 else 1
end Go.Tw.Plate
namespace Go.Proofs.Ythpmclhpagcbiaa
open Go.RowKit Go.Tw Go.Tw.Plate

theorem isNaN_string_any (a : ByteArray) (w : World) :
    Calls Try.prog 44 #[.string a] w fun e w' => e = .returned (.bool false) ∧ w' = w := by
  have h1 : (a.toList == a.toList) = true := by simp
  go_enter Try.func44, Try.ntmps44
  go_wp2
  go_ret
  exact ⟨rfl, rfl⟩
set_option maxHeartbeats 1000000 in
theorem Compare_string_any (a b : ByteArray) (w : World) :
    Calls Try.prog 36 #[.string a, .string b] w fun e w' => e = .returned (.int .i64 (cmpS a b)) ∧ w' = w := by
  rcases Bool.eq_false_or_eq_true (Op.bytesLess a.toList b.toList) with h1 | h1
  all_goals rcases Bool.eq_false_or_eq_true (a.toList == b.toList) with h2 | h2
  all_goals
    have HR := Lib.hid (show cmpS a b = (if Op.bytesLess a.toList b.toList = true then -1 else if (a.toList == b.toList) = true then 0 else 1) from rfl)
    rw [h1, h2] at HR
    go_enter Try.func36, Try.ntmps36
    go_wp2_with (go_at_call 44; refine (isNaN_string_any _ _).mono ?_; rintro e w' ⟨rfl, rfl⟩)
    go_ret
    exact ⟨ret_int HR.out, rfl⟩

def orI (a b : Int) : Int := if a = 0 then b else a
set_option maxHeartbeats 1000000 in
theorem Or_any (a b : Int) (g : Nat) (w : World) (h : Row 3 w g [a, b]) :
    Calls Try.prog 34 #[.slice (some ⟨g, 0, none⟩) 2 2] w fun e w' => e = .returned (.int .i64 (orI a b)) ∧ w' = w := by
  have c0 : w.cell? ⟨g, 0, none⟩ = some (.int .i64 a) := h.cell (k := 0) (by simp)
  have c1 : w.cell? ⟨g, 1, none⟩ = some (.int .i64 b) := h.cell (k := 1) (by simp)
  clear h
  by_cases ha : a = 0
  · have ha' : (a != 0) = false := by simp [ha]
    by_cases hb : b = 0
    · have hb' : (b != 0) = false := by simp [hb]
      have HR := Lib.hid (show orI a b = 0 by unfold orI; rw [if_pos ha, hb])
      clear ha hb
      go_enter Try.func34, Try.ntmps34
      go_wp2
      go_loopg [8] 2 (fun g i wr => ∃ k : Nat, k + g = 2 ∧ i = .int .i64 k ∧ wr = w)
      case atStart => exact ⟨0, by omega, rfl, rfl⟩
      case round =>
        obtain ⟨k, hk, rfl, rfl⟩ := hrel
        have h3 : k = 0 ∨ k = 1 ∨ k = 2 := by omega
        rcases h3 with rfl | rfl | rfl
        · -- 0
          go_wp2
          go_roundg 1
          case measure => omega
          case rel => exact ⟨1, by omega, by go_num, rfl⟩
        · -- 1
          go_wp2
          go_roundg 0
          case measure => omega
          case rel => exact ⟨2, by omega, by go_num, rfl⟩
        · -- 2
          go_wp2
          go_ret
          exact ⟨ret_int HR.out, rfl⟩
    · have hb' : (b != 0) = true := by simp [hb]
      have HR := Lib.hid (show orI a b = b by unfold orI; rw [if_pos ha])
      clear ha hb
      go_enter Try.func34, Try.ntmps34
      go_wp2
      go_loopg [8] 2 (fun g i wr => ∃ k : Nat, k + g = 2 ∧ k < 2 ∧ i = .int .i64 k ∧ wr = w)
      case atStart => exact ⟨0, by omega, by omega, rfl, rfl⟩
      case round =>
        obtain ⟨k, hk, hk2, rfl, rfl⟩ := hrel
        have h3 : k = 0 ∨ k = 1 := by omega
        rcases h3 with rfl | rfl
        · -- 0
          go_wp2
          go_roundg 1
          case measure => omega
          case rel => exact ⟨1, by omega, by omega, by go_num, rfl⟩
        · -- 1
          go_wp2
          go_ret
          exact ⟨ret_int HR.out, rfl⟩
  · have ha' : (a != 0) = true := by simp [ha]
    have HR := Lib.hid (show orI a b = a by unfold orI; rw [if_neg ha])
    clear ha
    go_enter Try.func34, Try.ntmps34
    go_wp2
    go_loopg [8] 2 (fun g i wr => ∃ k : Nat, k + g = 2 ∧ k = 0 ∧ i = .int .i64 k ∧ wr = w)
    case atStart => exact ⟨0, by omega, rfl, rfl, rfl⟩
    case round =>
      obtain ⟨k, hk, rfl, rfl, rfl⟩ := hrel
      go_wp2
      go_ret
      exact ⟨ret_int HR.out, rfl⟩
end Go.Proofs.Ythpmclhpagcbiaa
