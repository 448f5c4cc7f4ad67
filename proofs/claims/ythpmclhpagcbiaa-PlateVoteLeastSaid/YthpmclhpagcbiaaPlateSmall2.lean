/-
  Layer 10 (plate): the walks: SameTexts of equal lists, few, cut.
-/
import Derived.Test.YthpmclhpagcbiaaPlateSmall
import Derived.Test.YthpmclhpagcbiaaStrs
namespace Go.Proofs.Ythpmclhpagcbiaa
open Go.RowKit Go.Tw Go.Tw.Plate

set_option maxHeartbeats 1000000 in
theorem SameTexts_any (l : List ByteArray) (va vb : Value) (w : World) (ha : SlIs tStr (· < w.heap.size) w va l) (hb : SlIs tStr (· < w.heap.size) w vb l) :
    Calls Try.prog 21 #[va, vb] w fun e w' => e = .returned (.bool true) ∧ Below w.heap.size w w' := by
  obtain ⟨aa, capa, ba, offa, rfl, hla, hma, hoa⟩ := strs_open ha
  obtain ⟨ab, capb, bb, offb, rfl, hlb, hmb, hob⟩ := strs_open hb
  unfold maxLen at hma hmb
  clear ha hb
  go_enter Try.func21, Try.ntmps21
  go_wp2
  go_loopg [5] l.length (fun g i wr => ∃ k : Nat, k + g = l.length ∧ i = .int .i64 k ∧ Below w.heap.size w wr)
  case atStart => exact ⟨0, by omega, rfl, Below.refl _ _⟩
  case round =>
    obtain ⟨k, hk, rfl, hb1⟩ := hrel
    by_cases hlt : k < l.length
    · obtain ⟨rfl, -, hx1, c0, -⟩ := hoa wr (.of_below hb1) k hlt
      obtain ⟨rfl, -, hx2, d0, -⟩ := hob wr (.of_below hb1) k hlt
      clear hoa hob
      have hs1 := hb1.size
      have k0 : (0 : Int) ≤ (k : Int) := by omega
      have k1 : (k : Int) < (l.length : Int) := by omega
      go_wp2_with (go_quiet (fail))
      go_roundg (l.length - (k + 1))
      case measure => omega
      case rel => exact ⟨k + 1, by omega, by go_num, bl_drewN hb1 _⟩
    · clear hoa hob
      go_wp2
      go_ret
      exact ⟨rfl, hb1⟩

def fewP (l : List ByteArray) : Prop := l.length ≤ 20 ∧ ∀ s ∈ l, s.size ≤ 60
def FewOut (w : World) (l : List ByteArray) (e : Ending) (w' : World) : Prop := w = w' ∧ ((e = .returned (.bool true) ∧ fewP l) ∨ (e = .returned (.bool false) ∧ ¬ fewP l))
set_option maxHeartbeats 1000000 in
theorem few_any (l : List ByteArray) (v : Value) (w : World) (h : SlIs tStr (· < w.heap.size) w v l) :
    Calls Try.prog 20 #[v] w (FewOut w l) := by
  obtain ⟨ao, cap, b, off, rfl, hl, hm, ho⟩ := strs_open h
  unfold maxLen at hm
  clear h
  go_enter Try.func20, Try.ntmps20
  go_wp2
  go_loopg [3] l.length (fun g i wr => ∃ k : Nat, k + g = l.length ∧ i = .int .i64 k ∧ Hid (∀ s ∈ l.take k, s.size ≤ 60) ∧ w = wr)
  case atStart => exact ⟨0, by omega, rfl, Lib.hid (fun _ h => by simp at h), rfl⟩
  case round =>
    obtain ⟨k, hk, rfl, HA, rfl⟩ := hrel
    by_cases hlt : k < l.length
    · obtain ⟨rfl, -, hx1, c0, -⟩ := ho w (SameOn.refl _ _) k hlt
      clear ho
      by_cases h60 : 60 < l[k].size
      · have h60' : (60 : Int) < (l[k].size : Int) := by omega
        go_wp2
        go_ret
        exact ⟨rfl, .inr ⟨rfl, fun q => by have := q.2 _ (List.getElem_mem hlt); omega⟩⟩
      · have h60' : ¬ (60 : Int) < (l[k].size : Int) := by omega
        go_wp2
        go_roundg (l.length - (k + 1))
        case measure => omega
        case rel =>
          refine ⟨k + 1, by omega, by go_num, Lib.hid (fun s hs => ?_), rfl⟩
          rw [List.take_succ_eq_append_getElem hlt, List.mem_append] at hs
          rcases hs with hs | hs
          · exact HA.out s hs
          · simp at hs; subst hs; omega
    · clear ho
      have hall : ∀ s ∈ l, s.size ≤ 60 := by
        have := HA.out
        rwa [List.take_of_length_le (by omega)] at this
      have HH := Lib.hid hall; clear hall
      by_cases h20 : l.length ≤ 20
      · have h20' : (l.length : Int) ≤ 20 := by omega
        have hd : decide ((l.length : Int) ≤ 20) = true := by simp; omega
        go_wp2
        go_ret
        exact ⟨rfl, .inl ⟨rfl, h20, HH.out⟩⟩
      · go_wp2
        go_ret
        exact ⟨rfl, .inr ⟨ret_bool (by simp; omega), fun q => h20 q.1⟩⟩
theorem cutL_any (s : ByteArray) (w : World) :
    Calls Try.prog 26 #[.string s] w fun e w' => e = .returned (.string (s.extract 0 (min s.size 32))) ∧ w = w' := by
  by_cases h : 32 < s.size
  · have h1 : (32 : Int) < (s.size : Int) := by omega
    go_enter Try.func26, Try.ntmps26
    go_wp2
    go_ret
    exact ⟨by rw [Nat.min_eq_right (by omega)]; rfl, rfl⟩
  · have h1 : ¬ (32 : Int) < (s.size : Int) := by omega
    go_enter Try.func26, Try.ntmps26
    go_wp2
    go_ret
    exact ⟨by rw [Nat.min_eq_left (by omega), ByteArray.extract_zero_size]; rfl, rfl⟩
end Go.Proofs.Ythpmclhpagcbiaa
