/-
  text.Name and tollwayref01.Name.
-/
import Derived.Test.YtmjbbpappigngaaGreatProg
import Derived.Test.YtmjbbpappigngaaGreatExcPure
import Derived.Deep.RegionWith
import Derived.Laws.RangeAny
import Derived.Laws.RangeString
import Derived.LoopTactic
namespace Go.Proofs.YtmjbbpappigngaaGreat
open Go.RowKit Go.Tw Go.Tw.Exc

set_option maxRecDepth 100000 in
set_option maxHeartbeats 1000000 in
theorem Name_any (s : ByteArray) (w : World) : Calls Tryz.prog 82 #[.string s] w fun e w' => e = .returned (.bool (nameC s)) ∧ Below w.heap.size w w' := by
  by_cases h0 : s.size = 0
  · have hs : s = ByteArray.empty := by
      apply ByteArray.ext
      exact Array.eq_empty_of_size_eq_zero h0
    subst hs
    go_enter Tryz.func82, Tryz.ntmps82
    go_wp2
    go_ret
    exact ⟨ret_bool (name_no (fun h => by have := h.1; simp at this)), Below.refl _ _⟩
  have hn1 : (s.toList == ByteArray.toList ByteArray.empty) = false := by
    rw [str_eq]
    simp
    rintro rfl
    exact h0 rfl
  have hne : s.toList.isEmpty = false := by
    cases h : s.toList with
    | nil => rw [h] at hn1; exact absurd hn1 (by rw [show ByteArray.empty.toList = [] by unfold ByteArray.toList ByteArray.toList.loop; rfl]; simp)
    | cons _ _ => rfl
  clear hn1
  by_cases h12 : 12 < s.size
  · have hlt : (12 : Int) < (s.size : Int) := by omega
    go_enter Tryz.func82, Tryz.ntmps82
    go_wp2
    go_ret
    exact ⟨ret_bool (name_no (fun h => by have := h.2.1; omega)), Below.refl _ _⟩
  have hle : ¬ (12 : Int) < (s.size : Int) := by omega
  go_enter Tryz.func82, Tryz.ntmps82
  go_wp2
  go_loopw [3] (fun n w' => ∃ (pos : Nat), w' = w.iter s pos ∧ pos ≤ s.size ∧ (∀ i (h : i < pos) (h2 : i < s.size), nb i s[i])) (fun _ w' => s.size - w'.iterPos w.heap.size)
  case atStart => exact ⟨0, rfl, Nat.zero_le _, fun i h => absurd h (Nat.not_lt_zero _)⟩
  case round =>
    obtain ⟨pos, rfl, hps, hall⟩ := hrel
    have HA := Lib.hid hall; clear hall
    by_cases hp : pos < s.size
    case neg =>
      have hnx : ∀ ty, (Instr.next (.pointer (some ⟨w.heap.size, 0, none⟩)) true ty).run Tryz.prog (w.iter s pos) = _ := fun ty => run_next_end w s pos ty hp
      go_wp2
      go_ret
      exact ⟨ret_bool (name_yes ⟨by omega, by omega, fun i h => HA.out i (by omega) h⟩), bl_alloc (Below.refl _ _) _⟩
    by_cases ha : (s[pos]'hp).toNat < 128
    case neg =>
      have hnx : ∀ ty, (Instr.next (.pointer (some ⟨w.heap.size, 0, none⟩)) true ty).run Tryz.prog (w.iter s pos) = _ := fun ty => run_next_any w s pos ty hp
      have hd := (decode_high s pos hp (by omega)).1
      generalize Utf8.decode s pos = r at hnx hd
      have g1 : (97 : Int) ≤ (r.1 : Int) := by omega
      have g2 : (122 : Int) < (r.1 : Int) := by omega
      have hbad : nameC s = false := name_no (fun h => by have := h.2.2 pos hp; unfold nb at this; omega)
      have HB := Lib.hid hbad; clear hbad
      by_cases p0 : pos = 0
      · have hp0 : ((pos : Int) == 0) = true := by simp [p0]
        clear p0
        go_wp2
        all_goals first
          | (go_ret; exact ⟨ret_bool HB.out, bl_alloc (Below.refl _ _) _⟩)
          | (exfalso; rename_i hh; simp at hh; omega)
      · have hp0 : ((pos : Int) == 0) = false := by simp [p0]
        have g3 : ((r.1 : Int) != 45) = true := by simp; omega
        have g4 : ¬ (r.1 : Int) < 48 := by omega
        have g5 : (57 : Int) < (r.1 : Int) := by omega
        clear p0
        go_wp2
        all_goals first
          | (go_ret; exact ⟨ret_bool HB.out, bl_alloc (Below.refl _ _) _⟩)
          | (exfalso; rename_i hh; simp at hh; omega)
    have hnx : ∀ ty, (Instr.next (.pointer (some ⟨w.heap.size, 0, none⟩)) true ty).run Tryz.prog (w.iter s pos) = _ := fun ty => run_next_ascii w s pos ty hp ha
    obtain ⟨b, hb⟩ : ∃ b : Nat, b = (s[pos]'hp).toNat := ⟨_, rfl⟩
    rw [← hb] at hnx
    have HN := Lib.hid hb; clear hb
    by_cases hz : (97 ≤ b ∧ b ≤ 122)
    · obtain ⟨z1, z2⟩ := hz
      have g1 : (97 : Int) ≤ (b : Int) := by omega
      have g2 : (b : Int) ≤ 122 := by omega
      go_wp2
      go_roundw
      case measure => simp; omega
      case rel =>
        refine ⟨pos + 1, rfl, by omega, fun i h h2 => ?_⟩
        by_cases e : i = pos
        · subst e; exact .inl ⟨by have := HN.out; omega, by have := HN.out; omega⟩
        · exact HA.out i (by omega) h2
    by_cases p0 : pos = 0
    · have hbad : nameC s = false := name_no (fun h => by have h1 := h.2.2 pos hp; have h2 := HN.out; unfold nb at h1; omega)
      have HB := Lib.hid hbad; clear hbad
      have hp0 : ((pos : Int) == 0) = true := by simp [p0]
      clear p0
      have g12 : (b : Int) < 97 ∨ (122 : Int) < (b : Int) := by omega
      clear hz
      rcases g12 with g1 | g1
      all_goals
        have g2 : ((97 : Int) ≤ (b : Int)) ∨ ((b : Int) < 97) := by omega
        rcases g2 with g2 | g2
        all_goals
          go_wp2
          all_goals first
            | (go_ret; exact ⟨ret_bool HB.out, bl_alloc (Below.refl _ _) _⟩)
            | (exfalso; rename_i hh; simp at hh; omega)
    have hp0 : ((pos : Int) == 0) = false := by simp [p0]
    by_cases hq : b = 45 ∨ (48 ≤ b ∧ b ≤ 57)
    · have g1 : (b : Int) < 97 := by omega
      have g3 : ((b : Int) != 45) = false ∨ (((b : Int) != 45) = true ∧ (48 : Int) ≤ (b : Int) ∧ (b : Int) ≤ 57) := by
        by_cases e : b = 45
        · exact .inl (by simp [e])
        · exact .inr ⟨by simp; omega, by omega, by omega⟩
      have HQ := Lib.hid hq
      have HP := Lib.hid p0
      clear hq p0 hz
      rcases g3 with g3 | ⟨g3, g4, g5⟩
      all_goals
        go_wp2
        go_roundw
        case measure => simp; omega
        case rel =>
          refine ⟨pos + 1, rfl, by omega, fun i h h2 => ?_⟩
          by_cases e : i = pos
          · subst e
            exact .inr ⟨by have := HP.out; omega, by have := HN.out; have := HQ.out; omega⟩
          · exact HA.out i (by omega) h2
    · have hbad : nameC s = false := name_no (fun h => by have h1 := h.2.2 pos hp; have h2 := HN.out; unfold nb at h1; omega)
      have HB := Lib.hid hbad; clear hbad
      have g3 : ((b : Int) != 45) = true := by simp; omega
      have g45 : (b : Int) < 48 ∨ ((48 : Int) ≤ (b : Int) ∧ (57 : Int) < (b : Int)) := by omega
      have g12 : (b : Int) < 97 ∨ ((97 : Int) ≤ (b : Int) ∧ (122 : Int) < (b : Int)) := by omega
      clear hq hz p0
      rcases g45 with g4 | ⟨g4, g4'⟩
      all_goals
        rcases g12 with g1 | ⟨g1, g1'⟩
        all_goals
          go_wp2
          all_goals first
            | (go_ret; exact ⟨ret_bool HB.out, bl_alloc (Below.refl _ _) _⟩)
            | (exfalso; rename_i hh; simp at hh; omega)

set_option maxRecDepth 100000 in
set_option maxHeartbeats 1000000 in
theorem NameR_any (s : ByteArray) (w : World) : Calls Tryz.prog 48 #[.string s] w fun e w' => e = .returned (.bool (nameC s)) ∧ Below w.heap.size w w' := by
  by_cases h0 : s.size = 0
  · have hlt : (s.size : Int) < 1 := by omega
    go_enter Tryz.func48, Tryz.ntmps48
    go_wp2
    go_ret
    exact ⟨ret_bool (name_no (fun h => by have := h.1; omega)), Below.refl _ _⟩
  have hn1 : ¬ (s.size : Int) < 1 := by omega
  by_cases h12 : 12 < s.size
  · have hlt : (12 : Int) < (s.size : Int) := by omega
    go_enter Tryz.func48, Tryz.ntmps48
    go_wp2
    go_ret
    exact ⟨ret_bool (name_no (fun h => by have := h.2.1; omega)), Below.refl _ _⟩
  have hle : ¬ (12 : Int) < (s.size : Int) := by omega
  go_enter Tryz.func48, Tryz.ntmps48
  go_wp2
  go_loopg [3] s.size (fun g i wr => ∃ k : Nat, k + g = s.size ∧ i = .int .i64 k ∧ Hid (∀ i (h : i < k) (h2 : i < s.size), nb i s[i]) ∧ w = wr)
  case atStart => exact ⟨0, by omega, rfl, Lib.hid (fun i h => absurd h (Nat.not_lt_zero _)), rfl⟩
  case round =>
    obtain ⟨k, hk, rfl, HA, rfl⟩ := hrel
    by_cases hlt : k < s.size
    case neg =>
      go_wp2
      go_ret
      exact ⟨ret_bool (name_yes ⟨by omega, by omega, fun i h => HA.out i (by omega) h⟩), Below.refl _ _⟩
    have k0 : (0 : Int) ≤ (k : Int) := by omega
    have k1 : (k : Int) < (s.size : Int) := by omega
    have hb := s[k].toNat_lt
    obtain ⟨b, hbb⟩ : ∃ b : Nat, b = s[k].toNat := ⟨_, rfl⟩
    have HBB := Lib.hid hbb
    have hz : (97 ≤ b ∧ b ≤ 122) ∨ (b = 45) ∨ (48 ≤ b ∧ b ≤ 57) ∨ (b < 48 ∧ b ≠ 45) ∨ (57 < b ∧ b < 97) ∨ (122 < b) := by omega
    rcases hz with ⟨q1, q2⟩ | q1 | ⟨q1, q2⟩ | ⟨q1, q2⟩ | ⟨q1, q2⟩ | q1
    · have g1 : (97 : Int) ≤ (s[k].toNat : Int) := by omega
      have g2 : (s[k].toNat : Int) ≤ 122 := by omega
      have g3 : (48 : Int) ≤ (s[k].toNat : Int) := by omega
      have g4 : decide ((s[k].toNat : Int) ≤ 57) = false := by simp; omega
      have g5 : ((s[k].toNat : Int) == 45) = false := by simp; omega
      have HQ := Lib.hid (show nb k s[k] by unfold nb; omega)
      clear q1 q2 hb hbb
      go_wp2
      go_roundg (s.size - (k + 1))
      case measure => omega
      case rel =>
        refine ⟨k + 1, by omega, by go_num, Lib.hid (fun i h h2 => ?_), rfl⟩
        by_cases e : i = k
        · subst e; exact HQ.out
        · exact HA.out i (by omega) h2
    · have g1 : (s[k].toNat : Int) < 97 := by omega
      have g3 : (s[k].toNat : Int) < 48 := by omega
      have g5 : ((s[k].toNat : Int) == 45) = true := by simp; omega
      by_cases kz : k = 0
      · have kz' : ((k : Int) == 0) = true := by simp [kz]
        have HN := Lib.hid (show nameC s = false from name_no (fun h => by have := h.2.2 k hlt; unfold nb at this; omega))
        clear q1 hb hbb kz
        (try clear q2)
        go_wp2
        go_ret
        exact ⟨ret_bool HN.out, Below.refl _ _⟩
      · have kz' : ((k : Int) == 0) = false := by simp; omega
        have HQ := Lib.hid (show nb k s[k] by unfold nb; omega)
        clear q1 hb hbb kz
        (try clear q2)
        go_wp2
        go_roundg (s.size - (k + 1))
        case measure => omega
        case rel =>
          refine ⟨k + 1, by omega, by go_num, Lib.hid (fun i h h2 => ?_), rfl⟩
          by_cases e : i = k
          · subst e; exact HQ.out
          · exact HA.out i (by omega) h2
    · have g1 : (s[k].toNat : Int) < 97 := by omega
      have g3 : (48 : Int) ≤ (s[k].toNat : Int) := by omega
      have g4 : (s[k].toNat : Int) ≤ 57 := by omega
      by_cases kz : k = 0
      · have kz' : ((k : Int) == 0) = true := by simp [kz]
        have HN := Lib.hid (show nameC s = false from name_no (fun h => by have := h.2.2 k hlt; unfold nb at this; omega))
        clear q1 hb hbb kz
        (try clear q2)
        go_wp2
        go_ret
        exact ⟨ret_bool HN.out, Below.refl _ _⟩
      · have kz' : ((k : Int) == 0) = false := by simp; omega
        have HQ := Lib.hid (show nb k s[k] by unfold nb; omega)
        clear q1 hb hbb kz
        (try clear q2)
        go_wp2
        go_roundg (s.size - (k + 1))
        case measure => omega
        case rel =>
          refine ⟨k + 1, by omega, by go_num, Lib.hid (fun i h h2 => ?_), rfl⟩
          by_cases e : i = k
          · subst e; exact HQ.out
          · exact HA.out i (by omega) h2
    · have g1 : (s[k].toNat : Int) < 97 := by omega
      have g3 : (s[k].toNat : Int) < 48 := by omega
      have g5 : ((s[k].toNat : Int) == 45) = false := by simp; omega
      have HN := Lib.hid (show nameC s = false from name_no (fun h => by have := h.2.2 k hlt; unfold nb at this; omega))
      clear q1 hb hbb
      (try clear q2)
      by_cases kz : k = 0
      · have kz' : ((k : Int) == 0) = true := by simp [kz]
        clear kz
        go_wp2
        go_ret
        exact ⟨ret_bool HN.out, Below.refl _ _⟩
      · have kz' : ((k : Int) == 0) = false := by simp; omega
        clear kz
        go_wp2
        go_ret
        exact ⟨ret_bool HN.out, Below.refl _ _⟩
    · have g1 : (s[k].toNat : Int) < 97 := by omega
      have g3 : (48 : Int) ≤ (s[k].toNat : Int) := by omega
      have g4 : decide ((s[k].toNat : Int) ≤ 57) = false := by simp; omega
      have g5 : ((s[k].toNat : Int) == 45) = false := by simp; omega
      have HN := Lib.hid (show nameC s = false from name_no (fun h => by have := h.2.2 k hlt; unfold nb at this; omega))
      clear q1 hb hbb
      (try clear q2)
      by_cases kz : k = 0
      · have kz' : ((k : Int) == 0) = true := by simp [kz]
        clear kz
        go_wp2
        go_ret
        exact ⟨ret_bool HN.out, Below.refl _ _⟩
      · have kz' : ((k : Int) == 0) = false := by simp; omega
        clear kz
        go_wp2
        go_ret
        exact ⟨ret_bool HN.out, Below.refl _ _⟩
    · have g1 : (97 : Int) ≤ (s[k].toNat : Int) := by omega
      have g2 : decide ((s[k].toNat : Int) ≤ 122) = false := by simp; omega
      have g3 : (48 : Int) ≤ (s[k].toNat : Int) := by omega
      have g4 : decide ((s[k].toNat : Int) ≤ 57) = false := by simp; omega
      have g5 : ((s[k].toNat : Int) == 45) = false := by simp; omega
      have HN := Lib.hid (show nameC s = false from name_no (fun h => by have := h.2.2 k hlt; unfold nb at this; omega))
      clear q1 hb hbb
      (try clear q2)
      by_cases kz : k = 0
      · have kz' : ((k : Int) == 0) = true := by simp [kz]
        clear kz
        go_wp2
        go_ret
        exact ⟨ret_bool HN.out, Below.refl _ _⟩
      · have kz' : ((k : Int) == 0) = false := by simp; omega
        clear kz
        go_wp2
        go_ret
        exact ⟨ret_bool HN.out, Below.refl _ _⟩
end Go.Proofs.YtmjbbpappigngaaGreat
