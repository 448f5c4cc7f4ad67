/-
  Layer 42 (agency): the walks of Fits, field, head, right; of the reference's.
-/
import Derived.Test.YtmjbbpappigngaaGreatExcName
import Derived.Test.YtmjbbpappigngaaGreatOwn2
namespace Go.Tw.Exc
open Go.RowKit Go.Tw
theorem str_empty {s : ByteArray} (h : s.size = 0) : s.toList.isEmpty = true := by
  have : s = ByteArray.empty := by
    apply ByteArray.ext
    exact Array.eq_empty_of_size_eq_zero h
  subst this
  rw [show ByteArray.empty.toList = [] by unfold ByteArray.toList ByteArray.toList.loop; rfl]
  rfl
theorem str_some {s : ByteArray} (h : s.size ≠ 0) : s.toList.isEmpty = false := by
  cases hs : s.toList with
  | nil =>
    have h1 : (s.toList == ByteArray.toList ByteArray.empty) = false := by
      rw [str_eq]
      simp
      rintro rfl
      exact h rfl
    rw [hs] at h1
    exact absurd h1 (by rw [show ByteArray.empty.toList = [] by unfold ByteArray.toList ByteArray.toList.loop; rfl]; simp)
  | cons _ _ => rfl
theorem fits_no {n : Int} (h : n < -1125899906842624 ∨ 1125899906842624 < n) : fits n = false := by unfold fits; simp; omega
theorem fits_yes {n : Int} (h1 : -1125899906842624 ≤ n) (h2 : n ≤ 1125899906842624) : fits n = true := by unfold fits; simp; omega
theorem right_1 {r : Rec} (h : r.k < 1 ∨ 4 < r.k) : rightC r = 1 := by unfold rightC; rw [if_pos h]
theorem right_5 {r : Rec} (h1 : 1 ≤ r.k) (h2 : r.k ≤ 4) (h : fieldC r.key = false) : rightC r = 5 := by unfold rightC; rw [if_neg (by omega), if_pos h]
theorem right_4 {r : Rec} (h1 : 1 ≤ r.k) (h2 : r.k ≤ 4) (h3 : fieldC r.key = true) (h : 256 < r.key.size) : rightC r = 4 := by unfold rightC; rw [if_neg (by omega), if_neg (by simp [h3]), if_pos h]
theorem right_12 {r : Rec} (h1 : 1 ≤ r.k) (h2 : r.k ≤ 4) (h3 : fieldC r.key = true) (h4 : r.key.size ≤ 256) (h : r.t < 0 ∨ 68719476736 ≤ r.t) : rightC r = 12 := by unfold rightC; rw [if_neg (by omega), if_neg (by simp [h3]), if_neg (by omega), if_pos h]
theorem right_r {r : Rec} (_ : 1 ≤ r.k) (_ : r.k ≤ 4) (h3 : fieldC r.key = true) (h4 : r.key.size ≤ 256) (h5 : 0 ≤ r.t) (h6 : r.t < 68719476736) (h7 : r.k = 3) : rightC r = if r.c ≠ 0 ∨ r.y < 0 ∨ 99 < r.y then 1 else 0 := by
  unfold rightC; rw [if_neg (by omega), if_neg (by simp [h3]), if_neg (by omega), if_neg (by omega), if_pos h7]
theorem right_a {r : Rec} (h1 : 1 ≤ r.k) (h2 : r.k ≤ 4) (h3 : fieldC r.key = true) (h4 : r.key.size ≤ 256) (h5 : 0 ≤ r.t) (h6 : r.t < 68719476736) (h7 : r.k ≠ 3) : rightC r = if fits r.c = false then 13 else if r.y ≠ 0 then 1 else 0 := by
  unfold rightC; rw [if_neg (by omega), if_neg (by simp [h3]), if_neg (by omega), if_neg (by omega), if_neg h7]
end Go.Tw.Exc
namespace Go.Proofs.YtmjbbpappigngaaGreat
open Go.RowKit Go.Tw Go.Tw.Exc
theorem fits_any (n : Int) (w : World) : Calls Tryz.prog 42 #[.int .i64 n] w fun e w' => e = .returned (.bool (fits n)) ∧ w = w' := by
  by_cases h1 : n < -1125899906842624
  · have HF := Lib.hid (fits_no (.inl h1))
    go_enter Tryz.func42, Tryz.ntmps42
    go_wp2
    go_ret
    exact ⟨ret_bool HF.out, rfl⟩
  by_cases h2 : 1125899906842624 < n
  · have HF := Lib.hid (fits_no (.inr h2))
    have h1' : (-1125899906842624 : Int) ≤ n := by omega
    have h2' : decide (n ≤ 1125899906842624) = false := by simp; omega
    clear h1 h2
    go_enter Tryz.func42, Tryz.ntmps42
    go_wp2
    go_ret
    exact ⟨ret_bool HF.out, rfl⟩
  · have h1' : (-1125899906842624 : Int) ≤ n := by omega
    have h2' : n ≤ 1125899906842624 := by omega
    have HF := Lib.hid (fits_yes h1' h2')
    clear h1 h2
    go_enter Tryz.func42, Tryz.ntmps42
    go_wp2
    go_ret
    exact ⟨ret_bool HF.out, rfl⟩
theorem fitsR_any (n : Int) (w : World) : Calls Tryz.prog 61 #[.int .i64 n] w fun e w' => e = .returned (.bool (fits n)) ∧ w = w' := by
  by_cases h1 : n < -1125899906842624
  · have HF := Lib.hid (fits_no (.inl h1))
    go_enter Tryz.func61, Tryz.ntmps61
    go_wp2
    go_ret
    exact ⟨ret_bool HF.out, rfl⟩
  by_cases h2 : 1125899906842624 < n
  · have HF := Lib.hid (fits_no (.inr h2))
    have h1' : (-1125899906842624 : Int) ≤ n := by omega
    have h2' : decide (n ≤ 1125899906842624) = false := by simp; omega
    clear h1 h2
    go_enter Tryz.func61, Tryz.ntmps61
    go_wp2
    go_ret
    exact ⟨ret_bool HF.out, rfl⟩
  · have h1' : (-1125899906842624 : Int) ≤ n := by omega
    have h2' : n ≤ 1125899906842624 := by omega
    have HF := Lib.hid (fits_yes h1' h2')
    clear h1 h2
    go_enter Tryz.func61, Tryz.ntmps61
    go_wp2
    go_ret
    exact ⟨ret_bool HF.out, rfl⟩
set_option maxHeartbeats 1000000 in
theorem field_any (s : ByteArray) (w : World) (hs : s.size ≤ maxLen) : Calls Tryz.prog 83 #[.string s] w fun e w' => e = .returned (.bool (fieldC s)) ∧ w = w' := by
  unfold maxLen at hs
  go_enter Tryz.func83, Tryz.ntmps83
  go_wp2
  go_loopg [6] s.size (fun g i wr => ∃ k : Nat, k + g = s.size ∧ i = .int .i64 k ∧ Hid (∀ i (h : i < k) (h2 : i < s.size), 33 ≤ s[i].toNat ∧ s[i].toNat ≤ 126) ∧ w = wr)
  case atStart => exact ⟨0, by omega, rfl, Lib.hid (fun i h => absurd h (Nat.not_lt_zero _)), rfl⟩
  case round =>
    obtain ⟨k, hk, rfl, HA, rfl⟩ := hrel
    by_cases hlt : k < s.size
    case neg =>
      by_cases h0 : s.size = 0
      · have he := str_empty h0
        have HF := Lib.hid (show fieldC s = false from field_no (fun h => h.1 h0))
        go_wp2
        go_ret
        exact ⟨ret_bool HF.out, rfl⟩
      · have he := str_some h0
        have HF := Lib.hid (show fieldC s = true from field_yes ⟨h0, fun i h => HA.out i (by omega) h⟩)
        go_wp2
        go_ret
        exact ⟨ret_bool HF.out, rfl⟩
    have k0 : (0 : Int) ≤ (k : Int) := by omega
    have k1 : (k : Int) < (s.size : Int) := by omega
    have hz : s[k].toNat < 33 ∨ (33 ≤ s[k].toNat ∧ s[k].toNat ≤ 126) ∨ 126 < s[k].toNat := by omega
    rcases hz with q1 | ⟨q1, q2⟩ | q1
    · have g1 : (s[k].toNat : Int) < 33 := by omega
      have HF := Lib.hid (show fieldC s = false from field_no (fun h => by have := h.2 k hlt; omega))
      clear q1
      go_wp2
      go_ret
      exact ⟨ret_bool HF.out, rfl⟩
    · have g1 : decide ((s[k].toNat : Int) < 33) = false := by simp; omega
      have g2 : decide ((126 : Int) < (s[k].toNat : Int)) = false := by simp; omega
      have HQ := Lib.hid (show 33 ≤ s[k].toNat ∧ s[k].toNat ≤ 126 from ⟨q1, q2⟩)
      clear q1 q2
      go_wp2
      go_roundg (s.size - (k + 1))
      case measure => omega
      case rel =>
        refine ⟨k + 1, by omega, by go_num, Lib.hid (fun i h h2 => ?_), rfl⟩
        by_cases e : i = k
        · subst e; exact HQ.out
        · exact HA.out i (by omega) h2
    · have g1 : decide ((s[k].toNat : Int) < 33) = false := by simp; omega
      have g2 : (126 : Int) < (s[k].toNat : Int) := by omega
      have HF := Lib.hid (show fieldC s = false from field_no (fun h => by have := h.2 k hlt; omega))
      clear q1
      go_wp2
      go_ret
      exact ⟨ret_bool HF.out, rfl⟩
set_option maxHeartbeats 1000000 in
theorem fieldR_any (s : ByteArray) (w : World) (hs : s.size ≤ maxLen) : Calls Tryz.prog 60 #[.string s] w fun e w' => e = .returned (.bool (fieldC s)) ∧ w = w' := by
  unfold maxLen at hs
  go_enter Tryz.func60, Tryz.ntmps60
  go_wp2
  go_loopg [3] s.size (fun g i wr => ∃ k : Nat, k + g = s.size ∧ i = .int .i64 k ∧ Hid (∀ i (h : i < k) (h2 : i < s.size), 33 ≤ s[i].toNat ∧ s[i].toNat ≤ 126) ∧ w = wr)
  case atStart => exact ⟨0, by omega, rfl, Lib.hid (fun i h => absurd h (Nat.not_lt_zero _)), rfl⟩
  case round =>
    obtain ⟨k, hk, rfl, HA, rfl⟩ := hrel
    by_cases hlt : k < s.size
    case neg =>
      by_cases h0 : s.size = 0
      · have he := str_empty h0
        have HF := Lib.hid (show fieldC s = false from field_no (fun h => h.1 h0))
        go_wp2
        go_ret
        exact ⟨ret_bool HF.out, rfl⟩
      · have he := str_some h0
        have HF := Lib.hid (show fieldC s = true from field_yes ⟨h0, fun i h => HA.out i (by omega) h⟩)
        go_wp2
        go_ret
        exact ⟨ret_bool HF.out, rfl⟩
    have k0 : (0 : Int) ≤ (k : Int) := by omega
    have k1 : (k : Int) < (s.size : Int) := by omega
    have hz : s[k].toNat < 33 ∨ (33 ≤ s[k].toNat ∧ s[k].toNat ≤ 126) ∨ 126 < s[k].toNat := by omega
    rcases hz with q1 | ⟨q1, q2⟩ | q1
    · have g1 : (s[k].toNat : Int) < 33 := by omega
      have HF := Lib.hid (show fieldC s = false from field_no (fun h => by have := h.2 k hlt; omega))
      clear q1
      go_wp2
      go_ret
      exact ⟨ret_bool HF.out, rfl⟩
    · have g1 : decide ((s[k].toNat : Int) < 33) = false := by simp; omega
      have g2 : decide ((126 : Int) < (s[k].toNat : Int)) = false := by simp; omega
      have HQ := Lib.hid (show 33 ≤ s[k].toNat ∧ s[k].toNat ≤ 126 from ⟨q1, q2⟩)
      clear q1 q2
      go_wp2
      go_roundg (s.size - (k + 1))
      case measure => omega
      case rel =>
        refine ⟨k + 1, by omega, by go_num, Lib.hid (fun i h h2 => ?_), rfl⟩
        by_cases e : i = k
        · subst e; exact HQ.out
        · exact HA.out i (by omega) h2
    · have g1 : decide ((s[k].toNat : Int) < 33) = false := by simp; omega
      have g2 : (126 : Int) < (s[k].toNat : Int) := by omega
      have HF := Lib.hid (show fieldC s = false from field_no (fun h => by have := h.2 k hlt; omega))
      clear q1
      go_wp2
      go_ret
      exact ⟨ret_bool HF.out, rfl⟩
/-- a file in a box -/
def FilW (w : World) (f : Fil) (v : Value) (wr : World) : Prop := wr.heap[w.heap.size]? = some (.cells #[.string f.fr, .string f.to, .int .i64 f.sq, v] 45 (0, 0)) ∧ Below w.heap.size w wr
theorem FilW.start (w : World) (f : Fil) (v : Value) : FilW w f v (w.alloc (.cells #[.string f.fr, .string f.to, .int .i64 f.sq, v] 45)) := ⟨heap_alloc_new _ _, bl_alloc (Below.refl _ _) _⟩
theorem FilW.below {w wr w' : World} {f : Fil} {v : Value} (h : FilW w f v wr) (hb : Below wr.heap.size wr w') : FilW w f v w' := ⟨(hb.block _ (lt_of_heap h.1)).trans h.1, bl_trans h.2 hb⟩
theorem head_6 {f : Fil} (h : nameC f.fr = false ∨ nameC f.to = false) : headC f.fr f.to f.sq = 6 := by unfold headC; rw [if_pos h]
theorem head_n {f : Fil} (h1 : nameC f.fr = true) (h2 : nameC f.to = true) : headC f.fr f.to f.sq = if f.fr = f.to then 30 else if f.sq < 1 ∨ 2147483648 < f.sq then 31 else 0 := by unfold headC; rw [if_neg (by simp [h1, h2])]
set_option maxRecDepth 100000 in
set_option maxHeartbeats 1000000 in
theorem head_any (f : Fil) (ao : Option Addr) (n cap : Nat) (w : World) : Calls Tryz.prog 70 #[.agg #[.string f.fr, .string f.to, .int .i64 f.sq, .slice ao n cap]] w fun e w' => e = .returned (.int .i64 (headC f.fr f.to f.sq)) ∧ Below w.heap.size w w' := by
  have HB := Lib.hid (FilW.start w f (.slice ao n cap))
  have HN := Lib.hid (show ∀ s W, Calls Tryz.prog 82 #[.string s] W fun e w' => e = .returned (.bool (nameC s)) ∧ Below W.heap.size W w' from Name_any)
  cases h1 : nameC f.fr
  · have HH := Lib.hid (head_6 (.inl h1))
    go_enter Tryz.func70, Tryz.ntmps70
    go_wp2_with (go_at_call 82
                 refine (HN.out _ _).mono ?_
                 rintro e w1 ⟨rfl, hb1⟩
                 have HB1 := Lib.hid (HB.out.below hb1)
                 obtain ⟨c0, c1, c2, c3, cf⟩ := blk4 HB1.out.1
                 (try rw [h1])
                 clear hb1)
    go_ret
    exact ⟨ret_int HH.out, HB1.out.2⟩
  cases h2 : nameC f.to
  · have HH := Lib.hid (head_6 (.inr h2))
    go_enter Tryz.func70, Tryz.ntmps70
    go_wp2_with (first
      | (go_at_call 82
         refine (HN.out _ _).mono ?_
         rintro e w2 ⟨rfl, hb2⟩
         have HB2 := Lib.hid (HB1.out.below hb2)
         obtain ⟨d0, d1, d2, d3, df⟩ := blk4 HB2.out.1
         rw [h2]
         clear hb2)
      | (go_at_call 82
         refine (HN.out _ _).mono ?_
         rintro e w1 ⟨rfl, hb1⟩
         have HB1 := Lib.hid (HB.out.below hb1)
         obtain ⟨c0, c1, c2, c3, cf⟩ := blk4 HB1.out.1
         (try rw [h1])
         clear hb1))
    go_ret
    exact ⟨ret_int HH.out, HB2.out.2⟩
  have hh := head_n h1 h2
  by_cases he : f.fr = f.to
  · have hq : (f.fr.toList == f.to.toList) = true := by rw [str_eq]; simp [he]
    rw [if_pos he] at hh
    have HH := Lib.hid hh
    clear hh he
    go_enter Tryz.func70, Tryz.ntmps70
    go_wp2_with (first
      | (go_at_call 82
         refine (HN.out _ _).mono ?_
         rintro e w2 ⟨rfl, hb2⟩
         have HB2 := Lib.hid (HB1.out.below hb2)
         obtain ⟨d0, d1, d2, d3, df⟩ := blk4 HB2.out.1
         rw [h2]
         clear hb2)
      | (go_at_call 82
         refine (HN.out _ _).mono ?_
         rintro e w1 ⟨rfl, hb1⟩
         have HB1 := Lib.hid (HB.out.below hb1)
         obtain ⟨c0, c1, c2, c3, cf⟩ := blk4 HB1.out.1
         (try rw [h1])
         clear hb1))
    go_ret
    exact ⟨ret_int HH.out, HB2.out.2⟩
  have hq : (f.fr.toList == f.to.toList) = false := by rw [str_eq]; simp [he]
  rw [if_neg he] at hh
  by_cases hs : f.sq < 1
  · rw [if_pos (.inl hs)] at hh
    have HH := Lib.hid hh
    clear hh he
    go_enter Tryz.func70, Tryz.ntmps70
    go_wp2_with (first
      | (go_at_call 82
         refine (HN.out _ _).mono ?_
         rintro e w2 ⟨rfl, hb2⟩
         have HB2 := Lib.hid (HB1.out.below hb2)
         obtain ⟨d0, d1, d2, d3, df⟩ := blk4 HB2.out.1
         rw [h2]
         clear hb2)
      | (go_at_call 82
         refine (HN.out _ _).mono ?_
         rintro e w1 ⟨rfl, hb1⟩
         have HB1 := Lib.hid (HB.out.below hb1)
         obtain ⟨c0, c1, c2, c3, cf⟩ := blk4 HB1.out.1
         (try rw [h1])
         clear hb1))
    go_ret
    exact ⟨ret_int HH.out, HB2.out.2⟩
  have hs1 : decide (f.sq < 1) = false := by simpa using hs
  by_cases hs2 : 2147483648 < f.sq
  · rw [if_pos (.inr hs2)] at hh
    have HH := Lib.hid hh
    clear hh he hs
    go_enter Tryz.func70, Tryz.ntmps70
    go_wp2_with (first
      | (go_at_call 82
         refine (HN.out _ _).mono ?_
         rintro e w2 ⟨rfl, hb2⟩
         have HB2 := Lib.hid (HB1.out.below hb2)
         obtain ⟨d0, d1, d2, d3, df⟩ := blk4 HB2.out.1
         rw [h2]
         clear hb2)
      | (go_at_call 82
         refine (HN.out _ _).mono ?_
         rintro e w1 ⟨rfl, hb1⟩
         have HB1 := Lib.hid (HB.out.below hb1)
         obtain ⟨c0, c1, c2, c3, cf⟩ := blk4 HB1.out.1
         (try rw [h1])
         clear hb1))
    go_ret
    exact ⟨ret_int HH.out, HB2.out.2⟩
  have hs3 : decide (2147483648 < f.sq) = false := by simpa using hs2
  rw [if_neg (by omega)] at hh
  have HH := Lib.hid hh
  clear hh he hs hs2
  go_enter Tryz.func70, Tryz.ntmps70
  go_wp2_with (first
    | (go_at_call 82
       refine (HN.out _ _).mono ?_
       rintro e w2 ⟨rfl, hb2⟩
       have HB2 := Lib.hid (HB1.out.below hb2)
       obtain ⟨d0, d1, d2, d3, df⟩ := blk4 HB2.out.1
       rw [h2]
       clear hb2)
    | (go_at_call 82
       refine (HN.out _ _).mono ?_
       rintro e w1 ⟨rfl, hb1⟩
       have HB1 := Lib.hid (HB.out.below hb1)
       obtain ⟨c0, c1, c2, c3, cf⟩ := blk4 HB1.out.1
       (try rw [h1])
       clear hb1))
  go_ret
  exact ⟨ret_int HH.out, HB2.out.2⟩
set_option maxRecDepth 100000 in
set_option maxHeartbeats 1000000 in
theorem headR_any (f : Fil) (ao : Option Addr) (n cap : Nat) (w : World) : Calls Tryz.prog 38 #[.agg #[.string f.fr, .string f.to, .int .i64 f.sq, .slice ao n cap]] w fun e w' => e = .returned (.int .i64 (headC f.fr f.to f.sq)) ∧ Below w.heap.size w w' := by
  have HB := Lib.hid (FilW.start w f (.slice ao n cap))
  have HN := Lib.hid (show ∀ s W, Calls Tryz.prog 48 #[.string s] W fun e w' => e = .returned (.bool (nameC s)) ∧ Below W.heap.size W w' from NameR_any)
  cases h1 : nameC f.fr
  · have HH := Lib.hid (head_6 (.inl h1))
    go_enter Tryz.func38, Tryz.ntmps38
    go_wp2_with (go_at_call 48
                 refine (HN.out _ _).mono ?_
                 rintro e w1 ⟨rfl, hb1⟩
                 have HB1 := Lib.hid (HB.out.below hb1)
                 obtain ⟨c0, c1, c2, c3, cf⟩ := blk4 HB1.out.1
                 (try rw [h1])
                 clear hb1)
    go_ret
    exact ⟨ret_int HH.out, HB1.out.2⟩
  cases h2 : nameC f.to
  · have HH := Lib.hid (head_6 (.inr h2))
    go_enter Tryz.func38, Tryz.ntmps38
    go_wp2_with (first
      | (go_at_call 48
         refine (HN.out _ _).mono ?_
         rintro e w2 ⟨rfl, hb2⟩
         have HB2 := Lib.hid (HB1.out.below hb2)
         obtain ⟨d0, d1, d2, d3, df⟩ := blk4 HB2.out.1
         rw [h2]
         clear hb2)
      | (go_at_call 48
         refine (HN.out _ _).mono ?_
         rintro e w1 ⟨rfl, hb1⟩
         have HB1 := Lib.hid (HB.out.below hb1)
         obtain ⟨c0, c1, c2, c3, cf⟩ := blk4 HB1.out.1
         (try rw [h1])
         clear hb1))
    go_ret
    exact ⟨ret_int HH.out, HB2.out.2⟩
  have hh := head_n h1 h2
  by_cases he : f.fr = f.to
  · have hq : (f.fr.toList == f.to.toList) = true := by rw [str_eq]; simp [he]
    rw [if_pos he] at hh
    have HH := Lib.hid hh
    clear hh he
    go_enter Tryz.func38, Tryz.ntmps38
    go_wp2_with (first
      | (go_at_call 48
         refine (HN.out _ _).mono ?_
         rintro e w2 ⟨rfl, hb2⟩
         have HB2 := Lib.hid (HB1.out.below hb2)
         obtain ⟨d0, d1, d2, d3, df⟩ := blk4 HB2.out.1
         rw [h2]
         clear hb2)
      | (go_at_call 48
         refine (HN.out _ _).mono ?_
         rintro e w1 ⟨rfl, hb1⟩
         have HB1 := Lib.hid (HB.out.below hb1)
         obtain ⟨c0, c1, c2, c3, cf⟩ := blk4 HB1.out.1
         (try rw [h1])
         clear hb1))
    go_ret
    exact ⟨ret_int HH.out, HB2.out.2⟩
  have hq : (f.fr.toList == f.to.toList) = false := by rw [str_eq]; simp [he]
  rw [if_neg he] at hh
  by_cases hs : f.sq < 1
  · rw [if_pos (.inl hs)] at hh
    have HH := Lib.hid hh
    clear hh he
    go_enter Tryz.func38, Tryz.ntmps38
    go_wp2_with (first
      | (go_at_call 48
         refine (HN.out _ _).mono ?_
         rintro e w2 ⟨rfl, hb2⟩
         have HB2 := Lib.hid (HB1.out.below hb2)
         obtain ⟨d0, d1, d2, d3, df⟩ := blk4 HB2.out.1
         rw [h2]
         clear hb2)
      | (go_at_call 48
         refine (HN.out _ _).mono ?_
         rintro e w1 ⟨rfl, hb1⟩
         have HB1 := Lib.hid (HB.out.below hb1)
         obtain ⟨c0, c1, c2, c3, cf⟩ := blk4 HB1.out.1
         (try rw [h1])
         clear hb1))
    go_ret
    exact ⟨ret_int HH.out, HB2.out.2⟩
  have hs1 : decide (f.sq < 1) = false := by simpa using hs
  by_cases hs2 : 2147483648 < f.sq
  · rw [if_pos (.inr hs2)] at hh
    have HH := Lib.hid hh
    clear hh he hs
    go_enter Tryz.func38, Tryz.ntmps38
    go_wp2_with (first
      | (go_at_call 48
         refine (HN.out _ _).mono ?_
         rintro e w2 ⟨rfl, hb2⟩
         have HB2 := Lib.hid (HB1.out.below hb2)
         obtain ⟨d0, d1, d2, d3, df⟩ := blk4 HB2.out.1
         rw [h2]
         clear hb2)
      | (go_at_call 48
         refine (HN.out _ _).mono ?_
         rintro e w1 ⟨rfl, hb1⟩
         have HB1 := Lib.hid (HB.out.below hb1)
         obtain ⟨c0, c1, c2, c3, cf⟩ := blk4 HB1.out.1
         (try rw [h1])
         clear hb1))
    go_ret
    exact ⟨ret_int HH.out, HB2.out.2⟩
  have hs3 : decide (2147483648 < f.sq) = false := by simpa using hs2
  rw [if_neg (by omega)] at hh
  have HH := Lib.hid hh
  clear hh he hs hs2
  go_enter Tryz.func38, Tryz.ntmps38
  go_wp2_with (first
    | (go_at_call 48
       refine (HN.out _ _).mono ?_
       rintro e w2 ⟨rfl, hb2⟩
       have HB2 := Lib.hid (HB1.out.below hb2)
       obtain ⟨d0, d1, d2, d3, df⟩ := blk4 HB2.out.1
       rw [h2]
       clear hb2)
    | (go_at_call 48
       refine (HN.out _ _).mono ?_
       rintro e w1 ⟨rfl, hb1⟩
       have HB1 := Lib.hid (HB.out.below hb1)
       obtain ⟨c0, c1, c2, c3, cf⟩ := blk4 HB1.out.1
       (try rw [h1])
       clear hb1))
  go_ret
  exact ⟨ret_int HH.out, HB2.out.2⟩
end Go.Proofs.YtmjbbpappigngaaGreat
