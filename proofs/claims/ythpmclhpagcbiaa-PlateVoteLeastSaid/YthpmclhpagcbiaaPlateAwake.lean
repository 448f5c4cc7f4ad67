/-
  Layer 10 (plate): the walks of the laws' helpers: other, awake.
-/
import Derived.Test.YthpmclhpagcbiaaPlateVoteR
import Derived.Test.YthpmclhpagcbiaaPlateNearR
import Derived.Test.YthpmclhpagcbiaaPlateSmall2
import Derived.Test.YthpmclhpagcbiaaPlateEx
namespace Go.Proofs.Ythpmclhpagcbiaa
open Go.RowKit Go.Tw Go.Tw.Plate

theorem small_byte {c : Int} (h : isByte c) : isByte (small c) := by unfold small isByte at *; split <;> omega
theorem otherL_snoc : ∀ (l : List Int) (c : Int), otherL (l ++ [c]) = otherL l ++ [small c, 45]
  | [], c => rfl
  | d :: l, c => by rw [List.cons_append, otherL, otherL, otherL_snoc l c]; rfl
theorem otherL_len : ∀ l : List Int, (otherL l).length = 2 * l.length
  | [] => rfl
  | d :: l => by rw [otherL, List.length_cons, List.length_cons, otherL_len l, List.length_cons]; omega
theorem otherL_byte : ∀ l : List Int, (∀ c ∈ l, isByte c) → ∀ c ∈ otherL l, isByte c
  | [], _, c, hc => by simp [otherL] at hc
  | d :: l, h, c, hc => by
    rw [otherL] at hc
    rcases List.mem_cons.1 hc with rfl | hc
    · exact small_byte (h d (by simp))
    · rcases List.mem_cons.1 hc with rfl | hc
      · unfold isByte; omega
      · exact otherL_byte l (fun x hx => h x (by simp [hx])) c hc
def otherS (s : ByteArray) : ByteArray := strOfNums (32 :: otherL (codes s))
theorem two_bytes {w : World} {x y : Int} (hx : isByte x) (hy : isByte y) : SlIs tU8 (fun k => k = w.heap.size) (w.alloc (.cells #[.int .u8 x, .int .u8 y] 5)) (.slice (some ⟨w.heap.size, 0, none⟩) 2 2) [x, y] :=
  SlIs.of_block (css := [[.int .u8 x], [.int .u8 y]]) (l := [x, y]) (heap_alloc_new _ _) ⟨[], rfl⟩ ⟨⟨rfl, hx.1, hx.2⟩, ⟨rfl, hy.1, hy.2⟩, trivial⟩ rfl (by simp) (by decide)
set_option maxHeartbeats 2000000 in
theorem other_any (s : ByteArray) (w : World) (hs : s.size ≤ 1000) :
    Calls Try.prog 27 #[.string s] w fun e w' => e = .returned (.string (otherS s)) ∧ Below w.heap.size w w' := by
  go_enter Try.func27, Try.ntmps27
  go_wp2
  go_loopg [4, 3] s.size (fun g i v wr => ∃ k : Nat, k + g = s.size ∧ i = .int .i64 k ∧ OwnSl tU8 5 w.heap.size wr v (32 :: otherL ((codes s).take k)) ∧ Below w.heap.size w wr)
  case atStart =>
    refine ⟨0, by omega, rfl, ?_, bl_alloc (Below.refl _ _) _⟩
    exact OwnSl.lit (css := [[.int .u8 32]]) (l := [(32 : Int)]) rfl ⟨⟨rfl, by decide, by decide⟩, trivial⟩ (Nat.le_refl _) (by decide)
  case round =>
    obtain ⟨k, hk, rfl, hown, hb1⟩ := hrel
    have HO := Lib.hid hown
    have HB := Lib.hid hb1
    by_cases hlt : k < s.size
    case neg =>
      obtain rfl : k = s.size := by omega
      rw [List.take_of_length_le (by rw [codes_len]; omega)] at hown
      have hpos : 0 < (32 :: otherL (codes s)).length := by simp
      obtain ⟨L, hL⟩ : ∃ L, L = 32 :: otherL (codes s) := ⟨_, rfl⟩
      rw [← hL] at hown hpos
      have HR := Lib.hid (show strOfNums L = otherS s by rw [hL]; rfl)
      clear hL HO
      obtain ⟨ao, cap, rfl, ho1, ho2⟩ := hown.form
      have hcv := conv_out hown hpos
      have hd : decide ((s.size : Int) < (s.size : Int)) = false := by simp
      clear hown hb1 hlt hk
      go_wp2
      go_ret
      exact ⟨by rw [HR.out]; rfl, HB.out⟩
    have k0 : (0 : Int) ≤ (k : Int) := by omega
    have k1 : (k : Int) < (s.size : Int) := by omega
    have hkl : k < (codes s).length := by rw [codes_len]; exact hlt
    have b2 : 0 ≤ (s[k].toNat : Int) := by omega
    have b3 : (s[k].toNat : Int) ≤ 255 := by have := s[k].toNat_lt; omega
    have HT := Lib.hid (show otherL ((codes s).take (k + 1)) = otherL ((codes s).take k) ++ [small (s[k].toNat : Int), 45] by
      rw [List.take_succ_eq_append_getElem hkl, otherL_snoc, codes_get s hlt])
    have hsb := hb1.size
    have hlen : (32 :: otherL ((codes s).take k)).length ≤ 2001 := by rw [List.length_cons, otherL_len, List.length_take]; omega
    have HL := Lib.hid hlen
    clear hown hb1 hlen
    have hway : (65 ≤ (s[k].toNat : Int) ∧ (s[k].toNat : Int) ≤ 90 ∧ Hid (small (s[k].toNat : Int) = (s[k].toNat : Int) + 32)) ∨ (¬ 65 ≤ (s[k].toNat : Int) ∧ Hid (small (s[k].toNat : Int) = (s[k].toNat : Int))) ∨ (65 ≤ (s[k].toNat : Int) ∧ ¬ (s[k].toNat : Int) ≤ 90 ∧ Hid (small (s[k].toNat : Int) = (s[k].toNat : Int))) := by
      by_cases h1 : 65 ≤ (s[k].toNat : Int)
      · by_cases h2 : (s[k].toNat : Int) ≤ 90
        · exact .inl ⟨h1, h2, by show small _ = _; unfold small; rw [if_pos ⟨h1, h2⟩]⟩
        · exact .inr (.inr ⟨h1, h2, by show small _ = _; unfold small; rw [if_neg (by omega)]⟩)
      · exact .inr (.inl ⟨h1, by show small _ = _; unfold small; rw [if_neg (by omega)]⟩)
    rcases hway with ⟨q1, q2, HQ⟩ | ⟨q1, HQ⟩ | ⟨q1, q2, HQ⟩
    · go_wp2_with (
        at_builtin
        refine wpList_append_sl (.tmp 24) (.tmp 26) rfl 41 rfl slU8 rfl (HO.out.alloc _) rfl (two_bytes (x := ((s[k].toNat : Int) + 32)) (y := 45) ⟨by omega, by omega⟩ ⟨by omega, by omega⟩) (fun q hq => ⟨by subst hq; simp, fun e => by have := (HO.out.own_lt q e.symm).2; omega⟩) (by have := HL.out; simp only [List.length_cons, List.length_nil] at this ⊢; omega) (by have := HL.out; unfold maxLen; simp only [List.length_cons, List.length_nil] at this ⊢; omega) (by simp; omega) ?_
        intro v' w2 ho2 hg2 hor2
        have HO2 := Lib.hid ho2
        have HB2 := Lib.hid (Below.of_grown (B := w.heap.size) hg2 (by simp; omega) (fun q hq => (HO.out.own_lt q hq).1))
        clear ho2 hg2 hor2)
      go_roundg (s.size - (k + 1))
      case measure => omega
      case rel => exact ⟨k + 1, by omega, by go_num, by rw [HT.out, HQ.out]; exact HO2.out, (bl_alloc HB.out _).trans HB2.out⟩
    · go_wp2_with (
        at_builtin
        refine wpList_append_sl (.tmp 24) (.tmp 26) rfl 41 rfl slU8 rfl (HO.out.alloc _) rfl (two_bytes (x := (s[k].toNat : Int)) (y := 45) ⟨by omega, by omega⟩ ⟨by omega, by omega⟩) (fun q hq => ⟨by subst hq; simp, fun e => by have := (HO.out.own_lt q e.symm).2; omega⟩) (by have := HL.out; simp only [List.length_cons, List.length_nil] at this ⊢; omega) (by have := HL.out; unfold maxLen; simp only [List.length_cons, List.length_nil] at this ⊢; omega) (by simp; omega) ?_
        intro v' w2 ho2 hg2 hor2
        have HO2 := Lib.hid ho2
        have HB2 := Lib.hid (Below.of_grown (B := w.heap.size) hg2 (by simp; omega) (fun q hq => (HO.out.own_lt q hq).1))
        clear ho2 hg2 hor2)
      go_roundg (s.size - (k + 1))
      case measure => omega
      case rel => exact ⟨k + 1, by omega, by go_num, by rw [HT.out, HQ.out]; exact HO2.out, (bl_alloc HB.out _).trans HB2.out⟩
    · go_wp2_with (
        at_builtin
        refine wpList_append_sl (.tmp 24) (.tmp 26) rfl 41 rfl slU8 rfl (HO.out.alloc _) rfl (two_bytes (x := (s[k].toNat : Int)) (y := 45) ⟨by omega, by omega⟩ ⟨by omega, by omega⟩) (fun q hq => ⟨by subst hq; simp, fun e => by have := (HO.out.own_lt q e.symm).2; omega⟩) (by have := HL.out; simp only [List.length_cons, List.length_nil] at this ⊢; omega) (by have := HL.out; unfold maxLen; simp only [List.length_cons, List.length_nil] at this ⊢; omega) (by simp; omega) ?_
        intro v' w2 ho2 hg2 hor2
        have HO2 := Lib.hid ho2
        have HB2 := Lib.hid (Below.of_grown (B := w.heap.size) hg2 (by simp; omega) (fun q hq => (HO.out.own_lt q hq).1))
        clear ho2 hg2 hor2)
      go_roundg (s.size - (k + 1))
      case measure => omega
      case rel => exact ⟨k + 1, by omega, by go_num, by rw [HT.out, HQ.out]; exact HO2.out, (bl_alloc HB.out _).trans HB2.out⟩

theorem sl3 (w : World) (x y z : ByteArray) (hx : x.size ≤ maxLen) (hy : y.size ≤ maxLen) (hz : z.size ≤ maxLen) : SlIs tStr (· < (w.alloc (.cells #[.string x, .string y, .string z] 9)).heap.size) (w.alloc (.cells #[.string x, .string y, .string z] 9)) (.slice (some ⟨w.heap.size, 0, none⟩) 3 3) [x, y, z] :=
  SlIs.of_block (css := [[.string x], [.string y], [.string z]]) (l := [x, y, z]) (heap_alloc_new _ _) ⟨[], rfl⟩ ⟨⟨rfl, hx⟩, ⟨rfl, hy⟩, ⟨rfl, hz⟩, trivial⟩ (by simp) (by simp) (by decide)
theorem sl4 (w : World) (x y z u : ByteArray) (hx : x.size ≤ maxLen) (hy : y.size ≤ maxLen) (hz : z.size ≤ maxLen) (hu : u.size ≤ maxLen) : SlIs tStr (· < (w.alloc (.cells #[.string x, .string y, .string z, .string u] 9)).heap.size) (w.alloc (.cells #[.string x, .string y, .string z, .string u] 9)) (.slice (some ⟨w.heap.size, 0, none⟩) 4 4) [x, y, z, u] :=
  SlIs.of_block (css := [[.string x], [.string y], [.string z], [.string u]]) (l := [x, y, z, u]) (heap_alloc_new _ _) ⟨[], rfl⟩ ⟨⟨rfl, hx⟩, ⟨rfl, hy⟩, ⟨rfl, hz⟩, ⟨rfl, hu⟩, trivial⟩ (by simp) (by simp) (by decide)
theorem sli3 (w : World) (x y z : Int) (hx : i64ok x) (hy : i64ok y) (hz : i64ok z) (g : Nat) (hg : g = w.heap.size) : SlIs tInt (· < (w.alloc (.cells #[.int .i64 x, .int .i64 y, .int .i64 z] 3)).heap.size) (w.alloc (.cells #[.int .i64 x, .int .i64 y, .int .i64 z] 3)) (.slice (some ⟨g, 0, none⟩) 3 3) [x, y, z] := by
  subst hg
  exact SlIs.of_block (css := [[.int .i64 x], [.int .i64 y], [.int .i64 z]]) (l := [x, y, z]) (heap_alloc_new _ _) ⟨[], rfl⟩ ⟨⟨rfl, hx⟩, ⟨rfl, hy⟩, ⟨rfl, hz⟩, trivial⟩ (by simp) (by simp) (by decide)
theorem i64s {n : Int} (h : -10000 ≤ n ∧ n ≤ 10000) : i64ok n := by unfold i64ok; omega
theorem vote_ex {e : Ending} (h : IsVote [sAB1, sABI, sABI] [900, 400, 400] e) : e = .returned (.tuple #[.string sAB1, .int .i64 800]) := by
  obtain ⟨s, n, rfl, h⟩ := h
  obtain ⟨rfl, rfl⟩ := h.uniq ex_vote
  rfl
set_option maxRecDepth 100000 in
set_option maxHeartbeats 4000000 in
theorem awake_any (w : World) : Calls Try.prog 11 #[] w fun e w' => e = .returned (.bool true) ∧ Below w.heap.size w w' := by
  go_enter Try.func11, Try.ntmps11
  go_wp2_with (fail)
  refine (Normal_any _ _ (by decide)).mono ?_
  rintro e w1 ⟨rfl, hb⟩
  rw [ex_n1]
  have b0 : Below w.heap.size w w1 := hb
  clear hb
  go_wp2_with (fail)
  refine (Normal_any _ _ (by decide)).mono ?_
  rintro e w2 ⟨rfl, hb⟩
  rw [ex_n2]
  replace b0 := bl_trans b0 hb
  clear hb
  go_wp2_with (fail)
  refine (Vote_any [sAB1, sABI, sABI] [900, 400, 400] _ _ _ ((sl3 w2 sAB1 sABI sABI (by decide) (by decide) (by decide)).step (bl_alloc (Below.refl _ _) _)) (sli3 _ 900 400 400 (i64s (by decide)) (i64s (by decide)) (i64s (by decide)) _ (by simp)) (by decide) (by decide)).mono ?_
  rintro e w3 ⟨he, hb⟩
  rw [vote_ex he]
  replace b0 := bl_trans (bl_alloc (bl_alloc b0 _) _) hb
  clear hb he
  go_wp2_with (fail)
  trace_state
  refine (Distance_any _ _ _ (by decide) (by decide)).mono ?_
  rintro e w4 ⟨rfl, hb⟩
  rw [ex_d1]
  replace b0 := bl_trans b0 hb
  clear hb
  go_wp2_with (fail)
  refine (Distance_any _ _ _ (by decide) (by decide)).mono ?_
  rintro e w5 ⟨rfl, hb⟩
  rw [ex_d2]
  replace b0 := bl_trans b0 hb
  clear hb
  go_wp2_with (fail)
  refine (Same_any _ _ _ (by decide) (by decide)).mono ?_
  rintro e w6 ⟨rfl, hb⟩
  rw [ex_d3, show decide ((1 : Int) ≤ 2) = true from rfl]
  replace b0 := bl_trans b0 hb
  clear hb
  go_wp2_with (fail)
  refine (Same_any _ _ _ (by decide) (by decide)).mono ?_
  rintro e w7 ⟨rfl, hb⟩
  rw [ex_d4, show decide ((3 : Int) ≤ 2) = false from rfl]
  replace b0 := bl_trans b0 hb
  clear hb
  go_wp2_with (fail)
  refine (Like_any _ _ _ ⟨by decide, by decide⟩ ⟨by decide, by decide⟩).mono ?_
  rintro e w8 ⟨rfl, hb⟩
  rw [show like 86 85 = true from rfl]
  replace b0 := bl_trans b0 hb
  clear hb
  go_wp2_with (fail)
  refine (Like_any _ _ _ ⟨by decide, by decide⟩ ⟨by decide, by decide⟩).mono ?_
  rintro e w9 ⟨rfl, hb⟩
  rw [show like 48 48 = false from rfl]
  replace b0 := bl_trans b0 hb
  clear hb
  go_wp2_with (fail)
  refine (Near_any [sAB1, sAB2, sABI, sAB1] sAB1 3 _ _ (sl4 w9 sAB1 sAB2 sABI sAB1 (by decide) (by decide) (by decide) (by decide)) (by decide) (by decide) (by decide)).mono ?_
  rintro e wa ⟨v, r, rfl, hsl, hn, hb⟩
  obtain rfl := hn.uniq ex_near
  replace b0 := bl_trans (bl_alloc b0 _) hb
  clear hb hn
  go_wp2_with (fail)
  refine (SameTexts_any [sAB1, sABI, sAB2] _ _ _ (hsl.step (bl_alloc (Below.refl _ _) _)) (sl3 wa sAB1 sABI sAB2 (by decide) (by decide) (by decide))).mono ?_
  rintro e wb ⟨rfl, hb⟩
  replace b0 := bl_trans (bl_alloc b0 _) hb
  clear hb hsl
  go_wp2_with (fail)
  go_ret
  exact ⟨rfl, b0⟩
end Go.Proofs.Ythpmclhpagcbiaa
