/-
  Layer 40 (retain): the examples (awake).
-/
import Derived.Test.YtcociikmhfopnaaRetainGreat
import Derived.Test.YtcociikmhfopnaaRows
namespace Go.Proofs.Ytcociikmhfopnaa
open Go.RowKit Go.Tw Go.Tw.Retain

abbrev sA : ByteArray := ⟨#[97]⟩
abbrev sCourt : ByteArray := ⟨#[99, 111, 117, 114, 116]⟩
def K0 : List Keep := [⟨1, 100, 10⟩, ⟨2, 1000, 50⟩]
def I0 : Img := ⟨sA, 500, 1, [], 0⟩
def I1 : Img := ⟨sA, 500, 1, [sCourt], 0⟩
theorem i64s {n : Int} (h : -10000 ≤ n ∧ n ≤ 10000) : i64ok n := by unfold i64ok; omega
theorem okI0 (S : Nat → Prop) (w : World) : ImgOk S w I0 (.slice none 0 0) := ⟨by decide, i64s (by decide), i64s (by decide), SlIs.nil, by decide⟩
theorem slK0 (w : World) : SlIs tKeep (· < (w.alloc (.cells #[.int .i64 1, .int .i64 100, .int .i64 10, .int .i64 2, .int .i64 1000, .int .i64 50] 57)).heap.size) (w.alloc (.cells #[.int .i64 1, .int .i64 100, .int .i64 10, .int .i64 2, .int .i64 1000, .int .i64 50] 57)) (.slice (some ⟨w.heap.size, 0, none⟩) 2 2) K0 :=
  SlIs.of_block (css := [[.int .i64 1, .int .i64 100, .int .i64 10], [.int .i64 2, .int .i64 1000, .int .i64 50]]) (l := K0) (heap_alloc_new _ _) ⟨[], rfl⟩
    ⟨tKeep_mk (r := ⟨1, 100, 10⟩) (i64s (by decide)) (i64s (by decide)) (i64s (by decide)), tKeep_mk (r := ⟨2, 1000, 50⟩) (i64s (by decide)) (i64s (by decide)) (i64s (by decide)), trivial⟩
    (by simp) (by decide) (by decide)
theorem slI0 (w : World) : SlIs tImg (· < (w.alloc (.cells #[.string sA, .int .i64 500, .int .i64 1, .slice none 0 0, .int .u64 0] 26)).heap.size) (w.alloc (.cells #[.string sA, .int .i64 500, .int .i64 1, .slice none 0 0, .int .u64 0] 26)) (.slice (some ⟨w.heap.size, 0, none⟩) 1 1) [I0] :=
  SlIs.of_block (css := [[.string sA, .int .i64 500, .int .i64 1, .slice none 0 0, .int .u64 0]]) (l := [I0]) (heap_alloc_new _ _) ⟨[], rfl⟩ ⟨tImg_mk (r := I0) (okI0 _ _), trivial⟩ (by simp) (by decide) (by decide)
theorem slC0 (w : World) (n : Nat) (hn : n = w.heap.size) : SlIs tInt (· < (w.alloc (.cells #[.int .i64 400] 3)).heap.size) (w.alloc (.cells #[.int .i64 400] 3)) (.slice (some ⟨n, 0, none⟩) 1 1) [400] := by
  subst hn
  exact SlIs.of_block (css := [[.int .i64 400]]) (l := [(400 : Int)]) (heap_alloc_new _ _) ⟨[], rfl⟩ ⟨⟨rfl, i64s (by decide)⟩, trivial⟩ (by simp) (by decide) (by decide)
theorem nameCourt : nameC sCourt = true := name_yes ⟨by decide, by decide, fun i h => by
  have h' : i < 5 := h
  match i, h' with
  | 0, _ => exact .inl ⟨(by decide : 97 ≤ 99), (by decide : 99 ≤ 122)⟩
  | 1, _ => exact .inl ⟨(by decide : 97 ≤ 111), (by decide : 111 ≤ 122)⟩
  | 2, _ => exact .inl ⟨(by decide : 97 ≤ 117), (by decide : 117 ≤ 122)⟩
  | 3, _ => exact .inl ⟨(by decide : 97 ≤ 114), (by decide : 114 ≤ 122)⟩
  | 4, _ => exact .inl ⟨(by decide : 97 ≤ 116), (by decide : 116 ≤ 122)⟩⟩
theorem u1 : untilC K0 I0 595 = (605, 0) := rfl
theorem u2 : untilC K0 I0 (-1) = (0, 11) := rfl
theorem p1 : purgeC K0 [I0] [400] 599 = ([I0], [], 0) := rfl
theorem p2 : purgeC K0 [I0] [400] 600 = ([], [sA], 0) := rfl
theorem n1 : nextC K0 [I0] [400] 599 = (600, true) := rfl
theorem n2 : nextC K0 [I0] [400] 600 = (0, false) := rfl
theorem h1 : holdC (nameC sCourt) [I0] sA sCourt = ([I1], 0) := by
  rw [nameCourt]
  simp [holdC, holdAt, idxP, isId, I0, I1]
theorem u3 : untilC K0 I1 400 = (0, 32) := rfl

set_option maxRecDepth 100000 in
set_option maxHeartbeats 2000000 in
theorem awake_any (w : World) : Calls Try.prog 9 #[] w fun e w' => e = .returned (.bool true) ∧ Below w.heap.size w w' := by
  go_enter Try.func9, Try.ntmps9
  go_wp2_with (fail)
  have b0 : Below w.heap.size w ((w.alloc (.cells #[.int .i64 1, .int .i64 100, .int .i64 10, .int .i64 2, .int .i64 1000, .int .i64 50] 57)).alloc (.cells #[.string sA, .int .i64 500, .int .i64 1, .slice none 0 0, .int .u64 0] 26)) := bl_alloc (bl_alloc (Below.refl _ _) _) _
  have hl := (slK0 w).step (bl_alloc (Below.refl _ _) (.cells #[.string sA, .int .i64 500, .int .i64 1, .slice none 0 0, .int .u64 0] 26))
  have hx := alloc2_1 w (.cells #[.int .i64 1, .int .i64 100, .int .i64 10, .int .i64 2, .int .i64 1000, .int .i64 50] 57) (.cells #[.string sA, .int .i64 500, .int .i64 1, .slice none 0 0, .int .u64 0] 26)
  refine (Until_any K0 _ I0 _ 595 _ hl (okI0 _ _) (i64s (by decide))).mono ?_
  rintro e w1 ⟨rfl, hb⟩
  rw [u1]
  replace hl := hl.step hb
  replace b0 := bl_trans b0 hb
  replace hx := Below.at_old hb hx
  obtain ⟨c0, c1, c2, c3, c4, cf⟩ := blk5 hx
  clear hb
  go_wp2_with (fail)
  refine (Until_any K0 _ I0 _ (-1) _ hl (okI0 _ _) (i64s (by decide))).mono ?_
  rintro e w2 ⟨rfl, hb⟩
  rw [u2]
  replace hl := hl.step hb
  replace b0 := bl_trans b0 hb
  replace hx := Below.at_old hb hx
  clear hb c0 c1 c2 c3 c4 cf
  obtain ⟨c0, c1, c2, c3, c4, cf⟩ := blk5 hx
  go_wp2_with (fail)
  have hi := (slI0 w2).step (bl_alloc (Below.refl _ _) (.cells #[.int .i64 400] 3))
  have hb := bl_alloc (bl_alloc (Below.refl w2.heap.size w2) (.cells #[.string sA, .int .i64 500, .int .i64 1, .slice none 0 0, .int .u64 0] 26)) (.cells #[.int .i64 400] 3)
  replace hl := hl.step hb
  replace b0 := bl_trans b0 hb
  clear hb c0 c1 c2 c3 c4 cf hx
  have hc := slC0 (w2.alloc (.cells #[.string sA, .int .i64 500, .int .i64 1, .slice none 0 0, .int .u64 0] 26)) (w2.heap.size + 1) (by simp)
  refine (Purge_any K0 [I0] [400] _ _ _ 599 _ ⟨hl, hi, hc⟩ (by decide) (by decide)).mono ?_
  rintro e w3 ⟨v1, v2, rfl, hk, hg, hb⟩
  rw [p1] at hk hg
  rw [p1]
  obtain ⟨_, _, _, _, rfl, -⟩ := hk
  obtain ⟨_, _, _, _, rfl, -⟩ := hg
  clear hc
  replace hl := hl.step hb
  replace hi := hi.step hb
  replace b0 := bl_trans b0 hb
  clear hb
  go_wp2_with (fail)
  have hc := slC0 w3 w3.heap.size rfl
  have hb := bl_alloc (Below.refl w3.heap.size w3) (.cells #[.int .i64 400] 3)
  replace hl := hl.step hb
  replace hi := hi.step hb
  replace b0 := bl_trans b0 hb
  clear hb
  refine (Purge_any K0 [I0] [400] _ _ _ 600 _ ⟨hl, hi, hc⟩ (by decide) (by decide)).mono ?_
  rintro e w4 ⟨v1, v2, rfl, hk, hg, hb⟩
  rw [p2] at hk hg
  rw [p2]
  obtain ⟨_, _, _, _, rfl, -⟩ := hk
  obtain ⟨_, _, _, _, rfl, _, _, hg⟩ := strs_open hg
  obtain ⟨rfl, -, hgl, hg0, -⟩ := hg w4 (SameOn.refl _ _) 0 (by decide)
  simp only [Nat.add_zero, List.getElem_cons_zero] at hg0
  have HG := Lib.hid (And.intro hgl hg0)
  clear hc hg hgl hg0
  replace hl := hl.step hb
  replace hi := hi.step hb
  replace b0 := bl_trans b0 hb
  clear hb
  go_wp2_with (fail)
  have hc := slC0 w4 w4.heap.size rfl
  have hb := bl_alloc (Below.refl w4.heap.size w4) (.cells #[.int .i64 400] 3)
  replace hl := hl.step hb
  replace hi := hi.step hb
  replace b0 := bl_trans b0 hb
  clear hb
  refine (Next_any K0 [I0] [400] _ _ _ 599 _ ⟨hl, hi, hc⟩).mono ?_
  rintro e w5 ⟨rfl, hb⟩
  rw [n1]
  have B5 := Lib.hid (Below.trans (bl_alloc (Below.refl w4.heap.size w4) (.cells #[.int .i64 400] 3)) (hb.mono (by simp)))
  clear hc
  replace hl := hl.step hb
  replace hi := hi.step hb
  replace b0 := bl_trans b0 hb
  clear hb
  go_wp2_with (fail)
  have hc := slC0 w5 w5.heap.size rfl
  have hb := bl_alloc (Below.refl w5.heap.size w5) (.cells #[.int .i64 400] 3)
  replace hl := hl.step hb
  replace hi := hi.step hb
  replace b0 := bl_trans b0 hb
  clear hb
  refine (Next_any K0 [I0] [400] _ _ _ 600 _ ⟨hl, hi, hc⟩).mono ?_
  rintro e w6 ⟨rfl, hb⟩
  rw [n2]
  have B6 := Lib.hid (Below.trans (bl_alloc (Below.refl w5.heap.size w5) (.cells #[.int .i64 400] 3)) (hb.mono (by simp)))
  clear hc
  replace hl := hl.step hb
  replace hi := hi.step hb
  replace b0 := bl_trans b0 hb
  clear hb
  go_wp2_with (fail)
  refine (Hold_any [I0] _ sA sCourt _ hi (by decide) (by decide) (by decide)).mono ?_
  rintro e w7 ⟨v7, rfl, hk, hb⟩
  rw [h1] at hk
  rw [h1]
  have B7 := Lib.hid hb
  obtain ⟨_, _, _, _, rfl, _, _, hk⟩ := img_open hk
  obtain ⟨rfl, hkl, -, hv, hok, c0, c1, c2, c3, c4⟩ := hk w7 (SameOn.refl _ _) 0 (by decide)
  simp only [Nat.zero_mul, Nat.add_zero, List.getElem_cons_zero] at c0 c1 c2 c3 c4
  have HOK := Lib.hid (show ImgOk _ w7 I1 hv from hok)
  clear hk hok
  replace hl := hl.step hb
  replace hi := hi.step hb
  replace b0 := bl_trans b0 hb
  clear hb
  obtain ⟨hva, hvc, _, _, rfl, -⟩ := HOK.out.hold
  go_wp2_with (fail)
  refine (Until_any K0 _ I1 _ 400 _ hl HOK.out (i64s (by decide))).mono ?_
  rintro e w8 ⟨rfl, hb⟩
  rw [u3]
  have b4 : Below w4.heap.size w4 w8 := B5.out.trans ((B6.out.trans ((B7.out.trans (hb.mono B7.out.size)).mono B6.out.size)).mono B5.out.size)
  have hg0 := (b4.cell (p := ⟨_, _, none⟩) HG.out.1).trans HG.out.2
  replace b0 := bl_trans b0 hb
  clear c0 c1 c2 c3 c4 hb hl hi B5 B6 B7 HG b4
  go_wp2
  all_goals go_ret
  all_goals exact ⟨rfl, b0⟩
end Go.Proofs.Ytcociikmhfopnaa
