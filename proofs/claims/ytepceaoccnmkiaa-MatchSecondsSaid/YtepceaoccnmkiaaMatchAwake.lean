/-
  Layer 6 (match): the examples of the chapter.
-/
import Derived.Test.YtepceaoccnmkiaaMatchSecond
namespace Go.Tw.Match
open Go.RowKit Go.Tw
def exM : Mat := ⟨[[1, 4], [2, 3]], [9, 9], [9, 9]⟩
def exN : Mat := ⟨[[0, 0]], [5], [0, 0]⟩
def exX : Mat := ⟨[[-1]], [1], [2]⟩
theorem ex1 : bestC exM = ([0, 1], 4, 0) := by decide +kernel
theorem ex2 : secC exM = ([1, 0], 6, true) := by decide +kernel
theorem ex3 : withC exM 0 (-1) = (20, true) := by decide +kernel
theorem ex4 : tiesC exN = (2, 0) := by decide +kernel
theorem ex5 : totC exM [0, 0] = (0, 9) := by decide +kernel
theorem ex6 : secC exX = ([], 0, false) := by decide +kernel
theorem ex7 : chk exM = 0 := by decide +kernel
theorem ints1 {w : World} {b : Nat} {t : TypeId} {x : Int} (h : w.heap[b]? = some (.cells #[.int .i64 x] t (0, 0))) (hx : i64ok x) : SlIs tInt (· < w.heap.size) w (.slice (some ⟨b, 0, none⟩) 1 1) [x] :=
  SlIs.of_block (css := [[.int .i64 x]]) (l := [x]) h ⟨[], rfl⟩ ⟨⟨rfl, hx⟩, trivial⟩ (lt_of_heap h) (Nat.le_refl _) (by decide)
theorem ints2 {w : World} {b : Nat} {t : TypeId} {x y : Int} (h : w.heap[b]? = some (.cells #[.int .i64 x, .int .i64 y] t (0, 0))) (hx : i64ok x) (hy : i64ok y) : SlIs tInt (· < w.heap.size) w (.slice (some ⟨b, 0, none⟩) 2 2) [x, y] :=
  SlIs.of_block (css := [[.int .i64 x], [.int .i64 y]]) (l := [x, y]) h ⟨[], rfl⟩ ⟨⟨rfl, hx⟩, ⟨rfl, hy⟩, trivial⟩ (lt_of_heap h) (Nat.le_refl _) (by decide)
theorem rows1 {w : World} {b : Nat} {t : TypeId} {v : Value} {l : List Int} {e : TypeId} (h : w.heap[b]? = some (.cells #[v] t (0, 0))) (hv : SlIs tInt (· < w.heap.size) w v l) : SlIs (tInt.list e) (· < w.heap.size) w (.slice (some ⟨b, 0, none⟩) 1 1) [l] :=
  SlIs.of_block (css := [[v]]) (l := [l]) h ⟨[], rfl⟩ ⟨⟨v, rfl, hv⟩, trivial⟩ (lt_of_heap h) (Nat.le_refl _) (by decide)
theorem rows2 {w : World} {b : Nat} {t : TypeId} {v u : Value} {l k : List Int} {e : TypeId} (h : w.heap[b]? = some (.cells #[v, u] t (0, 0))) (hv : SlIs tInt (· < w.heap.size) w v l) (hu : SlIs tInt (· < w.heap.size) w u k) : SlIs (tInt.list e) (· < w.heap.size) w (.slice (some ⟨b, 0, none⟩) 2 2) [l, k] :=
  SlIs.of_block (css := [[v], [u]]) (l := [l, k]) h ⟨[], rfl⟩ ⟨⟨v, rfl, hv⟩, ⟨u, rfl, hu⟩, trivial⟩ (lt_of_heap h) (Nat.le_refl _) (by decide)
theorem ok64 (x : Int) (h : -100 ≤ x) (h2 : x ≤ 100) : i64ok x := by unfold i64ok; omega
theorem alloc_at {w : World} {a : Obj} {n : Nat} (h : n = w.heap.size) : (w.alloc a).heap[n]? = some a := by rw [h]; exact heap_alloc_new _ _
/-- the world in which the examples lie -/
def exW (w : World) (ti tr tm : TypeId) : World := (((((((((((w.alloc (.cells #[.int .i64 1, .int .i64 4] ti)).alloc (.cells #[.int .i64 2, .int .i64 3] ti)).alloc (.cells #[.slice (some ⟨w.heap.size, 0, none⟩) 2 2, .slice (some ⟨w.heap.size + 1, 0, none⟩) 2 2] tr)).alloc (.cells #[.int .i64 9, .int .i64 9] ti)).alloc (.cells #[.int .i64 9, .int .i64 9] ti)).alloc
  (.cells #[.slice (some ⟨w.heap.size + 1 + 1, 0, none⟩) 2 2, .slice (some ⟨w.heap.size + 1 + 1 + 1, 0, none⟩) 2 2, .slice (some ⟨w.heap.size + 1 + 1 + 1 + 1, 0, none⟩) 2 2] tm)).alloc (.cells #[.int .i64 0, .int .i64 0] ti)).alloc (.cells #[.slice (some ⟨w.heap.size + 1 + 1 + 1 + 1 + 1 + 1, 0, none⟩) 2 2] tr)).alloc (.cells #[.int .i64 5] ti)).alloc (.cells #[.int .i64 0, .int .i64 0] ti)).alloc
  (.cells #[.slice (some ⟨w.heap.size + 1 + 1 + 1 + 1 + 1 + 1 + 1, 0, none⟩) 1 1, .slice (some ⟨w.heap.size + 1 + 1 + 1 + 1 + 1 + 1 + 1 + 1, 0, none⟩) 1 1, .slice (some ⟨w.heap.size + 1 + 1 + 1 + 1 + 1 + 1 + 1 + 1 + 1, 0, none⟩) 2 2] tm))
theorem exW_spec (w : World) (ti tr tm : TypeId) : MatIs (exW w ti tr tm) (.slice (some ⟨w.heap.size + 1 + 1, 0, none⟩) 2 2) (.slice (some ⟨w.heap.size + 1 + 1 + 1, 0, none⟩) 2 2) (.slice (some ⟨w.heap.size + 1 + 1 + 1 + 1, 0, none⟩) 2 2) exM ∧
    MatIs (exW w ti tr tm) (.slice (some ⟨w.heap.size + 1 + 1 + 1 + 1 + 1 + 1 + 1, 0, none⟩) 1 1) (.slice (some ⟨w.heap.size + 1 + 1 + 1 + 1 + 1 + 1 + 1 + 1, 0, none⟩) 1 1) (.slice (some ⟨w.heap.size + 1 + 1 + 1 + 1 + 1 + 1 + 1 + 1 + 1, 0, none⟩) 2 2) exN ∧
    (exW w ti tr tm).heap[w.heap.size + 1 + 1 + 1 + 1 + 1]? = some (.cells #[.slice (some ⟨w.heap.size + 1 + 1, 0, none⟩) 2 2, .slice (some ⟨w.heap.size + 1 + 1 + 1, 0, none⟩) 2 2, .slice (some ⟨w.heap.size + 1 + 1 + 1 + 1, 0, none⟩) 2 2] tm (0, 0)) ∧
    (exW w ti tr tm).heap[w.heap.size + 1 + 1 + 1 + 1 + 1 + 1 + 1 + 1 + 1 + 1]? = some (.cells #[.slice (some ⟨w.heap.size + 1 + 1 + 1 + 1 + 1 + 1 + 1, 0, none⟩) 1 1, .slice (some ⟨w.heap.size + 1 + 1 + 1 + 1 + 1 + 1 + 1 + 1, 0, none⟩) 1 1, .slice (some ⟨w.heap.size + 1 + 1 + 1 + 1 + 1 + 1 + 1 + 1 + 1, 0, none⟩) 2 2] tm (0, 0)) ∧
    Below w.heap.size w (exW w ti tr tm) := by
  unfold exW
  refine ⟨⟨rows2 (t := tr) (v := .slice (some ⟨w.heap.size, 0, none⟩) 2 2) (u := .slice (some ⟨w.heap.size + 1, 0, none⟩) 2 2) ?_ (ints2 (t := ti) ?_ (ok64 _ (by decide) (by decide)) (ok64 _ (by decide) (by decide))) (ints2 (t := ti) ?_ (ok64 _ (by decide) (by decide)) (ok64 _ (by decide) (by decide))), (ints2 (t := ti) ?_ (ok64 _ (by decide) (by decide)) (ok64 _ (by decide) (by decide))), (ints2 (t := ti) ?_ (ok64 _ (by decide) (by decide)) (ok64 _ (by decide) (by decide)))⟩, ⟨rows1 (t := tr) (v := .slice (some ⟨w.heap.size + 1 + 1 + 1 + 1 + 1 + 1, 0, none⟩) 2 2) ?_ (ints2 (t := ti) ?_ (ok64 _ (by decide) (by decide)) (ok64 _ (by decide) (by decide))), ints1 (t := ti) ?_ (ok64 _ (by decide) (by decide)), (ints2 (t := ti) ?_ (ok64 _ (by decide) (by decide)) (ok64 _ (by decide) (by decide)))⟩, ?_, ?_, ?_⟩
  case refine_12 => exact bl_alloc (bl_alloc (bl_alloc (bl_alloc (bl_alloc (bl_alloc (bl_alloc (bl_alloc (bl_alloc (bl_alloc (bl_alloc (Below.refl _ _) _) _) _) _) _) _) _) _) _) _) _
  all_goals (repeat (first | (refine alloc_at ?_; simp; done) | refine alloc1_old _ ?_))
end Go.Tw.Match
namespace Go.Proofs.Ytepceaoccnmkiaa
open Go.RowKit Go.Tw Go.Tw.Match
set_option maxRecDepth 100000 in
set_option maxHeartbeats 4000000 in
theorem awake_any (w : World) : Calls Try.prog 11 #[] w fun e w' => e = .returned (.bool true) ∧ Below w.heap.size w w' := by
  obtain ⟨him, hin, hmb, hnb, hbl⟩ := exW_spec w 3 23 25
  go_enter Try.func11, Try.ntmps11
  go_wp2_with (fail)
  change Calls _ _ _ (exW w 3 23 25) _
  obtain ⟨w1, hw1⟩ : ∃ w1, exW w 3 23 25 = w1 := ⟨_, rfl⟩
  rw [hw1] at him hin hmb hnb hbl ⊢
  have HIM := Lib.hid him
  have HIN := Lib.hid hin
  have HMB := Lib.hid hmb
  have HNB := Lib.hid hnb
  have HBL := Lib.hid hbl
  clear hw1 him hin hmb hnb hbl
  refine (best_any exM _ _ _ _ HIM.out).mono ?_
  rintro e w2 ⟨⟨v2, rfl, ho2⟩, hb⟩
  rw [ex1] at ho2 ⊢
  have HO2 := Lib.hid ho2
  replace HMB := Lib.hid (Below.at_old hb HMB.out)
  replace HNB := Lib.hid (Below.at_old hb HNB.out)
  replace HIM := Lib.hid (HIM.out.step hb)
  replace HIN := Lib.hid (HIN.out.step hb)
  replace HBL := Lib.hid (bl_trans HBL.out hb)
  clear hb ho2
  obtain ⟨x0, x1, x2, -⟩ := blk3 HMB.out
  obtain ⟨y0, y1, y2, -⟩ := blk3 HNB.out
  go_wp2_with (fail)
  refine (second_any exM _ _ _ _ HIM.out).mono ?_
  rintro e w3 ⟨⟨v3, rfl, ho3⟩, hb⟩
  rw [ex2] at ho3 ⊢
  have HO3 := Lib.hid ho3
  replace HO2 := Lib.hid (HO2.out.below hb)
  replace HMB := Lib.hid (Below.at_old hb HMB.out)
  replace HNB := Lib.hid (Below.at_old hb HNB.out)
  replace HIM := Lib.hid (HIM.out.step hb)
  replace HIN := Lib.hid (HIN.out.step hb)
  replace HBL := Lib.hid (bl_trans HBL.out hb)
  clear hb ho3 x0 x1 x2 y0 y1 y2
  obtain ⟨x0, x1, x2, -⟩ := blk3 HMB.out
  obtain ⟨y0, y1, y2, -⟩ := blk3 HNB.out
  go_wp2_with (fail)
  refine (with_any exM 0 (-1) _ _ _ _ HIM.out (ok64 _ (by decide) (by decide)) (ok64 _ (by decide) (by decide))).mono ?_
  rintro e w4 ⟨rfl, hb⟩
  rw [ex3]
  replace HO2 := Lib.hid (HO2.out.below hb)
  replace HO3 := Lib.hid (HO3.out.below hb)
  replace HMB := Lib.hid (Below.at_old hb HMB.out)
  replace HNB := Lib.hid (Below.at_old hb HNB.out)
  replace HIM := Lib.hid (HIM.out.step hb)
  replace HIN := Lib.hid (HIN.out.step hb)
  replace HBL := Lib.hid (bl_trans HBL.out hb)
  clear hb x0 x1 x2 y0 y1 y2
  obtain ⟨x0, x1, x2, -⟩ := blk3 HMB.out
  obtain ⟨y0, y1, y2, -⟩ := blk3 HNB.out
  go_wp2_with (fail)
  refine (ties_any exN _ _ _ _ HIN.out).mono ?_
  rintro e w5 ⟨rfl, hb⟩
  rw [ex4]
  replace HO2 := Lib.hid (HO2.out.below hb)
  replace HO3 := Lib.hid (HO3.out.below hb)
  replace HMB := Lib.hid (Below.at_old hb HMB.out)
  replace HNB := Lib.hid (Below.at_old hb HNB.out)
  replace HIM := Lib.hid (HIM.out.step hb)
  replace HIN := Lib.hid (HIN.out.step hb)
  replace HBL := Lib.hid (bl_trans HBL.out hb)
  clear hb x0 x1 x2 y0 y1 y2
  obtain ⟨x0, x1, x2, -⟩ := blk3 HMB.out
  obtain ⟨y0, y1, y2, -⟩ := blk3 HNB.out
  go_wp2_with (fail)
  refine (total_any exM [0, 0] _ _ _ _ _ (HIM.out.step (bl_alloc (Below.refl _ _) _)) (ints2 (heap_alloc_new _ _) (ok64 _ (by decide) (by decide)) (ok64 _ (by decide) (by decide)))).mono ?_
  rintro e w6 ⟨rfl, hb⟩
  rw [ex5]
  replace hb := bl_trans (bl_alloc (Below.refl _ _) _) hb
  replace HO2 := Lib.hid (HO2.out.below hb)
  replace HO3 := Lib.hid (HO3.out.below hb)
  replace HMB := Lib.hid (Below.at_old hb HMB.out)
  replace HNB := Lib.hid (Below.at_old hb HNB.out)
  replace HIM := Lib.hid (HIM.out.step hb)
  replace HIN := Lib.hid (HIN.out.step hb)
  replace HBL := Lib.hid (bl_trans HBL.out hb)
  clear hb x0 x1 x2 y0 y1 y2
  obtain ⟨x0, x1, x2, -⟩ := blk3 HMB.out
  obtain ⟨y0, y1, y2, -⟩ := blk3 HNB.out
  go_wp2_with (fail)
  refine (second_any exX _ _ _ _ ⟨rows1 (alloc1_old _ (alloc1_old _ (alloc_at (by simp)))) (ints1 (alloc1_old _ (alloc1_old _ (alloc1_old _ (alloc_at (by simp))))) (ok64 _ (by decide) (by decide))), ints1 (alloc1_old _ (alloc_at (by simp))) (ok64 _ (by decide) (by decide)), ints1 (alloc_at (by simp)) (ok64 _ (by decide) (by decide))⟩).mono ?_
  rintro e w7 ⟨⟨v7, rfl, -⟩, hb⟩
  rw [ex6]
  replace hb := bl_trans (bl_alloc (bl_alloc (bl_alloc (bl_alloc (Below.refl _ _) _) _) _) _) hb
  replace HO2 := Lib.hid (HO2.out.below hb)
  replace HO3 := Lib.hid (HO3.out.below hb)
  replace HMB := Lib.hid (Below.at_old hb HMB.out)
  replace HNB := Lib.hid (Below.at_old hb HNB.out)
  replace HIM := Lib.hid (HIM.out.step hb)
  replace HIN := Lib.hid (HIN.out.step hb)
  replace HBL := Lib.hid (bl_trans HBL.out hb)
  clear hb x0 x1 x2 y0 y1 y2
  obtain ⟨x0, x1, x2, -⟩ := blk3 HMB.out
  obtain ⟨y0, y1, y2, -⟩ := blk3 HNB.out
  go_wp2_with (fail)
  refine (check_any exM _ _ _ _ HIM.out).mono ?_
  rintro e w8 ⟨rfl, hb⟩
  rw [ex7]
  replace HO2 := Lib.hid (HO2.out.below hb)
  replace HO3 := Lib.hid (HO3.out.below hb)
  replace HMB := Lib.hid (Below.at_old hb HMB.out)
  replace HNB := Lib.hid (Below.at_old hb HNB.out)
  replace HIM := Lib.hid (HIM.out.step hb)
  replace HIN := Lib.hid (HIN.out.step hb)
  replace HBL := Lib.hid (bl_trans HBL.out hb)
  clear hb x0 x1 x2 y0 y1 y2
  go_wp2_with (fail)
  refine (same_any [0, 1] [0, 1] v2 _ _ ((HO2.out.alloc _).sl) (ints2 (heap_alloc_new _ _) (ok64 _ (by decide) (by decide)) (ok64 _ (by decide) (by decide)))).mono ?_
  rintro e w9 ⟨rfl, n9, rfl⟩
  replace HO3 := Lib.hid ((HO3.out.alloc (.cells #[.int .i64 0, .int .i64 1] 3)).drewN n9)
  replace HBL := Lib.hid (bl_drewN (bl_alloc HBL.out (.cells #[.int .i64 0, .int .i64 1] 3)) n9)
  obtain ⟨wa, hwa⟩ : ∃ wa, (w8.alloc (.cells #[.int .i64 0, .int .i64 1] 3)).drewN n9 = wa := ⟨_, rfl⟩
  rw [hwa] at HO3 HBL ⊢
  clear hwa
  go_wp2_with (fail)
  refine (same_any [1, 0] [1, 0] v3 _ _ ((HO3.out.alloc _).sl) (ints2 (heap_alloc_new _ _) (ok64 _ (by decide) (by decide)) (ok64 _ (by decide) (by decide)))).mono ?_
  rintro e w9 ⟨rfl, n9, rfl⟩
  replace HBL := Lib.hid (bl_drewN (bl_alloc HBL.out (.cells #[.int .i64 1, .int .i64 0] 3)) n9)
  go_wp2
  go_ret
  exact ⟨rfl, HBL.out⟩
end Go.Proofs.Ytepceaoccnmkiaa
