/-
  Layer 16 (fuse): the walk of the comparison of sources.
-/
import Derived.Test.YtelnnjofccldgaaGreatDoorPsP
import Derived.Test.YtelnnjofccldgaaGreatDoorQuietT
import Derived.Test.YtelnnjofccldgaaGreatDoorShelf
namespace Go.Proofs.YtelnnjofccldgaaGreatDoor.Fu
open Go.RowKit Go.Tw Go.Tw.Ord Go.Tw.Ps Go.Sort
theorem isNaN_string_any (a : ByteArray) (w : World) :
    Calls Tryz.prog 61 #[.string a] w fun e w' => e = .returned (.bool false) ∧ w' = w := by
  have h1 : (a.toList == a.toList) = true := by simp
  go_enter Tryz.func61, Tryz.ntmps61
  go_wp2
  go_ret
  exact ⟨rfl, rfl⟩
theorem cmpS_eq (a b : ByteArray) : cmpS a b = (if Op.bytesLess a.toList b.toList = true then -1 else if (a.toList == b.toList) = true then 0 else 1) := by
  unfold cmpS
  rw [less_str, eq_str]
  simp only [decide_eq_true_eq]
theorem cmpI_eq (x y : Int) : Lib.compareInt x y = cmpI x y := by
  unfold Lib.compareInt cmpI
  rfl
set_option maxHeartbeats 1000000 in
theorem Compare_string_any (a b : ByteArray) (w : World) :
    Calls Tryz.prog 33 #[.string a, .string b] w fun e w' => e = .returned (.int .i64 (cmpS a b)) ∧ w' = w := by
  have hq := cmpS_eq a b
  rcases Bool.eq_false_or_eq_true (Op.bytesLess a.toList b.toList) with h1 | h1
  all_goals rcases Bool.eq_false_or_eq_true (a.toList == b.toList) with h2 | h2
  all_goals
    have HR := hq
    rw [h1, h2] at HR
    have HR' := Lib.hid HR
    clear HR
    have HQ := Lib.hid hq
    clear hq
    go_enter Tryz.func33, Tryz.ntmps33
    go_wp2_with (go_at_call 61; refine (isNaN_string_any _ _).mono ?_; rintro e w' ⟨rfl, rfl⟩)
    go_ret
    exact ⟨ret_int HR'.out, rfl⟩
theorem Compare_int_any (x y : Int) (w : World) :
    Calls Tryz.prog 34 #[.int .i64 x, .int .i64 y] w fun e w' => e = .returned (.int .i64 (cmpI x y)) ∧ w' = w := by
  rw [← cmpI_eq]
  exact Tryz.cmp_Compare_int x y w
set_option maxHeartbeats 1000000 in
theorem Or_any (l : List Int) (g : Nat) (w : World) (h : Row 3 w g l) (hl : l.length ≤ 100) :
    Calls Tryz.prog 32 #[.slice (some ⟨g, 0, none⟩) l.length l.length] w fun e w' => e = .returned (.int .i64 (orL l)) ∧ w' = w := by
  have HC := Lib.hid h
  clear h
  go_enter Tryz.func32, Tryz.ntmps32
  go_wp2
  go_loopg [8] l.length (fun gx i wr => ∃ k : Nat, k + gx = l.length ∧ i = .int .i64 k ∧ orL l = orL (l.drop k) ∧ wr = w)
  case atStart => exact ⟨0, by omega, rfl, rfl, rfl⟩
  case round =>
    obtain ⟨k, hk, rfl, he, rfl⟩ := hrel
    have HE := Lib.hid he
    clear he
    by_cases hlt : k < l.length
    · have k0 : (0 : Int) ≤ (k : Int) := by omega
      have k1 : (k : Int) < (l.length : Int) := by omega
      have c0 := HC.out.cell hlt
      have HD := Lib.hid (show orL (l.drop k) = if l[k] = 0 then orL (l.drop (k + 1)) else l[k] by rw [List.drop_eq_getElem_cons hlt, orL])
      obtain ⟨y, hy⟩ : ∃ y, l[k] = y := ⟨_, rfl⟩
      rw [hy] at c0 HD
      clear hy
      by_cases hz : y = 0
      · subst hz
        go_wp2
        go_roundg (l.length - (k + 1))
        case measure => omega
        case rel => exact ⟨k + 1, by omega, by go_num, by rw [HE.out, HD.out]; simp, rfl⟩
      · have hz' : (y != 0) = true := by simp [hz]
        have HZ := Lib.hid hz
        clear hz
        go_wp2
        go_ret
        exact ⟨ret_int (HE.out.trans (HD.out.trans (if_neg HZ.out))), rfl⟩
    · have hkl : ¬ (k : Int) < (l.length : Int) := by omega
      have HN := Lib.hid (show orL l = 0 by rw [HE.out, List.drop_eq_nil_of_le (by omega), orL])
      go_wp2
      go_ret
      exact ⟨ret_int HN.out, rfl⟩
theorem grC {w : World} {b : Nat} {A : Array Value} {t : TypeId} (h : w.heap[b]? = some (.cells A t (0, 0))) (j : Nat) {v : Value} (hv : A[j]? = some v) (n : Nat) (os : Array Obj) : (grow (w.drewN n) os).cell? ⟨b, j, none⟩ = some v := by
  refine cell_grown (lt_of_heap h) ?_ n os
  rw [cell_of_row _ _ _ _ _ _ h, hv]
theorem gr_same {a b : World} (h : b = a) : ∃ q os', b = grow (a.drewN q) os' := ⟨0, #[], by rw [h, grow_empty]; rfl⟩
set_option maxRecDepth 100000 in
set_option maxHeartbeats 2000000 in
theorem order_any (x y : Src) (w : World) : Calls Tryz.prog 14 #[.agg (srcCells x).toArray, .agg (srcCells y).toArray] w fun e w' => e = .returned (.int .i64 (srcC x y)) ∧ GrB w w' := by
  show Calls Tryz.prog 14 #[.agg #[.string x.dev, .int .i64 x.seq], .agg #[.string y.dev, .int .i64 y.seq]] w _
  go_enter Tryz.func14, Tryz.ntmps14
  go_upto_region 1 with (fail)
  have n0 := alloc2_0 w (.cells #[.string x.dev, .int .i64 x.seq] 32) (.cells #[.string y.dev, .int .i64 y.seq] 32)
  have n1 := alloc2_1 w (.cells #[.string x.dev, .int .i64 x.seq] 32) (.cells #[.string y.dev, .int .i64 y.seq] 32)
  have hb : GrB w ((w.alloc (.cells #[.string x.dev, .int .i64 x.seq] 32)).alloc (.cells #[.string y.dev, .int .i64 y.seq] 32)) := ((GrB.refl w).alloc _).alloc _
  obtain ⟨wa, hwa⟩ : ∃ wa, (w.alloc (.cells #[.string x.dev, .int .i64 x.seq] 32)).alloc (.cells #[.string y.dev, .int .i64 y.seq] 32) = wa := ⟨_, rfl⟩
  rw [hwa] at n0 n1 hb ⊢
  clear hwa
  have HB := Lib.hid hb
  clear hb
  have a0 := fun n os => grC n0 0 (v := .string x.dev) rfl n os
  have a1 := fun n os => grC n0 1 (v := .int .i64 x.seq) rfl n os
  have b0 := fun n os => grC n1 0 (v := .string y.dev) rfl n os
  have b1 := fun n os => grC n1 1 (v := .int .i64 y.seq) rfl n os
  clear n0 n1
  refine wp_region_grown_tail 10 (by kernel_rfl) (by kernel_rfl) ?_
  simp only [List.take_succ_cons, List.take_zero, List.drop_succ_cons, List.drop_zero]
  (repeat (quiet_step (first
                         | (go_at_call 34; with_reducible exact Calls.grown_of ((Compare_int_any _ _ _).mono (fun _ _ h => ⟨h.1, gr_same h.2⟩)))
                         | (go_at_call 33; with_reducible exact Calls.grown_of ((Compare_string_any _ _ _).mono (fun _ _ h => ⟨h.1, gr_same h.2⟩))))))
  refine wpQuiet_nil ?_
  intro wq hq
  have HQ := Lib.hid (show GrB wa wq from by obtain ⟨⟨n, os⟩, rfl⟩ := hq; exact ⟨n, os, rfl⟩)
  clear hq a0 a1 b0 b1
  have HR := Lib.hid (show srcC x y = orL [cmpS x.dev y.dev, cmpI x.seq y.seq] from rfl)
  generalize cmpS x.dev y.dev = z0 at *
  generalize cmpI x.seq y.seq = z1 at *
  have HOR := Lib.hid (show ∀ (g : Nat) (w : World), Row 3 w g [z0, z1] → Calls Tryz.prog 32 #[.slice (some ⟨g, 0, none⟩) 2 2] w fun e w' => e = .returned (.int .i64 (orL [z0, z1])) ∧ w' = w from fun g w h => Or_any [z0, z1] g w h (by simp))
  go_wp2_with (go_at_call 32; refine (HOR.out _ _ (by exact heap_alloc_new _ _)).mono ?_; rintro e w' ⟨rfl, rfl⟩)
  go_ret
  exact ⟨ret_int HR.out, (HB.out.trans HQ.out).alloc _⟩
/-- the cells of a row of sources -/
theorem src_row {S : Nat → Prop} {w : World} {v : Value} {l : List Src} (h : SlIs tSrc S w v l) :
    ∃ ao cap b off, v = .slice ao l.length cap ∧ l.length ≤ cap ∧ cap ≤ maxLen ∧ ∀ w', SameOn S w w' → ∀ k (_ : k < l.length), ao = some ⟨b, off, none⟩ ∧ S b ∧ b < w.heap.size ∧ SrcOk l[k] ∧
      w'.cell? ⟨b, off + k * 2, none⟩ = some (.string l[k].dev) ∧ w'.cell? ⟨b, off + k * 2 + 1, none⟩ = some (.int .i64 l[k].seq) := by
  obtain ⟨ao, cap, b, off, hv, h1, h2, h3⟩ := h.openS
  refine ⟨ao, cap, b, off, hv, h1, h2, fun w' hw k hk => ?_⟩
  obtain ⟨g1, g2, g2', cs, g3, g4⟩ := h3 w' hw k hk
  obtain ⟨rfl, g5⟩ := tSrc_is g4
  exact ⟨g1, g2, g2', g5, g3 0 (by decide), g3 1 (by decide)⟩
end Go.Proofs.YtelnnjofccldgaaGreatDoor.Fu
