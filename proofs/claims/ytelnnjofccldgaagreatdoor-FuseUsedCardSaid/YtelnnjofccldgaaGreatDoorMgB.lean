/-
  Layers 13, 14: the walks of the comparisons: cmp.Compare, cmp.Or, detect.raw, detect.Compare.
-/
import Derived.Test.YtelnnjofccldgaaGreatDoorGrpP
import Derived.Test.YtelnnjofccldgaaGreatDoorQuietT
import Derived.Test.YtelnnjofccldgaaGreatDoorShelf
namespace Go.Proofs.YtelnnjofccldgaaGreatDoor
open Go.RowKit Go.Tw Go.Tw.Ord Go.Tw.Grp Go.Sort
theorem isNaN_string_any (a : ByteArray) (w : World) :
    Calls Tryz.prog 61 #[.string a] w fun e w' => e = .returned (.bool false) ∧ w' = w := by
  have h1 : (a.toList == a.toList) = true := by simp
  go_enter Tryz.func61, Tryz.ntmps61
  go_wp2
  go_ret
  exact ⟨rfl, rfl⟩
theorem cmpS_eq (a b : ByteArray) : cmpS a b = (if Op.bytesLess a.toList b.toList = true then -1 else if (a.toList == b.toList) = true then 0 else 1) := by
  unfold cmpS
  rw [less_str, eq_str]
  simp only [decide_eq_true_eq]
theorem cmpI_eq (x y : Int) : Lib.compareInt x y = cmpI x y := by
  unfold Lib.compareInt cmpI
  rfl
set_option maxHeartbeats 1000000 in
theorem Compare_string_any (a b : ByteArray) (w : World) :
    Calls Tryz.prog 33 #[.string a, .string b] w fun e w' => e = .returned (.int .i64 (cmpS a b)) ∧ w' = w := by
  have hq := cmpS_eq a b
  rcases Bool.eq_false_or_eq_true (Op.bytesLess a.toList b.toList) with h1 | h1
  all_goals rcases Bool.eq_false_or_eq_true (a.toList == b.toList) with h2 | h2
  all_goals
    have HR := hq
    rw [h1, h2] at HR
    have HR' := Lib.hid HR
    clear HR
    have HQ := Lib.hid hq
    clear hq
    go_enter Tryz.func33, Tryz.ntmps33
    go_wp2_with (go_at_call 61; refine (isNaN_string_any _ _).mono ?_; rintro e w' ⟨rfl, rfl⟩)
    go_ret
    exact ⟨ret_int HR'.out, rfl⟩
theorem Compare_int_any (x y : Int) (w : World) :
    Calls Tryz.prog 34 #[.int .i64 x, .int .i64 y] w fun e w' => e = .returned (.int .i64 (cmpI x y)) ∧ w' = w := by
  rw [← cmpI_eq]
  exact Tryz.cmp_Compare_int x y w
set_option maxHeartbeats 1000000 in
theorem Or_any (l : List Int) (g : Nat) (w : World) (h : Row 3 w g l) (hl : l.length ≤ 100) :
    Calls Tryz.prog 32 #[.slice (some ⟨g, 0, none⟩) l.length l.length] w fun e w' => e = .returned (.int .i64 (orL l)) ∧ w' = w := by
  have HC := Lib.hid h
  clear h
  go_enter Tryz.func32, Tryz.ntmps32
  go_wp2
  go_loopg [8] l.length (fun gx i wr => ∃ k : Nat, k + gx = l.length ∧ i = .int .i64 k ∧ orL l = orL (l.drop k) ∧ wr = w)
  case atStart => exact ⟨0, by omega, rfl, rfl, rfl⟩
  case round =>
    obtain ⟨k, hk, rfl, he, rfl⟩ := hrel
    have HE := Lib.hid he
    clear he
    by_cases hlt : k < l.length
    · have k0 : (0 : Int) ≤ (k : Int) := by omega
      have k1 : (k : Int) < (l.length : Int) := by omega
      have c0 := HC.out.cell hlt
      have HD := Lib.hid (show orL (l.drop k) = if l[k] = 0 then orL (l.drop (k + 1)) else l[k] by rw [List.drop_eq_getElem_cons hlt, orL])
      obtain ⟨y, hy⟩ : ∃ y, l[k] = y := ⟨_, rfl⟩
      rw [hy] at c0 HD
      clear hy
      by_cases hz : y = 0
      · subst hz
        go_wp2
        go_roundg (l.length - (k + 1))
        case measure => omega
        case rel => exact ⟨k + 1, by omega, by go_num, by rw [HE.out, HD.out]; simp, rfl⟩
      · have hz' : (y != 0) = true := by simp [hz]
        have HZ := Lib.hid hz
        clear hz
        go_wp2
        go_ret
        exact ⟨ret_int (HE.out.trans (HD.out.trans (if_neg HZ.out))), rfl⟩
    · have hkl : ¬ (k : Int) < (l.length : Int) := by omega
      have HN := Lib.hid (show orL l = 0 by rw [HE.out, List.drop_eq_nil_of_le (by omega), orL])
      go_wp2
      go_ret
      exact ⟨ret_int HN.out, rfl⟩
def detVal (x : Seen) : Value := .agg #[.string x.dev, .int .i64 x.seq, .int .i64 x.dtm, .string x.tag, .string x.plt, .int .i64 x.axl, .int .i64 x.sco]
def detCells (x : Seen) : Array Value := #[.string x.dev, .int .i64 x.seq, .int .i64 x.dtm, .string x.tag, .string x.plt, .int .i64 x.axl, .int .i64 x.sco]
theorem grC {w : World} {b : Nat} {A : Array Value} {t : TypeId} (h : w.heap[b]? = some (.cells A t (0, 0))) (j : Nat) {v : Value} (hv : A[j]? = some v) (n : Nat) (os : Array Obj) : (grow (w.drewN n) os).cell? ⟨b, j, none⟩ = some v := by
  refine cell_grown (lt_of_heap h) ?_ n os
  rw [cell_of_row _ _ _ _ _ _ h, hv]
theorem gr_same {a b : World} (h : b = a) : ∃ q os', b = grow (a.drewN q) os' := ⟨0, #[], by rw [h, grow_empty]; rfl⟩
set_option maxRecDepth 100000 in
set_option maxHeartbeats 4000000 in
theorem raw_any (x y : Seen) (w : World) : Calls Tryz.prog 90 #[detVal x, detVal y] w fun e w' => e = .returned (.int .i64 (rawC x y)) ∧ GrB w w' := by
  show Calls Tryz.prog 90 #[.agg #[.string x.dev, .int .i64 x.seq, .int .i64 x.dtm, .string x.tag, .string x.plt, .int .i64 x.axl, .int .i64 x.sco], .agg #[.string y.dev, .int .i64 y.seq, .int .i64 y.dtm, .string y.tag, .string y.plt, .int .i64 y.axl, .int .i64 y.sco]] w _
  go_enter Tryz.func90, Tryz.ntmps90
  go_upto_region 1 with (fail)
  have n0 := alloc2_0 w (.cells (detCells x) 61) (.cells (detCells y) 61)
  have n1 := alloc2_1 w (.cells (detCells x) 61) (.cells (detCells y) 61)
  have hb : GrB w ((w.alloc (.cells (detCells x) 61)).alloc (.cells (detCells y) 61)) := ((GrB.refl w).alloc _).alloc _
  simp only [detCells] at n0 n1 hb
  obtain ⟨wa, hwa⟩ : ∃ wa, (w.alloc (.cells #[.string x.dev, .int .i64 x.seq, .int .i64 x.dtm, .string x.tag, .string x.plt, .int .i64 x.axl, .int .i64 x.sco] 61)).alloc (.cells #[.string y.dev, .int .i64 y.seq, .int .i64 y.dtm, .string y.tag, .string y.plt, .int .i64 y.axl, .int .i64 y.sco] 61) = wa := ⟨_, rfl⟩
  rw [hwa] at n0 n1 hb ⊢
  clear hwa
  have HB := Lib.hid hb
  clear hb
  have a0 := fun n os => grC n0 0 (v := .string x.dev) rfl n os
  have a1 := fun n os => grC n0 1 (v := .int .i64 x.seq) rfl n os
  have a2 := fun n os => grC n0 2 (v := .int .i64 x.dtm) rfl n os
  have a3 := fun n os => grC n0 3 (v := .string x.tag) rfl n os
  have a4 := fun n os => grC n0 4 (v := .string x.plt) rfl n os
  have a5 := fun n os => grC n0 5 (v := .int .i64 x.axl) rfl n os
  have a6 := fun n os => grC n0 6 (v := .int .i64 x.sco) rfl n os
  have b0 := fun n os => grC n1 0 (v := .string y.dev) rfl n os
  have b1 := fun n os => grC n1 1 (v := .int .i64 y.seq) rfl n os
  have b2 := fun n os => grC n1 2 (v := .int .i64 y.dtm) rfl n os
  have b3 := fun n os => grC n1 3 (v := .string y.tag) rfl n os
  have b4 := fun n os => grC n1 4 (v := .string y.plt) rfl n os
  have b5 := fun n os => grC n1 5 (v := .int .i64 y.axl) rfl n os
  have b6 := fun n os => grC n1 6 (v := .int .i64 y.sco) rfl n os
  clear n0 n1
  refine wp_region_grown_tail 35 (by kernel_rfl) (by kernel_rfl) ?_
  simp only [List.take_succ_cons, List.take_zero, List.drop_succ_cons, List.drop_zero]
  (repeat (quiet_step (first
                         | (go_at_call 34; with_reducible exact Calls.grown_of ((Compare_int_any _ _ _).mono (fun _ _ h => ⟨h.1, gr_same h.2⟩)))
                         | (go_at_call 33; with_reducible exact Calls.grown_of ((Compare_string_any _ _ _).mono (fun _ _ h => ⟨h.1, gr_same h.2⟩))))))
  refine wpQuiet_nil ?_
  intro wq hq
  have HQ := Lib.hid (show GrB wa wq from by obtain ⟨⟨n, os⟩, rfl⟩ := hq; exact ⟨n, os, rfl⟩)
  clear hq a0 a1 a2 a3 a4 a5 a6 b0 b1 b2 b3 b4 b5 b6
  have HR := Lib.hid (show rawC x y = orL [cmpS x.dev y.dev, cmpI x.seq y.seq, cmpI x.dtm y.dtm, cmpS x.tag y.tag, cmpS x.plt y.plt, cmpI x.axl y.axl, cmpI x.sco y.sco] from rfl)
  generalize cmpS x.dev y.dev = z0 at *
  generalize cmpI x.seq y.seq = z1 at *
  generalize cmpI x.dtm y.dtm = z2 at *
  generalize cmpS x.tag y.tag = z3 at *
  generalize cmpS x.plt y.plt = z4 at *
  generalize cmpI x.axl y.axl = z5 at *
  generalize cmpI x.sco y.sco = z6 at *
  have HOR := Lib.hid (show ∀ (g : Nat) (w : World), Row 3 w g [z0, z1, z2, z3, z4, z5, z6] → Calls Tryz.prog 32 #[.slice (some ⟨g, 0, none⟩) 7 7] w fun e w' => e = .returned (.int .i64 (orL [z0, z1, z2, z3, z4, z5, z6])) ∧ w' = w from fun g w h => Or_any [z0, z1, z2, z3, z4, z5, z6] g w h (by simp))
  go_wp2_with (go_at_call 32; refine (HOR.out _ _ (by exact heap_alloc_new _ _)).mono ?_; rintro e w' ⟨rfl, rfl⟩)
  go_ret
  exact ⟨ret_int HR.out, (HB.out.trans HQ.out).alloc _⟩
end Go.Proofs.YtelnnjofccldgaaGreatDoor
/-
  Layer 13: the walk of detect.Compare.
-/
namespace Go.Proofs.YtelnnjofccldgaaGreatDoor
open Go.RowKit Go.Tw Go.Tw.Ord Go.Tw.Grp Go.Sort
set_option maxRecDepth 100000 in
set_option maxHeartbeats 4000000 in
theorem seen_cmp (x y : Seen) (w : World) : Calls Tryz.prog 64 #[.agg (sCells x).toArray, .agg (sCells y).toArray] w fun e w' => e = .returned (.int .i64 (seenC x y)) ∧ GrB w w' := by
  obtain ⟨A, hA⟩ : ∃ A, (sCells x).toArray = A := ⟨_, rfl⟩
  obtain ⟨B, hB⟩ : ∃ A, (sCells y).toArray = A := ⟨_, rfl⟩
  rw [hA, hB]
  have HA := Lib.hid hA
  have HB' := Lib.hid hB
  clear hA hB
  go_enter Tryz.func64, Tryz.ntmps64
  go_upto_region 1 with (fail)
  have n0 := alloc2_0 w (.cells A 63) (.cells B 63)
  have n1 := alloc2_1 w (.cells A 63) (.cells B 63)
  have hb : GrB w ((w.alloc (.cells A 63)).alloc (.cells B 63)) := ((GrB.refl w).alloc _).alloc _
  obtain ⟨wa, hwa⟩ : ∃ wa, (w.alloc (.cells A 63)).alloc (.cells B 63) = wa := ⟨_, rfl⟩
  rw [hwa] at n0 n1 hb ⊢
  clear hwa
  have HB := Lib.hid hb
  clear hb
  have a0 := fun n os => grC n0 0 (v := .string x.dev) (by rw [← HA.out]; rfl) n os
  have a1 := fun n os => grC n0 1 (v := .int .i64 x.seq) (by rw [← HA.out]; rfl) n os
  have a2 := fun n os => grC n0 2 (v := .int .i64 x.dtm) (by rw [← HA.out]; rfl) n os
  have a3 := fun n os => grC n0 3 (v := .string x.tag) (by rw [← HA.out]; rfl) n os
  have a4 := fun n os => grC n0 4 (v := .string x.plt) (by rw [← HA.out]; rfl) n os
  have a5 := fun n os => grC n0 5 (v := .int .i64 x.axl) (by rw [← HA.out]; rfl) n os
  have a6 := fun n os => grC n0 6 (v := .int .i64 x.sco) (by rw [← HA.out]; rfl) n os
  have a7 := fun n os => grC n0 7 (v := .int .i64 x.tm) (by rw [← HA.out]; rfl) n os
  have a8 := fun n os => grC n0 8 (v := .string x.pt) (by rw [← HA.out]; rfl) n os
  have a9 := fun n os => grC n0 9 (v := .int .i64 x.ln) (by rw [← HA.out]; rfl) n os
  have a10 := fun n os => grC n0 10 (v := .int .i64 x.kd) (by rw [← HA.out]; rfl) n os
  have b0 := fun n os => grC n1 0 (v := .string y.dev) (by rw [← HB'.out]; rfl) n os
  have b1 := fun n os => grC n1 1 (v := .int .i64 y.seq) (by rw [← HB'.out]; rfl) n os
  have b2 := fun n os => grC n1 2 (v := .int .i64 y.dtm) (by rw [← HB'.out]; rfl) n os
  have b3 := fun n os => grC n1 3 (v := .string y.tag) (by rw [← HB'.out]; rfl) n os
  have b4 := fun n os => grC n1 4 (v := .string y.plt) (by rw [← HB'.out]; rfl) n os
  have b5 := fun n os => grC n1 5 (v := .int .i64 y.axl) (by rw [← HB'.out]; rfl) n os
  have b6 := fun n os => grC n1 6 (v := .int .i64 y.sco) (by rw [← HB'.out]; rfl) n os
  have b7 := fun n os => grC n1 7 (v := .int .i64 y.tm) (by rw [← HB'.out]; rfl) n os
  have b8 := fun n os => grC n1 8 (v := .string y.pt) (by rw [← HB'.out]; rfl) n os
  have b9 := fun n os => grC n1 9 (v := .int .i64 y.ln) (by rw [← HB'.out]; rfl) n os
  have b10 := fun n os => grC n1 10 (v := .int .i64 y.kd) (by rw [← HB'.out]; rfl) n os
  clear n0 n1
  have hraw := fun W => raw_any x y W
  simp only [detVal] at hraw
  refine wp_region_grown_tail 25 (by kernel_rfl) (by kernel_rfl) ?_
  simp only [List.take_succ_cons, List.take_zero, List.drop_succ_cons, List.drop_zero]
  (repeat (quiet_step (first
    | (go_at_call 90; with_reducible exact Calls.grown_of (hraw _))
    | (first
         | (go_at_call 34; with_reducible exact Calls.grown_of ((Compare_int_any _ _ _).mono (fun _ _ h => ⟨h.1, gr_same h.2⟩)))
         | (go_at_call 33; with_reducible exact Calls.grown_of ((Compare_string_any _ _ _).mono (fun _ _ h => ⟨h.1, gr_same h.2⟩)))))))
  refine wpQuiet_nil ?_
  intro wq hq
  have HQ := Lib.hid (show GrB wa wq from by obtain ⟨⟨n, os⟩, rfl⟩ := hq; exact ⟨n, os, rfl⟩)
  clear hq a0 a1 a2 a3 a4 a5 a6 a7 a8 a9 a10 b0 b1 b2 b3 b4 b5 b6 b7 b8 b9 b10 hraw
  have HR := Lib.hid (show seenC x y = orL [cmpI x.tm y.tm, cmpS x.pt y.pt, cmpI x.kd y.kd, cmpI x.ln y.ln, rawC x y] from rfl)
  generalize cmpI x.tm y.tm = z0 at *
  generalize cmpS x.pt y.pt = z1 at *
  generalize cmpI x.kd y.kd = z2 at *
  generalize cmpI x.ln y.ln = z3 at *
  generalize rawC x y = z4 at *
  have HOR := Lib.hid (show ∀ (g : Nat) (w : World), Row 3 w g [z0, z1, z2, z3, z4] → Calls Tryz.prog 32 #[.slice (some ⟨g, 0, none⟩) 5 5] w fun e w' => e = .returned (.int .i64 (orL [z0, z1, z2, z3, z4])) ∧ w' = w from fun g w h => Or_any [z0, z1, z2, z3, z4] g w h (by simp))
  go_wp2_with (go_at_call 32; refine (HOR.out _ _ (by exact heap_alloc_new _ _)).mono ?_; rintro e w' ⟨rfl, rfl⟩)
  go_ret
  exact ⟨ret_int HR.out, (HB.out.trans HQ.out).alloc _⟩
end Go.Proofs.YtelnnjofccldgaaGreatDoor
