/-
  Layer 10 (plate): the walks: the reference's Distance, Same.
-/
import Derived.Test.YthpmclhpagcbiaaPlateDist
import Derived.Test.YthpmclhpagcbiaaMid2
namespace Go.Tw.Plate
open Go.RowKit
/-- row i of the table up to place k, as the reference appends it -/
def rowT (A B : List Int) (i k : Nat) : List Int := (List.range k).map (D A B i)
theorem rowT_len (A B : List Int) (i k : Nat) : (rowT A B i k).length = k := by simp [rowT]
theorem rowT_get (A B : List Int) {i k j : Nat} (h : j < k) : (rowT A B i k)[j]'(by rw [rowT_len]; exact h) = D A B i j := by simp [rowT]
theorem rowT_snoc (A B : List Int) (i k : Nat) : rowT A B i (k + 1) = rowT A B i k ++ [D A B i k] := by simp [rowT, List.range_succ]
end Go.Tw.Plate
namespace Go.Proofs.Ythpmclhpagcbiaa
open Go.RowKit Go.Tw Go.Tw.Plate

theorem slInt : SlT Try.prog 37 3 1 8 := SlT.of (z := .int .i64 0) Try.underlying37 (by kernel_rfl) rfl (by decide)
theorem same_of {d : Int} : decide (d ≤ 2) = decide (d ≤ 2) := rfl
theorem Same_any (s t : ByteArray) (w : World) (hs : s.size ≤ 1000000) (ht : t.size ≤ 1000000) :
    Calls Try.prog 18 #[.string s, .string t] w fun e w' => e = .returned (.bool (decide (distS s t ≤ 2))) ∧ Below w.heap.size w w' := by
  go_enter Try.func18, Try.ntmps18
  go_wp2_with (go_at_call 16; refine (Distance_any s t _ hs ht).mono ?_; rintro e w' ⟨rfl, hb⟩)
  go_ret
  exact ⟨rfl, hb⟩

theorem least_q (a b : Int) (w : World) : Calls Try.prog 31 #[.int .i64 a, .int .i64 b] w fun e w' => e = .returned (.int .i64 (min a b)) ∧ w' = w := (least_any a b w).mono fun _ _ ⟨h1, h2⟩ => ⟨h1, h2.symm⟩
set_option maxRecDepth 100000 in
set_option maxHeartbeats 4000000 in
theorem DistanceR_any (s t : ByteArray) (w : World) (hs : s.size ≤ 1000000) (ht : t.size ≤ 1000000) :
    Calls Try.prog 17 #[.string s, .string t] w fun e w' => e = .returned (.int .i64 (distS s t)) ∧ Below w.heap.size w w' := by
  have HR := Lib.hid (show distS s t = dist (codes (s.extract 0 (min s.size 32))) (codes (t.extract 0 (min t.size 32))) by rw [codes_first, codes_first]; rfl)
  have hsa := first_size s
  have hsb := first_size t
  go_enter Try.func17, Try.ntmps17
  go_wp2_with (fail)
  refine (cut_any s _ hs).mono ?_
  rintro e w' ⟨rfl, rfl⟩
  go_wp2_with (fail)
  refine (cut_any t _ ht).mono ?_
  rintro e w' ⟨rfl, rfl⟩
  generalize s.extract 0 (min s.size 32) = a at *
  generalize t.extract 0 (min t.size 32) = b at *
  go_wp2
  go_loopg [8, 7] (b.size + 1) (fun g i v wr => ∃ k : Nat, k + g = b.size + 1 ∧ i = .int .i64 k ∧ OwnSl tInt 3 w.heap.size wr v (rowT (codes a) (codes b) 0 k) ∧ Below w.heap.size w wr)
  case atStart => exact ⟨0, by omega, rfl, OwnSl.nil _ _ _ _, Below.refl _ _⟩
  case round =>
    obtain ⟨k, hk, rfl, hown, hb1⟩ := hrel
    have hsb1 := hb1.size
    have HO := Lib.hid hown
    obtain ⟨ao, cap, rfl, ho1, ho2⟩ := hown.form
    rw [rowT_len] at ho1
    unfold maxLen at ho2
    clear hown
    by_cases hlt : k < b.size + 1
    · have k0 : (0 : Int) ≤ (k : Int) := by omega
      have k1 : (k : Int) ≤ (b.size : Int) := by omega
      have hw3 : IntKind.i64.wrap (3 * (k : Int)) = 3 * (k : Int) := wrap_in (by omega) (by omega)
      go_wp2_with (
        at_builtin
        refine wpList_append_one (.tmp 23) (.tmp 26) rfl 37 rfl slInt rfl HO.out rfl (S := fun _ => False) (y := 3 * (k : Int)) ⟨rfl, by unfold i64ok; omega⟩ (fun _ h => h.elim) (by rw [rowT_len]; omega) (by rw [rowT_len]; unfold maxLen; omega) hsb1 ?_
        intro v' w2 ho2 hg2 hb2)
      go_roundg (b.size + 1 - (k + 1))
      case measure => omega
      case rel => exact ⟨k + 1, by omega, by go_num, by rw [rowT_snoc, show D (codes a) (codes b) 0 k = 3 * (k : Int) by rw [D]]; exact ho2, hb1.trans hb2⟩
    · obtain rfl : k = b.size + 1 := by omega
      clear hlt hk
      have hrow0 := HO.out.sl
      have HR0 := Lib.hid hrow0; clear hrow0
      go_wp2
      go_loopg [9, 7] a.size (fun g' i v wr => ∃ p : Nat, p + g' = a.size ∧ i = .int .i64 ((p : Int) + 1) ∧ SlIs tInt (· < wr.heap.size) wr v (rowT (codes a) (codes b) p (b.size + 1)) ∧ Below w.heap.size w wr)
      case atStart => exact ⟨0, by omega, rfl, HR0.out, hb1⟩
      case round =>
        obtain ⟨wo, rfl⟩ : ∃ wo : World, wo = wr := ⟨_, rfl⟩
        obtain ⟨p, hp, rfl, hrow, hb2⟩ := hrel
        obtain ⟨ra, rc, rb, roff, rfl, hq1, hq2, hq3⟩ := ints_open hrow
        rw [rowT_len] at hq1
        unfold maxLen at hq2
        have HQ := Lib.hid hq3; clear hq3 hrow
        by_cases hlt : p < a.size
        case neg =>
          obtain rfl : p = a.size := by omega
          obtain ⟨rfl, hgl, hc, -⟩ := HQ.out wo (Below.refl _ _) b.size (by rw [rowT_len]; omega)
          rw [rowT_get _ _ (by omega)] at hc
          have n0 : (0 : Int) ≤ (b.size : Int) := by omega
          have n1 : (b.size : Int) < (b.size : Int) + 1 := by omega
          clear hlt hp
          rw [rowT_len]
          go_wp2
          go_ret
          exact ⟨ret_int (by rw [HR.out]; unfold dist; rw [codes_len, codes_len]), hb2⟩
        rw [rowT_len]
        have p1 : (p : Int) + 1 ≤ (a.size : Int) := by omega
        have hw3 : IntKind.i64.wrap (3 * ((p : Int) + 1)) = 3 * ((p : Int) + 1) := wrap_in (by omega) (by omega)
        have HN := Lib.hid (show OwnSl tInt 3 wo.heap.size (wo.alloc (.cells #[.int .i64 (3 * ((p : Int) + 1))] 3)) (.slice (some ⟨wo.heap.size, 0, none⟩) 1 1) (rowT (codes a) (codes b) (p + 1) 1) from
          OwnSl.lit (css := [[.int .i64 (3 * ((p : Int) + 1))]]) (l := rowT (codes a) (codes b) (p + 1) 1) rfl ⟨⟨by simp [D], by simp [D]; unfold i64ok; omega⟩, trivial⟩ (Nat.le_refl _) (by simp [rowT]; decide))
        have HB2 := Lib.hid hb2
        have hs2 := hb2.size
        go_wp2
        go_loopg [11, 10] b.size (fun g'' i' v wi => ∃ j : Nat, j + g'' = b.size ∧ i' = .int .i64 ((j : Int) + 1) ∧ OwnSl tInt 3 wo.heap.size wi v (rowT (codes a) (codes b) (p + 1) (j + 1)) ∧ Below wo.heap.size wo wi)
        case atStart => exact ⟨0, by omega, rfl, HN.out, bl_alloc (Below.refl _ _) _⟩
        case round =>
          obtain ⟨j, hj, rfl, hown, hb3⟩ := hrel
          by_cases hjl : j < b.size
          case neg =>
            obtain rfl : j = b.size := by omega
            have HS := Lib.hid hown.sl
            have hb4 := HB2.out.trans (hb3.mono hs2)
            clear hown hjl hj
            go_wp2
            go_roundg (a.size - (p + 1))
            case measure => omega
            case rel => exact ⟨p + 1, by omega, by go_num, HS.out, hb4⟩
          have hA : (codes a).getD p 0 = (a[p].toNat : Int) := by
            rw [List.getD_eq_getElem?_getD, List.getElem?_eq_getElem (by rw [codes_len]; exact hlt), Option.getD_some, codes_get a hlt]
          have hB : (codes b).getD j 0 = (b[j].toNat : Int) := by
            rw [List.getD_eq_getElem?_getD, List.getElem?_eq_getElem (by rw [codes_len]; exact hjl), Option.getD_some, codes_get b hjl]
          have HD := Lib.hid (show D (codes a) (codes b) (p + 1) (j + 1) = min (min (D (codes a) (codes b) p j + chg (a[p].toNat : Int) (b[j].toNat : Int)) (D (codes a) (codes b) p (j + 1) + 3)) (D (codes a) (codes b) (p + 1) j + 3) by rw [D, hA, hB])
          obtain ⟨rfl, hrb, c1, -⟩ := HQ.out wr hb3 j (by rw [rowT_len]; omega)
          obtain ⟨-, -, c2, -⟩ := HQ.out wr hb3 (j + 1) (by rw [rowT_len]; omega)
          rw [rowT_get _ _ (by omega)] at c1 c2
          obtain ⟨na, nc, nb, noff, rfl, hn1, hn2, hn3⟩ := ints_open hown.sl
          obtain ⟨rfl, hnb, c3, -⟩ := hn3 wr (Below.refl _ _) j (by rw [rowT_len]; omega)
          rw [rowT_get _ _ (by omega)] at c3
          rw [rowT_len] at hn1
          unfold maxLen at hn2
          have d1 := D_range (codes a) (codes b) p j
          have d2 := D_range (codes a) (codes b) p (j + 1)
          have d3 := D_range (codes a) (codes b) (p + 1) j
          rw [rowT_len] at hown
          have HO := Lib.hid hown
          have ha0 : (a[p].toNat : Int) ≤ 255 := by have := a[p].toNat_lt; omega
          have hb0 : (b[j].toNat : Int) ≤ 255 := by have := b[j].toNat_lt; omega
          have hLike : isByte (a[p].toNat : Int) ∧ isByte (b[j].toNat : Int) := by unfold isByte; omega
          have HL := Lib.hid hLike
          have hrb2 : rb < wr.heap.size := Nat.lt_of_lt_of_le hrb hb3.size
          have HDD := Lib.hid (show i64ok (D (codes a) (codes b) (p + 1) (j + 1)) by have := D_range (codes a) (codes b) (p + 1) (j + 1); unfold i64ok; omega)
          clear hA hB hown hLike hn3
          generalize hx1 : D (codes a) (codes b) p j = x1 at *
          generalize hx2 : D (codes a) (codes b) p (j + 1) = x2 at *
          generalize hx3 : D (codes a) (codes b) (p + 1) j = x3 at *
          have y1 : 0 ≤ x1 ∧ x1 ≤ 1000 := by omega
          have y2 : 0 ≤ x2 ∧ x2 ≤ 1000 := by omega
          have y3 : 0 ≤ x3 ∧ x3 ≤ 1000 := by omega
          obtain ⟨y11, y12⟩ := y1
          obtain ⟨y21, y22⟩ := y2
          obtain ⟨y31, y32⟩ := y3
          clear d1 d2 d3 hx1 hx2 hx3
          have j0 : (0 : Int) ≤ (j : Int) := by omega
          have j1 : (j : Int) < (b.size : Int) := by omega
          have j2 : (j : Int) + 1 ≤ (b.size : Int) := by omega
          have j4 : ((j : Int) + 1).toNat = j + 1 := by omega
          have j5 : (0 : Int) ≤ (j : Int) + 1 := by omega
          have j6 : (j : Int) + 1 < (b.size : Int) + 1 := by omega
          have j7 : (j : Int) < (b.size : Int) + 1 := by omega
          have p0 : (0 : Int) ≤ (p : Int) := by omega
          have p2 : (p : Int) < (a.size : Int) := by omega
          have hlen : (rowT (codes a) (codes b) (p + 1) (j + 1)).length = j + 1 := rowT_len _ _ _ _
          rw [hlen]
          have HLEN := Lib.hid hlen
          clear hlen
          have mn1 : 0 ≤ min x2 x3 := by omega
          have mn2 : min x2 x3 ≤ 1000 := by omega
          have hsz3 := hb3.size
          rcases beq_cases (a[p].toNat : Int) (b[j].toNat : Int) with heq | heq
          · have HE := Lib.hid (show chg (a[p].toNat : Int) (b[j].toNat : Int) = 0 by unfold chg; rw [if_pos (by simpa using heq)])
            go_wp2_with (go_quiet (fail))
            have e1 : IntKind.i64.wrap (j : Int) = (j : Int) := wrap_in (by omega) (by omega)
            have e2 : IntKind.i64.wrap ((j : Int) + 1 - 1) = (j : Int) := by rw [Int.add_sub_cancel]; exact e1
            have e3 : IntKind.i64.wrap x1 = x1 := wrap_in (by omega) (by omega)
            have e4 : IntKind.i64.wrap (x1 + 1) = x1 + 1 := wrap_in (by omega) (by omega)
            have e5 : IntKind.i64.wrap (x1 + 3) = x1 + 3 := wrap_in (by omega) (by omega)
            have e6 : IntKind.i64.wrap (min x2 x3 + 3) = min x2 x3 + 3 := wrap_in (by omega) (by omega)
            have e7 : (j : Int) < (j : Int) + 1 := by omega
            refine wp_region_any (by kernel_rfl) ?_
            change wpAny _ _ _ _ _ _ _ (World.drewN _ 1)
            refine wpAny_take (fuel := 22) (i := 0) (v := ?_) rfl (by kernel_rfl) (by kernel_rfl) (by kernel_rfl) (fun _ _ _ h => h) (Or.inl ⟨by rfl, ?_⟩) ?_
            rotate_left
            focus (intro w9; go_simp; with_reducible rfl)
            refine any_tailE 1 20 _ (by kernel_rfl) (by kernel_rfl) (by decide) (by decide) ?_
            simp only [List.take_succ_cons, List.take_zero, List.drop_succ_cons, List.drop_zero]
            (repeat (first | (still_call (least_q _ _ _)) | still_step))
            refine wpStill_nil ?_
            clear e1 e2 e3 e4 e5 e6 e7
            go_wp2_with (
              at_builtin
              refine wpList_append_one (.tmp 61) (.tmp 81) rfl 37 rfl slInt rfl (HO.out.below ?_) rfl (S := fun _ => False) (y := D (codes a) (codes b) (p + 1) (j + 1)) ⟨congrArg (fun x => [Value.int .i64 x]) (by rw [HD.out, HE.out]; omega), HDD.out⟩ (fun _ h => h.elim) (by rw [HLEN.out]; omega) (by rw [HLEN.out]; unfold maxLen; omega) hsz3 ?_
              focus (first | exact (Below.refl _ _).drew | exact bl_drewN (Below.refl _ _) _)
              intro v' w2 ho2 hg2 hb2')
            go_roundg (b.size - (j + 1))
            case measure => omega
            case rel => exact ⟨j + 1, by omega, by go_num, by rw [rowT_snoc]; exact ho2, (by first | exact (bl_drewN hb3 _).trans hb2' | exact hb3.drew.trans hb2')⟩
          · have hne : ¬ ((a[p].toNat : Int) = (b[j].toNat : Int)) := by simpa using heq
            rcases Bool.eq_false_or_eq_true (like (a[p].toNat : Int) (b[j].toNat : Int)) with hlk | hlk
            · have HE := Lib.hid (show chg (a[p].toNat : Int) (b[j].toNat : Int) = 1 by unfold chg; rw [if_neg hne, if_pos hlk])
              have HLK := Lib.hid hlk
              clear hlk hne
              go_wp2_with (go_quiet (fail))
              have e1 : IntKind.i64.wrap (j : Int) = (j : Int) := wrap_in (by omega) (by omega)
              have e2 : IntKind.i64.wrap (p : Int) = (p : Int) := wrap_in (by omega) (by omega)
              refine wp_region_mid 8 _ rfl (by kernel_rfl) (by kernel_rfl) ?_
              simp only [List.take_succ_cons, List.take_zero, List.drop_succ_cons, List.drop_zero]
              (repeat still_step)
              refine wpStill_nil ?_
              intro Qm hQm
              go_wp2_with (
                go_at_call 15
                refine (LikeR_any _ _ _).mono ?_
                rintro e w5 ⟨rfl, hb5⟩
                rw [HLK.out])
              (repeat still_step)
              refine wpStill_nil ?_
              clear e1 e2
              replace HO := Lib.hid ((HO.out.drewN _).below hb5)
              replace c1 := (hb5.cell (p := ⟨rb, roff + j, none⟩) hrb2).trans c1
              replace c2 := (hb5.cell (p := ⟨rb, roff + (j + 1), none⟩) hrb2).trans c2
              replace c3 := (hb5.cell (p := ⟨nb, noff + j, none⟩) hnb).trans c3
              replace hrb2 := Nat.lt_of_lt_of_le hrb2 hb5.size
              replace hnb := Nat.lt_of_lt_of_le hnb hb5.size
              replace hsz3 := Nat.le_trans hsz3 hb5.size
              replace hb3 := (bl_drewN hb3 _).trans (hb5.mono hb3.size)
              clear hb5
              go_wp2_with (fail)
              have e1 : IntKind.i64.wrap (j : Int) = (j : Int) := wrap_in (by omega) (by omega)
              have e2 : IntKind.i64.wrap ((j : Int) + 1 - 1) = (j : Int) := by rw [Int.add_sub_cancel]; exact e1
              have e3 : IntKind.i64.wrap x1 = x1 := wrap_in (by omega) (by omega)
              have e4 : IntKind.i64.wrap (x1 + 1) = x1 + 1 := wrap_in (by omega) (by omega)
              have e5 : IntKind.i64.wrap (x1 + 3) = x1 + 3 := wrap_in (by omega) (by omega)
              have e6 : IntKind.i64.wrap (min x2 x3 + 3) = min x2 x3 + 3 := wrap_in (by omega) (by omega)
              have e7 : (j : Int) < (j : Int) + 1 := by omega
              refine wp_region_any (by kernel_rfl) ?_
              change wpAny _ _ _ _ _ _ _ (World.drewN _ 1)
              refine wpAny_take (fuel := 22) (i := 0) (v := ?_) rfl (by kernel_rfl) (by kernel_rfl) (by kernel_rfl) (fun _ _ _ h => h) (Or.inl ⟨by rfl, ?_⟩) ?_
              rotate_left
              focus (intro w9; go_simp; with_reducible rfl)
              refine any_tailE 1 20 _ (by kernel_rfl) (by kernel_rfl) (by decide) (by decide) ?_
              simp only [List.take_succ_cons, List.take_zero, List.drop_succ_cons, List.drop_zero]
              (repeat (first | (still_call (least_q _ _ _)) | still_step))
              refine wpStill_nil ?_
              clear e1 e2 e3 e4 e5 e6 e7
              go_wp2_with (
                at_builtin
                refine wpList_append_one (.tmp 61) (.tmp 81) rfl 37 rfl slInt rfl (HO.out.below ?_) rfl (S := fun _ => False) (y := D (codes a) (codes b) (p + 1) (j + 1)) ⟨congrArg (fun x => [Value.int .i64 x]) (by rw [HD.out, HE.out]; omega), HDD.out⟩ (fun _ h => h.elim) (by rw [HLEN.out]; omega) (by rw [HLEN.out]; unfold maxLen; omega) hsz3 ?_
                focus (first | exact (Below.refl _ _).drew | exact bl_drewN (Below.refl _ _) _)
                intro v' w2 ho2 hg2 hb2')
              go_roundg (b.size - (j + 1))
              case measure => omega
              case rel => exact ⟨j + 1, by omega, by go_num, by rw [rowT_snoc]; exact ho2, (by first | exact (bl_drewN hb3 _).trans hb2' | exact hb3.drew.trans hb2')⟩
            · have HE := Lib.hid (show chg (a[p].toNat : Int) (b[j].toNat : Int) = 3 by unfold chg; rw [if_neg hne, if_neg (by simp [hlk])])
              have HLK := Lib.hid hlk
              clear hlk hne
              go_wp2_with (go_quiet (fail))
              have e1 : IntKind.i64.wrap (j : Int) = (j : Int) := wrap_in (by omega) (by omega)
              have e2 : IntKind.i64.wrap (p : Int) = (p : Int) := wrap_in (by omega) (by omega)
              refine wp_region_mid 8 _ rfl (by kernel_rfl) (by kernel_rfl) ?_
              simp only [List.take_succ_cons, List.take_zero, List.drop_succ_cons, List.drop_zero]
              (repeat still_step)
              refine wpStill_nil ?_
              intro Qm hQm
              go_wp2_with (
                go_at_call 15
                refine (LikeR_any _ _ _).mono ?_
                rintro e w5 ⟨rfl, hb5⟩
                rw [HLK.out])
              (repeat still_step)
              refine wpStill_nil ?_
              clear e1 e2
              replace HO := Lib.hid ((HO.out.drewN _).below hb5)
              replace c1 := (hb5.cell (p := ⟨rb, roff + j, none⟩) hrb2).trans c1
              replace c2 := (hb5.cell (p := ⟨rb, roff + (j + 1), none⟩) hrb2).trans c2
              replace c3 := (hb5.cell (p := ⟨nb, noff + j, none⟩) hnb).trans c3
              replace hrb2 := Nat.lt_of_lt_of_le hrb2 hb5.size
              replace hnb := Nat.lt_of_lt_of_le hnb hb5.size
              replace hsz3 := Nat.le_trans hsz3 hb5.size
              replace hb3 := (bl_drewN hb3 _).trans (hb5.mono hb3.size)
              clear hb5
              go_wp2_with (fail)
              have e1 : IntKind.i64.wrap (j : Int) = (j : Int) := wrap_in (by omega) (by omega)
              have e2 : IntKind.i64.wrap ((j : Int) + 1 - 1) = (j : Int) := by rw [Int.add_sub_cancel]; exact e1
              have e3 : IntKind.i64.wrap x1 = x1 := wrap_in (by omega) (by omega)
              have e4 : IntKind.i64.wrap (x1 + 1) = x1 + 1 := wrap_in (by omega) (by omega)
              have e5 : IntKind.i64.wrap (x1 + 3) = x1 + 3 := wrap_in (by omega) (by omega)
              have e6 : IntKind.i64.wrap (min x2 x3 + 3) = min x2 x3 + 3 := wrap_in (by omega) (by omega)
              have e7 : (j : Int) < (j : Int) + 1 := by omega
              refine wp_region_any (by kernel_rfl) ?_
              change wpAny _ _ _ _ _ _ _ (World.drewN _ 1)
              refine wpAny_take (fuel := 22) (i := 0) (v := ?_) rfl (by kernel_rfl) (by kernel_rfl) (by kernel_rfl) (fun _ _ _ h => h) (Or.inl ⟨by rfl, ?_⟩) ?_
              rotate_left
              focus (intro w9; go_simp; with_reducible rfl)
              refine any_tailE 1 20 _ (by kernel_rfl) (by kernel_rfl) (by decide) (by decide) ?_
              simp only [List.take_succ_cons, List.take_zero, List.drop_succ_cons, List.drop_zero]
              (repeat (first | (still_call (least_q _ _ _)) | still_step))
              refine wpStill_nil ?_
              clear e1 e2 e3 e4 e5 e6 e7
              go_wp2_with (
                at_builtin
                refine wpList_append_one (.tmp 61) (.tmp 81) rfl 37 rfl slInt rfl (HO.out.below ?_) rfl (S := fun _ => False) (y := D (codes a) (codes b) (p + 1) (j + 1)) ⟨congrArg (fun x => [Value.int .i64 x]) (by rw [HD.out, HE.out]; omega), HDD.out⟩ (fun _ h => h.elim) (by rw [HLEN.out]; omega) (by rw [HLEN.out]; unfold maxLen; omega) hsz3 ?_
                focus (first | exact (Below.refl _ _).drew | exact bl_drewN (Below.refl _ _) _)
                intro v' w2 ho2 hg2 hb2')
              go_roundg (b.size - (j + 1))
              case measure => omega
              case rel => exact ⟨j + 1, by omega, by go_num, by rw [rowT_snoc]; exact ho2, (by first | exact (bl_drewN hb3 _).trans hb2' | exact hb3.drew.trans hb2')⟩
end Go.Proofs.Ythpmclhpagcbiaa
