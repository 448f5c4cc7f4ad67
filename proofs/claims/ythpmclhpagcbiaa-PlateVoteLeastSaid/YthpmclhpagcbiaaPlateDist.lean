/-
  Layer 10 (plate): the walks: Distance, Same.
-/
import Derived.Test.YthpmclhpagcbiaaPlateLike
import Derived.Test.YthpmclhpagcbiaaMid
namespace Go.Proofs.Ythpmclhpagcbiaa
open Go.RowKit Go.Tw Go.Tw.Plate

theorem hmake (n : Nat) (hn : n ≤ 1000) (w : World) : (Instr.makeSlice 37 (.int .i64 ((n : Int) + 1)) (.int .i64 ((n : Int) + 1))).run Try.prog w = .ok (.slice (some ⟨w.heap.size, 0, none⟩) (n + 1) (n + 1)) (w.alloc (.cells (madeCells #[.int .i64 0] (n + 1)) 3)) := by
  obtain ⟨i, hi, hz, hs, hb⟩ := info_parts (show (Try.prog.info? 3).map (fun i => (i.zero, i.size, i.bytes)) = some (some (.int .i64 0), 1, 8) by kernel_rfl)
  have := run_make (P := Try.prog) w 37 3 i (.int .i64 0) Try.underlying37 hi hz .i64 .i64 ((n : Int) + 1) ((n : Int) + 1) (by omega) (Int.le_refl _) (by rw [hb]; omega) (by omega)
  rw [this, show ((n : Int) + 1).toNat = n + 1 by omega, hs, Nat.mul_one]
  rfl

theorem ints_set (l : List Int) (i : Nat) (x : Int) : (ints l).setIfInBounds i (.int .i64 x) = ints (l.set i x) := by
  simp [ints, List.map_set]
theorem made_set {t : TypeId} {w : World} {n i : Nat} {x : Int} {l : List Int} (h : (List.replicate n 0).set i x = l) : Row t (w.alloc (.cells ((madeCells #[.int .i64 0] n).setIfInBounds i (.int .i64 x)) t)) w.heap.size l := by
  have e : (madeCells #[.int .i64 0] n).setIfInBounds i (.int .i64 x) = ints l := by
    rw [ints_made, ← h, ints_set]
  rw [e]
  exact heap_alloc_new _ _
theorem Row.setD {t : TypeId} {w : World} {g : Nat} {A B : List Int} {n i j : Nat} {x : Int} (h : Row t w g (rowP A B n i j)) (hx : D A B (i + 1) (j + 1) = x) : Row t (w.setCell ⟨g, j + 1, none⟩ (.int .i64 x)) g (rowP A B n i (j + 1)) := by
  rw [← rowP_set, hx]
  exact h.set _ _
set_option maxRecDepth 100000 in
set_option maxHeartbeats 4000000 in
theorem Distance_any (s t : ByteArray) (w : World) (hs : s.size ≤ 1000000) (ht : t.size ≤ 1000000) :
    Calls Try.prog 16 #[.string s, .string t] w fun e w' => e = .returned (.int .i64 (distS s t)) ∧ Below w.heap.size w w' := by
  have HR := Lib.hid (show distS s t = dist (codes (s.extract 0 (min s.size 32))) (codes (t.extract 0 (min t.size 32))) by rw [codes_first, codes_first]; rfl)
  have hsa := first_size s
  have hsb := first_size t
  go_enter Try.func16, Try.ntmps16
  go_wp2_with (fail)
  refine (first_any s _ hs).mono ?_
  rintro e w' ⟨rfl, rfl⟩
  go_wp2_with (fail)
  refine (first_any t _ ht).mono ?_
  rintro e w' ⟨rfl, rfl⟩
  generalize s.extract 0 (min s.size 32) = a at *
  generalize t.extract 0 (min t.size 32) = b at *
  have hmk := hmake b.size (by omega)
  go_wp2
  go_loopg [21] (b.size + 1) (fun g i wr => ∃ k : Nat, k + g = b.size + 1 ∧ i = .int .i64 k ∧ Row 3 wr w.heap.size (row0 (b.size + 1) k) ∧ Below w.heap.size w wr)
  case atStart => exact ⟨0, by omega, rfl, by rw [← row0_start]; exact Row.made w _, bl_alloc (Below.refl _ _) _⟩
  case round =>
    obtain ⟨k, hk, rfl, hrow, hb1⟩ := hrel
    by_cases hlt : k < b.size + 1
    · have k0 : (0 : Int) ≤ (k : Int) := by omega
      have k1 : (k : Int) < (b.size : Int) + 1 := by omega
      have hc := hrow.cell (show k < (row0 (b.size + 1) k).length by rw [row0_len]; exact hlt)
      have hf := hrow.free k
      have hw3 : IntKind.i64.wrap (3 * (k : Int)) = 3 * (k : Int) := wrap_in (by omega) (by omega)
      have hr2 := hrow.set k (3 * (k : Int))
      rw [row0_set] at hr2
      have HR2 := Lib.hid hr2
      clear hr2 hrow
      go_wp2
      go_roundg (b.size + 1 - (k + 1))
      case measure => omega
      case rel => exact ⟨k + 1, by omega, by go_num, HR2.out, bl_set hb1 _ (Nat.le_refl _)⟩
    · obtain rfl : k = b.size + 1 := by omega
      rw [row0_end (codes a) (codes b)] at hrow
      have HR0 := Lib.hid hrow; clear hrow hlt hk
      go_wp2
      go_loopg [32, 5] a.size (fun g' i v wr => ∃ (i' g : Nat), i' + g' = a.size ∧ i = .int .i64 i' ∧ v = .slice (some ⟨g, 0, none⟩) (b.size + 1) (b.size + 1) ∧ Row 3 wr g (rowL (codes a) (codes b) (b.size + 1) i') ∧ w.heap.size ≤ g ∧ Below w.heap.size w wr)
      case atStart => exact ⟨0, w.heap.size, by omega, rfl, rfl, HR0.out, Nat.le_refl _, hb1⟩
      case round =>
        obtain ⟨wo, rfl⟩ : ∃ wo : World, wo = wr := ⟨_, rfl⟩
        obtain ⟨i, g, hi, rfl, rfl, hrow, hg, hb2⟩ := hrel
        by_cases hlt : i < a.size
        case neg =>
          obtain rfl : i = a.size := by omega
          have hc := hrow.cell (show b.size < (rowL (codes a) (codes b) (b.size + 1) a.size).length by rw [rowL_len]; omega)
          rw [rowL_get _ _ (by omega)] at hc
          have hgl := hrow.lt
          have n0 : (0 : Int) ≤ (b.size : Int) := by omega
          have n1 : (b.size : Int) < (b.size : Int) + 1 := by omega
          clear hrow hlt hi
          go_wp2
          go_ret
          exact ⟨ret_int (by rw [HR.out]; unfold dist; rw [codes_len, codes_len]), hb2⟩
        have hgl := hrow.lt
        have i0 : (0 : Int) ≤ (i : Int) := by omega
        have i1 : (i : Int) < (a.size : Int) := by omega
        have hw1 : IntKind.i64.wrap ((i : Int) + 1) = (i : Int) + 1 := wrap_in (by omega) (by omega)
        have hw3 : IntKind.i64.wrap (3 * ((i : Int) + 1)) = 3 * ((i : Int) + 1) := wrap_in (by omega) (by omega)
        have HRow := Lib.hid hrow
        have hm0 := Row.made (t := 3) wo (b.size + 1)
        have hc0 : (wo.alloc (.cells (madeCells #[.int .i64 0] (b.size + 1)) 3)).cell? ⟨wo.heap.size, 0, none⟩ = some (.int .i64 0) := by
          have := hm0.cell (k := 0) (by simp)
          simpa using this
        have hf0 := hm0.free 0
        have HM1 := Lib.hid (made_set (t := 3) (w := wo) (n := b.size + 1) (i := 0) (x := 3 * ((i : Int) + 1)) (l := rowP (codes a) (codes b) (b.size + 1) i 0) (rowP_start _ _ _ _))
        have HB2 := Lib.hid hb2
        have hs2 := hb2.size
        clear hm0 hrow
        go_wp2
        go_loopg [46] b.size (fun g'' i' wi => ∃ j : Nat, j + g'' = b.size ∧ i' = .int .i64 j ∧ Row 3 wi g (rowL (codes a) (codes b) (b.size + 1) i) ∧ Row 3 wi wo.heap.size (rowP (codes a) (codes b) (b.size + 1) i j) ∧ Below w.heap.size w wi)
        case atStart => exact ⟨0, by omega, rfl, HRow.out.alloc _, HM1.out, bl_alloc HB2.out _⟩
        case round =>
          obtain ⟨j, hj, rfl, hr1, hr2, hb3⟩ := hrel
          by_cases hjl : j < b.size
          case neg =>
            obtain rfl : j = b.size := by omega
            rw [rowP_end _ _ (Nat.le_refl _)] at hr2
            have HR2 := Lib.hid hr2
            clear hr2 hr1 hc0 hf0 hjl hj
            go_wp2
            go_roundg (a.size - (i + 1))
            case measure => omega
            case rel => exact ⟨i + 1, wo.heap.size, by omega, by go_num, rfl, HR2.out, hs2, hb3⟩
          have hA : (codes a).getD i 0 = (a[i].toNat : Int) := by
            rw [List.getD_eq_getElem?_getD, List.getElem?_eq_getElem (by rw [codes_len]; exact hlt), Option.getD_some, codes_get a hlt]
          have hB : (codes b).getD j 0 = (b[j].toNat : Int) := by
            rw [List.getD_eq_getElem?_getD, List.getElem?_eq_getElem (by rw [codes_len]; exact hjl), Option.getD_some, codes_get b hjl]
          have HD := Lib.hid (show D (codes a) (codes b) (i + 1) (j + 1) = min (min (D (codes a) (codes b) i j + chg (a[i].toNat : Int) (b[j].toNat : Int)) (D (codes a) (codes b) i (j + 1) + 3)) (D (codes a) (codes b) (i + 1) j + 3) by rw [D, hA, hB])
          have c1 := hr1.cell (show j < (rowL (codes a) (codes b) (b.size + 1) i).length by rw [rowL_len]; omega)
          have c2 := hr1.cell (show j + 1 < (rowL (codes a) (codes b) (b.size + 1) i).length by rw [rowL_len]; omega)
          have c3 := hr2.cell (show j < (rowP (codes a) (codes b) (b.size + 1) i j).length by rw [rowP_len]; omega)
          have c4 := hr2.cell (show j + 1 < (rowP (codes a) (codes b) (b.size + 1) i j).length by rw [rowP_len]; omega)
          rw [rowL_get _ _ (by omega)] at c1 c2
          rw [rowP_get _ _ (by omega) (Nat.le_refl _)] at c3
          have cf := hr2.free
          have d1 := D_range (codes a) (codes b) i j
          have d2 := D_range (codes a) (codes b) i (j + 1)
          have d3 := D_range (codes a) (codes b) (i + 1) j
          have hgl1 := hr1.lt
          have hgl2 := hr2.lt
          have HR1 := Lib.hid hr1
          have HR2 := Lib.hid hr2
          have ha0 : (a[i].toNat : Int) ≤ 255 := by have := a[i].toNat_lt; omega
          have hb0 : (b[j].toNat : Int) ≤ 255 := by have := b[j].toNat_lt; omega
          have hLike : isByte (a[i].toNat : Int) ∧ isByte (b[j].toNat : Int) := by unfold isByte; omega
          have HL := Lib.hid hLike
          clear hA hB hr1 hr2 hc0 hf0 hLike
          generalize hx1 : D (codes a) (codes b) i j = x1 at *
          generalize hx2 : D (codes a) (codes b) i (j + 1) = x2 at *
          generalize hx3 : D (codes a) (codes b) (i + 1) j = x3 at *
          have y1 : 0 ≤ x1 ∧ x1 ≤ 1000 := by omega
          have y2 : 0 ≤ x2 ∧ x2 ≤ 1000 := by omega
          have y3 : 0 ≤ x3 ∧ x3 ≤ 1000 := by omega
          obtain ⟨y11, y12⟩ := y1
          obtain ⟨y21, y22⟩ := y2
          obtain ⟨y31, y32⟩ := y3
          clear d1 d2 d3 hx1 hx2 hx3
          have j0 : (0 : Int) ≤ (j : Int) := by omega
          have j1 : (j : Int) < (b.size : Int) := by omega
          have j2 : (j : Int) + 1 < (b.size : Int) + 1 := by omega
          have j3 : (0 : Int) ≤ (j : Int) + 1 := by omega
          have j4 : ((j : Int) + 1).toNat = j + 1 := by omega
          have hwj : IntKind.i64.wrap ((j : Int) + 1) = (j : Int) + 1 := wrap_in (by omega) (by omega)
          have j5 : (j : Int) < (b.size : Int) + 1 := by omega
          rcases beq_cases (a[i].toNat : Int) (b[j].toNat : Int) with heq | heq
          · have HE := Lib.hid (show chg (a[i].toNat : Int) (b[j].toNat : Int) = 0 by unfold chg; rw [if_pos (by simpa using heq)])
            go_wp2_with (go_quiet (fail))
            refine wp_region_mid 22 _ rfl (by kernel_rfl) (by kernel_rfl) ?_
            simp only [List.take_succ_cons, List.take_zero, List.drop_succ_cons, List.drop_zero]
            (repeat still_step)
            refine wpStill_nil ?_
            intro Qm hQm
            all_goals
              go_wp2
            all_goals
              (repeat still_step)
              refine wpStill_nil ?_
            all_goals
              go_wp2
              go_roundg (b.size - (j + 1))
              case measure => omega
              case rel =>
                refine ⟨j + 1, by omega, by go_num, ?_, ?_, ?_⟩
                · exact (HR1.out.drewN 0).other (by simp; omega) _
                · exact Row.setD HR2.out (by rw [HD.out, HE.out]; omega)
                · first | exact (bl_set (p := ⟨wo.heap.size, j + 1, none⟩) hb3 _ hs2).drew | exact bl_set (p := ⟨wo.heap.size, j + 1, none⟩) (bl_drewN hb3 _) _ hs2 | exact bl_drewN (bl_set (p := ⟨wo.heap.size, j + 1, none⟩) hb3 _ hs2) _
          · have hne : ¬ ((a[i].toNat : Int) = (b[j].toNat : Int)) := by simpa using heq
            rcases Bool.eq_false_or_eq_true (like (a[i].toNat : Int) (b[j].toNat : Int)) with hlk | hlk
            · have HE := Lib.hid (show chg (a[i].toNat : Int) (b[j].toNat : Int) = 1 by unfold chg; rw [if_neg hne, if_pos hlk])
              have HLK := Lib.hid hlk
              clear hlk hne
              go_wp2_with (go_quiet (fail))
              refine wp_region_mid 6 _ rfl (by kernel_rfl) (by kernel_rfl) ?_
              simp only [List.take_succ_cons, List.take_zero, List.drop_succ_cons, List.drop_zero]
              (repeat still_step)
              refine wpStill_nil ?_
              intro Qm hQm
              go_wp2_with (
                go_at_call 14
                refine (Like_any _ _ _ HL.out.1 HL.out.2).mono ?_
                rintro e w5 ⟨rfl, hb5⟩
                rw [HLK.out])
              (repeat still_step)
              refine wpStill_nil ?_
              replace hb3 := (bl_drewN hb3 _).trans (hb5.mono hb3.size)
              replace HR1 := Lib.hid (HR1.out.keep (hb5.block g hgl1))
              replace HR2 := Lib.hid (HR2.out.keep (hb5.block wo.heap.size hgl2))
              replace c1 := (hb5.cell (p := ⟨g, j, none⟩) hgl1).trans c1
              replace c2 := (hb5.cell (p := ⟨g, j + 1, none⟩) hgl1).trans c2
              replace c3 := (hb5.cell (p := ⟨wo.heap.size, j, none⟩) hgl2).trans c3
              replace c4 := (hb5.cell (p := ⟨wo.heap.size, j + 1, none⟩) hgl2).trans c4
              replace cf := HR2.out.free
              replace hgl1 := HR1.out.lt
              replace hgl2 := HR2.out.lt
              clear hb5
              go_wp2_with (fail)
              refine wp_region_mid 22 _ rfl (by kernel_rfl) (by kernel_rfl) ?_
              simp only [List.take_succ_cons, List.take_zero, List.drop_succ_cons, List.drop_zero]
              (repeat still_step)
              refine wpStill_nil ?_
              intro Qm hQm
              all_goals
                go_wp2
              all_goals
                (repeat still_step)
                refine wpStill_nil ?_
              all_goals
                go_wp2
                go_roundg (b.size - (j + 1))
                case measure => omega
                case rel =>
                  refine ⟨j + 1, by omega, by go_num, ?_, ?_, ?_⟩
                  · exact (HR1.out.drewN 0).other (by simp; omega) _
                  · exact Row.setD HR2.out (by rw [HD.out, HE.out]; omega)
                  · first | exact (bl_set (p := ⟨wo.heap.size, j + 1, none⟩) hb3 _ hs2).drew | exact bl_set (p := ⟨wo.heap.size, j + 1, none⟩) (bl_drewN hb3 _) _ hs2 | exact bl_drewN (bl_set (p := ⟨wo.heap.size, j + 1, none⟩) hb3 _ hs2) _
            · have HE := Lib.hid (show chg (a[i].toNat : Int) (b[j].toNat : Int) = 3 by unfold chg; rw [if_neg hne, if_neg (by simp [hlk])])
              have HLK := Lib.hid hlk
              clear hlk hne
              go_wp2_with (go_quiet (fail))
              refine wp_region_mid 6 _ rfl (by kernel_rfl) (by kernel_rfl) ?_
              simp only [List.take_succ_cons, List.take_zero, List.drop_succ_cons, List.drop_zero]
              (repeat still_step)
              refine wpStill_nil ?_
              intro Qm hQm
              go_wp2_with (
                go_at_call 14
                refine (Like_any _ _ _ HL.out.1 HL.out.2).mono ?_
                rintro e w5 ⟨rfl, hb5⟩
                rw [HLK.out])
              (repeat still_step)
              refine wpStill_nil ?_
              replace hb3 := (bl_drewN hb3 _).trans (hb5.mono hb3.size)
              replace HR1 := Lib.hid (HR1.out.keep (hb5.block g hgl1))
              replace HR2 := Lib.hid (HR2.out.keep (hb5.block wo.heap.size hgl2))
              replace c1 := (hb5.cell (p := ⟨g, j, none⟩) hgl1).trans c1
              replace c2 := (hb5.cell (p := ⟨g, j + 1, none⟩) hgl1).trans c2
              replace c3 := (hb5.cell (p := ⟨wo.heap.size, j, none⟩) hgl2).trans c3
              replace c4 := (hb5.cell (p := ⟨wo.heap.size, j + 1, none⟩) hgl2).trans c4
              replace cf := HR2.out.free
              replace hgl1 := HR1.out.lt
              replace hgl2 := HR2.out.lt
              clear hb5
              go_wp2_with (fail)
              refine wp_region_mid 22 _ rfl (by kernel_rfl) (by kernel_rfl) ?_
              simp only [List.take_succ_cons, List.take_zero, List.drop_succ_cons, List.drop_zero]
              (repeat still_step)
              refine wpStill_nil ?_
              intro Qm hQm
              all_goals
                go_wp2
              all_goals
                (repeat still_step)
                refine wpStill_nil ?_
              all_goals
                go_wp2
                go_roundg (b.size - (j + 1))
                case measure => omega
                case rel =>
                  refine ⟨j + 1, by omega, by go_num, ?_, ?_, ?_⟩
                  · exact (HR1.out.drewN 0).other (by simp; omega) _
                  · exact Row.setD HR2.out (by rw [HD.out, HE.out]; omega)
                  · first | exact (bl_set (p := ⟨wo.heap.size, j + 1, none⟩) hb3 _ hs2).drew | exact bl_set (p := ⟨wo.heap.size, j + 1, none⟩) (bl_drewN hb3 _) _ hs2 | exact bl_drewN (bl_set (p := ⟨wo.heap.size, j + 1, none⟩) hb3 _ hs2) _
end Go.Proofs.Ythpmclhpagcbiaa
