/-
  Layer 6 (match): the walks of With and Ties.
-/
import Derived.Test.YtepceaoccnmkiaaMatchBuild
namespace Go.Tw.Match
open Go.RowKit
/-- the demands of With: row i has column j -/
def fixL (n i : Nat) (j : Int) : List Int := (List.replicate n (-2)).set i j
theorem fixL_len (n i : Nat) (j : Int) : (fixL n i j).length = n := by simp [fixL]
def withC (m : Mat) (i j : Int) : Int × Bool :=
  if chk m ≠ 0 ∨ i < 0 ∨ (m.row.length : Int) ≤ i ∨ j < -1 ∨ (m.col.length : Int) ≤ j then (0, false)
  else if mn (costs m (fixL m.row.length i.toNat j) m.row.length 0 0) < 0 then (0, false) else (mn (costs m (fixL m.row.length i.toNat j) m.row.length 0 0), true)
def tiesC (m : Mat) : Int × Int := if chk m ≠ 0 then (0, chk m) else (tieN (costs m (List.replicate m.row.length (-2)) m.row.length 0 0), 0)
end Go.Tw.Match
namespace Go.Proofs.Ytepceaoccnmkiaa
open Go.RowKit Go.Tw Go.Tw.Match
/-- row 0, mask 0 of a filled table -/
theorem Tab.at0 {B : Nat} {w : World} {p : Nat} {vc vr vl vf : Value} {gL cL gW cW : Nat} {bl bw : List Nat} {all n : Nat} {f g : Nat → Nat → Int} (T : Tab B w p vc vr vl vf gL cL gW cW bl bw all (rowsF f n all 0 all) (rowsF g n all 0 all)) (hl : bl.length = n + 1) (hw : bw.length = n + 1) (ha : 0 < all) :
    ∃ b d, w.cell? ⟨p, 4, none⟩ = some (.slice (some ⟨gL, 0, none⟩) (n + 1) cL) ∧ w.cell? ⟨p, 5, none⟩ = some (.slice (some ⟨gW, 0, none⟩) (n + 1) cW) ∧ w.cell? ⟨gL, 0, none⟩ = some (.slice (some ⟨b, 0, none⟩) all all) ∧ w.cell? ⟨b, 0, none⟩ = some (.int .i64 (f 0 0)) ∧
      w.cell? ⟨gW, 0, none⟩ = some (.slice (some ⟨d, 0, none⟩) all all) ∧ w.cell? ⟨d, 0, none⟩ = some (.int .i64 (g 0 0)) := by
  obtain ⟨y0, y1, y2, y3, y4, y5, yf⟩ := blk6 T.blk
  rw [rowsF_len] at y4 y5
  have h1 := T.least.outer 0 (by omega)
  have h2 := T.least.row 0 (by omega) (by rw [rowsF_len]; omega)
  have h3 := T.ways.outer 0 (by omega)
  have h4 := T.ways.row 0 (by omega) (by rw [rowsF_len]; omega)
  have e : ∀ (f : Nat → Nat → Int) (h : 0 < (rowsF f n all 0 all).length), (rowsF f n all 0 all)[0] = (List.range all).map fun q => if 0 < 0 ∨ (0 = 0 ∧ q < all) then f 0 q else 0 := fun f h => by simp [rowsF]
  rw [e] at h2 h4
  have c2 := h2.cell (k := 0) (by simp; exact ha)
  have c4 := h4.cell (k := 0) (by simp; exact ha)
  simp [ha] at c2 c4
  exact ⟨_, _, y4, y5, h1, c2, h3, c4⟩
theorem ret_wb {a : Int} {b : Bool} {o : Int × Bool} (h : o = (a, b)) : Ending.returned (.tuple #[.int .i64 a, .bool b]) = .returned (.tuple #[.int .i64 o.1, .bool o.2]) := by rw [h]
set_option maxRecDepth 100000 in
set_option maxHeartbeats 4000000 in
theorem with_any (m : Mat) (i j : Int) (vc vr vl : Value) (w : World) (h : MatIs w vc vr vl m) (hi64 : i64ok i) (hj64 : i64ok j) :
    Calls Try.prog 23 #[.agg #[vc, vr, vl], .int .i64 i, .int .i64 j] w fun e w' => e = .returned (.tuple #[.int .i64 (withC m i j).1, .bool (withC m i j).2]) ∧ Below w.heap.size w w' := by
  have HM := Lib.hid h
  obtain ⟨ac, cc, bc, oc, ar, cr, br, or, al, cl, bl, ol, rfl, rfl, rfl, hm⟩ := h.at
  obtain ⟨cc1, cc2, cr1, cr2, cl1, cl2, -, -, -⟩ := hm
  clear h
  unfold i64ok at hi64 hj64
  have HB := Lib.hid (BoxW.start w (.slice ac m.cost.length cc) (.slice ar m.row.length cr) (.slice al m.col.length cl))
  have hbad : (chk m ≠ 0 ∨ i < 0 ∨ (m.row.length : Int) ≤ i ∨ j < -1 ∨ (m.col.length : Int) ≤ j) → Hid (withC m i j = (0, false)) := fun q => by show withC m i j = _; unfold withC; rw [if_pos q]
  by_cases hc : chk m = 0
  case neg =>
    have hcn : (chk m != 0) = true := by rw [bne_iff_ne]; exact hc
    have HT := hbad (.inl hc); clear hc hbad
    go_enter Try.func23, Try.ntmps23
    go_wp2_with (fail)
    refine (check_any m _ _ _ _ (HM.out.step (bl_alloc (Below.refl _ _) _))).mono ?_
    rintro e w1 ⟨rfl, hb1⟩
    have HB1 := Lib.hid (HB.out.below hb1); clear hb1
    go_wp2
    go_ret2
    exact ⟨ret_wb HT.out, HB1.out.2⟩
  have hcn : (chk m != 0) = false := by rw [bne_eq_false_iff_eq]; exact hc
  have hok := chk_ok.1 hc
  have HC := Lib.hid hc; clear hc
  have HBAD := Lib.hid hbad; clear hbad
  go_enter Try.func23, Try.ntmps23
  go_wp2_with (fail)
  refine (check_any m _ _ _ _ (HM.out.step (bl_alloc (Below.refl _ _) _))).mono ?_
  rintro e w1 ⟨rfl, hb1⟩
  have HB1 := Lib.hid (HB.out.below hb1); clear hb1
  clear HB
  have HB := HB1
  clear HB1
  obtain ⟨x0, x1, x2, xf⟩ := blk3 HB.out.1
  by_cases h1 : i < 0
  · have HT := HBAD.out (.inr (.inl h1))
    go_wp2
    go_ret2
    exact ⟨ret_wb HT.out, HB.out.2⟩
  by_cases h2 : (m.row.length : Int) ≤ i
  · have HT := HBAD.out (.inr (.inr (.inl h2)))
    go_wp2
    go_ret2
    exact ⟨ret_wb HT.out, HB.out.2⟩
  by_cases h3 : j < -1
  · have HT := HBAD.out (.inr (.inr (.inr (.inl h3))))
    go_wp2
    go_ret2
    exact ⟨ret_wb HT.out, HB.out.2⟩
  by_cases h4 : (m.col.length : Int) ≤ j
  · have HT := HBAD.out (.inr (.inr (.inr (.inr h4))))
    go_wp2
    go_ret2
    exact ⟨ret_wb HT.out, HB.out.2⟩
  have HT := Lib.hid (show withC m i j = if mn (costs m (fixL m.row.length i.toNat j) m.row.length 0 0) < 0 then (0, false) else (mn (costs m (fixL m.row.length i.toNat j) m.row.length 0 0), true) by
    unfold withC; rw [if_neg (by have := HC.out; omega)])
  go_wp2_with (fail)
  refine (free_any m _ _ _ _ (HM.out.step HB.out.2) hok.n8).mono ?_
  rintro e w2 ⟨⟨g, rfl, hg, hcl⟩, hb2⟩
  rw [List.length_replicate]
  have HB2 := Lib.hid (HB.out.below hb2)
  have hsz := HB.out.2.size
  have hg1 : w.heap.size + 1 ≤ g := by have := lt_of_heap HB.out.1; omega
  have y0 := hcl.cell (k := i.toNat) (by simp; omega)
  have y1 := hcl.free i.toNat
  have HF := Lib.hid (hcl.setR (i := i.toNat) (x := j) (l' := fixL m.row.length i.toNat j) rfl)
  clear hb2 hcl x0 x1 x2 xf HB
  have HB := Lib.hid (HB2.out.store (d := g) (off := i.toNat) (v := .int .i64 j) hg1)
  obtain ⟨x0, x1, x2, xf⟩ := blk3 HB.out.1
  have i0 : 0 ≤ i := by omega
  have i1 : i < (m.row.length : Int) := by omega
  have HSL := Lib.hid (show SlIs tInt (· < (w2.setCell ⟨g, i.toNat, none⟩ (.int .i64 j)).heap.size) (w2.setCell ⟨g, i.toNat, none⟩ (.int .i64 j)) (.slice (some ⟨g, 0, none⟩) m.row.length m.row.length) (fixL m.row.length i.toNat j) by
    have hgl := HF.out.lt
    have := Cells.sl HF.out (cap := m.row.length) (fun x hx => by
      unfold fixL at hx
      rcases List.mem_or_eq_of_mem_set hx with q | rfl
      · rw [(List.mem_replicate.1 q).2]; unfold i64ok; omega
      · unfold i64ok; omega) (by rw [fixL_len]; exact Nat.le_refl _) (by have := hok.n8; unfold maxLen; omega)
    rw [fixL_len] at this
    exact this.keep (fun k hk => by show k < _; rw [hk]; exact hgl) (SameOn.refl _ _))
  go_wp2_with (fail)
  refine (build_any m hok (fixL m.row.length i.toNat j) _ _ _ _ _ (HM.out.step HB.out.2) HSL.out (fixL_len _ _ _)).mono ?_
  rintro e w3 ⟨⟨p, gL, cL, gW, cW, bL, bW, rfl, hp, T, hl, hw⟩, hb3⟩
  have HB3 := Lib.hid (bl_trans HB.out.2 hb3)
  obtain ⟨all, hall⟩ : ∃ all, 2 ^ m.col.length = all := ⟨_, rfl⟩
  have hpos : 0 < all := by rw [← hall]; exact Nat.two_pow_pos _
  rw [hall] at T
  obtain ⟨b, d, z0, z1, z2, z3, z4, z5⟩ := T.at0 hl hw hpos
  have c1 := T.hcl
  have c2 := T.hcl2
  rw [rowsF_len] at c1
  have n8 := hok.n8
  have hal : all ≤ 256 := by rw [← hall]; exact Nat.le_trans (Nat.pow_le_pow_right (by decide) hok.c8) (by decide)
  change w3.cell? ⟨b, 0, none⟩ = some (.int .i64 (mn (costs m (fixL m.row.length i.toNat j) m.row.length 0 0))) at z3
  obtain ⟨x, hx⟩ : ∃ x, mn (costs m (fixL m.row.length i.toNat j) m.row.length 0 0) = x := ⟨_, rfl⟩
  rw [hx] at z3
  rw [hx] at HT
  clear hx hall hb3 hp T hl hw HB HSL HF x0 x1 x2 xf y0 y1
  have n0 : (0 : Int) < (m.row.length : Int) + 1 := by omega
  have a0 : (0 : Int) < (all : Int) := by omega
  by_cases hneg : x < 0
  · have HT2 := Lib.hid (HT.out.trans (if_pos hneg))
    go_wp2
    go_ret2
    exact ⟨ret_wb HT2.out, HB3.out⟩
  · have HT2 := Lib.hid (HT.out.trans (if_neg hneg))
    go_wp2
    go_ret2
    exact ⟨ret_wb HT2.out, HB3.out⟩
theorem ret_p2 {a b : Int} {o : Int × Int} (h : o = (a, b)) : Ending.returned (.tuple #[.int .i64 a, .int .i64 b]) = .returned (.tuple #[.int .i64 o.1, .int .i64 o.2]) := by rw [h]
theorem openSl {w : World} {g n : Nat} (h : Cells w g (List.replicate n (-2))) (hn : n ≤ 8) : SlIs tInt (· < w.heap.size) w (.slice (some ⟨g, 0, none⟩) n n) (List.replicate n (-2)) := by
  have hgl := h.lt
  have := Cells.sl h (cap := n) (fun x hx => by rw [(List.mem_replicate.1 hx).2]; unfold i64ok; omega) (by simp) (by unfold maxLen; omega)
  rw [List.length_replicate] at this
  exact this.keep (fun k hk => by show k < _; rw [hk]; exact hgl) (SameOn.refl _ _)
set_option maxRecDepth 100000 in
set_option maxHeartbeats 4000000 in
theorem ties_any (m : Mat) (vc vr vl : Value) (w : World) (h : MatIs w vc vr vl m) :
    Calls Try.prog 18 #[.agg #[vc, vr, vl]] w fun e w' => e = .returned (.tuple #[.int .i64 (tiesC m).1, .int .i64 (tiesC m).2]) ∧ Below w.heap.size w w' := by
  have HM := Lib.hid h
  obtain ⟨ac, cc, bc, oc, ar, cr, br, or, al, cl, bl, ol, rfl, rfl, rfl, hm⟩ := h.at
  obtain ⟨cc1, cc2, cr1, cr2, cl1, cl2, -, -, -⟩ := hm
  clear h
  have HB := Lib.hid (BoxW.start w (.slice ac m.cost.length cc) (.slice ar m.row.length cr) (.slice al m.col.length cl))
  by_cases hc : chk m = 0
  case neg =>
    have hcn : (chk m != 0) = true := by rw [bne_iff_ne]; exact hc
    have HT := Lib.hid (show tiesC m = (0, chk m) by unfold tiesC; rw [if_pos hc]); clear hc
    go_enter Try.func18, Try.ntmps18
    go_wp2_with (fail)
    refine (check_any m _ _ _ _ (HM.out.step (bl_alloc (Below.refl _ _) _))).mono ?_
    rintro e w1 ⟨rfl, hb1⟩
    have HB1 := Lib.hid (HB.out.below hb1); clear hb1
    go_wp2
    go_ret2
    exact ⟨ret_p2 HT.out, HB1.out.2⟩
  have hcn : (chk m != 0) = false := by rw [bne_eq_false_iff_eq]; exact hc
  have hok := chk_ok.1 hc
  have HT := Lib.hid (show tiesC m = (tieN (costs m (List.replicate m.row.length (-2)) m.row.length 0 0), 0) by unfold tiesC; rw [if_neg (by simp [hc])])
  clear hc
  have n8 := hok.n8
  have hpos : 0 < 2 ^ m.col.length := Nat.two_pow_pos _
  have hal : 2 ^ m.col.length ≤ 256 := Nat.le_trans (Nat.pow_le_pow_right (by decide) hok.c8) (by decide)
  obtain ⟨all, hall⟩ : ∃ all, 2 ^ m.col.length = all := ⟨_, rfl⟩
  rw [hall] at hpos hal
  have HALL := Lib.hid hall; clear hall
  have n0 : (0 : Int) < (m.row.length : Int) + 1 := by omega
  have a0 : (0 : Int) < (all : Int) := by omega
  go_enter Try.func18, Try.ntmps18
  go_wp2_with (fail)
  refine (check_any m _ _ _ _ (HM.out.step (bl_alloc (Below.refl _ _) _))).mono ?_
  rintro e w1 ⟨rfl, hb1⟩
  have HB1 := Lib.hid (HB.out.below hb1); clear hb1
  clear HB
  have HB := HB1
  clear HB1
  obtain ⟨x0, x1, x2, xf⟩ := blk3 HB.out.1
  go_wp2_with (fail)
  go_region_with
    (first
      | (go_at_call 29
         refine (free_any m _ _ _ _ (HM.out.step (Below.drew HB.out.2)) hok.n8).mono ?_
         rintro e w2 ⟨⟨g, rfl, hg, hcl⟩, hb2⟩
         rw [List.length_replicate]
         have HB2 := Lib.hid (HB.out.below (Below.trans (b := w1.drew) (Below.drew (Below.refl _ _)) hb2))
         have HSL := Lib.hid (openSl hcl n8)
         obtain ⟨e0, e1, e2, -⟩ := blk3 HB2.out.1
         clear hb2 hcl hg)
      | (go_at_call 28
         refine (build_any m hok (List.replicate m.row.length (-2)) _ _ _ _ _ (HM.out.step HB2.out.2) HSL.out (by simp)).mono ?_
         rintro e w3 ⟨⟨p, gL, cL, gW, cW, bL, bW, rfl, hp, T, hl, hw⟩, hb3⟩
         rw [HALL.out] at T
         have HB3 := Lib.hid (HB2.out.below hb3)
         obtain ⟨f0, f1, f2, -⟩ := blk3 HB3.out.1
         obtain ⟨b, d, z0, z1, z2, z3, z4, z5⟩ := T.at0 hl hw hpos
         have c1 := T.hcw
         have c2 := T.hcw2
         rw [rowsF_len] at c1
         change w3.cell? ⟨d, 0, none⟩ = some (.int .i64 (tieN (costs m (List.replicate m.row.length (-2)) m.row.length 0 0))) at z5
         clear hb3 hp T hl hw))
  all_goals
    go_wp2
    go_ret2
    exact ⟨ret_p2 HT.out, HB3.out.2⟩
end Go.Proofs.Ytepceaoccnmkiaa
