/-
  Layer 6 (match): the walks of the reference's Ties and With.
-/
import Derived.Test.YtepceaoccnmkiaaMatchRestR
import Derived.Test.YtepceaoccnmkiaaMatchSecond
namespace Go.Proofs.Ytepceaoccnmkiaa
open Go.RowKit Go.Tw Go.Tw.Match
/-- a table of the reference, some time after it was made: what is read at its beginning -/
theorem rest_read {m : Mat} {F : List Int} {B g : Nat} {bs : Nat → Nat} {w : World} (h : RTab B w g m.row.length (2 ^ m.col.length) bs 0 (finR m F)) : ∃ all, w.cell? ⟨g, 0, none⟩ = some (.slice (some ⟨bs 0, 0, none⟩) all all) ∧ w.cell? ⟨bs 0, 0, none⟩ = some (.int .i64 (mn (costs m F m.row.length 0 0))) ∧ w.cell? ⟨bs 0, 1, none⟩ = some (.int .i64 (tieN (costs m F m.row.length 0 0))) ∧ 0 < all := by
  have h1 := (h.at (Nat.le_refl 0) (Nat.zero_le _)).1
  have h2 := (h.row 0 (Nat.le_refl 0) (Nat.zero_le _)).cells (Nat.two_pow_pos _)
  unfold finR at h2
  rw [Nat.sub_zero, Nat.zero_mul, Nat.zero_add] at h2
  exact ⟨_, h1, h2.1, h2.2.1, Nat.two_pow_pos _⟩
set_option maxRecDepth 100000 in
set_option maxHeartbeats 4000000 in
theorem tiesR_any (m : Mat) (vc vr vl : Value) (w : World) (h : MatIs w vc vr vl m) :
    Calls Try.prog 19 #[.agg #[vc, vr, vl]] w fun e w' => e = .returned (.tuple #[.int .i64 (tiesC m).1, .int .i64 (tiesC m).2]) ∧ Below w.heap.size w w' := by
  have HM := Lib.hid h
  obtain ⟨ac, cc, bc, oc, ar, cr, br, or, al, cl, bl, ol, rfl, rfl, rfl, hm⟩ := h.at
  clear h hm
  have HB := Lib.hid (BoxW.start w (.slice ac m.cost.length cc) (.slice ar m.row.length cr) (.slice al m.col.length cl))
  by_cases hc : chk m = 0
  case neg =>
    have hcn : (chk m != 0) = true := by rw [bne_iff_ne]; exact hc
    have HT := Lib.hid (show tiesC m = (0, chk m) by unfold tiesC; rw [if_pos hc]); clear hc
    go_enter Try.func19, Try.ntmps19
    go_wp2_with (fail)
    refine (checkR_any m _ _ _ _ (HM.out.step (bl_alloc (Below.refl _ _) _))).mono ?_
    rintro e w1 ⟨rfl, hb1⟩
    have HB1 := Lib.hid (HB.out.below hb1); clear hb1
    go_wp2
    go_ret2
    exact ⟨ret_p2 HT.out, HB1.out.2⟩
  have hcn : (chk m != 0) = false := by rw [bne_eq_false_iff_eq]; exact hc
  have hok := chk_ok.1 hc
  have HT := Lib.hid (show tiesC m = (tieN (costs m (opn m.row.length) m.row.length 0 0), 0) by unfold tiesC; rw [if_neg (by simp [hc])]; rfl)
  clear hc
  have n8 := hok.n8
  have n0 : (0 : Int) < (m.row.length : Int) + 1 := by omega
  go_enter Try.func19, Try.ntmps19
  go_wp2_with (fail)
  refine (checkR_any m _ _ _ _ (HM.out.step (bl_alloc (Below.refl _ _) _))).mono ?_
  rintro e w1 ⟨rfl, hb1⟩
  have HB1 := Lib.hid (HB.out.below hb1); clear hb1
  obtain ⟨x0, x1, x2, xf⟩ := blk3 HB1.out.1
  go_wp2_with (fail)
  refine (rests_any m hok (opn m.row.length) (-1) 0 (dem_opn m (-1) 0 (by decide)) _ _ _ _ (HM.out.step HB1.out.2)).mono ?_
  rintro e w2 ⟨⟨g, bs, rfl, hr⟩, hb2⟩
  have HB2 := Lib.hid (HB1.out.below hb2)
  obtain ⟨all, z0, z1, z2, z3⟩ := rest_read hr
  have a0 : (0 : Int) < (all : Int) := by omega
  clear hr hb2
  go_wp2
  go_ret2
  exact ⟨ret_p2 HT.out, HB2.out.2⟩
theorem with_dem {m : Mat} {i j : Int} (h0 : 0 ≤ i) (h1 : i < m.row.length) (h2 : -1 ≤ j) : Dem m (fixL m.row.length i.toNat j) i j := by
  have := dem_fix m i.toNat j (by omega) h2
  rw [show ((i.toNat : Nat) : Int) = i by omega] at this
  exact this
set_option maxRecDepth 100000 in
set_option maxHeartbeats 4000000 in
theorem withR_any (m : Mat) (i j : Int) (vc vr vl : Value) (w : World) (h : MatIs w vc vr vl m) (hi64 : i64ok i) (hj64 : i64ok j) :
    Calls Try.prog 24 #[.agg #[vc, vr, vl], .int .i64 i, .int .i64 j] w fun e w' => e = .returned (.tuple #[.int .i64 (withC m i j).1, .bool (withC m i j).2]) ∧ Below w.heap.size w w' := by
  have HM := Lib.hid h
  obtain ⟨ac, cc, bc, oc, ar, cr, br, or, al, cl, bl, ol, rfl, rfl, rfl, hm⟩ := h.at
  clear h hm
  unfold i64ok at hi64 hj64
  have HB := Lib.hid (BoxW.start w (.slice ac m.cost.length cc) (.slice ar m.row.length cr) (.slice al m.col.length cl))
  have hbad : (chk m ≠ 0 ∨ i < 0 ∨ (m.row.length : Int) ≤ i ∨ j < -1 ∨ (m.col.length : Int) ≤ j) → Hid (withC m i j = (0, false)) := fun q => by show withC m i j = _; unfold withC; rw [if_pos q]
  by_cases hc : chk m = 0
  case neg =>
    have hcn : (chk m != 0) = true := by rw [bne_iff_ne]; exact hc
    have HT := hbad (.inl hc); clear hc hbad
    go_enter Try.func24, Try.ntmps24
    go_wp2_with (fail)
    refine (checkR_any m _ _ _ _ (HM.out.step (bl_alloc (Below.refl _ _) _))).mono ?_
    rintro e w1 ⟨rfl, hb1⟩
    have HB1 := Lib.hid (HB.out.below hb1); clear hb1
    go_wp2
    go_ret2
    exact ⟨ret_wb HT.out, HB1.out.2⟩
  have hcn : (chk m != 0) = false := by rw [bne_eq_false_iff_eq]; exact hc
  have hok := chk_ok.1 hc
  have HC := Lib.hid hc; clear hc
  have HBAD := Lib.hid hbad; clear hbad
  have n8 := hok.n8
  have n0 : (0 : Int) < (m.row.length : Int) + 1 := by omega
  go_enter Try.func24, Try.ntmps24
  go_wp2_with (fail)
  refine (checkR_any m _ _ _ _ (HM.out.step (bl_alloc (Below.refl _ _) _))).mono ?_
  rintro e w1 ⟨rfl, hb1⟩
  have HB1 := Lib.hid (HB.out.below hb1); clear hb1
  obtain ⟨x0, x1, x2, xf⟩ := blk3 HB1.out.1
  by_cases h1 : i < 0
  · have HT := HBAD.out (.inr (.inl h1))
    go_wp2
    go_ret2
    exact ⟨ret_wb HT.out, HB1.out.2⟩
  by_cases h2 : (m.row.length : Int) ≤ i
  · have HT := HBAD.out (.inr (.inr (.inl h2)))
    go_wp2
    go_ret2
    exact ⟨ret_wb HT.out, HB1.out.2⟩
  by_cases h3 : j < -1
  · have HT := HBAD.out (.inr (.inr (.inr (.inl h3))))
    go_wp2
    go_ret2
    exact ⟨ret_wb HT.out, HB1.out.2⟩
  by_cases h4 : (m.col.length : Int) ≤ j
  · have HT := HBAD.out (.inr (.inr (.inr (.inr h4))))
    go_wp2
    go_ret2
    exact ⟨ret_wb HT.out, HB1.out.2⟩
  have HT := Lib.hid (show withC m i j = if mn (costs m (fixL m.row.length i.toNat j) m.row.length 0 0) < 0 then (0, false) else (mn (costs m (fixL m.row.length i.toNat j) m.row.length 0 0), true) by
    unfold withC; rw [if_neg (by have := HC.out; omega)])
  go_wp2_with (fail)
  refine (rests_any m hok (fixL m.row.length i.toNat j) i j (with_dem (by omega) (by omega) (by omega)) _ _ _ _ (HM.out.step HB1.out.2)).mono ?_
  rintro e w2 ⟨⟨g, bs, rfl, hr⟩, hb2⟩
  have HB2 := Lib.hid (HB1.out.below hb2)
  obtain ⟨all, z0, z1, z2, z3⟩ := rest_read hr
  have a0 : (0 : Int) < (all : Int) := by omega
  obtain ⟨x, hx⟩ : ∃ x, mn (costs m (fixL m.row.length i.toNat j) m.row.length 0 0) = x := ⟨_, rfl⟩
  rw [hx] at z1
  rw [hx] at HT
  clear hr hb2 hx z2
  by_cases hneg : x < 0
  · have HT2 := Lib.hid (HT.out.trans (if_pos hneg))
    go_wp2
    go_ret2
    exact ⟨ret_wb HT2.out, HB2.out.2⟩
  · have HT2 := Lib.hid (HT.out.trans (if_neg hneg))
    go_wp2
    go_ret2
    exact ⟨ret_wb HT2.out, HB2.out.2⟩
end Go.Proofs.Ytepceaoccnmkiaa
