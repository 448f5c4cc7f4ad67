/-
  Layer 6 (match): the walk of the reference's Best.
-/
import Derived.Test.YtepceaoccnmkiaaMatchCompR
import Derived.Test.YtepceaoccnmkiaaMatchRefs
namespace Go.Proofs.Ytepceaoccnmkiaa
open Go.RowKit Go.Tw Go.Tw.Match
set_option maxRecDepth 100000 in
set_option maxHeartbeats 4000000 in
theorem bestR_any (m : Mat) (vc vr vl : Value) (w : World) (h : MatIs w vc vr vl m) :
    Calls Try.prog 17 #[.agg #[vc, vr, vl]] w fun e w' => BestE w.heap.size m w' e ∧ Below w.heap.size w w' := by
  have HM := Lib.hid h
  obtain ⟨ac, cc, bc, oc, ar, cr, br, or, al, cl, bl, ol, rfl, rfl, rfl, hm⟩ := h.at
  clear h hm
  have HB := Lib.hid (BoxW.start w (.slice ac m.cost.length cc) (.slice ar m.row.length cr) (.slice al m.col.length cl))
  by_cases hc : chk m = 0
  case neg =>
    have hcn : (chk m != 0) = true := by rw [bne_iff_ne]; exact hc
    have HT := Lib.hid hc; clear hc
    go_enter Try.func17, Try.ntmps17
    go_wp2_with (fail)
    refine (checkR_any m _ _ _ _ (HM.out.step (bl_alloc (Below.refl _ _) _))).mono ?_
    rintro e w1 ⟨rfl, hb1⟩
    have HB1 := Lib.hid (HB.out.below hb1); clear hb1
    go_wp2
    go_ret3
    exact ⟨best_no HT.out, HB1.out.2⟩
  have hcn : (chk m != 0) = false := by rw [bne_eq_false_iff_eq]; exact hc
  have hok := chk_ok.1 hc
  have HT := Lib.hid hc
  clear hc
  have n8 := hok.n8
  have n0 : (0 : Int) < (m.row.length : Int) + 1 := by omega
  go_enter Try.func17, Try.ntmps17
  go_wp2_with (fail)
  refine (checkR_any m _ _ _ _ (HM.out.step (bl_alloc (Below.refl _ _) _))).mono ?_
  rintro e w1 ⟨rfl, hb1⟩
  have HB1 := Lib.hid (HB.out.below hb1); clear hb1
  obtain ⟨x0, x1, x2, xf⟩ := blk3 HB1.out.1
  go_wp2_with (fail)
  refine (rests_any m hok (opn m.row.length) (-1) 0 (dem_opn m (-1) 0 (by decide)) _ _ _ _ (HM.out.step HB1.out.2)).mono ?_
  rintro e w2 ⟨⟨g, bs, rfl, hr⟩, hb2⟩
  have HB2 := Lib.hid (HB1.out.below hb2)
  have HR := Lib.hid hr
  clear hr hb2 x0 x1 x2 xf
  obtain ⟨x0, x1, x2, xf⟩ := blk3 HB2.out.1
  obtain ⟨all, z0, z1, z2, z3⟩ := rest_read HR.out
  have a0 : (0 : Int) < (all : Int) := by omega
  obtain ⟨c, hcc⟩ : ∃ x, mn (costs m (opn m.row.length) m.row.length 0 0) = x := ⟨_, rfl⟩
  have HCC := Lib.hid hcc
  rw [hcc] at z1
  clear hcc z2
  have hgl := HR.out.ltg
  have hrl := (HR.out.row 0 (Nat.le_refl 0) (Nat.zero_le _)).lt
  go_wp2_with (fail)
  go_region_held3 (fun w' => w'.cell? ⟨w.heap.size, 0, none⟩ = some (.slice ac m.cost.length cc) ∧ w'.cell? ⟨w.heap.size, 1, none⟩ = some (.slice ar m.row.length cr) ∧ w'.cell? ⟨w.heap.size, 2, none⟩ = some (.slice al m.col.length cl) ∧ w'.cell? ⟨g, 0, none⟩ = some (.slice (some ⟨bs 0, 0, none⟩) all all) ∧ w'.cell? ⟨bs 0, 0, none⟩ = some (.int .i64 c)) (go_keep)
    ((go_at_call 32
      refine (complete_any m hok _ _ _ _ w2.drew (HM.out.step (Below.drew HB2.out.2)) _ g bs (HR.out.drew) [] SlIs.nil trivial (Nat.zero_le _) (best_ok hok)).mono ?_
      rintro e w3 ⟨⟨v3, rfl, ho3⟩, hb3⟩
      have HB3 := Lib.hid (Below.trans (b := w2.drew) (Below.drew (Below.refl w2.heap.size w2)) hb3)
      have HO3 := Lib.hid (show OwnSl tInt 3 w2.heap.size w3 v3 (bestL m) from ho3)
      obtain ⟨e0, e1, e2, -⟩ := blk3 (HB2.out.below HB3.out).1
      obtain ⟨e3, e4⟩ : w3.cell? ⟨g, 0, none⟩ = some (.slice (some ⟨bs 0, 0, none⟩) all all) ∧ w3.cell? ⟨bs 0, 0, none⟩ = some (.int .i64 c) := ⟨(HB3.out.cell (p := ⟨g, 0, none⟩) hgl).trans z0, (HB3.out.cell (p := ⟨bs 0, 0, none⟩) hrl).trans z1⟩
      clear hb3 ho3))
  all_goals
    go_wp2
    go_ret3
    exact ⟨by rw [← HCC.out]; exact best_yes HT.out (own_low HO3.out HB2.out.2.size), HB2.out.2.trans (HB3.out.mono HB2.out.2.size)⟩
end Go.Proofs.Ytepceaoccnmkiaa
