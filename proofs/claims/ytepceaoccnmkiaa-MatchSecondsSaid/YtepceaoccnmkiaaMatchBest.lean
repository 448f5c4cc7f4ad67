/-
  Layer 6 (match): the walk of Best.
-/
import Derived.Test.YtepceaoccnmkiaaMatchFirst
import Derived.Test.YtepceaoccnmkiaaMatchTurnP
namespace Go.Tw.Match
open Go.RowKit Go.Tw
theorem own_low {α : Type} {T : Ty α} {e : TypeId} {B B' : Nat} {w : World} {v : Value} {l : List α} (h : OwnSl T e B w v l) (hB : B' ≤ B) : OwnSl T e B' w v l := by
  obtain ⟨css, h1, h2⟩ := h
  refine ⟨css, ⟨h1.1, ?_⟩, h2⟩
  rcases h1.2 with ⟨a, b⟩ | ⟨g, cap, cur, a, b, c⟩
  · exact .inl ⟨a, b⟩
  · exact .inr ⟨g, cap, cur, a, Nat.le_trans hB b, c⟩
theorem ints_atS {B : Nat} {w : World} {ao : Option Addr} {n c : Nat} {l : List Int} (h : SlIs tInt (· < B) w (.slice ao n c) l) : ∃ b off, n = l.length ∧ l.length ≤ c ∧ c ≤ maxLen ∧ IntsAt B w ao b off l := by
  obtain ⟨ao', cap, b, off, hv, h1, h2, h3⟩ := Go.Tw.Match.ints_at h
  simp only [Value.slice.injEq] at hv
  obtain ⟨rfl, rfl, rfl⟩ := hv
  exact ⟨b, off, rfl, h1, h2, h3⟩
theorem rows_atS {B : Nat} {w : World} {ao : Option Addr} {n c : Nat} {l : List (List Int)} {e : TypeId} (h : SlIs (tInt.list e) (· < B) w (.slice ao n c) l) : ∃ b off, n = l.length ∧ l.length ≤ c ∧ c ≤ maxLen ∧ RowsAt B w ao b off l := by
  obtain ⟨ao', cap, b, off, hv, h1, h2, h3⟩ := rows_at h
  simp only [Value.slice.injEq] at hv
  obtain ⟨rfl, rfl, rfl⟩ := hv
  exact ⟨b, off, rfl, h1, h2, h3⟩
theorem MatIs.atS {w : World} {ac ar al : Option Addr} {n1 n2 n3 cc cr cl : Nat} {m : Mat} (h : MatIs w (.slice ac n1 cc) (.slice ar n2 cr) (.slice al n3 cl) m) : ∃ bc oc br or bl ol, MatAt w ac cc bc oc ar cr br or al cl bl ol m := by
  obtain ⟨bc, oc, -, h2, h3, h4⟩ := rows_atS h.cost
  obtain ⟨br, or, -, h6, h7, h8⟩ := ints_atS h.row
  obtain ⟨bl, ol, -, ha, hb, hc⟩ := ints_atS h.col
  unfold maxLen at h3 h7 hb
  exact ⟨bc, oc, br, or, bl, ol, h2, h3, h6, h7, ha, hb, h4, h8, hc⟩
def bestC (m : Mat) : List Int × Int × Int := if chk m ≠ 0 then ([], 0, chk m) else (bestL m, mn (costs m (opn m.row.length) m.row.length 0 0), 0)
end Go.Tw.Match
namespace Go.Proofs.Ytepceaoccnmkiaa
open Go.RowKit Go.Tw Go.Tw.Match
/-- a table, some time after it was built -/
structure TabOf (m : Mat) (F : List Int) (w0 w : World) (p : Nat) : Prop where
  ex : ∃ ac cc bc oc ar cr br or al cl bl ol af cf bf of gL cL gW cW bL bW, MatAt w0 ac cc bc oc ar cr br or al cl bl ol m ∧ IntsAt w0.heap.size w0 af bf of F ∧ F.length ≤ cf ∧ cf ≤ 9223372036854775807 ∧
    Tab w0.heap.size w p (.slice ac m.cost.length cc) (.slice ar m.row.length cr) (.slice al m.col.length cl) (.slice af F.length cf) gL cL gW cW bL bW (2 ^ m.col.length) (rowsF (leastF m F) m.row.length (2 ^ m.col.length) 0 (2 ^ m.col.length)) (rowsF (waysF m F) m.row.length (2 ^ m.col.length) 0 (2 ^ m.col.length)) ∧
    bL.length = m.row.length + 1 ∧ bW.length = m.row.length + 1
  len : F.length = m.row.length
  bel : Below w0.heap.size w0 w
theorem TabOf.mk' {m : Mat} {F : List Int} {w0 w : World} {ac ar al af : Option Addr} {n1 n2 n3 n4 cc cr cl cf : Nat} {e : Ending} (hm : MatIs w0 (.slice ac n1 cc) (.slice ar n2 cr) (.slice al n3 cl) m) (hf : SlIs tInt (· < w0.heap.size) w0 (.slice af n4 cf) F) (hl : F.length = m.row.length)
    (hB : Built m F w0 (.slice ac n1 cc) (.slice ar n2 cr) (.slice al n3 cl) (.slice af n4 cf) (2 ^ m.col.length) w e) (hb : Below w0.heap.size w0 w) : ∃ p, e = .returned (.pointer (some ⟨p, 0, none⟩)) ∧ TabOf m F w0 w p := by
  obtain ⟨p, gL, cL, gW, cW, bL, bW, he, hp, T, h1, h2⟩ := hB
  obtain ⟨-, -, e1, -⟩ := rows_atS hm.cost
  obtain ⟨-, -, e2, -⟩ := ints_atS hm.row
  obtain ⟨-, -, e3, -⟩ := ints_atS hm.col
  obtain ⟨bf, of, e4, f1, f2, f3⟩ := ints_atS hf
  subst e1 e2 e3 e4
  obtain ⟨bc, oc, br, or, bl, ol, hat⟩ := hm.atS
  unfold maxLen at f2
  exact ⟨p, he, ⟨ac, cc, bc, oc, ar, cr, br, or, al, cl, bl, ol, af, cf, bf, of, gL, cL, gW, cW, bL, bW, hat, f3, f1, f2, T, h1, h2⟩, hl, hb⟩
theorem TabOf.below {m : Mat} {F : List Int} {w0 w w' : World} {p : Nat} (h : TabOf m F w0 w p) (hb : Below w.heap.size w w') : TabOf m F w0 w' p := by
  obtain ⟨⟨ac, cc, bc, oc, ar, cr, br, or, al, cl, bl, ol, af, cf, bf, of, gL, cL, gW, cW, bL, bW, h1, h2, h3, h4, T, h5, h6⟩, hl, hbb⟩ := h
  exact ⟨⟨ac, cc, bc, oc, ar, cr, br, or, al, cl, bl, ol, af, cf, bf, of, gL, cL, gW, cW, bL, bW, h1, h2, h3, h4, T.below (by rw [rowsF_len]; omega) (by rw [rowsF_len]; omega) hb, h5, h6⟩, hl, hbb.trans (hb.mono hbb.size)⟩
theorem TabOf.first {m : Mat} (hok : Ok m) {F : List Int} {w0 w : World} {p : Nat} (h : TabOf m F w0 w p) : Calls Try.prog 30 #[.pointer (some ⟨p, 0, none⟩)] w fun e w' => FirstE w.heap.size m F w' e ∧ Below w.heap.size w w' := by
  obtain ⟨⟨ac, cc, bc, oc, ar, cr, br, or, al, cl, bl, ol, af, cf, bf, of, gL, cL, gW, cW, bL, bW, h1, h2, h3, h4, T, h5, h6⟩, hl, hbb⟩ := h
  exact first_any m hok F w0 w hbb p ac cc bc oc ar cr br or al cl bl ol af cf bf of h1 h2 hl h3 h4 gL cL gW cW bL bW _ T rfl h5 h6
/-- what is read at its beginning -/
theorem TabOf.read {m : Mat} {F : List Int} {w0 w : World} {p : Nat} (h : TabOf m F w0 w p) : ∃ gL cL b all, w.cell? ⟨p, 4, none⟩ = some (.slice (some ⟨gL, 0, none⟩) (m.row.length + 1) cL) ∧ w.cell? ⟨gL, 0, none⟩ = some (.slice (some ⟨b, 0, none⟩) all all) ∧ w.cell? ⟨b, 0, none⟩ = some (.int .i64 (mn (costs m F m.row.length 0 0))) ∧ 0 < all ∧ m.row.length + 1 ≤ cL ∧ cL ≤ 9223372036854775807 := by
  obtain ⟨⟨ac, cc, bc, oc, ar, cr, br, or, al, cl, bl, ol, af, cf, bf, of, gL, cL, gW, cW, bL, bW, h1, h2, h3, h4, T, h5, h6⟩, hl, hbb⟩ := h
  obtain ⟨b, d, z0, z1, z2, z3, z4, z5⟩ := T.at0 h5 h6 (Nat.two_pow_pos _)
  have c1 := T.hcl
  rw [rowsF_len] at c1
  exact ⟨gL, cL, b, _, z0, z2, z3, Nat.two_pow_pos _, c1, T.hcl2⟩
def BestE (B : Nat) (m : Mat) (w : World) (e : Ending) : Prop := ∃ v, e = .returned (.tuple #[v, .int .i64 (bestC m).2.1, .int .i64 (bestC m).2.2]) ∧ OwnSl tInt 3 B w v (bestC m).1
theorem opn_all (n : Nat) : List.replicate n (-2) = opn n := rfl
theorem best_yes {B : Nat} {m : Mat} (h : chk m = 0) {w : World} {v : Value} (ho : OwnSl tInt 3 B w v (bestL m)) : BestE B m w (.returned (.tuple #[v, .int .i64 (mn (costs m (opn m.row.length) m.row.length 0 0)), .int .i64 0])) := by
  have e : bestC m = (bestL m, mn (costs m (opn m.row.length) m.row.length 0 0), 0) := by unfold bestC; rw [if_neg (by simp [h])]
  exact ⟨v, by rw [e], by rw [e]; exact ho⟩
theorem best_no {B : Nat} {m : Mat} (h : chk m ≠ 0) {w : World} : BestE B m w (.returned (.tuple #[.slice none 0 0, .int .i64 0, .int .i64 (chk m)])) := by
  have e : bestC m = ([], 0, chk m) := by unfold bestC; rw [if_pos h]
  exact ⟨.slice none 0 0, by rw [e], by rw [e]; exact OwnSl.nil _ _ _ _⟩
theorem first_free {m : Mat} (hok : Ok m) {B : Nat} {w : World} {e : Ending} (h : FirstE B m (opn m.row.length) w e) : ∃ v, e = .returned (.tuple #[v, .bool true]) ∧ OwnSl tInt 3 B w v (bestL m) := by
  unfold FirstE at h
  rw [if_neg (by have := best_ok hok; omega)] at h
  exact h
set_option maxRecDepth 100000 in
set_option maxHeartbeats 4000000 in
theorem best_any (m : Mat) (vc vr vl : Value) (w : World) (h : MatIs w vc vr vl m) :
    Calls Try.prog 16 #[.agg #[vc, vr, vl]] w fun e w' => BestE w.heap.size m w' e ∧ Below w.heap.size w w' := by
  have HM := Lib.hid h
  obtain ⟨ac, cc, bc, oc, ar, cr, br, or, al, cl, bl, ol, rfl, rfl, rfl, hm⟩ := h.at
  obtain ⟨cc1, cc2, cr1, cr2, cl1, cl2, -, -, -⟩ := hm
  clear h
  have HB := Lib.hid (BoxW.start w (.slice ac m.cost.length cc) (.slice ar m.row.length cr) (.slice al m.col.length cl))
  by_cases hc : chk m = 0
  case neg =>
    have hcn : (chk m != 0) = true := by rw [bne_iff_ne]; exact hc
    have HT := Lib.hid hc; clear hc
    go_enter Try.func16, Try.ntmps16
    go_wp2_with (fail)
    refine (check_any m _ _ _ _ (HM.out.step (bl_alloc (Below.refl _ _) _))).mono ?_
    rintro e w1 ⟨rfl, hb1⟩
    have HB1 := Lib.hid (HB.out.below hb1); clear hb1
    go_wp2
    go_ret3
    exact ⟨best_no HT.out, HB1.out.2⟩
  have hcn : (chk m != 0) = false := by rw [bne_eq_false_iff_eq]; exact hc
  have hok := chk_ok.1 hc
  have HT := Lib.hid hc
  clear hc
  have n8 := hok.n8
  have n0 : (0 : Int) < (m.row.length : Int) + 1 := by omega
  go_enter Try.func16, Try.ntmps16
  go_wp2_with (fail)
  refine (check_any m _ _ _ _ (HM.out.step (bl_alloc (Below.refl _ _) _))).mono ?_
  rintro e w1 ⟨rfl, hb1⟩
  have HB1 := Lib.hid (HB.out.below hb1); clear hb1
  clear HB
  have HB := HB1
  clear HB1
  obtain ⟨x0, x1, x2, xf⟩ := blk3 HB.out.1
  go_wp2_with (fail)
  go_region_with
    (first
      | (go_at_call 29
         refine (free_any m _ _ _ _ (HM.out.step (Below.drew HB.out.2)) hok.n8).mono ?_
         rintro e w2 ⟨⟨g, rfl, hg, hcl⟩, hb2⟩
         rw [List.length_replicate]
         have HB2 := Lib.hid (HB.out.below (Below.trans (b := w1.drew) (Below.drew (Below.refl _ _)) hb2))
         have HSL := Lib.hid (openSl hcl n8)
         obtain ⟨e0, e1, e2, -⟩ := blk3 HB2.out.1
         clear hb2 hcl hg)
      | (go_at_call 28
         refine (build_any m hok (opn m.row.length) _ _ _ _ _ (HM.out.step HB2.out.2) HSL.out (by simp [opn])).mono ?_
         rintro e w3 ⟨hbu, hb3⟩
         obtain ⟨p, rfl, ht⟩ := TabOf.mk' (F := opn m.row.length) (HM.out.step HB2.out.2) HSL.out (by simp [opn]) hbu hb3
         have HT3 := Lib.hid ht
         have HB3 := Lib.hid (HB2.out.below hb3)
         clear hb3 hbu ht))
  all_goals
    go_wp2_with (
      go_at_call 30
      refine (HT3.out.first hok).mono ?_
      rintro e w4 ⟨hf4, hb4⟩
      obtain ⟨v4, rfl, ho4⟩ := first_free hok hf4
      have HO4 := Lib.hid ho4
      have HT4 := Lib.hid (HT3.out.below hb4)
      have HB4 := Lib.hid (HB3.out.below hb4)
      obtain ⟨gL, cL, b, all, z0, z1, z2, z3, z4, z5⟩ := HT4.out.read
      obtain ⟨bst, hbst⟩ : ∃ x, mn (costs m (opn m.row.length) m.row.length 0 0) = x := ⟨_, rfl⟩
      have HBST := Lib.hid hbst
      have a0 : (0 : Int) < (all : Int) := by omega
      rw [hbst] at z2
      clear ho4 hb4 hbst)
    go_quiet (fail)
    go_wp2
    go_ret3
    exact ⟨by rw [← HBST.out]; exact best_yes HT.out ((own_low HO4.out (by have := HB3.out.2.size; omega)).drewN _), bl_drewN HB4.out.2 _⟩
end Go.Proofs.Ytepceaoccnmkiaa
