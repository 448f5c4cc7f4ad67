/-
  Layer 6 (match): the walk of the law MatchTurned.
-/
import Derived.Test.YtepceaoccnmkiaaMatchAwake
import Derived.Test.YtepceaoccnmkiaaMatchTurnP
import Derived.Test.YtepceaoccnmkiaaCap0
import Derived.Test.YtepceaoccnmkiaaDeep
import Derived.Deep.RegionHeld3
import Derived.WalkMore
import Derived.Deep.DeepCutAuto
import Derived.Outline
import Derived.Deep.LoopGhost
namespace Go.Proofs.Ytepceaoccnmkiaa
open Go.RowKit Go.Tw Go.Tw.Match
/-- the matrix that is made, behind its first region: in block p -/
structure T3 (W : World) (vc vr vl : Value) (m : Mat) (w : World) (p : Nat) (vR vC : Value) : Prop where
  box : BoxW W vc vr vl w
  hp : W.heap.size < p
  blk : w.heap[p]? = some (.cells #[.slice none 0 0, vR, vC] 25 (0, 0))
  row : SlIs tInt (fun k => k < w.heap.size ∧ k ≠ p) w vR m.col
  col : SlIs tInt (fun k => k < w.heap.size ∧ k ≠ p) w vC m.row
/-- .. while its rows are made: all of them lie above B -/
structure TSt (W : World) (vc vr vl : Value) (m : Mat) (B p : Nat) (vR vC vT : Value) (rows : List (List Int)) (w : World) : Prop where
  box : BoxW W vc vr vl w
  hp : W.heap.size < p
  hpB : p < B
  hB : B ≤ w.heap.size
  blk : w.heap[p]? = some (.cells #[vT, vR, vC] 25 (0, 0))
  row : SlIs tInt (fun k => k < B ∧ k ≠ p) w vR m.col
  col : SlIs tInt (fun k => k < B ∧ k ≠ p) w vC m.row
  own : NewL (tInt.list 3) 23 B w vT rows
theorem T3.mk_alloc {W : World} {vc vr vl : Value} {m : Mat} {w : World} {vR vC : Value} {S1 S2 : Nat → Prop} (hbox : BoxW W vc vr vl w) (hrow : SlIs tInt S1 w vR m.col) (hcol : SlIs tInt S2 w vC m.row) (h1 : ∀ k, S1 k → k < w.heap.size) (h2 : ∀ k, S2 k → k < w.heap.size) :
    T3 W vc vr vl m (w.alloc (.cells #[.slice none 0 0, vR, vC] 25)) w.heap.size vR vC := by
  have hl := lt_of_heap hbox.1
  refine ⟨hbox.below (bl_alloc (Below.refl _ _) _), hl, heap_alloc_new _ _, hrow.keep (fun k hk => ?_) (fun k hk => Below.heap_alloc _ _ _ (h1 k hk)), hcol.keep (fun k hk => ?_) (fun k hk => Below.heap_alloc _ _ _ (h2 k hk))⟩
  · have := h1 k hk
    exact ⟨by simp; omega, by omega⟩
  · have := h2 k hk
    exact ⟨by simp; omega, by omega⟩
theorem T3.mk_set {W : World} {vc vr vl : Value} {m : Mat} {w : World} {p : Nat} {vR vC a b c : Value} {S1 S2 : Nat → Prop} (hbox : BoxW W vc vr vl w) (hp : W.heap.size < p) (hblk : w.heap[p]? = some (.cells #[a, b, c] 25 (0, 0))) (hrow : SlIs tInt S1 w vR m.col) (hcol : SlIs tInt S2 w vC m.row)
    (h1 : ∀ k, S1 k → k < w.heap.size ∧ k ≠ p) (h2 : ∀ k, S2 k → k < w.heap.size ∧ k ≠ p) :
    T3 W vc vr vl m (((w.setCell ⟨p, 0, none⟩ (.slice none 0 0)).setCell ⟨p, 1, none⟩ vR).setCell ⟨p, 2, none⟩ vC) p vR vC := by
  have hne : ∀ k, k ≠ p → (((w.setCell ⟨p, 0, none⟩ (.slice none 0 0)).setCell ⟨p, 1, none⟩ vR).setCell ⟨p, 2, none⟩ vC).heap[k]? = w.heap[k]? := fun k hk =>
    (Below.heap_setCell _ _ _ _ hk).trans ((Below.heap_setCell _ _ _ _ hk).trans (Below.heap_setCell _ _ _ _ hk))
  have hpb : W.heap.size ≤ p := by omega
  refine ⟨⟨(hne _ (by omega)).trans hbox.1, bl_set (bl_set (bl_set hbox.2 _ hpb) _ hpb) _ hpb⟩, hp, ?_, hrow.keep (fun k hk => ?_) (fun k hk => hne k (h1 k hk).2), hcol.keep (fun k hk => ?_) (fun k hk => hne k (h2 k hk).2)⟩
  · exact heap_setCell_same _ _ 2 _ _ vC (heap_setCell_same _ _ 1 _ _ vR (heap_setCell_same _ _ 0 _ _ (.slice none 0 0) hblk))
  · have := h1 k hk
    exact ⟨by simp; omega, this.2⟩
  · have := h2 k hk
    exact ⟨by simp; omega, this.2⟩
theorem T3.start {W : World} {vc vr vl : Value} {m : Mat} {w : World} {p : Nat} {vR vC : Value} (h : T3 W vc vr vl m w p vR vC) : TSt W vc vr vl m w.heap.size p vR vC (.slice none 0 0) [] w :=
  ⟨h.box, h.hp, lt_of_heap h.blk, Nat.le_refl _, h.blk, h.row, h.col, NewL.nil⟩
theorem TSt.below {W : World} {vc vr vl : Value} {m : Mat} {B p : Nat} {vR vC vT : Value} {rows : List (List Int)} {w w' : World} (h : TSt W vc vr vl m B p vR vC vT rows w) (hb : Below w.heap.size w w') : TSt W vc vr vl m B p vR vC vT rows w' :=
  have hBw := h.hB
  ⟨h.box.below hb, h.hp, h.hpB, Nat.le_trans h.hB hb.size, (hb.block _ (lt_of_heap h.blk)).trans h.blk, h.row.keep (fun _ q => q) (fun k hk => hb.block k (Nat.lt_of_lt_of_le hk.1 hBw)), h.col.keep (fun _ q => q) (fun k hk => hb.block k (Nat.lt_of_lt_of_le hk.1 hBw)), h.own.below hb⟩
theorem TSt.push {W : World} {vc vr vl : Value} {m : Mat} {B p : Nat} {vR vC vT vT' : Value} {rows rows' : List (List Int)} {w w2 w3 : World} (h : TSt W vc vr vl m B p vR vC vT rows w) (hb2 : Below w.heap.size w w2)
    (hn : NewL (tInt.list 3) 23 B w3 vT' rows') (hb3 : Below B w2 w3) : TSt W vc vr vl m B p vR vC vT' rows' (w3.setCell ⟨p, 0, none⟩ vT') := by
  have h2 := h.below hb2
  have hp := h.hp
  have hpB := h.hpB
  have hbox : BoxW W vc vr vl w3 := ⟨(hb3.block _ (by omega)).trans h2.box.1, h2.box.2.trans (hb3.mono (by omega))⟩
  have hblk := (hb3.block _ hpB).trans h2.blk
  have hS : SameOn (fun k => k < B ∧ k ≠ p) w2 (w3.setCell ⟨p, 0, none⟩ vT') := fun k hk => (Below.heap_setCell _ _ _ _ (fun e => hk.2 e)).trans (hb3.block k hk.1)
  refine ⟨⟨(Below.heap_setCell _ _ _ _ (by show W.heap.size ≠ p; omega)).trans hbox.1, bl_set hbox.2 _ (by show W.heap.size ≤ p; omega)⟩, hp, hpB, ?_, heap_setCell_same _ _ 0 _ _ vT' hblk, h2.row.keep (fun _ q => q) hS, h2.col.keep (fun _ q => q) hS, hn.same (fun k hk => Below.heap_setCell _ _ _ _ (by show k ≠ p; omega))⟩
  have := hb3.size
  have := h2.hB
  simp
  omega
theorem TSt.mat {W : World} {vc vr vl : Value} {m : Mat} {B p : Nat} {vR vC vT : Value} {rows : List (List Int)} {w : World} (h : TSt W vc vr vl m B p vR vC vT rows w) (hr : rows = (turned m).cost) : MatIs w vT vR vC (turned m) := by
  have hB := h.hB
  refine ⟨?_, h.row.keep (fun k q => Nat.lt_of_lt_of_le q.1 hB) (SameOn.refl _ _), h.col.keep (fun k q => Nat.lt_of_lt_of_le q.1 hB) (SameOn.refl _ _)⟩
  rw [← hr]
  exact list_e h.own.sl'
theorem new_ints {B : Nat} {w : World} {v : Value} {l : List Int} (h : NewL tInt 3 B w v l) : New (tInt.list 3) B w [v] l := by
  obtain ⟨F, h1, h2, h3⟩ := h
  exact ⟨F, ⟨v, rfl, h1⟩, h2, h3⟩
theorem slRowL : SlT Try.prog 22 23 (tInt.list 3).sz 24 := SlT.of (z := .slice none 0 0) Try.underlying22 (by kernel_rfl) rfl (by decide)
set_option maxRecDepth 100000 in
set_option maxHeartbeats 20000000 in
theorem turned_any (m : Mat) (vc vr vl : Value) (W : World) (hm : MatIs W vc vr vl m) :
    Calls Try.prog 9 #[.agg #[vc, vr, vl]] W fun e w' => e = .returned (.bool true) ∧ Below W.heap.size W w' := by
  have HM := Lib.hid hm
  obtain ⟨ac, cc, bc, oc, ar, cr, br, or, al, cl, bl, ol, rfl, rfl, rfl, hma⟩ := hm.at
  have HMA := Lib.hid hma
  have HB := Lib.hid (BoxW.start W (.slice ac m.cost.length cc) (.slice ar m.row.length cr) (.slice al m.col.length cl))
  clear hm hma
  go_enter Try.func9, Try.ntmps9
  go_wp2_with (fail)
  refine (great_any m _ _ _ _ (HM.out.step HB.out.2)).mono ?_
  rintro e w1 ⟨⟨bg, rfl⟩, hb⟩
  have HB' := Lib.hid (HB.out.below hb)
  clear hb HB
  have HB := HB'
  clear HB'
  obtain ⟨x0, x1, x2, -⟩ := blk3 HB.out.1
  cases bg
  case true =>
    go_wp2_with (fail)
    refine (awake_any _).mono ?_
    rintro e wz ⟨rfl, hb⟩
    have HZ := Lib.hid (bl_trans HB.out.2 hb)
    clear hb
    go_wp2_with (fail)
    go_ret
    exact ⟨rfl, HZ.out⟩
  go_wp2_with (fail)
  refine (check_any m _ _ _ _ (HM.out.step HB.out.2)).mono ?_
  rintro e w2 ⟨rfl, hb⟩
  have HB' := Lib.hid (HB.out.below hb)
  clear hb HB
  have HB := HB'
  clear HB'
  clear x0 x1 x2
  obtain ⟨x0, x1, x2, -⟩ := blk3 HB.out.1
  by_cases hc : chk m = 0
  case neg =>
    have hcn : (chk m != 0) = true := by rw [bne_iff_ne]; exact hc
    clear hc
    go_wp2_with (fail)
    refine (awake_any _).mono ?_
    rintro e wz ⟨rfl, hb⟩
    have HZ := Lib.hid (bl_trans HB.out.2 hb)
    clear hb
    go_wp2_with (fail)
    go_ret
    exact ⟨rfl, HZ.out⟩
  have hcn : (chk m != 0) = false := by rw [bne_eq_false_iff_eq]; exact hc
  have hok := chk_ok.1 hc
  have n8 := hok.n8
  have c8 := hok.c8
  have HC := Lib.hid hc
  clear hc
  have HCOL := Lib.hid (show ∀ w', Below w2.heap.size w2 w' → SlIs tInt (· < w'.heap.size) w' (.slice al m.col.length cl) m.col from fun w' hb => (HM.out.step (bl_trans HB.out.2 hb)).col)
  have HROW := Lib.hid (show ∀ w', Below w2.heap.size w2 w' → SlIs tInt (· < w'.heap.size) w' (.slice ar m.row.length cr) m.row from fun w' hb => (HM.out.step (bl_trans HB.out.2 hb)).row)
  go_upto_region 3 with (fail)
  go_cut [3] (fun v wx => ∃ p aR cR aC cC, v = .pointer (some ⟨p, 0, none⟩) ∧ T3 W (.slice ac m.cost.length cc) (.slice ar m.row.length cr) (.slice al m.col.length cl) m wx p (.slice aR m.col.length cR) (.slice aC m.row.length cC))
  case first =>
    clear HMA
    have hW2 := lt_of_heap HB.out.1
    have n0Z : ¬ W.heap.size = w2.heap.size := by omega
    have n1Z : ¬ W.heap.size = w2.heap.size + 1 := by omega
    have n2Z : ¬ W.heap.size = w2.heap.size + 1 + 1 := by omega
    have k0Z : ¬ w2.heap.size = W.heap.size := by omega
    have k1Z : ¬ w2.heap.size + 1 = W.heap.size := by omega
    have k2Z : ¬ w2.heap.size + 1 + 1 = W.heap.size := by omega
    have m2Z : ¬ W.heap.size = w2.heap.size + 2 := by omega
    have l2Z : ¬ w2.heap.size + 2 = W.heap.size := by omega
    go_region_held3 (fun w' => w'.cell? ⟨W.heap.size, 1, none⟩ = some (.slice ar m.row.length cr) ∧ w'.cell? ⟨W.heap.size, 2, none⟩ = some (.slice al m.col.length cl)) (first | exact ⟨(Below.cell (p := ⟨W.heap.size, 1, none⟩) (show Below w2.heap.size w2 _ from (by ((repeat (first | (with_reducible exact Below.refl _ _) | (with_reducible exact HWA.out) | (with_reducible exact HWB.out) | (with_reducible apply bl_drewN) | (with_reducible apply bl_alloc) | (with_reducible apply Below.drew) | ((with_reducible refine bl_set ?_ _ ?_); rotate_left; focus (first | exact Nat.le_refl _ | (dsimp only; omega)))))
                                                                                                                                                                                                                                                                          done))) hW2).trans x1, (Below.cell (p := ⟨W.heap.size, 2, none⟩) (show Below w2.heap.size w2 _ from (by ((repeat (first | (with_reducible exact Below.refl _ _) | (with_reducible exact HWA.out) | (with_reducible exact HWB.out) | (with_reducible apply bl_drewN) | (with_reducible apply bl_alloc) | (with_reducible apply Below.drew) | ((with_reducible refine bl_set ?_ _ ?_); rotate_left; focus (first | exact Nat.le_refl _ | (dsimp only; omega)))))
                                                                                                                                                                                                                                                                                                                                                                                   done))) hW2).trans x2⟩ | go_keep)
      (first
        | (refine step_append_cap0 (.tmp 25) (.tmp 27) rfl 23 rfl (fun h => h) slInt rfl rfl (HCOL.out _ ?_) (fun _ hk => hk) (by omega) (by unfold maxLen; omega) ?_
           focus ((repeat (first | (with_reducible exact Below.refl _ _) | (with_reducible exact HWA.out) | (with_reducible exact HWB.out) | (with_reducible apply bl_drewN) | (with_reducible apply bl_alloc) | (with_reducible apply Below.drew) | ((with_reducible refine bl_set ?_ _ ?_); rotate_left; focus (first | exact Nat.le_refl _ | (dsimp only; omega)))))
                  done)
           intro aoA cpA wA hA hbA
           have HWA := Lib.hid (show Below w2.heap.size w2 wA from bl_trans (by ((repeat (first | (with_reducible exact Below.refl _ _) | (with_reducible exact HWA.out) | (with_reducible exact HWB.out) | (with_reducible apply bl_drewN) | (with_reducible apply bl_alloc) | (with_reducible apply Below.drew) | ((with_reducible refine bl_set ?_ _ ?_); rotate_left; focus (first | exact Nat.le_refl _ | (dsimp only; omega)))))
                                                                                 done)) hbA)
           have HSA := Lib.hid hA
           have hzA := hbA.size
           (try simp only [World.size_alloc, World.size_drew] at hzA)
           have n0A : ¬ W.heap.size = wA.heap.size := by omega
           have n1A : ¬ W.heap.size = wA.heap.size + 1 := by omega
           have n2A : ¬ W.heap.size = wA.heap.size + 1 + 1 := by omega
           have k0A : ¬ wA.heap.size = W.heap.size := by omega
           have k1A : ¬ wA.heap.size + 1 = W.heap.size := by omega
           have k2A : ¬ wA.heap.size + 1 + 1 = W.heap.size := by omega
           have m2A : ¬ W.heap.size = wA.heap.size + 2 := by omega
           have l2A : ¬ wA.heap.size + 2 = W.heap.size := by omega
           obtain ⟨d0, d1, d2, -⟩ := blk3 (HB.out.below HWA.out).1
           (first
             | (have hpA := Go.Tw.Below.at_old hbA (o := .cells #[.slice none 0 0, .slice none 0 0, .slice none 0 0] 25 (0, 0)) (by (first
                                                                                                                                                   | exact alloc1_0 _ _
                                                                                                                                                   | exact alloc1_old _ (alloc1_0 _ _)
                                                                                                                                                   | exact alloc1_old _ (alloc1_old _ (alloc1_0 _ _))
                                                                                                                                                   | exact HP.out
                                                                                                                                                   | exact alloc1_old _ HP.out
                                                                                                                                                   | exact alloc1_old _ (alloc1_old _ HP.out)))
                (try simp only [World.size_alloc, World.size_drew] at hpA)
                obtain ⟨f0, f1, f2, ff⟩ := blk3 hpA
                have HP := Lib.hid hpA
                clear hpA)
             | skip)
           skip
           clear hA hbA)
        | (refine step_append_cap0 (.tmp 29) (.tmp 31) rfl 23 rfl (fun h => h) slInt rfl rfl (HROW.out _ ?_) (fun _ hk => hk) (by omega) (by unfold maxLen; omega) ?_
           focus ((repeat (first | (with_reducible exact Below.refl _ _) | (with_reducible exact HWA.out) | (with_reducible exact HWB.out) | (with_reducible apply bl_drewN) | (with_reducible apply bl_alloc) | (with_reducible apply Below.drew) | ((with_reducible refine bl_set ?_ _ ?_); rotate_left; focus (first | exact Nat.le_refl _ | (dsimp only; omega)))))
                  done)
           intro aoB cpB wB hB hbB
           have HWB := Lib.hid (show Below w2.heap.size w2 wB from bl_trans (by ((repeat (first | (with_reducible exact Below.refl _ _) | (with_reducible exact HWA.out) | (with_reducible exact HWB.out) | (with_reducible apply bl_drewN) | (with_reducible apply bl_alloc) | (with_reducible apply Below.drew) | ((with_reducible refine bl_set ?_ _ ?_); rotate_left; focus (first | exact Nat.le_refl _ | (dsimp only; omega)))))
                                                                                 done)) hbB)
           have HSB := Lib.hid hB
           have hzB := hbB.size
           (try simp only [World.size_alloc, World.size_drew] at hzB)
           have n0B : ¬ W.heap.size = wB.heap.size := by omega
           have n1B : ¬ W.heap.size = wB.heap.size + 1 := by omega
           have n2B : ¬ W.heap.size = wB.heap.size + 1 + 1 := by omega
           have k0B : ¬ wB.heap.size = W.heap.size := by omega
           have k1B : ¬ wB.heap.size + 1 = W.heap.size := by omega
           have k2B : ¬ wB.heap.size + 1 + 1 = W.heap.size := by omega
           have m2B : ¬ W.heap.size = wB.heap.size + 2 := by omega
           have l2B : ¬ wB.heap.size + 2 = W.heap.size := by omega
           obtain ⟨d0, d1, d2, -⟩ := blk3 (HB.out.below HWB.out).1
           (first
             | (have hpB := Go.Tw.Below.at_old hbB (o := .cells #[.slice none 0 0, .slice none 0 0, .slice none 0 0] 25 (0, 0)) (by (first
                                                                                                                                                   | exact alloc1_0 _ _
                                                                                                                                                   | exact alloc1_old _ (alloc1_0 _ _)
                                                                                                                                                   | exact alloc1_old _ (alloc1_old _ (alloc1_0 _ _))
                                                                                                                                                   | exact HP.out
                                                                                                                                                   | exact alloc1_old _ HP.out
                                                                                                                                                   | exact alloc1_old _ (alloc1_old _ HP.out)))
                (try simp only [World.size_alloc, World.size_drew] at hpB)
                obtain ⟨f0, f1, f2, ff⟩ := blk3 hpB
                have HP := Lib.hid hpB
                clear hpB)
             | skip)
           have HAB := (show Below wA.heap.size wA wB from bl_trans (by ((repeat (first | (with_reducible exact Below.refl _ _) | (with_reducible exact HWA.out) | (with_reducible exact HWB.out) | (with_reducible apply bl_drewN) | (with_reducible apply bl_alloc) | (with_reducible apply Below.drew) | ((with_reducible refine bl_set ?_ _ ?_); rotate_left; focus (first | exact Nat.le_refl _ | (dsimp only; omega)))))
                                                                         done)) hbB)
           have HSC := Lib.hid (SlIs.keep HSA.out (fun _ hk => hk) (fun k hk => HAB.block k hk.2))
           clear HAB
           clear hB hbB))
    all_goals
      go_wp2_with (fail)
      go_meet
      first
        | exact ⟨_, _, _, _, _, rfl, T3.mk_alloc (HB.out.below HWB.out) HSC.out HSB.out (fun k hk => by
                                                                                          (try dsimp only at hk)
                                                                                          (try simp only [World.size_alloc, World.size_drew] at hk)
                                                                                          omega) (fun k hk => by
                                                                                               (try dsimp only at hk)
                                                                                               (try simp only [World.size_alloc, World.size_drew] at hk)
                                                                                               omega)⟩
        | exact ⟨_, _, _, _, _, rfl, T3.mk_set (HB.out.below HWB.out) (by omega) HP.out HSC.out HSB.out (fun k hk => by
                                                                                                          (try dsimp only at hk)
                                                                                                          (try simp only [World.size_alloc, World.size_drew] at hk)
                                                                                                          omega) (fun k hk => by
                                                                                                               (try dsimp only at hk)
                                                                                                               (try simp only [World.size_alloc, World.size_drew] at hk)
                                                                                                               omega)⟩
  case rest =>
    clear HCOL HROW x0 x1 x2
    obtain ⟨p, aR, cR, aC, cC, rfl, h3⟩ := hcut
    obtain ⟨B, hs⟩ : ∃ B, TSt W (.slice ac m.cost.length cc) (.slice ar m.row.length cr) (.slice al m.col.length cl) m B p (.slice aR m.col.length cR) (.slice aC m.row.length cC) (.slice none 0 0) [] _ := ⟨_, h3.start⟩
    have HS := Lib.hid hs
    clear h3 hs HB
    obtain ⟨x0, x1, x2, -⟩ := blk3 HS.out.box.1
    go_wp2
    clear x0 x1 x2
    go_loopg [37] m.col.length (fun g' jx wr => ∃ (j : Nat) (vT : Value), j + g' = m.col.length ∧ jx = .int .i64 j ∧ TSt W (.slice ac m.cost.length cc) (.slice ar m.row.length cr) (.slice al m.col.length cl) m B p (.slice aR m.col.length cR) (.slice aC m.row.length cC) vT ((turned m).cost.take j) wr)
    case atStart => exact ⟨0, _, by omega, rfl, HS.out⟩
    case round =>
      clear HS
      obtain ⟨j, vT, hj, rfl, hS⟩ := hrel
      have HS := Lib.hid hS
      clear hS
      obtain ⟨x0, x1, x2, -⟩ := blk3 HS.out.box.1
      have hWp := HS.out.hp
      have hpB := HS.out.hpB
      have hBw := HS.out.hB
      by_cases hlt : j < m.col.length
      case pos =>
        obtain ⟨cl0, hcl0⟩ : ∃ l : List Int, (List.range m.row.length).map (fun i => ent m i j) = l := ⟨_, rfl⟩
        have HCL := Lib.hid (show (turned m).cost.take j ++ [cl0] = (turned m).cost.take (j + 1) by
          rw [List.take_succ_eq_append_getElem (by simpa [turned] using hlt), ← hcl0]
          simp [turned])
        have hcll : cl0.length = m.row.length := by rw [← hcl0]; simp
        have HCG := Lib.hid (show ∀ i (h : i < cl0.length), cl0[i] = ent m i j by subst hcl0; intro i h; simp)
        have HCLL := Lib.hid hcll
        clear hcl0 hcll
        go_wp2
        clear x0 x1 x2
        obtain ⟨wo, rfl⟩ : ∃ wo : World, wo = wr := ⟨_, rfl⟩
        go_loopg [43, 5] m.row.length (fun g' ix lv wi => ∃ (i : Nat) (l0 : Value), l0 = lv ∧ i + g' = m.row.length ∧ ix = .int .i64 i ∧ OwnSl tInt 3 wo.heap.size wi l0 (cl0.take i) ∧ Below wo.heap.size wo wi)
        case atStart => exact ⟨0, _, rfl, by omega, rfl, OwnSl.nil _ _ _ _, Below.refl _ _⟩
        case round =>
          obtain ⟨wi, rfl⟩ : ∃ wi : World, wi = wr := ⟨_, rfl⟩
          obtain ⟨i, l0, rfl, hi, rfl, ho, hbw⟩ := hrel
          have HO := Lib.hid ho
          have HBW := Lib.hid hbw
          have hsz := hbw.size
          clear ho hbw
          have HSI := Lib.hid (HS.out.below HBW.out)
          obtain ⟨x0, x1, x2, -⟩ := blk3 HSI.out.box.1
          by_cases hil : i < m.row.length
          case pos =>
            obtain ⟨h1, h2, hpr⟩ := price_at hok hil (show (0 : Int) ≤ (j : Int) by omega) (show (j : Int) < (m.col.length : Int) by omega)
            simp only [Int.toNat_natCast] at h2 hpr
            obtain ⟨rfl, -, ar1, cr1, br1, or1, hcell, k1, k2, hints⟩ := HMA.out.cost i h1
            have hcell0 := hcell _ HSI.out.box.2
            obtain ⟨rfl, -, y0, hy64⟩ := hints _ HSI.out.box.2 j h2
            unfold maxLen at k2
            have i0 : (0 : Int) ≤ (i : Int) := by omega
            have i2 : (i : Int) < (m.cost.length : Int) := by omega
            have j0 : (0 : Int) ≤ (j : Int) := by omega
            have j1 : (j : Int) < (m.cost[i].length : Int) := by omega
            have HE := Lib.hid (show cl0.take (i + 1) = cl0.take i ++ [m.cost[i][j]] by
              rw [List.take_succ_eq_append_getElem (by rw [HCLL.out]; exact hil), HCG.out i (by rw [HCLL.out]; exact hil), ← hpr]
              unfold price ent
              rw [if_neg (by omega)]
              simp)
            have hll : (cl0.take i).length ≤ 8 := by rw [List.length_take, HCLL.out]; omega
            obtain ⟨x, hx⟩ : ∃ x, m.cost[i][j] = x := ⟨_, rfl⟩
            rw [hx] at y0 hy64 HE
            have HY := Lib.hid hy64
            clear hpr hcell hints hx hy64
            go_wp2_with (
              at_builtin
              refine wpList_append_one (.tmp 46) (.tmp 55) rfl 23 rfl slInt rfl HO.out rfl (S := fun _ => False) (y := x) ⟨rfl, HY.out⟩ (fun _ h => h.elim) (by omega) (by unfold maxLen; omega) hsz ?_
              intro v3 w3 ho3 hg3 hb3
              have HO3 := Lib.hid ho3
              have HB3 := Lib.hid (HBW.out.trans hb3)
              clear ho3 hg3 hb3)
            go_roundg (m.row.length - (i + 1))
            case measure => omega
            case rel => exact ⟨i + 1, _, rfl, by omega, by go_num, by rw [HE.out]; exact HO3.out, HB3.out⟩
          case neg =>
            obtain rfl : i = m.row.length := by omega
            have hkd : decide ((m.row.length : Int) < (m.row.length : Int)) = false := by simp
            have ho1 := HO.out
            rw [List.take_of_length_le (by rw [HCLL.out]; omega)] at ho1
            have HN := Lib.hid (show New (tInt.list 3) wo.heap.size wi [l0] cl0 from new_ints (NewL.ofOwn ownInt ho1 (Nat.le_refl _)))
            obtain ⟨ao, cap, rfl, -⟩ := id ho1.form
            clear ho1 HO
            obtain ⟨aT, cT, rfl, -⟩ := id HS.out.own.form
            have hTl : ((turned m).cost.take j).length = j := by simp [turned]; omega
            have HTL := Lib.hid hTl
            rw [hTl] at HS HSI
            clear hTl hil hi
            obtain ⟨p0, p1, p2, pf⟩ := blk3 HSI.out.blk
            go_wp2_with (
              at_builtin
              refine wpList_append_new (.tmp 59) (.tmp 61) rfl 22 rfl slRowL rfl HS.out.own HBW.out rfl HN.out (by rw [HTL.out]; omega) (by rw [HTL.out]; unfold maxLen; omega) hBw ?_
              intro v3 w3 hn3 hb3
              obtain ⟨a3, c3, e3, -⟩ := id hn3.form
              rw [List.length_append, HTL.out] at e3
              change v3 = .slice a3 (j + 1) c3 at e3
              subst e3
              have HN3 := Lib.hid hn3
              have HB3 := Lib.hid hb3
              obtain ⟨pc0, -, -, pf3⟩ := blk3 ((hb3.block p hpB).trans HSI.out.blk)
              clear hn3 hb3)
            go_roundg (m.col.length - (j + 1))
            case measure => omega
            case rel => exact ⟨j + 1, _, by omega, by go_num, HS.out.push HBW.out (by rw [← HCL.out]; exact HN3.out) HB3.out⟩
      case neg =>
        obtain rfl : j = m.col.length := by omega
        have hkd : decide ((m.col.length : Int) < (m.col.length : Int)) = false := by simp
        have HT := Lib.hid (HS.out.mat (List.take_of_length_le (by simp [turned])))
        obtain ⟨p0, p1, p2, pf⟩ := blk3 HS.out.blk
        obtain ⟨wo, rfl⟩ : ∃ wo : World, wo = wr := ⟨_, rfl⟩
        have hcT : chk (turned m) = 0 := chk_ok.2 (turned_ok hok)
        have hmn := turned_mn hok
        have HB1 := Lib.hid (show bestC m = (bestL m, mn (costs m (opn m.row.length) m.row.length 0 0), 0) by unfold bestC; rw [if_neg (by simp [HC.out])])
        have HB2 := Lib.hid (show bestC (turned m) = (bestL (turned m), mn (costs m (opn m.row.length) m.row.length 0 0), 0) by rw [← hmn.1]; unfold bestC; rw [if_neg (by simp [hcT])]; rfl)
        have HT1 := Lib.hid (show tiesC m = (tieN (costs m (opn m.row.length) m.row.length 0 0), 0) by unfold tiesC; rw [if_neg (by simp [HC.out])]; rfl)
        have HT2 := Lib.hid (show tiesC (turned m) = (tieN (costs m (opn m.row.length) m.row.length 0 0), 0) by rw [← hmn.2]; unfold tiesC; rw [if_neg (by simp [hcT])]; rfl)
        obtain ⟨x, hx⟩ : ∃ x, mn (costs m (opn m.row.length) m.row.length 0 0) = x := ⟨_, rfl⟩
        obtain ⟨y, hy⟩ : ∃ y, tieN (costs m (opn m.row.length) m.row.length 0 0) = y := ⟨_, rfl⟩
        rw [hx] at HB1 HB2
        rw [hy] at HT1 HT2
        have hxx : (x == x) = true := by simp
        have hyy : (y == y) = true := by simp
        clear hcT hmn hx hy hlt hj
        go_wp2_with (fail)
        refine (best_any m _ _ _ _ (HM.out.step HS.out.box.2)).mono ?_
        rintro e w4 ⟨⟨v4, rfl, -⟩, hb⟩
        rw [HB1.out]
        have HT' := Lib.hid (HT.out.step hb)
        have HS' := Lib.hid (HS.out.below hb)
        clear hb HS HT x0 x1 x2 p0 p1 p2 pf
        have HS := HS'
        have HT := HT'
        clear HS' HT'
        obtain ⟨x0, x1, x2, -⟩ := blk3 HS.out.box.1
        obtain ⟨p0, p1, p2, pf⟩ := blk3 HS.out.blk
        go_wp2_with (fail)
        refine (best_any (turned m) _ _ _ _ HT.out).mono ?_
        rintro e w5 ⟨⟨v5, rfl, -⟩, hb⟩
        rw [HB2.out]
        have HT' := Lib.hid (HT.out.step hb)
        have HS' := Lib.hid (HS.out.below hb)
        clear hb HS HT x0 x1 x2 p0 p1 p2 pf
        have HS := HS'
        have HT := HT'
        clear HS' HT'
        obtain ⟨x0, x1, x2, -⟩ := blk3 HS.out.box.1
        obtain ⟨p0, p1, p2, pf⟩ := blk3 HS.out.blk
        go_wp2_with (fail)
        refine (ties_any m _ _ _ _ (HM.out.step HS.out.box.2)).mono ?_
        rintro e w6 ⟨rfl, hb⟩
        rw [HT1.out]
        have HT' := Lib.hid (HT.out.step hb)
        have HS' := Lib.hid (HS.out.below hb)
        clear hb HS HT x0 x1 x2 p0 p1 p2 pf
        have HS := HS'
        have HT := HT'
        clear HS' HT'
        obtain ⟨x0, x1, x2, -⟩ := blk3 HS.out.box.1
        obtain ⟨p0, p1, p2, pf⟩ := blk3 HS.out.blk
        go_wp2_with (fail)
        refine (ties_any (turned m) _ _ _ _ HT.out).mono ?_
        rintro e w7 ⟨rfl, hb⟩
        rw [HT2.out]
        have HT' := Lib.hid (HT.out.step hb)
        have HS' := Lib.hid (HS.out.below hb)
        clear hb HS HT x0 x1 x2 p0 p1 p2 pf
        have HS := HS'
        have HT := HT'
        clear HS' HT'
        obtain ⟨x0, x1, x2, -⟩ := blk3 HS.out.box.1
        obtain ⟨p0, p1, p2, pf⟩ := blk3 HS.out.blk
        clear x0 x1 x2 p0 p1 p2 pf
        go_wp2_with (fail)
        refine (awake_any _).mono ?_
        rintro e wz ⟨rfl, hb⟩
        have HZ := Lib.hid (bl_trans HS.out.box.2 hb)
        clear hb
        go_wp2_with (fail)
        go_ret
        exact ⟨rfl, HZ.out⟩
end Go.Proofs.Ytepceaoccnmkiaa
