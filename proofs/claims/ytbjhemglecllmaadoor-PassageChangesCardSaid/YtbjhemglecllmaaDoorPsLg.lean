/-
  Layer 17 (passage): the law PassageChanges.
-/
import Derived.Test.YtbjhemglecllmaaDoorPsL2
namespace Go.Tw.Ps
open Go.RowKit Go.Tw Go.Sort Go.Tw.Ord
theorem diff_self {l O : List Pas} (h : DiffSpec l l O) : O = [] := List.eq_nil_iff_forall_not_mem.2 fun x hx => absurd ((h.2 x).1 hx).1 ((h.2 x).1 hx).2
end Go.Tw.Ps
namespace Go.Proofs.YtbjhemglecllmaaDoor
open Go.RowKit Go.Tw Go.Tw.Ord Go.Tw.Ps Go.Sort Go.ChangeShapes Go.WideShapes
set_option maxRecDepth 100000 in
set_option maxHeartbeats 4000000 in
theorem changes_walk : LawWalkL Tryd.prog laidL 10 Tryd.f10 := by
  intro H enc W base args ds ps hval hA hsz hL
  rw [Tryd.params10] at hA hval
  obtain ⟨v0, v1, d0, d1, p0, p1, rfl, rfl, rfl, h0, h1⟩ := trodAll_two hA
  obtain ⟨l, hl⟩ := arg_slice Tryd.underlying38 (opensPass (e := 24)) (hval 0 _ _ rfl rfl) h0
  obtain ⟨m, hm⟩ := arg_slice Tryd.underlying38 (opensPass (e := 24)) (hval 1 _ _ rfl rfl) h1
  clear hA hval h0 h1 hsz hL
  have HL := Lib.hid hl
  have HM := Lib.hid hm
  have HFW := Lib.hid (few_any l v0 W hl)
  obtain ⟨ao, cp, g, o, hv0, q1, q2, ho⟩ := pas_rowA hl
  obtain ⟨ao2, cp2, g2, o2, hv1, q3, q4, ho2⟩ := pas_rowA hm
  unfold maxLen at q2 q4
  have HO := Lib.hid ho
  have HO2 := Lib.hid ho2
  have HV0 := Lib.hid hv0
  have HV1 := Lib.hid hv1
  clear hl hm ho ho2 hv0 hv1
  go_enter Tryd.func10, Tryd.ntmps10
  go_upto_region 5 with (first
    | (go_at_call 19
       first
       | (with_reducible refine HFW.out.mono ?_
          rintro e w1 ⟨⟨c, rfl, hc⟩, hg⟩
          have HC := Lib.hid hc
          have HB1 := Lib.hid hg.below
          have H1 := Lib.hid (HL.out.step hg.below)
          have M1 := Lib.hid (HM.out.step hg.below)
          clear hc hg
          cases c)
       | (with_reducible refine (few_any m v1 _ M1.out).mono ?_
          rintro e w2 ⟨⟨c, rfl, hc⟩, hg⟩
          have HD := Lib.hid hc
          have HB2 := Lib.hid (bl_trans HB1.out hg.below)
          have H2 := Lib.hid (H1.out.step hg.below)
          have M2 := Lib.hid (M1.out.step hg.below)
          clear hc hg
          cases c))
    | (go_at_call 23
       first
       | (with_reducible refine (diff_any l m v0 v1 _ H2.out M2.out (by have := (HC.out (by simp)).1; omega) (by have := (HD.out (by simp)).1; omega) (few_src (HC.out (by simp)).2) (few_src (HD.out (by simp)).2)).mono ?_
          rintro e w3 ⟨⟨va, vb, rfl, Oa, Ob, da, db, la, lb, sa, sb⟩, hb⟩
          have DA := Lib.hid da
          have DB := Lib.hid db
          have LA := Lib.hid la
          have LB := Lib.hid lb
          have SA := Lib.hid sa
          have SB := Lib.hid sb
          have H3 := Lib.hid (H2.out.step hb)
          have M3 := Lib.hid (M2.out.step hb)
          have HB3 := Lib.hid (bl_trans HB2.out hb)
          clear da db la lb sa sb hb)
       | (with_reducible refine (diff_any l l v0 v0 _ H3.out H3.out (by have := (HC.out (by simp)).1; omega) (by have := (HC.out (by simp)).1; omega) (few_src (HC.out (by simp)).2) (few_src (HC.out (by simp)).2)).mono ?_
          rintro e w4 ⟨⟨vc, vd, rfl, Oc, Od, dc, dd, lc, ld, sc, sd⟩, hb⟩
          obtain rfl := diff_self dc
          obtain rfl := diff_self dd
          obtain ⟨ac, cc, _, _, rfl, -⟩ := id sc
          obtain ⟨ad, cd, _, _, rfl, -⟩ := id sd
          have TA := Lib.hid (SA.out.step hb)
          have TB := Lib.hid (SB.out.step hb)
          have H4 := Lib.hid (H3.out.step hb)
          have M4 := Lib.hid (M3.out.step hb)
          have HB4 := Lib.hid (bl_trans HB3.out hb)
          clear dc dd lc ld sc sd hb))
    | (go_at_call 12
       with_reducible refine (awake_any _).mono ?_
       rintro e wz ⟨rfl, hbz⟩
       have HBZ := Lib.hid (bl_trans (show Below W.heap.size W _ from by first | exact HB9.out | exact HB2.out | exact HB1.out) hbz)
       clear hbz))
  · go_ret
    exact ⟨rfl, HBZ.out⟩
  · go_ret
    exact ⟨rfl, HBZ.out⟩
  · have hc1 := (HC.out (by simp)).1
    have hc2 := (HD.out (by simp)).1
    obtain ⟨aa, ca, _, _, e1, -⟩ := id TA.out
    obtain ⟨ab, cb, _, _, e2, -⟩ := id TB.out
    subst e1
    subst e2
    have e3 := HV0.out
    have e4 := HV1.out
    subst e3
    subst e4
    have hm4 : SlIs (tPas eS) (· < w4.heap.size) w4 (.slice ao2 m.length cp2) m := M4.out
    have hh4 : SlIs (tPas eS) (· < w4.heap.size) w4 (.slice ao l.length cp) l := H4.out
    have M5 := Lib.hid hm4
    have H5 := Lib.hid hh4
    clear hm4 hh4 M4 H4
    have lA : (Oa.length : Int) ≤ (l.length : Int) := by have := LA.out; omega
    have lB : (Ob.length : Int) ≤ (m.length : Int) := by have := LB.out; omega
    clear HFW
    go_wp2
    go_loopg [9] l.length (fun gx i wr => ∃ k : Nat, k + gx = l.length ∧ i = .int .i64 k ∧ GrB w4 wr)
    case atStart => exact ⟨0, by omega, rfl, GrB.refl _⟩
    case round =>
      obtain ⟨wi, rfl⟩ : ∃ wi : World, wi = wr := ⟨_, rfl⟩
      obtain ⟨k, hk, rfl, hb⟩ := hrel
      have HB := Lib.hid hb
      by_cases hlt : k < l.length
      · obtain ⟨rfl, -, A, vx, hat⟩ := HO.out k hlt
        have hxl := List.getElem_mem hlt
        generalize l[k] = x at hat hxl
        have hbw : Below W.heap.size W wi := bl_trans HB4.out hb.below
        have LX := Lib.hid (hat.ld hbw)
        have hz : decide (x ∈ Ob) = false := by rw [decide_eq_false_iff_not, DB.out.2]; exact fun q => q.2 hxl
        have N3 := Lib.hid (hat.has hbw (TB.out.step hb.below) hz)
        have k0 : (0 : Int) ≤ (k : Int) := by omega
        have k1 : (k : Int) < (l.length : Int) := by omega
        by_cases hxm : x ∈ m
        · have N1 := Lib.hid (hat.has (c := false) hbw (TA.out.step hb.below) (by rw [decide_eq_false_iff_not, DA.out.2]; exact fun q => q.2 hxm))
          have N2 := Lib.hid (hat.has (c := true) hbw (M5.out.step hb.below) (by simpa using hxm))
          clear hat hxl hbw hz hxm hb
          go_upto_region 8 with (fail)
          refine QW.regionG (by kernel_rfl) (by kernel_rfl) ?_
          (iterate 4 (refine QW.yes (by kernel_rfl) (fun K hK => ?_)
                      go_simp
                      (with_reducible refine hK _ ?_)
                      clear hK K))
          refine QW.yes (by kernel_rfl) (fun K hK => ?_)
          refine quiet_loadA (A := A) rfl Tryd.isAgg24 Tryd.sizeOf24 rfl (fun w' hw' => ?_) (hK _ ?_)
          · obtain ⟨⟨nq, osq⟩, rfl⟩ := hw'
            exact LX.out nq osq
          clear hK K
          (refine QW.yes (by kernel_rfl) (fun K hK => ?_)
           go_simp
           apply Exists.intro
           refine ⟨fun _ => ?_, hK _ ?_⟩
           (go_at_call 33; with_reducible exact Calls.grown_of (N1.out _ _))
           clear hK K)
          (iterate 4 (refine QW.yes (by kernel_rfl) (fun K hK => ?_)
                      go_simp
                      (with_reducible refine hK _ ?_)
                      clear hK K))
          refine QW.yes (by kernel_rfl) (fun K hK => ?_)
          refine quiet_loadA (A := A) rfl Tryd.isAgg24 Tryd.sizeOf24 rfl (fun w' hw' => ?_) (hK _ ?_)
          · obtain ⟨⟨nq, osq⟩, rfl⟩ := hw'
            exact LX.out nq osq
          clear hK K
          (refine QW.yes (by kernel_rfl) (fun K hK => ?_)
           go_simp
           apply Exists.intro
           refine ⟨fun _ => ?_, hK _ ?_⟩
           (go_at_call 33; with_reducible exact Calls.grown_of (N2.out _ _))
           clear hK K)
          (iterate 6 (refine QW.yes (by kernel_rfl) (fun K hK => ?_)
                      go_simp
                      (with_reducible refine hK _ ?_)
                      clear hK K))
          refine QW.yes (by kernel_rfl) (fun K hK => ?_)
          refine quiet_loadA (A := A) rfl Tryd.isAgg24 Tryd.sizeOf24 rfl (fun w' hw' => ?_) (hK _ ?_)
          · obtain ⟨⟨nq, osq⟩, rfl⟩ := hw'
            exact LX.out nq osq
          clear hK K
          (refine QW.yes (by kernel_rfl) (fun K hK => ?_)
           go_simp
           apply Exists.intro
           refine ⟨fun _ => ?_, hK _ ?_⟩
           (go_at_call 33; with_reducible exact Calls.grown_of (N3.out _ _))
           clear hK K)
          (refine QW.yes (by kernel_rfl) (fun K hK => ?_)
           go_simp
           (with_reducible refine hK _ ?_)
           clear hK K)
          refine QW.nil ?_
          intro _ hw'
          obtain ⟨⟨nq, osq⟩, hw''⟩ := hw'
          subst hw''
          have HGQ := Lib.hid (show GrB wi (grow (wi.drewN nq) osq) from ⟨nq, osq, rfl⟩)
          clear LX N1 N2 N3
          generalize grow (wi.drewN nq) osq = wq at HGQ ⊢
          go_wp2
          go_roundg (l.length - (k + 1))
          case measure => omega
          case rel => exact ⟨k + 1, by omega, by go_num, HB.out.trans HGQ.out⟩
        · have N1 := Lib.hid (hat.has (c := true) hbw (TA.out.step hb.below) (by rw [decide_eq_true_eq, DA.out.2]; exact ⟨hxl, hxm⟩))
          have N2 := Lib.hid (hat.has (c := false) hbw (M5.out.step hb.below) (by simpa using hxm))
          clear hat hxl hbw hz hxm hb
          go_upto_region 8 with (fail)
          refine QW.regionG (by kernel_rfl) (by kernel_rfl) ?_
          (iterate 4 (refine QW.yes (by kernel_rfl) (fun K hK => ?_)
                      go_simp
                      (with_reducible refine hK _ ?_)
                      clear hK K))
          refine QW.yes (by kernel_rfl) (fun K hK => ?_)
          refine quiet_loadA (A := A) rfl Tryd.isAgg24 Tryd.sizeOf24 rfl (fun w' hw' => ?_) (hK _ ?_)
          · obtain ⟨⟨nq, osq⟩, rfl⟩ := hw'
            exact LX.out nq osq
          clear hK K
          (refine QW.yes (by kernel_rfl) (fun K hK => ?_)
           go_simp
           apply Exists.intro
           refine ⟨fun _ => ?_, hK _ ?_⟩
           (go_at_call 33; with_reducible exact Calls.grown_of (N1.out _ _))
           clear hK K)
          (iterate 4 (refine QW.yes (by kernel_rfl) (fun K hK => ?_)
                      go_simp
                      (with_reducible refine hK _ ?_)
                      clear hK K))
          refine QW.yes (by kernel_rfl) (fun K hK => ?_)
          refine quiet_loadA (A := A) rfl Tryd.isAgg24 Tryd.sizeOf24 rfl (fun w' hw' => ?_) (hK _ ?_)
          · obtain ⟨⟨nq, osq⟩, rfl⟩ := hw'
            exact LX.out nq osq
          clear hK K
          (refine QW.yes (by kernel_rfl) (fun K hK => ?_)
           go_simp
           apply Exists.intro
           refine ⟨fun _ => ?_, hK _ ?_⟩
           (go_at_call 33; with_reducible exact Calls.grown_of (N2.out _ _))
           clear hK K)
          (iterate 6 (refine QW.yes (by kernel_rfl) (fun K hK => ?_)
                      go_simp
                      (with_reducible refine hK _ ?_)
                      clear hK K))
          refine QW.yes (by kernel_rfl) (fun K hK => ?_)
          refine quiet_loadA (A := A) rfl Tryd.isAgg24 Tryd.sizeOf24 rfl (fun w' hw' => ?_) (hK _ ?_)
          · obtain ⟨⟨nq, osq⟩, rfl⟩ := hw'
            exact LX.out nq osq
          clear hK K
          (refine QW.yes (by kernel_rfl) (fun K hK => ?_)
           go_simp
           apply Exists.intro
           refine ⟨fun _ => ?_, hK _ ?_⟩
           (go_at_call 33; with_reducible exact Calls.grown_of (N3.out _ _))
           clear hK K)
          (refine QW.yes (by kernel_rfl) (fun K hK => ?_)
           go_simp
           (with_reducible refine hK _ ?_)
           clear hK K)
          refine QW.nil ?_
          intro _ hw'
          obtain ⟨⟨nq, osq⟩, hw''⟩ := hw'
          subst hw''
          have HGQ := Lib.hid (show GrB wi (grow (wi.drewN nq) osq) from ⟨nq, osq, rfl⟩)
          clear LX N1 N2 N3
          generalize grow (wi.drewN nq) osq = wq at HGQ ⊢
          go_wp2
          go_roundg (l.length - (k + 1))
          case measure => omega
          case rel => exact ⟨k + 1, by omega, by go_num, HB.out.trans HGQ.out⟩
      · have hkl : ¬ (k : Int) < (l.length : Int) := by omega
        clear hb hlt hk
        go_wp2
        go_loopg [10] m.length (fun gx i wr => ∃ k : Nat, k + gx = m.length ∧ i = .int .i64 k ∧ GrB w4 wr)
        case atStart => exact ⟨0, by omega, rfl, HB.out⟩
        case round =>
          clear HB
          obtain ⟨wi, rfl⟩ : ∃ wi : World, wi = wr := ⟨_, rfl⟩
          obtain ⟨k, hk, rfl, hb⟩ := hrel
          have HB := Lib.hid hb
          by_cases hlt : k < m.length
          · obtain ⟨rfl, -, A, vx, hat⟩ := HO2.out k hlt
            have hxl := List.getElem_mem hlt
            generalize m[k] = x at hat hxl
            have hbw : Below W.heap.size W wi := bl_trans HB4.out hb.below
            have LX := Lib.hid (hat.ld hbw)
            have hz : decide (x ∈ Oa) = false := by rw [decide_eq_false_iff_not, DA.out.2]; exact fun q => q.2 hxl
            have N3 := Lib.hid (hat.has hbw (TA.out.step hb.below) hz)
            have k0 : (0 : Int) ≤ (k : Int) := by omega
            have k1 : (k : Int) < (m.length : Int) := by omega
            by_cases hxm : x ∈ l
            · have N1 := Lib.hid (hat.has (c := false) hbw (TB.out.step hb.below) (by rw [decide_eq_false_iff_not, DB.out.2]; exact fun q => q.2 hxm))
              have N2 := Lib.hid (hat.has (c := true) hbw (H5.out.step hb.below) (by simpa using hxm))
              clear hat hxl hbw hz hxm hb
              go_upto_region 13 with (fail)
              refine QW.regionG (by kernel_rfl) (by kernel_rfl) ?_
              (iterate 4 (refine QW.yes (by kernel_rfl) (fun K hK => ?_)
                          go_simp
                          (with_reducible refine hK _ ?_)
                          clear hK K))
              refine QW.yes (by kernel_rfl) (fun K hK => ?_)
              refine quiet_loadA (A := A) rfl Tryd.isAgg24 Tryd.sizeOf24 rfl (fun w' hw' => ?_) (hK _ ?_)
              · obtain ⟨⟨nq, osq⟩, rfl⟩ := hw'
                exact LX.out nq osq
              clear hK K
              (refine QW.yes (by kernel_rfl) (fun K hK => ?_)
               go_simp
               apply Exists.intro
               refine ⟨fun _ => ?_, hK _ ?_⟩
               (go_at_call 33; with_reducible exact Calls.grown_of (N1.out _ _))
               clear hK K)
              (iterate 4 (refine QW.yes (by kernel_rfl) (fun K hK => ?_)
                          go_simp
                          (with_reducible refine hK _ ?_)
                          clear hK K))
              refine QW.yes (by kernel_rfl) (fun K hK => ?_)
              refine quiet_loadA (A := A) rfl Tryd.isAgg24 Tryd.sizeOf24 rfl (fun w' hw' => ?_) (hK _ ?_)
              · obtain ⟨⟨nq, osq⟩, rfl⟩ := hw'
                exact LX.out nq osq
              clear hK K
              (refine QW.yes (by kernel_rfl) (fun K hK => ?_)
               go_simp
               apply Exists.intro
               refine ⟨fun _ => ?_, hK _ ?_⟩
               (go_at_call 33; with_reducible exact Calls.grown_of (N2.out _ _))
               clear hK K)
              (iterate 6 (refine QW.yes (by kernel_rfl) (fun K hK => ?_)
                          go_simp
                          (with_reducible refine hK _ ?_)
                          clear hK K))
              refine QW.yes (by kernel_rfl) (fun K hK => ?_)
              refine quiet_loadA (A := A) rfl Tryd.isAgg24 Tryd.sizeOf24 rfl (fun w' hw' => ?_) (hK _ ?_)
              · obtain ⟨⟨nq, osq⟩, rfl⟩ := hw'
                exact LX.out nq osq
              clear hK K
              (refine QW.yes (by kernel_rfl) (fun K hK => ?_)
               go_simp
               apply Exists.intro
               refine ⟨fun _ => ?_, hK _ ?_⟩
               (go_at_call 33; with_reducible exact Calls.grown_of (N3.out _ _))
               clear hK K)
              (refine QW.yes (by kernel_rfl) (fun K hK => ?_)
               go_simp
               (with_reducible refine hK _ ?_)
               clear hK K)
              refine QW.nil ?_
              intro _ hw'
              obtain ⟨⟨nq, osq⟩, hw''⟩ := hw'
              subst hw''
              have HGQ := Lib.hid (show GrB wi (grow (wi.drewN nq) osq) from ⟨nq, osq, rfl⟩)
              clear LX N1 N2 N3
              generalize grow (wi.drewN nq) osq = wq at HGQ ⊢
              go_wp2
              go_roundg (m.length - (k + 1))
              case measure => omega
              case rel => exact ⟨k + 1, by omega, by go_num, HB.out.trans HGQ.out⟩
            · have N1 := Lib.hid (hat.has (c := true) hbw (TB.out.step hb.below) (by rw [decide_eq_true_eq, DB.out.2]; exact ⟨hxl, hxm⟩))
              have N2 := Lib.hid (hat.has (c := false) hbw (H5.out.step hb.below) (by simpa using hxm))
              clear hat hxl hbw hz hxm hb
              go_upto_region 13 with (fail)
              refine QW.regionG (by kernel_rfl) (by kernel_rfl) ?_
              (iterate 4 (refine QW.yes (by kernel_rfl) (fun K hK => ?_)
                          go_simp
                          (with_reducible refine hK _ ?_)
                          clear hK K))
              refine QW.yes (by kernel_rfl) (fun K hK => ?_)
              refine quiet_loadA (A := A) rfl Tryd.isAgg24 Tryd.sizeOf24 rfl (fun w' hw' => ?_) (hK _ ?_)
              · obtain ⟨⟨nq, osq⟩, rfl⟩ := hw'
                exact LX.out nq osq
              clear hK K
              (refine QW.yes (by kernel_rfl) (fun K hK => ?_)
               go_simp
               apply Exists.intro
               refine ⟨fun _ => ?_, hK _ ?_⟩
               (go_at_call 33; with_reducible exact Calls.grown_of (N1.out _ _))
               clear hK K)
              (iterate 4 (refine QW.yes (by kernel_rfl) (fun K hK => ?_)
                          go_simp
                          (with_reducible refine hK _ ?_)
                          clear hK K))
              refine QW.yes (by kernel_rfl) (fun K hK => ?_)
              refine quiet_loadA (A := A) rfl Tryd.isAgg24 Tryd.sizeOf24 rfl (fun w' hw' => ?_) (hK _ ?_)
              · obtain ⟨⟨nq, osq⟩, rfl⟩ := hw'
                exact LX.out nq osq
              clear hK K
              (refine QW.yes (by kernel_rfl) (fun K hK => ?_)
               go_simp
               apply Exists.intro
               refine ⟨fun _ => ?_, hK _ ?_⟩
               (go_at_call 33; with_reducible exact Calls.grown_of (N2.out _ _))
               clear hK K)
              (iterate 6 (refine QW.yes (by kernel_rfl) (fun K hK => ?_)
                          go_simp
                          (with_reducible refine hK _ ?_)
                          clear hK K))
              refine QW.yes (by kernel_rfl) (fun K hK => ?_)
              refine quiet_loadA (A := A) rfl Tryd.isAgg24 Tryd.sizeOf24 rfl (fun w' hw' => ?_) (hK _ ?_)
              · obtain ⟨⟨nq, osq⟩, rfl⟩ := hw'
                exact LX.out nq osq
              clear hK K
              (refine QW.yes (by kernel_rfl) (fun K hK => ?_)
               go_simp
               apply Exists.intro
               refine ⟨fun _ => ?_, hK _ ?_⟩
               (go_at_call 33; with_reducible exact Calls.grown_of (N3.out _ _))
               clear hK K)
              (refine QW.yes (by kernel_rfl) (fun K hK => ?_)
               go_simp
               (with_reducible refine hK _ ?_)
               clear hK K)
              refine QW.nil ?_
              intro _ hw'
              obtain ⟨⟨nq, osq⟩, hw''⟩ := hw'
              subst hw''
              have HGQ := Lib.hid (show GrB wi (grow (wi.drewN nq) osq) from ⟨nq, osq, rfl⟩)
              clear LX N1 N2 N3
              generalize grow (wi.drewN nq) osq = wq at HGQ ⊢
              go_wp2
              go_roundg (m.length - (k + 1))
              case measure => omega
              case rel => exact ⟨k + 1, by omega, by go_num, HB.out.trans HGQ.out⟩
          · have hkl2 : ¬ (k : Int) < (m.length : Int) := by omega
            have HB9 := Lib.hid (bl_trans HB4.out hb.below)
            clear hb hlt hk
            go_wp2_with (go_at_call 12
                         with_reducible refine (awake_any _).mono ?_
                         rintro e wz ⟨rfl, hbz⟩
                         have HBZ := Lib.hid (bl_trans (show Below W.heap.size W _ from by first | exact HB9.out | exact HB2.out | exact HB1.out) hbz)
                         clear hbz)
            go_ret
            exact ⟨rfl, HBZ.out⟩
set_option maxRecDepth 100000 in
theorem changes_lift (os : Os) (started : os.Started) (H : Type) (enc : TypeId × Value → H) :
    ReturnsInHanded {} Tryd.checked os 10 .any (fun w args => (Rows.passageChangesSpec.pre enc Tryd.prog Tryd.f10 [] false w args ∧ laidMetH Tryd.prog laidL w) ∧ sizedMet enc Tryd.prog Tryd.f10 (OpenSpec.ofChange Rows.passageChangesSpec) false w args)
      (Rows.passageChangesSpec.post enc Tryd.prog Tryd.f10 false true false false) :=
  law_lift_laid (C := Tryd.checked) (s := Rows.passageChangesSpec) (fn := Tryd.f10) ⟨rfl, fun H ds h => by
    match ds, h with
    | [a, b], _ => exact ⟨rfl, rfl, rfl⟩⟩ rfl Tryd.underlying4 (by kernel_rfl) laid0 own0 started (by kernel_rfl) Tryd.func10
    (ChangeSpec.witness_shaped (enc := enc) (C := Tryd.checked) (os := os) (X := fun w _ => laidMetH Tryd.prog laidL w) false (World.doorLaid Tryd.prog 24 os) #[.slice none 0 0, .slice none 0 0] 8 rfl (World.shaped_of_RefB (by kernel_rfl) (by kernel_rfl)) (by kernel_rfl) (by kernel_rfl) (by kernel_rfl) (door_met os _)) changes_walk
theorem changes_row : Rows.PassageChangesSaid :=
  OpenClaim.holds_of_wide 10 Tryd.f10 rfl rfl rfl rfl rfl rfl rfl ⟨rfl, rfl, rfl, rfl, rfl⟩ rfl rfl rfl rfl rfl (by kernel_rfl) Tryd.func10 (by kernel_rfl)
    (of_decide_eq_true (by kernel_rfl)) (by unfold Func.isWrapper; rw [if_neg (of_decide_eq_false (by kernel_rfl))]; exact ⟨rfl, rfl⟩)
    (fun os started H enc _ => changes_lift os started H enc)
/-- THE STATEMENT: PassageChanges, as a card. -/
theorem changes_holds : Rows.PassageChangesCardSaid :=
  Claim7.holds_tied_plain_at .later [] [.data, .data, .data] true (true, "aecdef402db0857d3deff0902d79660c7a9739e5c0215286cb3695e0890af9f4") false
    changes_row (fun _ h => by cases h) (by kernel_rfl) (fun _ h => by cases h) passageChanges_row_tie rfl ⟨rfl, rfl⟩ (by kernel_rfl) rfl
    (fun f fn hf hfn => by
      obtain rfl : f = 10 := Option.some.inj ((show Tryd.prog.funcNamed "tollway/tollwaylaw17.PassageChanges" = some 10 by kernel_rfl).symm.trans hf) |>.symm
      obtain rfl : fn = Tryd.f10 := (Option.some.inj (Tryd.func10.symm.trans hfn)).symm
      exact ⟨by kernel_rfl, fun j t ht => by
        rw [Tryd.params10] at ht
        have hm := Array.mem_of_getElem? ht
        have hall : (Tryd.f10.params.toList.all fun u => !Tryd.prog.wantsStandIn u) = true := by kernel_rfl
        rw [Tryd.params10] at hall
        exact (show Tryd.prog.wantsStandIn t = false by simpa using List.all_eq_true.1 hall t (by simpa using hm))⟩)
    (by kernel_rfl)
end Go.Proofs.YtbjhemglecllmaaDoor
