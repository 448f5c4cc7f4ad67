/-
  Layer 17 (passage): the law PassageChecks.
-/
import Derived.Test.YtbjhemglecllmaaDoorPsL2
import Derived.Test.YtbjhemglecllmaaDoorPsCs
import Derived.Stop.LaidErr
namespace Go.Proofs.YtbjhemglecllmaaDoor
open Go.RowKit Go.Tw Go.Tw.Ord Go.Tw.Ps Go.Sort Go.ChangeShapes Go.WideShapes
theorem tab_of {W : World} (h : laidMetH Tryd.prog laidL W) : Lib.TabIs Tryd.prog W "internal/strconv.uint64pow10" .u64 Lib.pow10Tab := by
  have h2 : laidMet Tryd.prog laidL W := h
  have h3 := laidMet.tail (laidMet.tail h2)
  have e : (Rows.laid_internal_strconv_uint64pow10 : DataW Unit) = Lib.tabData .u64 Lib.pow10Tab := rfl
  rw [e] at h3
  exact Lib.tabIs_of_head (g := 0) (t := 133) (e := 116) (n := 20) (by kernel_rfl) (by kernel_rfl) Tryd.underlying133 Tryd.underlying116 (by kernel_rfl) (by kernel_rfl) h3
theorem opensPnt : Opens Tryd.prog 29 tPnt :=
  opens_via (fun x => ⟨x.1, x.2.1, x.2.2⟩) (fun _ => rfl) (opens_struct Tryd.underlying29 (by kernel_rfl) (.cons rfl (by kernel_rfl) (opens_str Tryd.underlying9) (.cons rfl (by kernel_rfl) (opens_int Tryd.underlying3) (.one rfl (by kernel_rfl) (opens_str Tryd.underlying9)))))
theorem opensPnts {e : TypeId} : Opens Tryd.prog 25 (tPnt.list e) := opens_slice Tryd.underlying25 (by kernel_rfl) (by decide) opensPnt
set_option maxHeartbeats 1000000 in
theorem vehicleR_any (x : Pas) (vx : Value) (w : World) : Calls Tryd.prog 18 #[.agg (pCells x vx).toArray] w fun e w' => e = .returned (.string (vehP x)) ∧ GrB w w' := by
  obtain ⟨B, hB⟩ : ∃ B, (pCells x vx).toArray = B := ⟨_, rfl⟩
  have n0 : PBox (w.alloc (.cells B 24)) w.heap.size B := heap_alloc_new _ _
  have b3 := n0.cell 3 (v := .string x.tag) (by rw [← hB]; rfl)
  have b4 := n0.cell 4 (v := .string x.plt) (by rw [← hB]; rfl)
  rw [hB]
  clear hB n0
  by_cases ht : x.tag = es
  · have e1 : x.tag.toList.isEmpty = true := by rw [emp_iff]; simpa using ht
    have HE := Lib.hid (show vehP x = x.plt from by unfold vehP; rw [if_pos ht])
    clear ht
    go_enter Tryd.func18, Tryd.ntmps18
    go_wp2
    go_ret
    exact ⟨ret_sv HE.out, (GrB.refl w).alloc _⟩
  · have e1 : x.tag.toList.isEmpty = false := by rw [emp_iff]; simpa using ht
    have HE := Lib.hid (show vehP x = x.tag from by unfold vehP; rw [if_neg ht])
    clear ht
    go_enter Tryd.func18, Tryd.ntmps18
    go_wp2
    go_ret
    exact ⟨ret_sv HE.out, (GrB.refl w).alloc _⟩
set_option maxRecDepth 100000 in
set_option maxHeartbeats 4000000 in
theorem checks_walk : LawWalkL Tryd.prog laidL 3 Tryd.f3 := by
  intro H enc W base args ds ps hval hA hsz hL
  rw [Tryd.params3] at hA hval
  obtain ⟨v0, v1, d0, d1, p0, p1, rfl, rfl, rfl, h0, h1⟩ := trodAll_two hA
  obtain ⟨cs, x, e0, hi⟩ := arg_struct Tryd.underlying24 opensPas (hval 0 _ _ rfl rfl) h0
  obtain ⟨vx, ecs, hok, hsx⟩ := tPas_is hi
  obtain ⟨l, hl⟩ := arg_slice Tryd.underlying25 (opensPnts (e := 29)) (hval 1 _ _ rfl rfl) h1
  have hv0 : v0 = .agg (pCells x vx).toArray := by
    rw [← ecs]
    simpa using e0
  have hl1 : SlIs tPnt (· < W.heap.size) W v1 l := hl
  have HTB := Lib.hid (tab_of hL)
  clear hA hval h0 h1 hsz hL hi hl e0 ecs
  subst hv0
  have HP := Lib.hid hl1
  have HSX := Lib.hid hsx
  obtain ⟨ao, cp, b, o, rfl, q1, q2, ho⟩ := pnt_row hl1
  unfold maxLen at q2
  have HO := Lib.hid ho
  have HOK := Lib.hid hok
  obtain ⟨B, hB⟩ : ∃ B, (pCells x vx).toArray = B := ⟨_, rfl⟩
  have n0 : PBox (W.alloc (.cells B 24)) W.heap.size B := heap_alloc_new _ _
  have ld0 := n0.load hB
  have HN0 := Lib.hid n0
  have HB := Lib.hid hB
  have HB0 := Lib.hid (bl_alloc (Below.refl W.heap.size W) (.cells B 24))
  have HON := Lib.hid (one_any x vx _ (HSX.out.step HB0.out) hok)
  rw [hB] at HON ⊢
  clear ho hl1 hsx hok n0 hB
  by_cases h70 : (70 : Int) < (l.length : Int)
  · go_enter Tryd.func3, Tryd.ntmps3
    go_wp2_with (first
      | (refine wpList_loadA _ rfl 24 rfl Tryd.isAgg24 Tryd.sizeOf24 rfl (by with_reducible assumption) ?_)
      | (go_at_call 11
         with_reducible refine HON.out.mono ?_
         rintro e w1 ⟨⟨c, rfl, hc⟩, hg⟩
         have HC := Lib.hid hc
         have HX1 := Lib.hid (HN0.out.step hg.below)
         have HB1 := Lib.hid (bl_trans HB0.out hg.below)
         clear hc hg ld0
         cases c)
      | (go_at_call 12
         with_reducible refine (awake_any _).mono ?_
         rintro e wz ⟨rfl, hbz⟩
         have HBZ := Lib.hid (bl_trans (show Below W.heap.size W _ from by first | exact HB9.out | exact HB2.out | exact HB1.out) hbz)
         clear hbz))
    all_goals
      go_ret
      exact ⟨rfl, HBZ.out⟩
  have HL70 := Lib.hid (show l.length ≤ 70 by omega)
  go_enter Tryd.func3, Tryd.ntmps3
  go_upto_region 3 with (first
    | (refine wpList_loadA _ rfl 24 rfl Tryd.isAgg24 Tryd.sizeOf24 rfl (by with_reducible assumption) ?_)
    | (go_at_call 11
       with_reducible refine HON.out.mono ?_
       rintro e w1 ⟨⟨c, rfl, hc⟩, hg⟩
       have HC := Lib.hid hc
       have HX1 := Lib.hid (HN0.out.step hg.below)
       have HB1 := Lib.hid (bl_trans HB0.out hg.below)
       clear hc hg ld0
       cases c)
    | (go_at_call 12
       with_reducible refine (awake_any _).mono ?_
       rintro e wz ⟨rfl, hbz⟩
       have HBZ := Lib.hid (bl_trans (show Below W.heap.size W _ from by first | exact HB9.out | exact HB2.out | exact HB1.out) hbz)
       clear hbz))
  · go_ret
    exact ⟨rfl, HBZ.out⟩
  · have hone := HC.out (by simp)
    have HONE := Lib.hid hone
    clear hone HON HC
    generalize W.heap.size = gb at HX1 ⊢
    go_wp2
    go_loopg [5] l.length (fun gx i wr => ∃ k : Nat, k + gx = l.length ∧ i = .int .i64 k ∧ w1 = wr)
    case atStart => exact ⟨0, by omega, rfl, rfl⟩
    case round =>
      obtain ⟨k, hk, rfl, rfl⟩ := hrel
      by_cases hlt : k < l.length
      · obtain ⟨rfl, -, hbk, -, c0, c1, c2⟩ := HO.out w1 (.of_below HB1.out) k hlt
        generalize l[k] = p at c0 c1 c2
        have k0 : (0 : Int) ≤ (k : Int) := by omega
        have k1 : (k : Int) < (l.length : Int) := by omega
        by_cases hn1 : (40 : Int) < (p.nm.size : Int)
        · go_wp2_with (go_at_call 12
                       with_reducible refine (awake_any _).mono ?_
                       rintro e wz ⟨rfl, hbz⟩
                       have HBZ := Lib.hid (bl_trans (show Below W.heap.size W _ from by first | exact HB9.out | exact HB2.out | exact HB1.out) hbz)
                       clear hbz)
          go_ret
          exact ⟨rfl, HBZ.out⟩
        · by_cases hn2 : (40 : Int) < (p.sy.size : Int)
          · go_wp2_with (go_at_call 12
                         with_reducible refine (awake_any _).mono ?_
                         rintro e wz ⟨rfl, hbz⟩
                         have HBZ := Lib.hid (bl_trans (show Below W.heap.size W _ from by first | exact HB9.out | exact HB2.out | exact HB1.out) hbz)
                         clear hbz)
            go_ret
            exact ⟨rfl, HBZ.out⟩
          · go_wp2
            go_roundg (l.length - (k + 1))
            case measure => omega
            case rel => exact ⟨k + 1, by omega, by go_num, rfl⟩
      · have hkl : ¬ (k : Int) < (l.length : Int) := by omega
        clear hlt hk
        go_upto_region 9 with (fail)
        have HX2 := Lib.hid (HX1.out.step (bl_alloc (Below.refl w1.heap.size w1) (.cells #[.slice ao l.length cp, .slice none 0 0] 32)))
        have nn := heap_alloc_new w1 (.cells #[.slice ao l.length cp, .slice none 0 0] 32)
        have HB2 := Lib.hid (bl_alloc HB1.out (.cells #[.slice ao l.length cp, .slice none 0 0] 32))
        generalize w1.alloc (.cells #[.slice ao l.length cp, .slice none 0 0] 32) = w2 at HX2 nn HB2 ⊢
        generalize w1.heap.size = gn at nn ⊢
        have HBW := Lib.hid (show ∀ d os, Below W.heap.size W (grow (redrawn w2 d) os) from fun d os => bl_trans HB2.out (below_regrown w2 d os))
        have LB := Lib.hid (show ∀ d os, Sem.run Tryd.prog (loadCellsFrom ⟨gb, 0, none⟩ 0 8 #[]) (grow (redrawn w2 d) os) = .ok B (grow (redrawn w2 d) os) from fun d os => (HX2.out.step (below_regrown w2 d os)).load HB.out)
        have m0 := fun d os => cell_regrown (blk2 nn).1 d os
        have m1 := fun d os => cell_regrown (blk2 nn).2.1 d os
        have hdv : ∀ s ∈ x.src, s.dev.size ≤ 1000 := fun s hs => Nat.le_trans (HONE.out.dev s hs) (by decide)
        have hsq : ∀ s ∈ x.src, i64ok s.seq := fun s hs => by
          obtain ⟨a, c, b', o', rfl, -, -, hr⟩ := src_row HSX.out
          obtain ⟨j, hj, rfl⟩ := List.getElem_of_mem hs
          exact (hr W (SameOn.refl _ _) j hj).2.2.2.1.seq
        have hfm : ∀ s ∈ x.src, FmtOk s.seq W := fun s hs => fmt_tab s.seq (hsq s hs) W HTB.out (g := 0) (by kernel_rfl)
        obtain ⟨ck, hck⟩ : ∃ c, checkC x l = c := ⟨_, rfl⟩
        obtain ⟨ic, hic⟩ : ∃ c, idC x = c := ⟨_, rfl⟩
        obtain ⟨vc, hvc⟩ : ∃ c, vehP x = c := ⟨_, rfl⟩
        have K1 := Lib.hid (show ∀ d os, Calls Tryd.prog 13 #[.agg B, .agg #[.slice ao l.length cp, .slice none 0 0]] (grow (redrawn w2 d) os) fun e w' => e = .returned (.int .i64 ck) ∧ ∃ p : Regrown, w' = grow (redrawn w2 p.d) p.os from fun d os => Calls.regrown_of (by
          rw [← HB.out, ← hck]
          exact check_any x vx l _ _ (HSX.out.step (HBW.out d os)) HOK.out (Nat.le_trans HONE.out.plt (by decide)) hdv (fun s hs => (hfm s hs).step (HBW.out d os)) (HP.out.step (HBW.out d os)) (by have := HL70.out; omega)))
        have K2 := Lib.hid (show ∀ d os, Calls Tryd.prog 14 #[.agg B, .agg #[.slice ao l.length cp, .slice none 0 0]] (grow (redrawn w2 d) os) fun e w' => e = .returned (.int .i64 ck) ∧ ∃ p : Regrown, w' = grow (redrawn w2 p.d) p.os from fun d os => Calls.regrown_of (by
          rw [← HB.out, ← hck]
          exact checkR_any x vx l _ _ (HSX.out.step (HBW.out d os)) (Nat.le_trans HONE.out.plt (by decide)) (Nat.le_trans HONE.out.tag (by decide)) hdv (fun s hs => (hfm s hs).step (HBW.out d os)) (HP.out.step (HBW.out d os)) (by have := HL70.out; omega)))
        have K3 := Lib.hid (show ∀ d os, Calls Tryd.prog 15 #[.agg B] (grow (redrawn w2 d) os) fun e w' => e = .returned (.string ic) ∧ ∃ p : Regrown, w' = grow (redrawn w2 p.d) p.os from fun d os => Calls.regrown_of (by
          rw [← HB.out, ← hic]
          exact (ID_any x vx _ (HSX.out.step (HBW.out d os)) hdv hsq (fun s hs => (hfm s hs).step (HBW.out d os))).mono fun _ _ h => ⟨h.1, h.2.below⟩))
        have K4 := Lib.hid (show ∀ d os, Calls Tryd.prog 16 #[.agg B] (grow (redrawn w2 d) os) fun e w' => e = .returned (.string ic) ∧ ∃ p : Regrown, w' = grow (redrawn w2 p.d) p.os from fun d os => Calls.regrown_of (by
          rw [← HB.out, ← hic]
          exact (IDR_any x vx _ (HSX.out.step (HBW.out d os)) hdv hsq (fun s hs => (hfm s hs).step (HBW.out d os))).mono fun _ _ h => ⟨h.1, h.2.below⟩))
        have K5 := Lib.hid (show ∀ d os, Calls Tryd.prog 17 #[.agg B] (grow (redrawn w2 d) os) fun e w' => e = .returned (.string vc) ∧ ∃ p : Regrown, w' = grow (redrawn w2 p.d) p.os from fun d os => Calls.regrown_of (by
          rw [← HB.out, ← hvc]
          exact (vehicle_any x vx _).mono fun _ _ h => ⟨h.1, h.2.below⟩))
        have K6 := Lib.hid (show ∀ d os, Calls Tryd.prog 18 #[.agg B] (grow (redrawn w2 d) os) fun e w' => e = .returned (.string vc) ∧ ∃ p : Regrown, w' = grow (redrawn w2 p.d) p.os from fun d os => Calls.regrown_of (by
          rw [← HB.out, ← hvc]
          exact (vehicleR_any x vx _).mono fun _ _ h => ⟨h.1, h.2.below⟩))
        have K7 := Lib.hid (show ∀ d os, Calls Tryd.prog 12 #[] (grow (redrawn w2 d) os) fun e w' => e = .returned (.bool true) ∧ ∃ p : Regrown, w' = grow (redrawn w2 p.d) p.os from fun d os => Calls.regrown_of (awake_any _))
        clear hck hic hvc hdv hsq hfm nn
        refine QW.region (by kernel_rfl) (by kernel_rfl) ?_
        refine QW.yes (by kernel_rfl) (fun K hK => ?_)
        refine quiet_loadA (A := B) rfl Tryd.isAgg24 Tryd.sizeOf24 rfl (fun w' hw' => ?_) (hK _ ?_)
        · obtain ⟨⟨nq, osq⟩, rfl⟩ := hw'
          exact LB.out nq osq
        clear hK K
        (refine QW.yes (by kernel_rfl) (fun K hK => ?_)
         go_simp
         (with_reducible refine hK _ ?_)
         clear hK K)
        (refine QW.yes (by kernel_rfl) (fun K hK => ?_)
         go_simp
         apply Exists.intro
         refine ⟨fun _ => ?_, hK _ ?_⟩
         (go_at_call 13; with_reducible exact (K1.out _ _))
         clear hK K)
        refine QW.yes (by kernel_rfl) (fun K hK => ?_)
        refine quiet_loadA (A := B) rfl Tryd.isAgg24 Tryd.sizeOf24 rfl (fun w' hw' => ?_) (hK _ ?_)
        · obtain ⟨⟨nq, osq⟩, rfl⟩ := hw'
          exact LB.out nq osq
        clear hK K
        (refine QW.yes (by kernel_rfl) (fun K hK => ?_)
         go_simp
         (with_reducible refine hK _ ?_)
         clear hK K)
        (refine QW.yes (by kernel_rfl) (fun K hK => ?_)
         go_simp
         apply Exists.intro
         refine ⟨fun _ => ?_, hK _ ?_⟩
         (go_at_call 14; with_reducible exact (K2.out _ _))
         clear hK K)
        (iterate 2 (refine QW.yes (by kernel_rfl) (fun K hK => ?_)
                    go_simp
                    (with_reducible refine hK _ ?_)
                    clear hK K))
        refine QW.yes (by kernel_rfl) (fun K hK => ?_)
        refine quiet_loadA (A := B) rfl Tryd.isAgg24 Tryd.sizeOf24 rfl (fun w' hw' => ?_) (hK _ ?_)
        · obtain ⟨⟨nq, osq⟩, rfl⟩ := hw'
          exact LB.out nq osq
        clear hK K
        (refine QW.yes (by kernel_rfl) (fun K hK => ?_)
         go_simp
         apply Exists.intro
         refine ⟨fun _ => ?_, hK _ ?_⟩
         (go_at_call 15; with_reducible exact (K3.out _ _))
         clear hK K)
        refine QW.yes (by kernel_rfl) (fun K hK => ?_)
        refine quiet_loadA (A := B) rfl Tryd.isAgg24 Tryd.sizeOf24 rfl (fun w' hw' => ?_) (hK _ ?_)
        · obtain ⟨⟨nq, osq⟩, rfl⟩ := hw'
          exact LB.out nq osq
        clear hK K
        (refine QW.yes (by kernel_rfl) (fun K hK => ?_)
         go_simp
         apply Exists.intro
         refine ⟨fun _ => ?_, hK _ ?_⟩
         (go_at_call 16; with_reducible exact (K4.out _ _))
         clear hK K)
        (iterate 3 (refine QW.yes (by kernel_rfl) (fun K hK => ?_)
                    go_simp
                    (with_reducible refine hK _ ?_)
                    clear hK K))
        refine QW.yes (by kernel_rfl) (fun K hK => ?_)
        refine quiet_loadA (A := B) rfl Tryd.isAgg24 Tryd.sizeOf24 rfl (fun w' hw' => ?_) (hK _ ?_)
        · obtain ⟨⟨nq, osq⟩, rfl⟩ := hw'
          exact LB.out nq osq
        clear hK K
        (refine QW.yes (by kernel_rfl) (fun K hK => ?_)
         go_simp
         apply Exists.intro
         refine ⟨fun _ => ?_, hK _ ?_⟩
         (go_at_call 17; with_reducible exact (K5.out _ _))
         clear hK K)
        refine QW.yes (by kernel_rfl) (fun K hK => ?_)
        refine quiet_loadA (A := B) rfl Tryd.isAgg24 Tryd.sizeOf24 rfl (fun w' hw' => ?_) (hK _ ?_)
        · obtain ⟨⟨nq, osq⟩, rfl⟩ := hw'
          exact LB.out nq osq
        clear hK K
        (refine QW.yes (by kernel_rfl) (fun K hK => ?_)
         go_simp
         apply Exists.intro
         refine ⟨fun _ => ?_, hK _ ?_⟩
         (go_at_call 18; with_reducible exact (K6.out _ _))
         clear hK K)
        (iterate 3 (refine QW.yes (by kernel_rfl) (fun K hK => ?_)
                    go_simp
                    (with_reducible refine hK _ ?_)
                    clear hK K))
        (refine QW.yes (by kernel_rfl) (fun K hK => ?_)
         go_simp
         apply Exists.intro
         refine ⟨fun _ => ?_, hK _ ?_⟩
         (go_at_call 12; with_reducible exact (K7.out _ _))
         clear hK K)
        (iterate 2 (refine QW.yes (by kernel_rfl) (fun K hK => ?_)
                    go_simp
                    (with_reducible refine hK _ ?_)
                    clear hK K))
        refine QW.nil ?_
        intro _ hw'
        obtain ⟨⟨nq, osq⟩, hw''⟩ := hw'
        subst hw''
        have HGQ := Lib.hid (HBW.out nq osq)
        clear LB m0 m1 K1 K2 K3 K4 K5 K6 K7 HBW
        generalize grow (redrawn w2 nq) osq = wq at HGQ ⊢
        go_wp2
        go_ret
        exact ⟨rfl, HGQ.out⟩
set_option maxRecDepth 100000 in
theorem checks_lift (os : Os) (started : os.Started) (H : Type) (enc : TypeId × Value → H) :
    ReturnsInHanded {} Tryd.checked os 3 .any (fun w args => (Rows.passageChecksSpec.pre enc Tryd.prog Tryd.f3 [] false w args ∧ laidMetH Tryd.prog laidL w) ∧ sizedMet enc Tryd.prog Tryd.f3 (OpenSpec.ofChange Rows.passageChecksSpec) false w args)
      (Rows.passageChecksSpec.post enc Tryd.prog Tryd.f3 false true false false) :=
  law_lift_laid (C := Tryd.checked) (s := Rows.passageChecksSpec) (fn := Tryd.f3) ⟨rfl, fun H ds h => by
    match ds, h with
    | [a, b], _ => exact ⟨rfl, rfl, rfl⟩⟩ rfl Tryd.underlying4 (by kernel_rfl) laid0 own0 started (by kernel_rfl) Tryd.func3
    (ChangeSpec.witness_shaped (enc := enc) (C := Tryd.checked) (os := os) (X := fun w _ => laidMetH Tryd.prog laidL w) false (World.doorLaid Tryd.prog 24 os) #[.agg #[.string ByteArray.empty, .string ByteArray.empty, .int .i64 0, .string ByteArray.empty, .string ByteArray.empty, .int .i64 0, .int .i64 0, .slice none 0 0], .slice none 0 0] 8 rfl (World.shaped_of_RefB (by kernel_rfl) (by kernel_rfl)) (by kernel_rfl) (by kernel_rfl) (by kernel_rfl) (door_met os _)) checks_walk
theorem checks_row : Rows.PassageChecksSaid :=
  OpenClaim.holds_of_wide 3 Tryd.f3 rfl rfl rfl rfl rfl rfl rfl ⟨rfl, rfl, rfl, rfl, rfl⟩ rfl rfl rfl rfl rfl (by kernel_rfl) Tryd.func3 (by kernel_rfl)
    (of_decide_eq_true (by kernel_rfl)) (by unfold Func.isWrapper; rw [if_neg (of_decide_eq_false (by kernel_rfl))]; exact ⟨rfl, rfl⟩)
    (fun os started H enc _ => checks_lift os started H enc)
/-- THE STATEMENT: PassageChecks, as a card. -/
theorem checks_holds : Rows.PassageChecksCardSaid :=
  Claim7.holds_tied_plain_at .later [] [.data, .data, .data] true (true, "aecdef402db0857d3deff0902d79660c7a9739e5c0215286cb3695e0890af9f4") false
    checks_row (fun _ h => by cases h) (by kernel_rfl) (fun _ h => by cases h) passageChecks_row_tie rfl ⟨rfl, rfl⟩ (by kernel_rfl) rfl
    (fun f fn hf hfn => by
      obtain rfl : f = 3 := Option.some.inj ((show Tryd.prog.funcNamed "tollway/tollwaylaw17.PassageChecks" = some 3 by kernel_rfl).symm.trans hf) |>.symm
      obtain rfl : fn = Tryd.f3 := (Option.some.inj (Tryd.func3.symm.trans hfn)).symm
      exact ⟨by kernel_rfl, fun j t ht => by
        rw [Tryd.params3] at ht
        have hm := Array.mem_of_getElem? ht
        have hall : (Tryd.f3.params.toList.all fun u => !Tryd.prog.wantsStandIn u) = true := by kernel_rfl
        rw [Tryd.params3] at hall
        exact (show Tryd.prog.wantsStandIn t = false by simpa using List.all_eq_true.1 hall t (by simpa using hm))⟩)
    (by kernel_rfl)
end Go.Proofs.YtbjhemglecllmaaDoor
