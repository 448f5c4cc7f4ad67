/-
  Layer 17 (passage): the law PassageSorted.
-/
import Derived.Test.YtbjhemglecllmaaDoorPsL2
namespace Go.Proofs.YtbjhemglecllmaaDoor
open Go.RowKit Go.Tw Go.Tw.Ord Go.Tw.Ps Go.Sort Go.ChangeShapes Go.WideShapes
set_option maxRecDepth 100000 in
set_option maxHeartbeats 4000000 in
theorem sorted_walk : LawWalkL Tryd.prog laidL 7 Tryd.f7 := by
  intro H enc W base args ds ps hval hA hsz hL
  rw [Tryd.params7] at hA hval
  obtain ⟨v0, d0, rfl, rfl, h0⟩ := trodAll_one hA
  obtain ⟨l, hl⟩ := arg_slice Tryd.underlying38 (opensPass (e := 24)) (hval 0 _ _ rfl rfl) h0
  clear hA hval h0 hsz hL
  have HL := Lib.hid hl
  have HFW := Lib.hid (few_any l v0 W hl)
  obtain ⟨ao, cp, g, o, rfl, q1, q2, ho⟩ := pas_rowA hl
  unfold maxLen at q2
  have HO := Lib.hid ho
  clear hl ho
  go_enter Tryd.func7, Tryd.ntmps7
  go_upto_region 6 with (first
    | (go_at_call 19
       with_reducible refine HFW.out.mono ?_
       rintro e w1 ⟨⟨c, rfl, hc⟩, hg⟩
       have HC := Lib.hid hc
       have HB1 := Lib.hid hg.below
       have H1 := Lib.hid (HL.out.step hg.below)
       clear hc hg
       cases c)
    | (go_at_call 21
       with_reducible refine (sort_any l (.slice ao l.length cp) _ H1.out (by have := (HC.out (by simp)).1; omega) (few_src (HC.out (by simp)).2)).mono ?_
       rintro e w3 ⟨⟨a3, c3, rfl, hs⟩, hb⟩
       have S3 := Lib.hid hs
       have HB3 := Lib.hid (bl_trans HB1.out hb)
       clear hs hb)
    | (go_at_call 12
       with_reducible refine (awake_any _).mono ?_
       rintro e wz ⟨rfl, hbz⟩
       have HBZ := Lib.hid (bl_trans (show Below W.heap.size W _ from by first | exact HB9.out | exact HB2.out | exact HB1.out) hbz)
       clear hbz))
  · go_ret
    exact ⟨rfl, HBZ.out⟩
  · have hc := HC.out (by simp)
    have hl40 := hc.1
    obtain ⟨ao3, cp3, g3, o3, hv3, r1, r2, ho3⟩ := pas_rowA S3.out
    simp only [Value.slice.injEq] at hv3
    obtain ⟨e1, e2, e3⟩ := hv3
    subst e1
    subst e3
    have hlS : (sortP l).length = l.length := sortP_len l
    have HO3 := Lib.hid ho3
    have HSS := Lib.hid (sortP_sorted l)
    have HPM := Lib.hid (sortP_perm l)
    have HWB := Lib.hid (show Below W.heap.size W w3 from HB3.out)
    generalize sortP l = S at hlS HO3 HSS HPM
    clear hc ho3 r1 r2 e2 HFW S3
    go_wp2
    go_loopg [4] l.length (fun gx i wr => ∃ k : Nat, k + gx = l.length ∧ i = .int .i64 k ∧ GrB w3 wr)
    case atStart => exact ⟨0, by omega, rfl, GrB.refl _⟩
    case round =>
      obtain ⟨wo, rfl⟩ : ∃ wo : World, wo = wr := ⟨_, rfl⟩
      obtain ⟨i, hi, rfl, hb⟩ := hrel
      have HB := Lib.hid hb
      by_cases hlt : i < l.length
      · obtain ⟨rfl, -, A, vx, hat⟩ := HO.out i hlt
        obtain ⟨rfl, -, AS, vs, hsat⟩ := HO3.out i (by omega)
        have HAT := Lib.hid hat
        have HSAT := Lib.hid hsat
        have HPRV := Lib.hid (show ∀ m, m + 1 = i → ∃ y, (∃ B vy, AtP w3 g3 o3 m y B vy) ∧ pasC y (S[i]'(by omega)) ≤ 0 from fun m hm => by
          obtain ⟨-, -, B, vy, hb⟩ := HO3.out m (by omega)
          exact ⟨_, ⟨B, vy, hb⟩, List.pairwise_iff_getElem.1 HSS.out m i (by omega) (by omega) (by omega)⟩)
        generalize S[i]'(by omega) = z at HSAT HPRV
        generalize l[i] = x at HAT
        have i0 : (0 : Int) ≤ (i : Int) := by omega
        have i1 : (i : Int) < (l.length : Int) := by omega
        clear hat hsat hb
        go_wp2
        go_loopg [5, 6, 7] l.length (fun gx nv mv kv wr => ∃ (k : Nat) (n m : Int), k + gx = l.length ∧ kv = .int .i64 k ∧ nv = .int .i64 n ∧ mv = .int .i64 m ∧ Hid (n = cnt x (l.take k)) ∧ Hid (m = cnt x (S.take k)) ∧ 0 ≤ n ∧ n ≤ 40 ∧ 0 ≤ m ∧ m ≤ 40 ∧ GrB wo wr)
        case atStart => exact ⟨0, 0, 0, by omega, rfl, rfl, rfl, Lib.hid rfl, Lib.hid rfl, by omega, by omega, by omega, by omega, GrB.refl _⟩
        case round =>
          obtain ⟨wi, rfl⟩ : ∃ wi : World, wi = wr := ⟨_, rfl⟩
          obtain ⟨k, n, m, hk, rfl, rfl, rfl, HN, HM, n1, n2, m1, m2, hbi⟩ := hrel
          have HBI := Lib.hid hbi
          have HBL := Lib.hid (show Below W.heap.size W wi from bl_trans HWB.out (HB.out.trans hbi).below)
          have HBL3 := Lib.hid (show Below w3.heap.size w3 wi from (HB.out.trans hbi).below)
          by_cases hlk : k < l.length
          · obtain ⟨-, -, B, vy, hbt⟩ := HO.out k hlk
            obtain ⟨-, -, C, vz, hct⟩ := HO3.out k (by omega)
            have HTL := Lib.hid (show l.take (k + 1) = l.take k ++ [l[k]] from List.take_succ_eq_append_getElem hlk)
            have HTS := Lib.hid (show S.take (k + 1) = S.take k ++ [S[k]'(by omega)] from List.take_succ_eq_append_getElem (by omega))
            have HKN := Lib.hid (show cnt x (l.take (k + 1)) ≤ 40 from by have := (cnt_le x (l.take (k + 1))).2; rw [List.length_take] at this; omega)
            have HKM := Lib.hid (show cnt x (S.take (k + 1)) ≤ 40 from by have := (cnt_le x (S.take (k + 1))).2; rw [List.length_take] at this; omega)
            generalize l[k] = y at HTL hbt
            generalize S[k]'(by omega) = u at HTS hct
            have HX := Lib.hid (show cnt x (l.take (k + 1)) = if x = y then n + 1 else n from by rw [HTL.out, cnt_snoc, HN.out])
            have HY := Lib.hid (show cnt x (S.take (k + 1)) = if x = u then m + 1 else m from by rw [HTS.out, cnt_snoc, HM.out])
            obtain ⟨c1, hc1⟩ : ∃ c, decide (x = y) = c := ⟨_, rfl⟩
            obtain ⟨c2, hc2⟩ : ∃ c, decide (x = u) = c := ⟨_, rfl⟩
            have L1 := Lib.hid (HAT.out.ld HBL.out)
            have L2 := Lib.hid (hbt.ld HBL.out)
            have ON1 := Lib.hid (HAT.out.one HBL.out hbt HBL.out hc1)
            have HFS := Lib.hid (show ∀ wq, GrB wi wq → (∀ n os, Sem.run Tryd.prog (loadCellsFrom ⟨g3, o3 + k * 8, none⟩ 0 8 #[]) (grow (wq.drewN n) os) = .ok C (grow (wq.drewN n) os)) ∧ (∀ n os, Sem.run Tryd.prog (loadCellsFrom ⟨g, o + i * 8, none⟩ 0 8 #[]) (grow (wq.drewN n) os) = .ok A (grow (wq.drewN n) os)) ∧
                (∀ n os, Calls Tryd.prog 30 #[.agg A, .agg C] (grow (wq.drewN n) os) fun e w' => e = .returned (.bool c2) ∧ ∃ q os', w' = grow ((grow (wq.drewN n) os).drewN q) os') from fun wq hq =>
              ⟨hct.ld (bl_trans HBL3.out hq.below), HAT.out.ld (bl_trans HBL.out hq.below), HAT.out.one (bl_trans HBL.out hq.below) hct (bl_trans HBL3.out hq.below) hc2⟩)
            have k0 : (0 : Int) ≤ (k : Int) := by omega
            have k1 : (k : Int) < (l.length : Int) := by omega
            have C1 := Lib.hid hc1
            have C2 := Lib.hid hc2
            clear hbt hct hc1 hc2 hbi
            go_upto_region 13 with (fail)
            refine wp_region_quiet_grown (by kernel_rfl) (by kernel_rfl) ?_
            (iterate 3 (quiet_step (fail)))
            refine wpQuiet_step (fun K hK => ?_)
            rw [if_pos (show _ = true by kernel_rfl)]
            refine quiet_loadA (A := A) rfl Tryd.isAgg24 Tryd.sizeOf24 rfl (fun w' hw' => ?_) (hK _ ?_)
            · obtain ⟨⟨nq, osq⟩, rfl⟩ := hw'
              exact L1.out nq osq
            clear hK K
            (iterate 3 (quiet_step (fail)))
            refine wpQuiet_step (fun K hK => ?_)
            rw [if_pos (show _ = true by kernel_rfl)]
            refine quiet_loadA (A := B) rfl Tryd.isAgg24 Tryd.sizeOf24 rfl (fun w' hw' => ?_) (hK _ ?_)
            · obtain ⟨⟨nq, osq⟩, rfl⟩ := hw'
              exact L2.out nq osq
            clear hK K
            quiet_step ((go_at_call 30; with_reducible exact Calls.grown_of (ON1.out _ _)))
            refine wpQuiet_nil ?_
            intro _ hw'
            obtain ⟨⟨nq, osq⟩, hw''⟩ := hw'
            subst hw''
            have HGQ := Lib.hid (show GrB wi (grow (wi.drewN nq) osq) from ⟨nq, osq, rfl⟩)
            generalize grow (wi.drewN nq) osq = wq at HGQ ⊢
            obtain ⟨f1, f2, f3⟩ := HFS.out wq HGQ.out
            have F1 := Lib.hid f1
            have F2 := Lib.hid f2
            have F3 := Lib.hid f3
            have HG1 := HGQ
            clear f1 f2 f3 L1 L2 ON1 HFS HGQ
            cases c1 with
            | true =>
              have HX2 := Lib.hid (show n + 1 = cnt x (l.take (k + 1)) from by rw [HX.out, if_pos (of_decide_eq_true C1.out)])
              have n3 : n + 1 ≤ 40 := by have := HX2.out; have := HKN.out; omega
              go_upto_region 15 with (fail)
              refine wp_region_quiet_grown (by kernel_rfl) (by kernel_rfl) ?_
              (iterate 3 (quiet_step (fail)))
              refine wpQuiet_step (fun K hK => ?_)
              rw [if_pos (show _ = true by kernel_rfl)]
              refine quiet_loadA (A := A) rfl Tryd.isAgg24 Tryd.sizeOf24 rfl (fun w' hw' => ?_) (hK _ ?_)
              · obtain ⟨⟨nq, osq⟩, rfl⟩ := hw'
                exact F2.out nq osq
              clear hK K
              (iterate 3 (quiet_step (fail)))
              refine wpQuiet_step (fun K hK => ?_)
              rw [if_pos (show _ = true by kernel_rfl)]
              refine quiet_loadA (A := C) rfl Tryd.isAgg24 Tryd.sizeOf24 rfl (fun w' hw' => ?_) (hK _ ?_)
              · obtain ⟨⟨nq, osq⟩, rfl⟩ := hw'
                exact F1.out nq osq
              clear hK K
              quiet_step ((go_at_call 30; with_reducible exact Calls.grown_of (F3.out _ _)))
              refine wpQuiet_nil ?_
              intro _ hw'
              obtain ⟨⟨nq, osq⟩, hw''⟩ := hw'
              subst hw''
              have HGQ := Lib.hid (show GrB wq (grow (wq.drewN nq) osq) from ⟨nq, osq, rfl⟩)
              generalize grow (wq.drewN nq) osq = wp at HGQ ⊢
              clear F1 F2 F3
              cases c2 with
              | true =>
                have HY2 := Lib.hid (show m + 1 = cnt x (S.take (k + 1)) from by rw [HY.out, if_pos (of_decide_eq_true C2.out)])
                have m3 : m + 1 ≤ 40 := by have := HY2.out; have := HKM.out; omega
                go_wp2
                go_roundg (l.length - (k + 1))
                case measure => omega
                case rel => exact ⟨k + 1, _, _, by omega, by go_num, rfl, rfl, HX2, HY2, by omega, by omega, by omega, by omega, (HBI.out.trans HG1.out).trans HGQ.out⟩
              | false =>
                have HY2 := Lib.hid (show m = cnt x (S.take (k + 1)) from by rw [HY.out, if_neg (of_decide_eq_false C2.out)])
                go_wp2
                go_roundg (l.length - (k + 1))
                case measure => omega
                case rel => exact ⟨k + 1, _, _, by omega, by go_num, rfl, rfl, HX2, HY2, by omega, by omega, by omega, by omega, (HBI.out.trans HG1.out).trans HGQ.out⟩
            | false =>
              have HX2 := Lib.hid (show n = cnt x (l.take (k + 1)) from by rw [HX.out, if_neg (of_decide_eq_false C1.out)])
              go_upto_region 15 with (fail)
              refine wp_region_quiet_grown (by kernel_rfl) (by kernel_rfl) ?_
              (iterate 3 (quiet_step (fail)))
              refine wpQuiet_step (fun K hK => ?_)
              rw [if_pos (show _ = true by kernel_rfl)]
              refine quiet_loadA (A := A) rfl Tryd.isAgg24 Tryd.sizeOf24 rfl (fun w' hw' => ?_) (hK _ ?_)
              · obtain ⟨⟨nq, osq⟩, rfl⟩ := hw'
                exact F2.out nq osq
              clear hK K
              (iterate 3 (quiet_step (fail)))
              refine wpQuiet_step (fun K hK => ?_)
              rw [if_pos (show _ = true by kernel_rfl)]
              refine quiet_loadA (A := C) rfl Tryd.isAgg24 Tryd.sizeOf24 rfl (fun w' hw' => ?_) (hK _ ?_)
              · obtain ⟨⟨nq, osq⟩, rfl⟩ := hw'
                exact F1.out nq osq
              clear hK K
              quiet_step ((go_at_call 30; with_reducible exact Calls.grown_of (F3.out _ _)))
              refine wpQuiet_nil ?_
              intro _ hw'
              obtain ⟨⟨nq, osq⟩, hw''⟩ := hw'
              subst hw''
              have HGQ := Lib.hid (show GrB wq (grow (wq.drewN nq) osq) from ⟨nq, osq, rfl⟩)
              generalize grow (wq.drewN nq) osq = wp at HGQ ⊢
              clear F1 F2 F3
              cases c2 with
              | true =>
                have HY2 := Lib.hid (show m + 1 = cnt x (S.take (k + 1)) from by rw [HY.out, if_pos (of_decide_eq_true C2.out)])
                have m3 : m + 1 ≤ 40 := by have := HY2.out; have := HKM.out; omega
                go_wp2
                go_roundg (l.length - (k + 1))
                case measure => omega
                case rel => exact ⟨k + 1, _, _, by omega, by go_num, rfl, rfl, HX2, HY2, by omega, by omega, by omega, by omega, (HBI.out.trans HG1.out).trans HGQ.out⟩
              | false =>
                have HY2 := Lib.hid (show m = cnt x (S.take (k + 1)) from by rw [HY.out, if_neg (of_decide_eq_false C2.out)])
                go_wp2
                go_roundg (l.length - (k + 1))
                case measure => omega
                case rel => exact ⟨k + 1, _, _, by omega, by go_num, rfl, rfl, HX2, HY2, by omega, by omega, by omega, by omega, (HBI.out.trans HG1.out).trans HGQ.out⟩
          · have hkl : ¬ (k : Int) < (l.length : Int) := by omega
            obtain rfl : n = m := by
              rw [HN.out, HM.out, List.take_of_length_le (by omega), List.take_of_length_le (by omega)]
              exact (cnt_perm HPM.out x).symm
            have HGI := Lib.hid (HB.out.trans hbi)
            have LS := Lib.hid (HSAT.out.ld HBL3.out)
            have HPV := Lib.hid (show ∀ mm, mm + 1 = i → ∃ y B c, (∀ n os, Sem.run Tryd.prog (loadCellsFrom ⟨g3, o3 + mm * 8, none⟩ 0 8 #[]) (grow (wi.drewN n) os) = .ok B (grow (wi.drewN n) os)) ∧ c ≤ 0 ∧
                (∀ n os, Calls Tryd.prog 31 #[.agg B, .agg AS] (grow (wi.drewN n) os) fun e w' => e = .returned (.int .i64 c) ∧ ∃ q os', w' = grow ((grow (wi.drewN n) os).drewN q) os') ∧ y = y from fun mm hm => by
              obtain ⟨y, ⟨B, vy, hy⟩, hc⟩ := HPRV.out mm hm
              exact ⟨y, B, pasC y z, hy.ld HBL3.out, hc, hy.cmp HBL3.out HSAT.out HBL3.out rfl, rfl⟩)
            clear hbi hk n1 n2 m1 m2
            go_upto_region 17 with (fail)
            rcases Nat.eq_zero_or_pos i with hi0 | hi0
            · have iz : decide (0 < i) = false := by rw [decide_eq_false_iff_not]; omega
              clear hi0
              refine QW.regionG (by kernel_rfl) (by kernel_rfl) ?_
              (iterate 7 (refine QW.yes (by kernel_rfl) (fun K hK => ?_)
                          go_simp
                          (with_reducible refine hK _ ?_)
                          clear hK K))
              (iterate 11 (refine QW.no (by kernel_rfl) ?_
                           (try simp only [Act.put])
                           (try simp only [List.setIfInBounds_toArray])
                           (repeat (first | simp only [List.set_cons_succ] | simp only [List.set_cons_zero]))))
              (iterate 2 (refine QW.yes (by kernel_rfl) (fun K hK => ?_)
                          go_simp
                          (with_reducible refine hK _ ?_)
                          clear hK K))
              refine QW.nil ?_
              intro _ hw'
              obtain ⟨⟨nq, osq⟩, hw''⟩ := hw'
              subst hw''
              have HGQ := Lib.hid (show GrB wi (grow (wi.drewN nq) osq) from ⟨nq, osq, rfl⟩)
              clear LS
              generalize grow (wi.drewN nq) osq = wq at HGQ ⊢
              go_wp2
              go_roundg (l.length - (i + 1))
              case measure => omega
              case rel => exact ⟨i + 1, by omega, by go_num, HGI.out.trans HGQ.out⟩
            · obtain ⟨mm, hmm⟩ : ∃ mm, mm + 1 = i := ⟨i - 1, by omega⟩
              obtain ⟨y, B, c, LP, hc0, CP, -⟩ := HPV.out mm hmm
              have hw1 : IntKind.i64.wrap ((i : Int) - 1) = (mm : Int) := by rw [wrap_in (by omega) (by omega)]; omega
              have iz : 0 < i := by omega
              have q0 : (0 : Int) ≤ (mm : Int) := by omega
              have q1 : (mm : Int) < (l.length : Int) := by omega
              have cz : ¬ c > 0 := by omega
              have LP' := Lib.hid LP
              have CP' := Lib.hid CP
              clear hi0 hmm hc0 LP CP
              refine QW.regionG (by kernel_rfl) (by kernel_rfl) ?_
              (iterate 11 (refine QW.yes (by kernel_rfl) (fun K hK => ?_)
                           go_simp
                           (with_reducible refine hK _ ?_)
                           clear hK K))
              refine QW.yes (by kernel_rfl) (fun K hK => ?_)
              refine quiet_loadA (A := B) rfl Tryd.isAgg24 Tryd.sizeOf24 rfl (fun w' hw' => ?_) (hK _ ?_)
              · obtain ⟨⟨nq, osq⟩, rfl⟩ := hw'
                exact LP'.out nq osq
              clear hK K
              (iterate 3 (refine QW.yes (by kernel_rfl) (fun K hK => ?_)
                          go_simp
                          (with_reducible refine hK _ ?_)
                          clear hK K))
              refine QW.yes (by kernel_rfl) (fun K hK => ?_)
              refine quiet_loadA (A := AS) rfl Tryd.isAgg24 Tryd.sizeOf24 rfl (fun w' hw' => ?_) (hK _ ?_)
              · obtain ⟨⟨nq, osq⟩, rfl⟩ := hw'
                exact LS.out nq osq
              clear hK K
              (refine QW.yes (by kernel_rfl) (fun K hK => ?_)
               go_simp
               apply Exists.intro
               refine ⟨fun _ => ?_, hK _ ?_⟩
               (go_at_call 31; with_reducible exact Calls.grown_of (CP'.out _ _))
               clear hK K)
              (iterate 3 (refine QW.yes (by kernel_rfl) (fun K hK => ?_)
                          go_simp
                          (with_reducible refine hK _ ?_)
                          clear hK K))
              refine QW.nil ?_
              intro _ hw'
              obtain ⟨⟨nq, osq⟩, hw''⟩ := hw'
              subst hw''
              have HGQ := Lib.hid (show GrB wi (grow (wi.drewN nq) osq) from ⟨nq, osq, rfl⟩)
              clear LS LP' CP'
              generalize grow (wi.drewN nq) osq = wq at HGQ ⊢
              go_wp2
              go_roundg (l.length - (i + 1))
              case measure => omega
              case rel => exact ⟨i + 1, by omega, by go_num, HGI.out.trans HGQ.out⟩
      · have hkl : ¬ (i : Int) < (l.length : Int) := by omega
        have HB9 := Lib.hid (bl_trans HWB.out hb.below)
        clear hb
        go_wp2_with (go_at_call 12
                     with_reducible refine (awake_any _).mono ?_
                     rintro e wz ⟨rfl, hbz⟩
                     have HBZ := Lib.hid (bl_trans (show Below W.heap.size W _ from by first | exact HB9.out | exact HB2.out | exact HB1.out) hbz)
                     clear hbz)
        go_ret
        exact ⟨rfl, HBZ.out⟩
set_option maxRecDepth 100000 in
theorem sorted_lift (os : Os) (started : os.Started) (H : Type) (enc : TypeId × Value → H) :
    ReturnsInHanded {} Tryd.checked os 7 .any (fun w args => (Rows.passageSortedSpec.pre enc Tryd.prog Tryd.f7 [] false w args ∧ laidMetH Tryd.prog laidL w) ∧ sizedMet enc Tryd.prog Tryd.f7 (OpenSpec.ofChange Rows.passageSortedSpec) false w args)
      (Rows.passageSortedSpec.post enc Tryd.prog Tryd.f7 false true false false) :=
  law_lift_laid (C := Tryd.checked) (s := Rows.passageSortedSpec) (fn := Tryd.f7) ⟨rfl, fun H ds h => by
    match ds, h with
    | [a], _ => exact ⟨rfl, rfl, rfl⟩⟩ rfl Tryd.underlying4 (by kernel_rfl) laid0 own0 started (by kernel_rfl) Tryd.func7
    (ChangeSpec.witness_shaped (enc := enc) (C := Tryd.checked) (os := os) (X := fun w _ => laidMetH Tryd.prog laidL w) false (World.doorLaid Tryd.prog 24 os) #[.slice none 0 0] 8 rfl (World.shaped_of_RefB (by kernel_rfl) (by kernel_rfl)) (by kernel_rfl) (by kernel_rfl) (by kernel_rfl) (door_met os _)) sorted_walk
theorem sorted_row : Rows.PassageSortedSaid :=
  OpenClaim.holds_of_wide 7 Tryd.f7 rfl rfl rfl rfl rfl rfl rfl ⟨rfl, rfl, rfl, rfl, rfl⟩ rfl rfl rfl rfl rfl (by kernel_rfl) Tryd.func7 (by kernel_rfl)
    (of_decide_eq_true (by kernel_rfl)) (by unfold Func.isWrapper; rw [if_neg (of_decide_eq_false (by kernel_rfl))]; exact ⟨rfl, rfl⟩)
    (fun os started H enc _ => sorted_lift os started H enc)
/-- THE STATEMENT: PassageSorted, as a card. -/
theorem sorted_holds : Rows.PassageSortedCardSaid :=
  Claim7.holds_tied_plain_at .later [] [.data, .data, .data] true (true, "aecdef402db0857d3deff0902d79660c7a9739e5c0215286cb3695e0890af9f4") false
    sorted_row (fun _ h => by cases h) (by kernel_rfl) (fun _ h => by cases h) passageSorted_row_tie rfl ⟨rfl, rfl⟩ (by kernel_rfl) rfl
    (fun f fn hf hfn => by
      obtain rfl : f = 7 := Option.some.inj ((show Tryd.prog.funcNamed "tollway/tollwaylaw17.PassageSorted" = some 7 by kernel_rfl).symm.trans hf) |>.symm
      obtain rfl : fn = Tryd.f7 := (Option.some.inj (Tryd.func7.symm.trans hfn)).symm
      exact ⟨by kernel_rfl, fun j t ht => by
        rw [Tryd.params7] at ht
        have hm := Array.mem_of_getElem? ht
        have hall : (Tryd.f7.params.toList.all fun u => !Tryd.prog.wantsStandIn u) = true := by kernel_rfl
        rw [Tryd.params7] at hall
        exact (show Tryd.prog.wantsStandIn t = false by simpa using List.all_eq_true.1 hall t (by simpa using hm))⟩)
    (by kernel_rfl)
end Go.Proofs.YtbjhemglecllmaaDoor
