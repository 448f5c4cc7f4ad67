/-
  Layer 17 (passage): the law PassageTags.
-/
import Derived.Test.YtbjhemglecllmaaDoorPsL2
namespace Go.Tw.Ps
open Go.RowKit Go.Tw Go.Sort Go.Tw.Ord
theorem mem_ofP {l : List Pas} {s : ByteArray} {x : Pas} : x ∈ ofP l s ↔ s ≠ es ∧ x ∈ l ∧ ownP l x = s := by
  unfold ofP
  by_cases h : s = es
  · rw [if_pos h]
    simp [h]
  · rw [if_neg h, (sortP_perm _).mem_iff, List.mem_filter]
    simp [h]
theorem onlyTag_mem2 {l : List Pas} {p : ByteArray} (h : onlyTag l p ≠ es) : ∃ x ∈ l, x.tag = onlyTag l p ∧ x.plt = p := by
  unfold onlyTag at h ⊢
  split at h
  · exact absurd rfl h
  · rename_i t r e
    by_cases q : r.all (fun u => decide (u = t)) = true
    · have ht : t ∈ tagsOf l p := by rw [e]; simp
      unfold tagsOf at ht
      obtain ⟨x, hx, rfl⟩ := List.mem_map.1 ht
      obtain ⟨h1, h2⟩ := List.mem_filter.1 hx
      simp only [Bool.and_eq_true, decide_eq_true_eq] at h2
      exact ⟨x, h1, by simp only [q, if_true], h2.1⟩
    · rw [if_neg q] at h
      exact absurd rfl h
theorem own_tag {l : List Pas} {y : Pas} {s : ByteArray} (h : ownP l y = s) (ht : y.tag ≠ es) : y.tag = s := by
  unfold ownP at h
  rwa [if_neg ht] at h
/-- why a passage belongs to a vehicle -/
theorem own_why {l : List Pas} {y : Pas} {s : ByteArray} (hs : s ≠ es) (h : ownP l y = s) : y.tag = s ∨ y.plt = s ∨ ∃ x ∈ l, x.tag = s ∧ x.plt = y.plt := by
  unfold ownP at h
  by_cases ht : y.tag = es
  · rw [if_pos ht] at h
    by_cases hp : y.plt = es
    · rw [if_pos hp] at h
      exact absurd h.symm hs
    · rw [if_neg hp] at h
      by_cases ho : onlyTag l y.plt = es
      · rw [if_pos ho] at h
        exact .inr (.inl h)
      · rw [if_neg ho] at h
        obtain ⟨x, hx, h1, h2⟩ := onlyTag_mem2 ho
        exact .inr (.inr ⟨x, hx, h1.trans h, h2⟩)
  · rw [if_neg ht] at h
    exact .inl h
/-- the law's ok, after k passages -/
def okP (l : List Pas) (y : Pas) (s : ByteArray) (k : Nat) : Bool := decide (y.tag = s) || decide (y.plt = s) || (l.take k).any fun x => decide (x.tag = s) && decide (x.plt = y.plt)
theorem okP_zero (l : List Pas) (y : Pas) (s : ByteArray) : okP l y s 0 = (decide (y.tag = s) || decide (y.plt = s)) := by
  unfold okP
  simp
theorem okP_next {l : List Pas} {y : Pas} {s : ByteArray} {k : Nat} (h : k < l.length) : okP l y s (k + 1) = (okP l y s k || (decide (l[k].tag = s) && decide (l[k].plt = y.plt))) := by
  unfold okP
  rw [List.take_succ_eq_append_getElem h, List.any_append]
  simp [Bool.or_assoc]
theorem okP_end {l : List Pas} {y : Pas} {s : ByteArray} {k : Nat} (hs : s ≠ es) (h : ownP l y = s) (hk : l.length ≤ k) : okP l y s k = true := by
  unfold okP
  rw [List.take_of_length_le hk]
  rcases own_why hs h with q | q | ⟨x, hx, q1, q2⟩
  · simp [q]
  · simp [q]
  · have : (l.any fun x => decide (x.tag = s) && decide (x.plt = y.plt)) = true := List.any_eq_true.2 ⟨x, hx, by simp [q1, q2]⟩
    rw [this]
    simp
end Go.Tw.Ps
namespace Go.Proofs.YtbjhemglecllmaaDoor
open Go.RowKit Go.Tw Go.Tw.Ord Go.Tw.Ps Go.Sort Go.ChangeShapes Go.WideShapes
set_option maxRecDepth 100000 in
set_option maxHeartbeats 4000000 in
theorem tags_walk : LawWalkL Tryd.prog laidL 9 Tryd.f9 := by
  intro H enc W base args ds ps hval hA hsz hL
  rw [Tryd.params9] at hA hval
  obtain ⟨v0, v1, d0, d1, p0, p1, rfl, rfl, rfl, h0, h1⟩ := trodAll_two hA
  obtain ⟨l, hl⟩ := arg_slice Tryd.underlying38 (opensPass (e := 24)) (hval 0 _ _ rfl rfl) h0
  obtain ⟨s, rfl, hs⟩ := arg_str Tryd.underlying9 (hval 1 _ _ rfl rfl) h1
  clear hA hval h0 h1 hsz hL hs
  have HL := Lib.hid hl
  have HFW := Lib.hid (few_any l v0 W hl)
  obtain ⟨ao, cp, g, o, hv0, q1, q2, ho⟩ := pas_rowA hl
  unfold maxLen at q2
  have HO := Lib.hid ho
  have HV0 := Lib.hid hv0
  clear hl ho hv0
  by_cases hse : s = es
  · have e1 : s.toList.isEmpty = true := by rw [emp_iff]; simpa using hse
    clear hse
    go_enter Tryd.func9, Tryd.ntmps9
    go_wp2_with (first
      | (go_at_call 19
         with_reducible refine HFW.out.mono ?_
         rintro e w1 ⟨⟨c, rfl, hc⟩, hg⟩
         have HC := Lib.hid hc
         have HB1 := Lib.hid hg.below
         have H1 := Lib.hid (HL.out.step hg.below)
         clear hc hg
         cases c)
      | (go_at_call 12
         with_reducible refine (awake_any _).mono ?_
         rintro e wz ⟨rfl, hbz⟩
         have HBZ := Lib.hid (bl_trans (show Below W.heap.size W _ from by first | exact HB9.out | exact HB2.out | exact HB1.out) hbz)
         clear hbz))
    all_goals
      go_ret
      exact ⟨rfl, HBZ.out⟩
  have e1 : s.toList.isEmpty = false := by rw [emp_iff]; simpa using hse
  have HSE := Lib.hid hse
  clear hse
  go_enter Tryd.func9, Tryd.ntmps9
  go_upto_region 4 with (first
    | (go_at_call 19
       with_reducible refine HFW.out.mono ?_
       rintro e w1 ⟨⟨c, rfl, hc⟩, hg⟩
       have HC := Lib.hid hc
       have HB1 := Lib.hid hg.below
       have H1 := Lib.hid (HL.out.step hg.below)
       clear hc hg
       cases c)
    | (go_at_call 25
       with_reducible refine (of_any l s v0 _ H1.out (by have := (HC.out (by simp)).1; omega) (few_src (HC.out (by simp)).2)).mono ?_
       rintro e w3 ⟨⟨v3, rfl, hs⟩, hb⟩
       have S3 := Lib.hid hs
       have HB3 := Lib.hid (bl_trans HB1.out hb)
       clear hs hb)
    | (go_at_call 12
       with_reducible refine (awake_any _).mono ?_
       rintro e wz ⟨rfl, hbz⟩
       have HBZ := Lib.hid (bl_trans (show Below W.heap.size W _ from by first | exact HB9.out | exact HB2.out | exact HB1.out) hbz)
       clear hbz))
  · go_ret
    exact ⟨rfl, HBZ.out⟩
  · have hl40 := (HC.out (by simp)).1
    have e4 := HV0.out
    subst e4
    obtain ⟨ao3, cp3, g3, o3, hv3, r1, r2, ho3⟩ := pas_rowA S3.out
    subst hv3
    unfold maxLen at r2
    have HO3 := Lib.hid ho3
    have HMO := Lib.hid (fun (y : Pas) => (mem_ofP (l := l) (s := s) (x := y)))
    have S3' := Lib.hid S3.out
    have hS : (ofP l s).length ≤ 40 := by
      unfold ofP
      split
      · simp
      · rw [sortP_len]
        exact Nat.le_trans (List.length_filter_le _ _) hl40
    generalize ofP l s = S at HO3 HMO S3' hS
    clear ho3 r1 HFW S3
    go_wp2
    go_loopg [6] l.length (fun gx i wr => ∃ k : Nat, k + gx = l.length ∧ i = .int .i64 k ∧ GrB w3 wr)
    case atStart => exact ⟨0, by omega, rfl, GrB.refl _⟩
    case round =>
      obtain ⟨wi, rfl⟩ : ∃ wi : World, wi = wr := ⟨_, rfl⟩
      obtain ⟨k, hk, rfl, hb⟩ := hrel
      have HB := Lib.hid hb
      by_cases hlt : k < l.length
      · obtain ⟨rfl, -, A, vx, hat⟩ := HO.out k hlt
        have hxl := List.getElem_mem hlt
        generalize l[k] = x at hat hxl
        have hbw : Below W.heap.size W wi := bl_trans HB3.out hb.below
        have k0 : (0 : Int) ≤ (k : Int) := by omega
        have k1 : (k : Int) < (l.length : Int) := by omega
        obtain ⟨ld0, c3, -, hsx⟩ := hat.2.2 wi hbw
        by_cases hq : x.tag = s
        · have e2 : (x.tag.toList == s.toList) = true := by rw [eq_str]; simpa using hq
          have HH := Lib.hid (show Calls Tryd.prog 33 #[.slice ao3 S.length cp3, .agg A] wi fun e w' => e = .returned (.bool true) ∧ GrB wi w' from by
            have := has_any S x _ vx wi (S3'.out.step hb.below) hsx hat.2.1
            rw [hat.1, decide_eq_true ((HMO.out x).2 ⟨HSE.out, hxl, by unfold ownP; rw [if_neg (by rw [hq]; exact HSE.out)]; exact hq⟩)] at this
            exact this)
          clear hat hxl hbw hq hsx hb
          go_wp2_with (first
            | (refine wpList_step (fun K hK => ?_)
               rw [if_pos (show _ = true by kernel_rfl)]
               refine wp_loadA _ 24 rfl Tryd.isAgg24 Tryd.sizeOf24 rfl (by with_reducible assumption) (hK _ _ ?_)
               clear hK K)
            | (go_at_call 33
               with_reducible refine HH.out.mono ?_
               rintro e w4 ⟨rfl, hg4⟩
               have HG4 := Lib.hid (HB.out.trans hg4)
               clear hg4 ld0 c3))
          go_roundg (l.length - (k + 1))
          case measure => omega
          case rel => exact ⟨k + 1, by omega, by go_num, HG4.out⟩
        · have e2 : (x.tag.toList == s.toList) = false := by rw [eq_str]; simpa using hq
          clear hat hxl hbw hq hsx hb
          go_wp2
          go_roundg (l.length - (k + 1))
          case measure => omega
          case rel => exact ⟨k + 1, by omega, by go_num, HB.out⟩
      · have hkl : ¬ (k : Int) < (l.length : Int) := by omega
        clear hb hlt hk
        go_wp2
        go_loopg [7] S.length (fun gx i wr => ∃ j : Nat, j + gx = S.length ∧ i = .int .i64 j ∧ GrB w3 wr)
        case atStart => exact ⟨0, by omega, rfl, HB.out⟩
        case round =>
          clear HB
          obtain ⟨wj, rfl⟩ : ∃ wj : World, wj = wr := ⟨_, rfl⟩
          obtain ⟨j, hj, rfl, hb⟩ := hrel
          have HB := Lib.hid hb
          by_cases hlt : j < S.length
          · obtain ⟨rfl, -, B, vy, hbt⟩ := HO3.out j hlt
            obtain ⟨-, -, hown⟩ := (HMO.out S[j]).1 (List.getElem_mem hlt)
            generalize S[j] = y at hbt hown
            have j0 : (0 : Int) ≤ (j : Int) := by omega
            have j1 : (j : Int) < (S.length : Int) := by omega
            obtain ⟨-, c3, c4, -⟩ := hbt.2.2 wj hb.below
            have HBT := Lib.hid hbt
            have HOWN := Lib.hid hown
            have HOZ := Lib.hid (okP_zero l y s)
            clear hbt hb
            by_cases hy1 : y.tag = es
            · have e2 : y.tag.toList.isEmpty = true := by rw [emp_iff]; simpa using hy1
              have e3 : (y.tag.toList == s.toList) = false := by rw [eq_str, decide_eq_false_iff_not, hy1]; exact fun q => HSE.out q.symm
              by_cases hy2 : y.plt = s
              · have e4 : (y.plt.toList == s.toList) = true := by rw [eq_str]; simpa using hy2
                have HZ := Lib.hid (show true = okP l y s 0 from by rw [HOZ.out]; simp [hy2])
                clear hy1 hy2 hown
                go_wp2
                go_loopg [8, 9] l.length (fun gx cv kv wr => ∃ (k : Nat) (c : Bool), k + gx = l.length ∧ kv = .int .i64 k ∧ cv = .bool c ∧ Hid (c = okP l y s k) ∧ GrB wj wr)
                case atStart => exact ⟨0, _, by omega, rfl, rfl, HZ, GrB.refl _⟩
                case round =>
                  obtain ⟨wk, rfl⟩ : ∃ wk : World, wk = wr := ⟨_, rfl⟩
                  obtain ⟨k, c, hk, rfl, rfl, HC2, hbk⟩ := hrel
                  have HBK := Lib.hid hbk
                  by_cases hlk : k < l.length
                  · obtain ⟨rfl, -, A, vx, hat⟩ := HO.out k hlk
                    have HNX := Lib.hid (okP_next (l := l) (y := y) (s := s) hlk)
                    generalize l[k] = x at hat HNX
                    have hbw : Below W.heap.size W wk := bl_trans HB3.out (HB.out.trans hbk).below
                    have X3 := hat.c3 hbw
                    have X4 := hat.c4 hbw
                    have Y4 := HBT.out.c4 (HB.out.trans hbk).below
                    have k0 : (0 : Int) ≤ (k : Int) := by omega
                    have k1 : (k : Int) < (l.length : Int) := by omega
                    clear hat hbw hbk e2 e3
                    (try clear e4)
                    (try clear e5)
                    go_upto_region 18 with (fail)
                    cases c with
                    | true =>
                      have HE := Lib.hid (show true = okP l y s (k + 1) from by rw [HNX.out, ← HC2.out]; rfl)
                      refine QW.regionG (by kernel_rfl) (by kernel_rfl) ?_
                      (iterate 2 (refine QW.yes (by kernel_rfl) (fun K hK => ?_)
                                  go_simp
                                  (with_reducible refine hK _ ?_)
                                  clear hK K))
                      (iterate 20 (refine QW.no (by kernel_rfl) ?_
                                   (try simp only [Act.put])
                                   (try simp only [List.setIfInBounds_toArray])
                                   (repeat (first | simp only [List.set_cons_succ] | simp only [List.set_cons_zero]))))
                      (iterate 2 (refine QW.yes (by kernel_rfl) (fun K hK => ?_)
                                  go_simp
                                  (with_reducible refine hK _ ?_)
                                  clear hK K))
                      refine QW.nil ?_
                      intro _ hw'
                      obtain ⟨⟨nq, osq⟩, hw''⟩ := hw'
                      subst hw''
                      have HGQ := Lib.hid (show GrB wk (grow (wk.drewN nq) osq) from ⟨nq, osq, rfl⟩)
                      clear X3 X4 Y4
                      generalize grow (wk.drewN nq) osq = wq at HGQ ⊢
                      go_wp2
                      go_roundg (l.length - (k + 1))
                      case measure => omega
                      case rel => exact ⟨k + 1, _, by omega, by go_num, rfl, HE, HBK.out.trans HGQ.out⟩
                    | false =>
                      by_cases hq : x.tag = s
                      · have e6 : (x.tag.toList == s.toList) = true := by rw [eq_str]; simpa using hq
                        by_cases hp : x.plt = y.plt
                        · have e7 : (x.plt.toList == y.plt.toList) = true := by rw [eq_str]; simpa using hp
                          have HE := Lib.hid (show true = okP l y s (k + 1) from by rw [HNX.out]; simp [hq, hp])
                          clear hq hp
                          refine QW.regionG (by kernel_rfl) (by kernel_rfl) ?_
                          (iterate 24 (refine QW.yes (by kernel_rfl) (fun K hK => ?_)
                                       go_simp
                                       (with_reducible refine hK _ ?_)
                                       clear hK K))
                          refine QW.nil ?_
                          intro _ hw'
                          obtain ⟨⟨nq, osq⟩, hw''⟩ := hw'
                          subst hw''
                          have HGQ := Lib.hid (show GrB wk (grow (wk.drewN nq) osq) from ⟨nq, osq, rfl⟩)
                          clear X3 X4 Y4
                          generalize grow (wk.drewN nq) osq = wq at HGQ ⊢
                          go_wp2
                          go_roundg (l.length - (k + 1))
                          case measure => omega
                          case rel => exact ⟨k + 1, _, by omega, by go_num, rfl, HE, HBK.out.trans HGQ.out⟩
                        · have e7 : (x.plt.toList == y.plt.toList) = false := by rw [eq_str]; simpa using hp
                          have HE := Lib.hid (show false = okP l y s (k + 1) from by rw [HNX.out, ← HC2.out]; simp [hp])
                          clear hq hp
                          refine QW.regionG (by kernel_rfl) (by kernel_rfl) ?_
                          (iterate 24 (refine QW.yes (by kernel_rfl) (fun K hK => ?_)
                                       go_simp
                                       (with_reducible refine hK _ ?_)
                                       clear hK K))
                          refine QW.nil ?_
                          intro _ hw'
                          obtain ⟨⟨nq, osq⟩, hw''⟩ := hw'
                          subst hw''
                          have HGQ := Lib.hid (show GrB wk (grow (wk.drewN nq) osq) from ⟨nq, osq, rfl⟩)
                          clear X3 X4 Y4
                          generalize grow (wk.drewN nq) osq = wq at HGQ ⊢
                          go_wp2
                          go_roundg (l.length - (k + 1))
                          case measure => omega
                          case rel => exact ⟨k + 1, _, by omega, by go_num, rfl, HE, HBK.out.trans HGQ.out⟩
                      · have e6 : (x.tag.toList == s.toList) = false := by rw [eq_str]; simpa using hq
                        have HE := Lib.hid (show false = okP l y s (k + 1) from by rw [HNX.out, ← HC2.out]; simp [hq])
                        clear hq
                        refine QW.regionG (by kernel_rfl) (by kernel_rfl) ?_
                        (iterate 10 (refine QW.yes (by kernel_rfl) (fun K hK => ?_)
                                     go_simp
                                     (with_reducible refine hK _ ?_)
                                     clear hK K))
                        (iterate 11 (refine QW.no (by kernel_rfl) ?_
                                     (try simp only [Act.put])
                                     (try simp only [List.setIfInBounds_toArray])
                                     (repeat (first | simp only [List.set_cons_succ] | simp only [List.set_cons_zero]))))
                        (iterate 3 (refine QW.yes (by kernel_rfl) (fun K hK => ?_)
                                    go_simp
                                    (with_reducible refine hK _ ?_)
                                    clear hK K))
                        refine QW.nil ?_
                        intro _ hw'
                        obtain ⟨⟨nq, osq⟩, hw''⟩ := hw'
                        subst hw''
                        have HGQ := Lib.hid (show GrB wk (grow (wk.drewN nq) osq) from ⟨nq, osq, rfl⟩)
                        clear X3 X4 Y4
                        generalize grow (wk.drewN nq) osq = wq at HGQ ⊢
                        go_wp2
                        go_roundg (l.length - (k + 1))
                        case measure => omega
                        case rel => exact ⟨k + 1, _, by omega, by go_num, rfl, HE, HBK.out.trans HGQ.out⟩
                  · have hkl2 : ¬ (k : Int) < (l.length : Int) := by omega
                    obtain rfl : c = true := HC2.out.trans (okP_end HSE.out HOWN.out (by omega))
                    clear hbk hk hlk e2 e3
                    (try clear e4)
                    (try clear e5)
                    go_wp2
                    go_roundg (S.length - (j + 1))
                    case measure => omega
                    case rel => exact ⟨j + 1, by omega, by go_num, HB.out.trans HBK.out⟩
              · have e4 : (y.plt.toList == s.toList) = false := by rw [eq_str]; simpa using hy2
                have HZ := Lib.hid (show false = okP l y s 0 from by rw [HOZ.out, hy1]; simp [hy2]; exact fun q => HSE.out q.symm)
                clear hy1 hy2 hown
                go_wp2
                go_loopg [8, 9] l.length (fun gx cv kv wr => ∃ (k : Nat) (c : Bool), k + gx = l.length ∧ kv = .int .i64 k ∧ cv = .bool c ∧ Hid (c = okP l y s k) ∧ GrB wj wr)
                case atStart => exact ⟨0, _, by omega, rfl, rfl, HZ, GrB.refl _⟩
                case round =>
                  obtain ⟨wk, rfl⟩ : ∃ wk : World, wk = wr := ⟨_, rfl⟩
                  obtain ⟨k, c, hk, rfl, rfl, HC2, hbk⟩ := hrel
                  have HBK := Lib.hid hbk
                  by_cases hlk : k < l.length
                  · obtain ⟨rfl, -, A, vx, hat⟩ := HO.out k hlk
                    have HNX := Lib.hid (okP_next (l := l) (y := y) (s := s) hlk)
                    generalize l[k] = x at hat HNX
                    have hbw : Below W.heap.size W wk := bl_trans HB3.out (HB.out.trans hbk).below
                    have X3 := hat.c3 hbw
                    have X4 := hat.c4 hbw
                    have Y4 := HBT.out.c4 (HB.out.trans hbk).below
                    have k0 : (0 : Int) ≤ (k : Int) := by omega
                    have k1 : (k : Int) < (l.length : Int) := by omega
                    clear hat hbw hbk e2 e3
                    (try clear e4)
                    (try clear e5)
                    go_upto_region 18 with (fail)
                    cases c with
                    | true =>
                      have HE := Lib.hid (show true = okP l y s (k + 1) from by rw [HNX.out, ← HC2.out]; rfl)
                      refine QW.regionG (by kernel_rfl) (by kernel_rfl) ?_
                      (iterate 2 (refine QW.yes (by kernel_rfl) (fun K hK => ?_)
                                  go_simp
                                  (with_reducible refine hK _ ?_)
                                  clear hK K))
                      (iterate 20 (refine QW.no (by kernel_rfl) ?_
                                   (try simp only [Act.put])
                                   (try simp only [List.setIfInBounds_toArray])
                                   (repeat (first | simp only [List.set_cons_succ] | simp only [List.set_cons_zero]))))
                      (iterate 2 (refine QW.yes (by kernel_rfl) (fun K hK => ?_)
                                  go_simp
                                  (with_reducible refine hK _ ?_)
                                  clear hK K))
                      refine QW.nil ?_
                      intro _ hw'
                      obtain ⟨⟨nq, osq⟩, hw''⟩ := hw'
                      subst hw''
                      have HGQ := Lib.hid (show GrB wk (grow (wk.drewN nq) osq) from ⟨nq, osq, rfl⟩)
                      clear X3 X4 Y4
                      generalize grow (wk.drewN nq) osq = wq at HGQ ⊢
                      go_wp2
                      go_roundg (l.length - (k + 1))
                      case measure => omega
                      case rel => exact ⟨k + 1, _, by omega, by go_num, rfl, HE, HBK.out.trans HGQ.out⟩
                    | false =>
                      by_cases hq : x.tag = s
                      · have e6 : (x.tag.toList == s.toList) = true := by rw [eq_str]; simpa using hq
                        by_cases hp : x.plt = y.plt
                        · have e7 : (x.plt.toList == y.plt.toList) = true := by rw [eq_str]; simpa using hp
                          have HE := Lib.hid (show true = okP l y s (k + 1) from by rw [HNX.out]; simp [hq, hp])
                          clear hq hp
                          refine QW.regionG (by kernel_rfl) (by kernel_rfl) ?_
                          (iterate 24 (refine QW.yes (by kernel_rfl) (fun K hK => ?_)
                                       go_simp
                                       (with_reducible refine hK _ ?_)
                                       clear hK K))
                          refine QW.nil ?_
                          intro _ hw'
                          obtain ⟨⟨nq, osq⟩, hw''⟩ := hw'
                          subst hw''
                          have HGQ := Lib.hid (show GrB wk (grow (wk.drewN nq) osq) from ⟨nq, osq, rfl⟩)
                          clear X3 X4 Y4
                          generalize grow (wk.drewN nq) osq = wq at HGQ ⊢
                          go_wp2
                          go_roundg (l.length - (k + 1))
                          case measure => omega
                          case rel => exact ⟨k + 1, _, by omega, by go_num, rfl, HE, HBK.out.trans HGQ.out⟩
                        · have e7 : (x.plt.toList == y.plt.toList) = false := by rw [eq_str]; simpa using hp
                          have HE := Lib.hid (show false = okP l y s (k + 1) from by rw [HNX.out, ← HC2.out]; simp [hp])
                          clear hq hp
                          refine QW.regionG (by kernel_rfl) (by kernel_rfl) ?_
                          (iterate 24 (refine QW.yes (by kernel_rfl) (fun K hK => ?_)
                                       go_simp
                                       (with_reducible refine hK _ ?_)
                                       clear hK K))
                          refine QW.nil ?_
                          intro _ hw'
                          obtain ⟨⟨nq, osq⟩, hw''⟩ := hw'
                          subst hw''
                          have HGQ := Lib.hid (show GrB wk (grow (wk.drewN nq) osq) from ⟨nq, osq, rfl⟩)
                          clear X3 X4 Y4
                          generalize grow (wk.drewN nq) osq = wq at HGQ ⊢
                          go_wp2
                          go_roundg (l.length - (k + 1))
                          case measure => omega
                          case rel => exact ⟨k + 1, _, by omega, by go_num, rfl, HE, HBK.out.trans HGQ.out⟩
                      · have e6 : (x.tag.toList == s.toList) = false := by rw [eq_str]; simpa using hq
                        have HE := Lib.hid (show false = okP l y s (k + 1) from by rw [HNX.out, ← HC2.out]; simp [hq])
                        clear hq
                        refine QW.regionG (by kernel_rfl) (by kernel_rfl) ?_
                        (iterate 10 (refine QW.yes (by kernel_rfl) (fun K hK => ?_)
                                     go_simp
                                     (with_reducible refine hK _ ?_)
                                     clear hK K))
                        (iterate 11 (refine QW.no (by kernel_rfl) ?_
                                     (try simp only [Act.put])
                                     (try simp only [List.setIfInBounds_toArray])
                                     (repeat (first | simp only [List.set_cons_succ] | simp only [List.set_cons_zero]))))
                        (iterate 3 (refine QW.yes (by kernel_rfl) (fun K hK => ?_)
                                    go_simp
                                    (with_reducible refine hK _ ?_)
                                    clear hK K))
                        refine QW.nil ?_
                        intro _ hw'
                        obtain ⟨⟨nq, osq⟩, hw''⟩ := hw'
                        subst hw''
                        have HGQ := Lib.hid (show GrB wk (grow (wk.drewN nq) osq) from ⟨nq, osq, rfl⟩)
                        clear X3 X4 Y4
                        generalize grow (wk.drewN nq) osq = wq at HGQ ⊢
                        go_wp2
                        go_roundg (l.length - (k + 1))
                        case measure => omega
                        case rel => exact ⟨k + 1, _, by omega, by go_num, rfl, HE, HBK.out.trans HGQ.out⟩
                  · have hkl2 : ¬ (k : Int) < (l.length : Int) := by omega
                    obtain rfl : c = true := HC2.out.trans (okP_end HSE.out HOWN.out (by omega))
                    clear hbk hk hlk e2 e3
                    (try clear e4)
                    (try clear e5)
                    go_wp2
                    go_roundg (S.length - (j + 1))
                    case measure => omega
                    case rel => exact ⟨j + 1, by omega, by go_num, HB.out.trans HBK.out⟩
            · have hy2 := own_tag hown hy1
              have e2 : y.tag.toList.isEmpty = false := by rw [emp_iff]; simpa using hy1
              have e3 : (y.tag.toList == s.toList) = true := by rw [eq_str]; simpa using hy2
              have e5 : (y.tag.toList != s.toList) = false := by rw [bne, e3]; rfl
              have HZ := Lib.hid (show true = okP l y s 0 from by rw [HOZ.out]; simp [hy2])
              clear hy1 hy2 hown
              go_wp2
              go_loopg [8, 9] l.length (fun gx cv kv wr => ∃ (k : Nat) (c : Bool), k + gx = l.length ∧ kv = .int .i64 k ∧ cv = .bool c ∧ Hid (c = okP l y s k) ∧ GrB wj wr)
              case atStart => exact ⟨0, _, by omega, rfl, rfl, HZ, GrB.refl _⟩
              case round =>
                obtain ⟨wk, rfl⟩ : ∃ wk : World, wk = wr := ⟨_, rfl⟩
                obtain ⟨k, c, hk, rfl, rfl, HC2, hbk⟩ := hrel
                have HBK := Lib.hid hbk
                by_cases hlk : k < l.length
                · obtain ⟨rfl, -, A, vx, hat⟩ := HO.out k hlk
                  have HNX := Lib.hid (okP_next (l := l) (y := y) (s := s) hlk)
                  generalize l[k] = x at hat HNX
                  have hbw : Below W.heap.size W wk := bl_trans HB3.out (HB.out.trans hbk).below
                  have X3 := hat.c3 hbw
                  have X4 := hat.c4 hbw
                  have Y4 := HBT.out.c4 (HB.out.trans hbk).below
                  have k0 : (0 : Int) ≤ (k : Int) := by omega
                  have k1 : (k : Int) < (l.length : Int) := by omega
                  clear hat hbw hbk e2 e3
                  (try clear e4)
                  (try clear e5)
                  go_upto_region 18 with (fail)
                  cases c with
                  | true =>
                    have HE := Lib.hid (show true = okP l y s (k + 1) from by rw [HNX.out, ← HC2.out]; rfl)
                    refine QW.regionG (by kernel_rfl) (by kernel_rfl) ?_
                    (iterate 2 (refine QW.yes (by kernel_rfl) (fun K hK => ?_)
                                go_simp
                                (with_reducible refine hK _ ?_)
                                clear hK K))
                    (iterate 20 (refine QW.no (by kernel_rfl) ?_
                                 (try simp only [Act.put])
                                 (try simp only [List.setIfInBounds_toArray])
                                 (repeat (first | simp only [List.set_cons_succ] | simp only [List.set_cons_zero]))))
                    (iterate 2 (refine QW.yes (by kernel_rfl) (fun K hK => ?_)
                                go_simp
                                (with_reducible refine hK _ ?_)
                                clear hK K))
                    refine QW.nil ?_
                    intro _ hw'
                    obtain ⟨⟨nq, osq⟩, hw''⟩ := hw'
                    subst hw''
                    have HGQ := Lib.hid (show GrB wk (grow (wk.drewN nq) osq) from ⟨nq, osq, rfl⟩)
                    clear X3 X4 Y4
                    generalize grow (wk.drewN nq) osq = wq at HGQ ⊢
                    go_wp2
                    go_roundg (l.length - (k + 1))
                    case measure => omega
                    case rel => exact ⟨k + 1, _, by omega, by go_num, rfl, HE, HBK.out.trans HGQ.out⟩
                  | false =>
                    by_cases hq : x.tag = s
                    · have e6 : (x.tag.toList == s.toList) = true := by rw [eq_str]; simpa using hq
                      by_cases hp : x.plt = y.plt
                      · have e7 : (x.plt.toList == y.plt.toList) = true := by rw [eq_str]; simpa using hp
                        have HE := Lib.hid (show true = okP l y s (k + 1) from by rw [HNX.out]; simp [hq, hp])
                        clear hq hp
                        refine QW.regionG (by kernel_rfl) (by kernel_rfl) ?_
                        (iterate 24 (refine QW.yes (by kernel_rfl) (fun K hK => ?_)
                                     go_simp
                                     (with_reducible refine hK _ ?_)
                                     clear hK K))
                        refine QW.nil ?_
                        intro _ hw'
                        obtain ⟨⟨nq, osq⟩, hw''⟩ := hw'
                        subst hw''
                        have HGQ := Lib.hid (show GrB wk (grow (wk.drewN nq) osq) from ⟨nq, osq, rfl⟩)
                        clear X3 X4 Y4
                        generalize grow (wk.drewN nq) osq = wq at HGQ ⊢
                        go_wp2
                        go_roundg (l.length - (k + 1))
                        case measure => omega
                        case rel => exact ⟨k + 1, _, by omega, by go_num, rfl, HE, HBK.out.trans HGQ.out⟩
                      · have e7 : (x.plt.toList == y.plt.toList) = false := by rw [eq_str]; simpa using hp
                        have HE := Lib.hid (show false = okP l y s (k + 1) from by rw [HNX.out, ← HC2.out]; simp [hp])
                        clear hq hp
                        refine QW.regionG (by kernel_rfl) (by kernel_rfl) ?_
                        (iterate 24 (refine QW.yes (by kernel_rfl) (fun K hK => ?_)
                                     go_simp
                                     (with_reducible refine hK _ ?_)
                                     clear hK K))
                        refine QW.nil ?_
                        intro _ hw'
                        obtain ⟨⟨nq, osq⟩, hw''⟩ := hw'
                        subst hw''
                        have HGQ := Lib.hid (show GrB wk (grow (wk.drewN nq) osq) from ⟨nq, osq, rfl⟩)
                        clear X3 X4 Y4
                        generalize grow (wk.drewN nq) osq = wq at HGQ ⊢
                        go_wp2
                        go_roundg (l.length - (k + 1))
                        case measure => omega
                        case rel => exact ⟨k + 1, _, by omega, by go_num, rfl, HE, HBK.out.trans HGQ.out⟩
                    · have e6 : (x.tag.toList == s.toList) = false := by rw [eq_str]; simpa using hq
                      have HE := Lib.hid (show false = okP l y s (k + 1) from by rw [HNX.out, ← HC2.out]; simp [hq])
                      clear hq
                      refine QW.regionG (by kernel_rfl) (by kernel_rfl) ?_
                      (iterate 10 (refine QW.yes (by kernel_rfl) (fun K hK => ?_)
                                   go_simp
                                   (with_reducible refine hK _ ?_)
                                   clear hK K))
                      (iterate 11 (refine QW.no (by kernel_rfl) ?_
                                   (try simp only [Act.put])
                                   (try simp only [List.setIfInBounds_toArray])
                                   (repeat (first | simp only [List.set_cons_succ] | simp only [List.set_cons_zero]))))
                      (iterate 3 (refine QW.yes (by kernel_rfl) (fun K hK => ?_)
                                  go_simp
                                  (with_reducible refine hK _ ?_)
                                  clear hK K))
                      refine QW.nil ?_
                      intro _ hw'
                      obtain ⟨⟨nq, osq⟩, hw''⟩ := hw'
                      subst hw''
                      have HGQ := Lib.hid (show GrB wk (grow (wk.drewN nq) osq) from ⟨nq, osq, rfl⟩)
                      clear X3 X4 Y4
                      generalize grow (wk.drewN nq) osq = wq at HGQ ⊢
                      go_wp2
                      go_roundg (l.length - (k + 1))
                      case measure => omega
                      case rel => exact ⟨k + 1, _, by omega, by go_num, rfl, HE, HBK.out.trans HGQ.out⟩
                · have hkl2 : ¬ (k : Int) < (l.length : Int) := by omega
                  obtain rfl : c = true := HC2.out.trans (okP_end HSE.out HOWN.out (by omega))
                  clear hbk hk hlk e2 e3
                  (try clear e4)
                  (try clear e5)
                  go_wp2
                  go_roundg (S.length - (j + 1))
                  case measure => omega
                  case rel => exact ⟨j + 1, by omega, by go_num, HB.out.trans HBK.out⟩
          · have hjl : ¬ (j : Int) < (S.length : Int) := by omega
            have HB9 := Lib.hid (bl_trans HB3.out hb.below)
            clear hb hlt hj HB
            go_wp2_with (go_at_call 12
                         with_reducible refine (awake_any _).mono ?_
                         rintro e wz ⟨rfl, hbz⟩
                         have HBZ := Lib.hid (bl_trans (show Below W.heap.size W _ from by first | exact HB9.out | exact HB2.out | exact HB1.out) hbz)
                         clear hbz)
            go_ret
            exact ⟨rfl, HBZ.out⟩
set_option maxRecDepth 100000 in
theorem tags_lift (os : Os) (started : os.Started) (H : Type) (enc : TypeId × Value → H) :
    ReturnsInHanded {} Tryd.checked os 9 .any (fun w args => (Rows.passageTagsSpec.pre enc Tryd.prog Tryd.f9 [] false w args ∧ laidMetH Tryd.prog laidL w) ∧ sizedMet enc Tryd.prog Tryd.f9 (OpenSpec.ofChange Rows.passageTagsSpec) false w args)
      (Rows.passageTagsSpec.post enc Tryd.prog Tryd.f9 false true false false) :=
  law_lift_laid (C := Tryd.checked) (s := Rows.passageTagsSpec) (fn := Tryd.f9) ⟨rfl, fun H ds h => by
    match ds, h with
    | [a, b], _ => exact ⟨rfl, rfl, rfl⟩⟩ rfl Tryd.underlying4 (by kernel_rfl) laid0 own0 started (by kernel_rfl) Tryd.func9
    (ChangeSpec.witness_shaped (enc := enc) (C := Tryd.checked) (os := os) (X := fun w _ => laidMetH Tryd.prog laidL w) false (World.doorLaid Tryd.prog 24 os) #[.slice none 0 0, .string ByteArray.empty] 8 rfl (World.shaped_of_RefB (by kernel_rfl) (by kernel_rfl)) (by kernel_rfl) (by kernel_rfl) (by kernel_rfl) (door_met os _)) tags_walk
theorem tags_row : Rows.PassageTagsSaid :=
  OpenClaim.holds_of_wide 9 Tryd.f9 rfl rfl rfl rfl rfl rfl rfl ⟨rfl, rfl, rfl, rfl, rfl⟩ rfl rfl rfl rfl rfl (by kernel_rfl) Tryd.func9 (by kernel_rfl)
    (of_decide_eq_true (by kernel_rfl)) (by unfold Func.isWrapper; rw [if_neg (of_decide_eq_false (by kernel_rfl))]; exact ⟨rfl, rfl⟩)
    (fun os started H enc _ => tags_lift os started H enc)
/-- THE STATEMENT: PassageTags, as a card. -/
theorem tags_holds : Rows.PassageTagsCardSaid :=
  Claim7.holds_tied_plain_at .later [] [.data, .data, .data] true (true, "aecdef402db0857d3deff0902d79660c7a9739e5c0215286cb3695e0890af9f4") false
    tags_row (fun _ h => by cases h) (by kernel_rfl) (fun _ h => by cases h) passageTags_row_tie rfl ⟨rfl, rfl⟩ (by kernel_rfl) rfl
    (fun f fn hf hfn => by
      obtain rfl : f = 9 := Option.some.inj ((show Tryd.prog.funcNamed "tollway/tollwaylaw17.PassageTags" = some 9 by kernel_rfl).symm.trans hf) |>.symm
      obtain rfl : fn = Tryd.f9 := (Option.some.inj (Tryd.func9.symm.trans hfn)).symm
      exact ⟨by kernel_rfl, fun j t ht => by
        rw [Tryd.params9] at ht
        have hm := Array.mem_of_getElem? ht
        have hall : (Tryd.f9.params.toList.all fun u => !Tryd.prog.wantsStandIn u) = true := by kernel_rfl
        rw [Tryd.params9] at hall
        exact (show Tryd.prog.wantsStandIn t = false by simpa using List.all_eq_true.1 hall t (by simpa using hm))⟩)
    (by kernel_rfl)
end Go.Proofs.YtbjhemglecllmaaDoor
