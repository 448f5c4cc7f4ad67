/-
  Layer 17 (passage): the law PassageOnce.
-/
import Derived.Test.YtbjhemglecllmaaDoorPsL2
import Derived.Test.YtbjhemglecllmaaDoorPsFr
namespace Go.Tw.Ps
open Go.RowKit Go.Tw Go.Sort Go.Tw.Ord
theorem filter_or_perm {α : Type} (p q : α → Bool) : ∀ l : List α, (∀ x ∈ l, p x = true → q x = false) → (l.filter fun x => p x || q x).Perm (l.filter p ++ l.filter q)
  | [], _ => List.Perm.refl _
  | x :: l, h => by
    have ih := filter_or_perm p q l (fun y hy => h y (by simp [hy]))
    have hx := h x (by simp)
    cases hp : p x with
    | true =>
      have hq := hx hp
      rw [List.filter_cons_of_pos (by simp [hp]), List.filter_cons_of_pos hp, List.filter_cons_of_neg (by simp [hq])]
      exact ih.cons x
    | false =>
      cases hq : q x with
      | true =>
        rw [List.filter_cons_of_pos (by simp [hq]), List.filter_cons_of_neg (by simp [hp]), List.filter_cons_of_pos hq]
        exact (ih.cons x).trans List.perm_middle.symm
      | false =>
        rw [List.filter_cons_of_neg (by simp [hp, hq]), List.filter_cons_of_neg (by simp [hp]), List.filter_cons_of_neg (by simp [hq])]
        exact ih
/-- those of l whose vehicle is among O -/
def inO (l : List Pas) (O : List ByteArray) : List Pas := l.filter fun x => hasS O (ownP l x)
theorem hasS_snoc (O : List ByteArray) (v p : ByteArray) : hasS (O ++ [v]) p = (hasS O p || decide (p = v)) := by
  unfold hasS
  rw [List.any_append]
  simp
theorem inO_nil (l : List Pas) : inO l [] = [] := by
  unfold inO
  rw [List.filter_eq_nil_iff]
  intro x _
  simp [hasS]
theorem inO_snoc {l : List Pas} {O : List ByteArray} {v : ByteArray} (hv : v ∉ O) (hs : v ≠ es) : (inO l (O ++ [v])).Perm (inO l O ++ ofP l v) := by
  have h1 : inO l (O ++ [v]) = l.filter fun x => hasS O (ownP l x) || decide (ownP l x = v) := by
    unfold inO
    congr 1
    funext x
    exact hasS_snoc O v _
  rw [h1]
  refine (filter_or_perm _ _ l fun x _ hx => ?_).trans (List.Perm.append_left _ ?_)
  · rw [decide_eq_false_iff_not]
    intro e
    rw [e] at hx
    exact hv (hasS_iff.1 hx)
  · unfold ofP
    rw [if_neg hs]
    exact (sortP_perm _).symm
theorem inO_len (l : List Pas) (O : List ByteArray) : (inO l O).length ≤ l.length := List.length_filter_le _ _
/-- the law's want -/
def wantP (x : Pas) : Bool := !decide (x.tag = es) || !decide (x.plt = es)
theorem own_es {l : List Pas} {x : Pas} : ownP l x = es ↔ x.tag = es ∧ x.plt = es := by
  unfold ownP
  by_cases ht : x.tag = es
  · rw [if_pos ht]
    by_cases hp : x.plt = es
    · rw [if_pos hp]; simp [ht, hp]
    · rw [if_neg hp]
      by_cases ho : onlyTag l x.plt = es
      · rw [if_pos ho]; simp [hp]
      · rw [if_neg ho]; simp [hp, ho]
  · rw [if_neg ht]
    simp [ht]
theorem inO_all {l : List Pas} {O : List ByteArray} (h : VehSpec l O) : inO l O = l.filter wantP := by
  unfold inO
  refine List.filter_congr fun x hx => ?_
  rw [Bool.eq_iff_iff, hasS_iff, h.2]
  unfold wantP
  rw [Bool.or_eq_true, Bool.not_eq_true', Bool.not_eq_true', decide_eq_false_iff_not, decide_eq_false_iff_not]
  constructor
  · rintro ⟨h1, -⟩
    by_cases ht : x.tag = es
    · by_cases hp : x.plt = es
      · exact absurd (own_es.2 ⟨ht, hp⟩) h1
      · exact .inr hp
    · exact .inl ht
  · intro q
    exact ⟨fun e => by have := own_es.1 e; rcases q with q | q; exact q this.1; exact q this.2, x, hx, rfl⟩
theorem veh_at {l : List Pas} {O : List ByteArray} (h : VehSpec l O) {i : Nat} (hi : i < O.length) : O[i] ≠ es ∧ ofP l O[i] ≠ [] ∧ O[i] ∉ O.take i := by
  obtain ⟨h1, x, hx, e⟩ := (h.2 O[i]).1 (List.getElem_mem hi)
  refine ⟨h1, fun q => ?_, fun q => ?_⟩
  · unfold ofP at q
    rw [if_neg h1] at q
    have : x ∈ sortP (l.filter fun y => decide (ownP l y = O[i])) := (sortP_perm _).mem_iff.2 (List.mem_filter.2 ⟨hx, by simpa using e⟩)
    rw [q] at this
    cases this
  · obtain ⟨j, hj, e⟩ := List.mem_take_iff_getElem.1 q
    have := List.pairwise_iff_getElem.1 h.1 j i (by omega) hi (by omega)
    rw [e, cmpS_self] at this
    omega
theorem veh_before {l : List Pas} {O : List ByteArray} (h : VehSpec l O) {j i : Nat} (hj : j < i) (hi : i < O.length) : ltL (codes (O[j]'(by omega))) (codes O[i]) = true :=
  cmpS_lt.1 (List.pairwise_iff_getElem.1 h.1 j i (by omega) hi hj)
end Go.Tw.Ps
namespace Go.Proofs.YtbjhemglecllmaaDoor
open Go.RowKit Go.Tw Go.Tw.Ord Go.Tw.Ps Go.Sort Go.ChangeShapes Go.WideShapes
set_option maxRecDepth 100000 in
set_option maxHeartbeats 4000000 in
theorem once_walk : LawWalkL Tryd.prog laidL 8 Tryd.f8 := by
  intro H enc W base args ds ps hval hA hsz hL
  rw [Tryd.params8] at hA hval
  obtain ⟨v0, d0, rfl, rfl, h0⟩ := trodAll_one hA
  obtain ⟨l, hl⟩ := arg_slice Tryd.underlying38 (opensPass (e := 24)) (hval 0 _ _ rfl rfl) h0
  clear hA hval h0 hsz hL
  have HL := Lib.hid hl
  have HFW := Lib.hid (few_any l v0 W hl)
  obtain ⟨ao, cp, g, o, hv0, q1, q2, ho⟩ := pas_rowA hl
  unfold maxLen at q2
  have HO := Lib.hid ho
  have HV0 := Lib.hid hv0
  clear hl ho hv0
  go_enter Tryd.func8, Tryd.ntmps8
  go_upto_region 4 with (first
    | (go_at_call 19
       with_reducible refine HFW.out.mono ?_
       rintro e w1 ⟨⟨c, rfl, hc⟩, hg⟩
       have HC := Lib.hid hc
       have HB1 := Lib.hid hg.below
       have H1 := Lib.hid (HL.out.step hg.below)
       clear hc hg
       cases c)
    | (go_at_call 28
       with_reducible refine (vehicles_any l v0 _ H1.out (by have := (HC.out (by simp)).1; omega)).mono ?_
       rintro e w3 ⟨⟨v3, rfl, O, hO, hs⟩, hb⟩
       have S3 := Lib.hid hs
       have VO := Lib.hid hO
       have HB3 := Lib.hid (bl_trans HB1.out hb)
       have H3 := Lib.hid (H1.out.step hb)
       clear hs hO hb)
    | (go_at_call 12
       with_reducible refine (awake_any _).mono ?_
       rintro e wz ⟨rfl, hbz⟩
       have HBZ := Lib.hid (bl_trans (show Below W.heap.size W _ from by first | exact HB9.out | exact HB2.out | exact HB1.out) hbz)
       clear hbz))
  · go_ret
    exact ⟨rfl, HBZ.out⟩
  · have hl40 := (HC.out (by simp)).1
    have HSRC := Lib.hid (few_src (HC.out (by simp)).2)
    have e4 := HV0.out
    subst e4
    have hh3 : SlIs (tPas eS) (· < w3.heap.size) w3 (.slice ao l.length cp) l := H3.out
    have HL3 := Lib.hid hh3
    obtain ⟨a3, c3, b3, o3, hv3, r1, r2, ho3⟩ := strs_open S3.out
    subst hv3
    unfold maxLen at r2
    have HO3 := Lib.hid ho3
    clear HFW hh3 H3 ho3 S3
    go_wp2
    go_loopg [4, 5] O.length (fun gx av i wr => ∃ (k : Nat) (T : List Pas), k + gx = O.length ∧ i = .int .i64 k ∧ Hid (T.Perm (inO l (O.take k))) ∧ OwnSl (tPas eS) 24 w3.heap.size wr av T ∧ Below w3.heap.size w3 wr)
    case atStart => exact ⟨0, [], by omega, rfl, Lib.hid (by rw [List.take_zero, inO_nil]), OwnSl.nil _ _ _ _, Below.refl _ _⟩
    case round =>
      obtain ⟨wo, rfl⟩ : ∃ wo : World, wo = wr := ⟨_, rfl⟩
      obtain ⟨k, T, hk, rfl, HT, hown, hb⟩ := hrel
      have HB := Lib.hid hb
      have HOW := Lib.hid hown
      have hT40 : T.length ≤ 40 := by
        have h1 := HT.out.length_eq
        have h2 := inO_len l (O.take k)
        omega
      by_cases hlt : k < O.length
      · obtain ⟨rfl, -, hbk, c0, hcs⟩ := HO3.out wo (.of_below hb) k hlt
        have HVA := Lib.hid (veh_at VO.out hlt)
        have HTK := Lib.hid (show O.take (k + 1) = O.take k ++ [O[k]] from List.take_succ_eq_append_getElem hlt)
        have HPV := Lib.hid (show ∀ m, m + 1 = k → ∃ u : ByteArray, wo.cell? ⟨b3, o3 + m, none⟩ = some (.string u) ∧ u.size ≤ maxLen ∧ ltL (codes u) (codes O[k]) = true from fun m hm => by
          obtain ⟨-, -, -, d0, ds⟩ := HO3.out wo (.of_below HB.out) m (by omega)
          exact ⟨_, d0, ds, veh_before VO.out (by omega) hlt⟩)
        generalize O[k] = v at HVA HTK HPV c0 hcs
        obtain ⟨hv1, hv2, hv3⟩ := HVA.out
        have e1 : v.toList.isEmpty = false := by rw [emp_iff]; simpa using hv1
        have HNX := Lib.hid (show ∀ U : List Pas, U = ofP l v → (T ++ U).Perm (inO l (O.take (k + 1))) from fun U hU => by
          rw [HTK.out, hU]
          exact (HT.out.append_right _).trans (inO_snoc hv3 hv1).symm)
        have HOF := Lib.hid (fun (w' : World) (hw : Below w3.heap.size w3 w') => of_anyF l v (.slice ao l.length cp) w' (HL3.out.step hw) (by omega) HSRC.out)
        have HUL := Lib.hid (show (ofP l v).length ≤ 40 from by
          have h1 := (HNX.out _ rfl).length_eq
          have h2 := inO_len l (O.take (k + 1))
          rw [List.length_append] at h1
          omega)
        have HUN := Lib.hid (show (ofP l v).length ≠ 0 from fun q => hv2 (List.eq_nil_of_length_eq_zero q))
        have HNX := Lib.hid (HNX.out _ rfl)
        generalize ofP l v = U at HNX HOF HUL HUN hv2
        have v0 := fun n os => cell_grown (Nat.lt_of_lt_of_le hbk hb.size) c0 n os
        have k0 : (0 : Int) ≤ (k : Int) := by omega
        have k1 : (k : Int) < (O.length : Int) := by omega
        have HCS := Lib.hid hcs
        clear hv1 hv2 hv3 hcs hown hb
        go_upto_region 8 with (fail)
        rcases Nat.eq_zero_or_pos k with hk0 | hk0
        · have kz : decide (0 < k) = false := by rw [decide_eq_false_iff_not]; omega
          clear hk0
          refine QW.regionG (by kernel_rfl) (by kernel_rfl) ?_
          (iterate 9 (refine QW.yes (by kernel_rfl) (fun K hK => ?_)
                      go_simp
                      (with_reducible refine hK _ ?_)
                      clear hK K))
          (iterate 11 (refine QW.no (by kernel_rfl) ?_
                       (try simp only [Act.put])
                       (try simp only [List.setIfInBounds_toArray])
                       (repeat (first | simp only [List.set_cons_succ] | simp only [List.set_cons_zero]))))
          (iterate 2 (refine QW.yes (by kernel_rfl) (fun K hK => ?_)
                      go_simp
                      (with_reducible refine hK _ ?_)
                      clear hK K))
          refine QW.nil ?_
          intro _ hw'
          obtain ⟨⟨nq, osq⟩, hw''⟩ := hw'
          subst hw''
          have HGQ := Lib.hid (show GrB wo (grow (wo.drewN nq) osq) from ⟨nq, osq, rfl⟩)
          have cq := v0 nq osq
          clear v0
          generalize grow (wo.drewN nq) osq = wq at HGQ cq ⊢
          have HWQ := Lib.hid (HB.out.trans (HGQ.out.below.mono HB.out.size))
          have HQO := Lib.hid (HOW.out.below HGQ.out.below)
          have hun : ((U.length : Int) == 0) = false := by rw [beq_eq_false_iff_ne]; have := HUN.out; omega
          go_wp2_with (first
            | (go_at_call 25
               with_reducible refine (HOF.out wq HWQ.out).mono ?_
               rintro e w5 ⟨⟨v5, rfl, hs⟩, hb⟩
               obtain ⟨a5, c5, b5, o5, hv5, -⟩ := id hs
               subst hv5
               have S5 := Lib.hid hs
               have HO5 := Lib.hid (HQO.out.below hb)
               have HLT := Lib.hid HQO.out.own_lt
               have HB5 := Lib.hid (HWQ.out.trans (hb.mono HWQ.out.size))
               clear hs hb cq)
            | (at_builtin
               refine wpList_append_sl (.tmp 52) (.tmp 53) rfl 38 rfl slPas rfl HO5.out rfl S5.out (fun q hq => ⟨hq.2, fun e => by have := (HLT.out q e.symm).2; have := hq.1; omega⟩) (small_bytes (k := 100) (by have := HUL.out; omega) (by decide)) (by have := HUL.out; unfold maxLen; omega) HB5.out.size ?_
               intro v6 w6 ho6 hg6 hx6
               have HO6 := Lib.hid ho6
               have HB6 := Lib.hid (HB5.out.grown hg6 HB5.out.size (fun q hq => (HO5.out.own_lt q hq).1))
               clear ho6 hg6 hx6))
          go_roundg (O.length - (k + 1))
          case measure => omega
          case rel => exact ⟨k + 1, T ++ U, by omega, by go_num, HNX, HO6.out, HB6.out⟩
        · obtain ⟨m, hm⟩ : ∃ m, m + 1 = k := ⟨k - 1, by omega⟩
          obtain ⟨u, d0, hus, hlt2⟩ := HPV.out m hm
          have hw1 : IntKind.i64.wrap ((k : Int) - 1) = (m : Int) := by rw [wrap_in (by omega) (by omega)]; omega
          have kz' : 0 < k := by omega
          have m0 : (0 : Int) ≤ (m : Int) := by omega
          have m1 : (m : Int) < (O.length : Int) := by omega
          have v1 := fun n os => cell_grown (Nat.lt_of_lt_of_le hbk HB.out.size) d0 n os
          have BF := Lib.hid (show ∀ n os, Calls Tryd.prog 32 #[.string u, .string v] (grow (wo.drewN n) os) fun e w' => e = .returned (.bool true) ∧ ∃ q os', w' = grow ((grow (wo.drewN n) os).drewN q) os' from fun n os => by
            have := Before_gr u v (grow (wo.drewN n) os) hus HCS.out
            rw [hlt2] at this
            exact this)
          clear hm hk0 d0 hus hlt2
          refine QW.regionG (by kernel_rfl) (by kernel_rfl) ?_
          (iterate 18 (refine QW.yes (by kernel_rfl) (fun K hK => ?_)
                       go_simp
                       (with_reducible refine hK _ ?_)
                       clear hK K))
          (refine QW.yes (by kernel_rfl) (fun K hK => ?_)
           go_simp
           apply Exists.intro
           refine ⟨fun _ => ?_, hK _ ?_⟩
           (go_at_call 32; with_reducible exact Calls.grown_of (BF.out _ _))
           clear hK K)
          (iterate 3 (refine QW.yes (by kernel_rfl) (fun K hK => ?_)
                      go_simp
                      (with_reducible refine hK _ ?_)
                      clear hK K))
          refine QW.nil ?_
          intro _ hw'
          obtain ⟨⟨nq, osq⟩, hw''⟩ := hw'
          subst hw''
          have HGQ := Lib.hid (show GrB wo (grow (wo.drewN nq) osq) from ⟨nq, osq, rfl⟩)
          have cq := v0 nq osq
          clear v0 v1 BF
          generalize grow (wo.drewN nq) osq = wq at HGQ cq ⊢
          have HWQ := Lib.hid (HB.out.trans (HGQ.out.below.mono HB.out.size))
          have HQO := Lib.hid (HOW.out.below HGQ.out.below)
          have hun : ((U.length : Int) == 0) = false := by rw [beq_eq_false_iff_ne]; have := HUN.out; omega
          go_wp2_with (first
            | (go_at_call 25
               with_reducible refine (HOF.out wq HWQ.out).mono ?_
               rintro e w5 ⟨⟨v5, rfl, hs⟩, hb⟩
               obtain ⟨a5, c5, b5, o5, hv5, -⟩ := id hs
               subst hv5
               have S5 := Lib.hid hs
               have HO5 := Lib.hid (HQO.out.below hb)
               have HLT := Lib.hid HQO.out.own_lt
               have HB5 := Lib.hid (HWQ.out.trans (hb.mono HWQ.out.size))
               clear hs hb cq)
            | (at_builtin
               refine wpList_append_sl (.tmp 52) (.tmp 53) rfl 38 rfl slPas rfl HO5.out rfl S5.out (fun q hq => ⟨hq.2, fun e => by have := (HLT.out q e.symm).2; have := hq.1; omega⟩) (small_bytes (k := 100) (by have := HUL.out; omega) (by decide)) (by have := HUL.out; unfold maxLen; omega) HB5.out.size ?_
               intro v6 w6 ho6 hg6 hx6
               have HO6 := Lib.hid ho6
               have HB6 := Lib.hid (HB5.out.grown hg6 HB5.out.size (fun q hq => (HO5.out.own_lt q hq).1))
               clear ho6 hg6 hx6))
          go_roundg (O.length - (k + 1))
          case measure => omega
          case rel => exact ⟨k + 1, T ++ U, by omega, by go_num, HNX, HO6.out, HB6.out⟩
      · have hkl : ¬ (k : Int) < (O.length : Int) := by omega
        have HTW := Lib.hid (show T.Perm (l.filter wantP) from by
          have := HT.out
          rw [List.take_of_length_le (by omega), inO_all VO.out] at this
          exact this)
        obtain ⟨wb, hwb⟩ : ∃ wb, wo.heap.size = wb := ⟨_, rfl⟩
        clear hb hown hlt hk
        go_wp2
        go_loopg [7, 8] l.length (fun gx bv i wr => ∃ k : Nat, k + gx = l.length ∧ i = .int .i64 k ∧ OwnSl (tPas eS) 24 wo.heap.size wr bv ((l.take k).filter wantP) ∧ Below wo.heap.size wo wr)
        case atStart => exact ⟨0, by omega, rfl, OwnSl.nil _ _ _ _, Below.refl _ _⟩
        case round =>
          obtain ⟨wi, rfl⟩ : ∃ wi : World, wi = wr := ⟨_, rfl⟩
          obtain ⟨k, hk, rfl, hown, hbi⟩ := hrel
          have HBI := Lib.hid hbi
          have hbw : Below W.heap.size W wi := bl_trans (bl_trans HB3.out HB.out) hbi
          by_cases hlk : k < l.length
          · obtain ⟨rfl, -, A, vx, hat⟩ := HO.out k hlk
            have HTK := Lib.hid (show (l.take (k + 1)).filter wantP = (l.take k).filter wantP ++ (if wantP l[k] = true then [l[k]] else []) from by
              rw [List.take_succ_eq_append_getElem hlk, List.filter_append]
              congr 1
              by_cases h : wantP l[k] = true <;> simp [h])
            have hOl : ((l.take k).filter wantP).length ≤ 40 := Nat.le_trans (List.length_filter_le _ _) (by rw [List.length_take]; omega)
            generalize l[k] = x at hat HTK
            generalize (l.take k).filter wantP = R at hown HTK hOl
            obtain ⟨ld0, t3, t4, hsx⟩ := hat.2.2 wi hbw
            have HW2 := Lib.hid hown
            have HAT := Lib.hid hat
            have HSX := Lib.hid (show SlIs tSrc (· < W.heap.size) wi vx x.src from ((hat.2.2 W (Below.refl _ _)).2.2.2).keep (fun _ h => h) (SameOn.of_below hbw))
            have hs1 : A.size = 8 := by rw [← hat.1]; rfl
            have hz2 : wo.heap.size ≤ wi.heap.size := hbi.size
            have hWo : W.heap.size ≤ wo.heap.size := Nat.le_trans HB3.out.size HB.out.size
            have hb3 : (R.length + 1) * 112 ≤ 140737488355328 := by omega
            have hb4 : R.length + 1 ≤ maxLen := by unfold maxLen; omega
            have k0 : (0 : Int) ≤ (k : Int) := by omega
            have k1 : (k : Int) < (l.length : Int) := by omega
            have HWO := Lib.hid hWo
            have HWZ := Lib.hid hz2
            clear hat hown hbw hsx hbi hWo
            by_cases ht : x.tag = es
            · have f1 : x.tag.toList.isEmpty = true := by rw [emp_iff]; simpa using ht
              by_cases hp : x.plt = es
              · have f2 : x.plt.toList.isEmpty = true := by rw [emp_iff]; simpa using hp
                have HN := Lib.hid (show (l.take (k + 1)).filter wantP = R from by rw [HTK.out]; simp [wantP, ht, hp])
                clear ht hp ld0
                go_wp2
                go_roundg (l.length - (k + 1))
                case measure => omega
                case rel => exact ⟨k + 1, by omega, by go_num, HN.out ▸ HW2.out, HBI.out⟩
              · have f2 : x.plt.toList.isEmpty = false := by rw [emp_iff]; simpa using hp
                have HN := Lib.hid (show (l.take (k + 1)).filter wantP = R ++ [x] from by rw [HTK.out]; simp [wantP, ht, hp])
                clear ht hp
                go_wp2_with (first
                  | (refine wpList_loadA _ rfl 24 rfl Tryd.isAgg24 Tryd.sizeOf24 rfl (by with_reducible assumption) ?_)
                  | (refine wpList_buildA _ rfl 38 rfl Tryd.underlying38 Tryd.sizeOf24 Tryd.zeroValue24 (by decide) (by decide) rfl (by with_reducible assumption) ?_)
                  | (at_builtin
                     refine wpList_append_one (.tmp 75) (.tmp 80) rfl 38 rfl slPas rfl HW2.out rfl (S := (· < W.heap.size)) (y := x) (by rw [← HAT.out.1]; exact tPas_mk HAT.out.2.1 HSX.out) (fun q hq => ⟨Nat.lt_of_lt_of_le hq (Nat.le_trans HWO.out HWZ.out), fun e => Nat.lt_irrefl _ (Nat.lt_of_lt_of_le hq (Nat.le_trans HWO.out (HW2.out.own_lt q e.symm).1))⟩) hb3 hb4 hz2 ?_
                     intro v6 w6 ho6 hg6 hb6
                     have HO6 := Lib.hid ho6
                     have HB6 := Lib.hid (HBI.out.trans hb6)
                     clear ho6 hg6 hb6 ld0))
                go_roundg (l.length - (k + 1))
                case measure => omega
                case rel => exact ⟨k + 1, by omega, by go_num, HN.out ▸ HO6.out, HB6.out⟩
            · have f1 : x.tag.toList.isEmpty = false := by rw [emp_iff]; simpa using ht
              have HN := Lib.hid (show (l.take (k + 1)).filter wantP = R ++ [x] from by rw [HTK.out]; simp [wantP, ht])
              clear ht
              go_wp2_with (first
                | (refine wpList_loadA _ rfl 24 rfl Tryd.isAgg24 Tryd.sizeOf24 rfl (by with_reducible assumption) ?_)
                | (refine wpList_buildA _ rfl 38 rfl Tryd.underlying38 Tryd.sizeOf24 Tryd.zeroValue24 (by decide) (by decide) rfl (by with_reducible assumption) ?_)
                | (at_builtin
                   refine wpList_append_one (.tmp 75) (.tmp 80) rfl 38 rfl slPas rfl HW2.out rfl (S := (· < W.heap.size)) (y := x) (by rw [← HAT.out.1]; exact tPas_mk HAT.out.2.1 HSX.out) (fun q hq => ⟨Nat.lt_of_lt_of_le hq (Nat.le_trans HWO.out HWZ.out), fun e => Nat.lt_irrefl _ (Nat.lt_of_lt_of_le hq (Nat.le_trans HWO.out (HW2.out.own_lt q e.symm).1))⟩) hb3 hb4 hz2 ?_
                   intro v6 w6 ho6 hg6 hb6
                   have HO6 := Lib.hid ho6
                   have HB6 := Lib.hid (HBI.out.trans hb6)
                   clear ho6 hg6 hb6 ld0))
              go_roundg (l.length - (k + 1))
              case measure => omega
              case rel => exact ⟨k + 1, by omega, by go_num, HN.out ▸ HO6.out, HB6.out⟩
          · have hkl2 : ¬ (k : Int) < (l.length : Int) := by omega
            rw [List.take_of_length_le (by omega)] at hown
            have HBW := Lib.hid hbw
            have K1 := Lib.hid ((HOW.out.below HBI.out).sl)
            have K2 := Lib.hid hown.sl
            have hWl : (l.filter wantP).length ≤ 40 := Nat.le_trans (List.length_filter_le _ _) hl40
            have HS2 := Lib.hid (show sortP T = sortP (l.filter wantP) from sortP_congr HTW.out)
            clear hown hbw hbi hlk hk
            go_wp2_with (first
              | (go_at_call 22
                 first
                 | (with_reducible refine (sortR_any (l.filter wantP) _ _ K2'.out (by omega)).mono ?_
                    rintro e w7 ⟨⟨v7, rfl, hs⟩, hb⟩
                    have S7 := Lib.hid hs
                    have S6' := Lib.hid (S6.out.step hb)
                    have HB7 := Lib.hid (bl_trans HB6.out hb)
                    clear hs hb)
                 | (with_reducible refine (sortR_any T _ _ K1.out (by omega)).mono ?_
                    rintro e w6 ⟨⟨v6, rfl, hs⟩, hb⟩
                    rw [HS2.out] at hs
                    have S6 := Lib.hid hs
                    have K2' := Lib.hid (K2.out.step hb)
                    have HB6 := Lib.hid (bl_trans HBW.out hb)
                    clear hs hb))
              | (go_at_call 20
                 with_reducible refine (samEx S6'.out S7.out).mono ?_
                 rintro e w9 ⟨rfl, hb⟩
                 have HB9 := Lib.hid (bl_trans HB7.out hb)
                 clear hb)
              | (go_at_call 12
                 with_reducible refine (awake_any _).mono ?_
                 rintro e wz ⟨rfl, hbz⟩
                 have HBZ := Lib.hid (bl_trans (show Below W.heap.size W _ from by first | exact HB9.out | exact HB2.out | exact HB1.out) hbz)
                 clear hbz))
            go_ret
            exact ⟨rfl, HBZ.out⟩
set_option maxRecDepth 100000 in
theorem once_lift (os : Os) (started : os.Started) (H : Type) (enc : TypeId × Value → H) :
    ReturnsInHanded {} Tryd.checked os 8 .any (fun w args => (Rows.passageOnceSpec.pre enc Tryd.prog Tryd.f8 [] false w args ∧ laidMetH Tryd.prog laidL w) ∧ sizedMet enc Tryd.prog Tryd.f8 (OpenSpec.ofChange Rows.passageOnceSpec) false w args)
      (Rows.passageOnceSpec.post enc Tryd.prog Tryd.f8 false true false false) :=
  law_lift_laid (C := Tryd.checked) (s := Rows.passageOnceSpec) (fn := Tryd.f8) ⟨rfl, fun H ds h => by
    match ds, h with
    | [a], _ => exact ⟨rfl, rfl, rfl⟩⟩ rfl Tryd.underlying4 (by kernel_rfl) laid0 own0 started (by kernel_rfl) Tryd.func8
    (ChangeSpec.witness_shaped (enc := enc) (C := Tryd.checked) (os := os) (X := fun w _ => laidMetH Tryd.prog laidL w) false (World.doorLaid Tryd.prog 24 os) #[.slice none 0 0] 8 rfl (World.shaped_of_RefB (by kernel_rfl) (by kernel_rfl)) (by kernel_rfl) (by kernel_rfl) (by kernel_rfl) (door_met os _)) once_walk
theorem once_row : Rows.PassageOnceSaid :=
  OpenClaim.holds_of_wide 8 Tryd.f8 rfl rfl rfl rfl rfl rfl rfl ⟨rfl, rfl, rfl, rfl, rfl⟩ rfl rfl rfl rfl rfl (by kernel_rfl) Tryd.func8 (by kernel_rfl)
    (of_decide_eq_true (by kernel_rfl)) (by unfold Func.isWrapper; rw [if_neg (of_decide_eq_false (by kernel_rfl))]; exact ⟨rfl, rfl⟩)
    (fun os started H enc _ => once_lift os started H enc)
/-- THE STATEMENT: PassageOnce, as a card. -/
theorem once_holds : Rows.PassageOnceCardSaid :=
  Claim7.holds_tied_plain_at .later [] [.data, .data, .data] true (true, "aecdef402db0857d3deff0902d79660c7a9739e5c0215286cb3695e0890af9f4") false
    once_row (fun _ h => by cases h) (by kernel_rfl) (fun _ h => by cases h) passageOnce_row_tie rfl ⟨rfl, rfl⟩ (by kernel_rfl) rfl
    (fun f fn hf hfn => by
      obtain rfl : f = 8 := Option.some.inj ((show Tryd.prog.funcNamed "tollway/tollwaylaw17.PassageOnce" = some 8 by kernel_rfl).symm.trans hf) |>.symm
      obtain rfl : fn = Tryd.f8 := (Option.some.inj (Tryd.func8.symm.trans hfn)).symm
      exact ⟨by kernel_rfl, fun j t ht => by
        rw [Tryd.params8] at ht
        have hm := Array.mem_of_getElem? ht
        have hall : (Tryd.f8.params.toList.all fun u => !Tryd.prog.wantsStandIn u) = true := by kernel_rfl
        rw [Tryd.params8] at hall
        exact (show Tryd.prog.wantsStandIn t = false by simpa using List.all_eq_true.1 hall t (by simpa using hm))⟩)
    (by kernel_rfl)
end Go.Proofs.YtbjhemglecllmaaDoor
