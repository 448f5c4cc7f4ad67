/-
  Layer 14 (group): the law GroupOrder.
-/
import Derived.Test.YtffpnbipacgidaaGrpOp
import Derived.Test.YtffpnbipacgidaaAggS
import Derived.Test.YtffpnbipacgidaaGrpR2
namespace Go.Proofs.Ytffpnbipacgidaa
open Go.RowKit Go.Tw Go.Tw.Ord Go.Tw.Grp Go.Sort Go.ChangeShapes Go.WideShapes
theorem trodAll_four {H : Type} {enc : TypeId × Value → H} {P : Program} {w : World} {base : Nat} {spare : Nat → Bool} {held : Bool} {t t' t'' t3 : TypeId} {args : Array Value} {ds : List (DataW H)} {ps : List MemPlace} (h : DataW.TrodAll enc P w base spare held [t, t', t'', t3] args.toList ds ps) :
    ∃ v v' v'' v3 d d' d'' d3 p p' p'' p3, args = #[v, v', v'', v3] ∧ ds = [d, d', d'', d3] ∧ ps = p ++ p' ++ p'' ++ p3 ∧ DataW.Trod enc P w base spare held t v d p ∧ DataW.Trod enc P w base spare held t' v' d' p' ∧ DataW.Trod enc P w base spare held t'' v'' d'' p'' ∧ DataW.Trod enc P w base spare held t3 v3 d3 p3 := by
  obtain ⟨v, vs, d, ds', p, q, hargs, rfl, rfl, hd, hrest⟩ := trodAll_cons h
  obtain ⟨v', vs', d', ds'', p', q', rfl, rfl, rfl, hd', hrest'⟩ := trodAll_cons hrest
  obtain ⟨v'', vs'', d'', ds''', p'', q'', rfl, rfl, rfl, hd'', hrest''⟩ := trodAll_cons hrest'
  obtain ⟨v3, vs3, d3, ds4, p3, q3, rfl, rfl, rfl, hd3, hrest3⟩ := trodAll_cons hrest''
  obtain ⟨rfl, rfl, rfl⟩ := trodAll_nil hrest3
  exact ⟨v, v', v'', v3, d, d', d'', d3, p, p', p'', p3, by cases args; simp_all, rfl, by simp, hd, hd', hd'', hd3⟩
theorem arg_u8 {H : Type} {enc : TypeId × Value → H} {P : Program} {w : World} {r : Reach} {b0 : Nat} {t : TypeId} {v : Value} {d : DataW H} {ps : List MemPlace} (ht : P.underlying t = some (.int .u8)) (hval : Value.okWide P w r b0 t v) (hd : DataW.Trod enc P w 0 (fun _ => true) true t v d ps) : ∃ n, v = .int .u8 n ∧ 0 ≤ n ∧ n ≤ 255 := by
  obtain ⟨n, h1, _, _, h2⟩ := open_int ht hval hd
  exact ⟨n, h1, wf_u8 h2⟩
/-- both elements exchanged: the same elements -/
theorem swap_perm {l : List Seen} {a b : Nat} (ha : a < l.length) (hb : b < l.length) : ((l.set a l[b]).set b l[a]).Perm l := by
  rw [List.perm_iff_count]
  intro x
  rw [List.count_set (by simpa using hb), List.count_set ha]
  rw [List.getElem_set]
  have h1 : 0 < l.count l[a] := List.count_pos_iff.2 (List.getElem_mem ha)
  have h2 : 0 < l.count l[b] := List.count_pos_iff.2 (List.getElem_mem hb)
  by_cases e : a = b
  · subst e
    simp only [if_true]
    by_cases q : l[a] = x
    · subst q; simp
    · simp [q]
  · rw [if_neg e]
    by_cases q : l[a] = x <;> by_cases r : l[b] = x
    · subst q; simp [r]
    · subst q; simp [r]
    · subst r; simp [q]
    · simp [q, r]
theorem rem_len {x : Int} {n : Nat} (hx : 0 ≤ x) (hn : 0 < n) : ∃ a : Nat, a < n ∧ Int.tmod x n = a := by
  refine ⟨x.toNat % n, Nat.mod_lt _ hn, ?_⟩
  rw [Int.tmod_eq_emod_of_nonneg hx]
  conv => lhs; rw [← Int.toNat_of_nonneg hx]
  rfl
/-- an element of an own slice, loaded whole -/
theorem own_load {w : World} {e : TypeId} {B gb n cap : Nat} {T : List Seen} (h : OwnSl tSeen e B w (.slice (some ⟨gb, 0, none⟩) n cap) T) (i : Nat) (hi : i < T.length) : Sem.run Try.prog (loadCellsFrom ⟨gb, i * 11, none⟩ 0 11 #[]) w = .ok (sCells T[i]).toArray w ∧ SeenOk T[i] := by
  obtain ⟨ao, cp, b, o, hv, -, -, ho⟩ := seen_row h.sl
  injection hv with e1 e2 e3
  obtain ⟨e4, -, -, hok, hc⟩ := ho w (SameOn.refl _ _) i hi
  rw [e4] at e1
  injection e1 with e1
  injection e1 with e5 e6
  subst e5
  subst e6
  refine ⟨load_seen _ fun j hj => ?_, hok⟩
  have := hc j hj
  rwa [Nat.zero_add] at this
set_option maxRecDepth 100000 in
set_option maxHeartbeats 4000000 in
theorem order_walk : LawWalk Try.prog 6 Try.f6 := by
  intro H enc W base args ds ps hval hA hsz
  rw [Try.params6] at hA hval
  obtain ⟨v0, v1, v2, v3, d0, d1, d2, d3, p0, p1, p2, p3, rfl, rfl, rfl, h0, h1, h2, h3⟩ := trodAll_four hA
  obtain ⟨l, hl⟩ := arg_slice Try.underlying22 (opensSeens (e := 31)) (hval 0 _ _ rfl rfl) h0
  obtain ⟨g, rfl, hg⟩ := arg_int Try.underlying3 (hval 1 _ _ rfl rfl) h1
  obtain ⟨x, rfl, hx1, hx2⟩ := arg_u8 Try.underlying5 (hval 2 _ _ rfl rfl) h2
  obtain ⟨y, rfl, hy1, hy2⟩ := arg_u8 Try.underlying5 (hval 3 _ _ rfl rfl) h3
  clear hA hval h0 h1 h2 h3 hsz
  obtain ⟨ao, cp, b, o, rfl, q1, q2, ho⟩ := seen_row hl
  unfold maxLen at q2
  have HO := Lib.hid ho
  have HLL := Lib.hid hl
  have HG := Lib.hid hg
  clear ho hl hg
  go_enter Try.func6, Try.ntmps6
  by_cases hz : l.length = 0
  · have hz' : ((l.length : Int) == 0) = true := by rw [hz]; rfl
    go_wp2_with (fail)
    go_ret
    exact ⟨rfl, Below.refl _ _⟩
  have hz' : ((l.length : Int) == 0) = false := by rw [beq_eq_false_iff_ne]; omega
  by_cases hmost : (l.length : Int) > 40
  · go_wp2_with (fail)
    go_ret
    exact ⟨rfl, Below.refl _ _⟩
  have HL40 := Lib.hid (show l.length ≤ 40 by omega)
  obtain ⟨R, hR⟩ : ∃ R, framesC g l = R := ⟨_, rfl⟩
  have HFR := Lib.hid (fun (w : World) (h : SlIs tSeen (· < w.heap.size) w (.slice ao l.length cp) l) => Frames_any l g _ w h (by have := HL40.out; omega) HG.out)
  have HFP := Lib.hid (fun (m : List Seen) (hm : m.Perm l) (v : Value) (w : World) (h : SlIs tSeen (· < w.heap.size) w v m) => by
    have := Frames_any m g v w h (by have := hm.length_eq; have := HL40.out; omega) HG.out
    rwa [framesC_congr hm] at this)
  rw [hR] at HFR HFP
  clear hR
  have hwl : IntKind.i64.wrap ((l.length : Int) - 1) = (l.length : Int) - 1 := wrap_in (by omega) (by omega)
  go_wp2_with (go_at_call 11
               refine (HFR.out _ HLL.out).mono ?_
               rintro e w1 ⟨⟨v1, rfl, hn1⟩, hb1⟩
               obtain ⟨a1, c1, rfl, -⟩ := hn1.form
               have HB1 := Lib.hid hb1
               have HN1 := Lib.hid hn1.sl'
               clear hn1 hb1)
  go_loopg [10, 11] l.length (fun gx t n wr => ∃ (k : Nat) (z : Int), k = gx ∧ k ≤ l.length ∧ n = .int .i64 z ∧ z = (k : Int) - 1 ∧ OwnSl tSeen 31 w1.heap.size wr t (l.drop k).reverse ∧ Below w1.heap.size w1 wr)
  case atStart => exact ⟨l.length, _, rfl, Nat.le_refl _, rfl, rfl, by rw [List.drop_length]; exact OwnSl.nil _ _ _ _, Below.refl _ _⟩
  case round =>
    obtain ⟨wo, rfl⟩ : ∃ wo : World, wo = wr := ⟨_, rfl⟩
    obtain ⟨k, z, rfl, hk, rfl, hz2, hown, hb⟩ := hrel
    have HB := Lib.hid hb
    have HOW := Lib.hid hown
    rcases Nat.eq_zero_or_pos k with hk0 | hk0
    · have hneg : decide (z ≥ 0) = false := by rw [decide_eq_false_iff_not]; omega
      subst hk0
      have HTS := Lib.hid (show OwnSl tSeen 31 w1.heap.size wo _ l.reverse from by have := HOW.out; rwa [List.drop_zero] at this)
      obtain ⟨av, cv, hv, hv1, hv2⟩ := HTS.out.form
      rw [List.length_reverse] at hv hv1
      subst hv
      clear hown hb hz2 HOW
      go_wp2_with (first
        | (go_at_call 11
           refine (HFP.out l.reverse (List.reverse_perm l) _ _ HTS.out.sl).mono ?_
           rintro e w2 ⟨⟨v2, rfl, hn2⟩, hb2⟩
           obtain ⟨a2, c2, rfl, -⟩ := hn2.form
           have HB2 := Lib.hid (bl_trans HB.out hb2)
           have HN2 := Lib.hid hn2.sl'
           have HT2 := Lib.hid (HTS.out.below hb2)
           clear hn2 hb2)
        | (go_at_call 10
           refine (sameF_any R R _ _ _ HN2.out (SlIs.step HN1.out HB2.out)).mono ?_
           rintro e w3 ⟨rfl, hg3⟩
           have HB3 := Lib.hid (bl_trans HB2.out hg3.below)
           have HT3 := Lib.hid (HT2.out.below hg3.below)
           have hdt : decide (R = R) = true := by simp
           rw [hdt]
           clear hg3 hdt))
      obtain ⟨a, ha, hae⟩ := rem_len hx1 (Nat.pos_of_ne_zero hz)
      obtain ⟨c, hc, hce⟩ := rem_len hy1 (Nat.pos_of_ne_zero hz)
      have hn0 : ¬ ((l.length : Int) = 0) := by omega
      have hwx : IntKind.i64.wrap x = x := wrap_in (by omega) (by omega)
      have hwy : IntKind.i64.wrap y = y := wrap_in (by omega) (by omega)
      clear HTS HT2 HN2 HB2
      have HAE := Lib.hid hae
      have HCE := Lib.hid hce
      clear hae hce
      go_upto_region 11 with (fail)
      refine QW.regionG (by kernel_rfl) (by kernel_rfl) ?_
      (iterate 12 (refine QW.yes (by kernel_rfl) (fun K hK => ?_)
                   go_simp
                   (with_reducible refine hK _ ?_)
                   clear hK K))
      refine QW.nil ?_
      intro _ hw'
      obtain ⟨⟨nq, osq⟩, hw''⟩ := hw'
      subst hw''
      have HGQ := Lib.hid (show GrB w3 (grow (w3.drewN nq) osq) from ⟨nq, osq, rfl⟩)
      generalize grow (w3.drewN nq) osq = w4 at HGQ ⊢
      rw [HAE.out, HCE.out]
      have HB4 := Lib.hid (bl_trans HB3.out HGQ.out.below)
      obtain ⟨T, hT⟩ : ∃ T, l.reverse = T := ⟨_, rfl⟩
      have hTl : T.length = l.length := by rw [← hT, List.length_reverse]
      have HPT := Lib.hid (show T.Perm l from by rw [← hT]; exact List.reverse_perm l)
      have ho4 := HT3.out.below HGQ.out.below
      rw [hT, ← hTl] at ho4
      rw [← hTl] at ha hc ⊢
      have hTp : 0 < T.length := by omega
      have hTm : T.length ≤ 40 := by have := HL40.out; omega
      clear hT HGQ HT3 hTl
      obtain ⟨gb, cap, cur0, hv, hgB, hgs, -, -, -⟩ := OwnSl.storeA seenFlat ho4 hTp
      injection hv with e1 e2 e3
      subst e1
      subst e3
      clear e2
      have HO4 := Lib.hid ho4
      obtain ⟨A1, hA1⟩ : ∃ A, (sCells T[a]).toArray = A := ⟨_, rfl⟩
      obtain ⟨A2, hA2⟩ : ∃ A, (sCells T[c]).toArray = A := ⟨_, rfl⟩
      have hok1 := (own_load ho4 a ha).2
      have hok2 := (own_load ho4 c hc).2
      have HL1 := Lib.hid (fun w' h => (own_load (w := w') (e := 31) (B := w1.heap.size) (n := T.length) (cap := cv) (gb := gb) h a ha).1)
      have HL2 := Lib.hid (fun w' h => (own_load (w := w') (e := 31) (B := w1.heap.size) (n := T.length) (cap := cv) (gb := gb) h c hc).1)
      rw [hA1] at HL1
      rw [hA2] at HL2
      have HA1 := Lib.hid hA1
      have HA2 := Lib.hid hA2
      have HK1 := Lib.hid hok1
      have HK2 := Lib.hid hok2
      have HSP := Lib.hid ((swap_perm ha hc).trans HPT.out)
      have HOS := Lib.hid (fun w' (h : OwnSl tSeen 31 w1.heap.size w' (.slice (some ⟨gb, 0, none⟩) T.length cv) T) => OwnSl.storeA seenFlat h hTp)
      obtain ⟨x1, hx1⟩ : ∃ x, T[a] = x := ⟨_, rfl⟩
      obtain ⟨x2, hx2⟩ : ∃ x, T[c] = x := ⟨_, rfl⟩
      rw [hx1] at HA1 HK1 HSP
      rw [hx2] at HA2 HK2 HSP
      have ld := HL1.out w4 HO4.out
      have hs : A1.size = 11 := by rw [← hA1]; rfl
      have hs2 : A2.size = 11 := by rw [← hA2]; rfl
      have h1c := oneA hA1
      have h2c := oneA hA2
      have a0 : (0 : Int) ≤ (a : Int) := by omega
      have a1' : (a : Int) < (T.length : Int) := by omega
      have c0 : (0 : Int) ≤ (c : Int) := by omega
      have c1' : (c : Int) < (T.length : Int) := by omega
      clear hA1 hA2 hok1 hok2 ho4 hx1 hx2
      go_wp2_with (first
        | (refine wpList_loadA _ rfl 31 rfl Try.isAgg31 Try.sizeOf31 rfl (by with_reducible assumption) ?_)
        | ((refine wpList_newA 14 rfl (.tmp 59) rfl rfl 31 rfl rfl rfl Try.sizeOf31 Try.zeroValue31 rfl (by with_reducible assumption) (by with_reducible assumption) (by simp [Act.put]) rfl ?_)
           clear ld
           have HX := Lib.hid (heap_alloc_new w4 (.cells A1 31))
           have HO5 := Lib.hid (HO4.out.alloc (.cells A1 31))
           have HB5 := Lib.hid (bl_alloc HB4.out (.cells A1 31))
           have hne : w4.heap.size ≠ gb := by omega
           generalize w4.alloc (.cells A1 31) = w5 at HX HO5 HB5 ⊢
           obtain ⟨bx, hbx⟩ : ∃ b, w4.heap.size = b := ⟨_, rfl⟩
           rw [hbx] at HX hne ⊢
           have ld := HL2.out w5 HO5.out
           obtain ⟨g5, cap5, cur5, hv, -, hgs5, hg5, hcur5, hst5⟩ := HOS.out w5 HO5.out
           injection hv with e1 e2 e3
           injection e1 with e1
           injection e1 with e1 _
           subst e1
           have hcl5 : a * 11 + 11 ≤ cur5.size := by
             have h1 : (a + 1) * 11 ≤ T.length * 11 := Nat.mul_le_mul_right _ ha
             have h2 : T.length * 11 ≤ cur5.size := hcur5
             omega
           have HST5 := Lib.hid (hst5 a A2 x2 (fun _ => True) ha (by rw [← HA2.out]; exact tSeen_mk HK2.out))
           have HG5 := Lib.hid hg5
           clear hst5 hg5 hcur5 hbx e2 e3)
        | (refine wpList_storeA (.tmp 66) (.tmp 65) rfl 31 rfl rfl (A := A2) Try.sizeOf31 hs2 h2c rfl rfl HG5.out hcl5 ?_
           clear ld
           have HB6 := Lib.hid (below_setRow (cs := (cur5.toList.take (a * 11) ++ A2.toList ++ cur5.toList.drop (a * 11 + 11)).toArray) HB5.out HB5.out.size hgB)
           have HO6 := Lib.hid (show OwnSl tSeen 31 w1.heap.size (w5.setRow gb (cur5.toList.take (a * 11) ++ A2.toList ++ cur5.toList.drop (a * 11 + 11)).toArray) (.slice (some ⟨gb, 0, none⟩) T.length cv) (T.set a x2) from HST5.out)
           have HX6 := Lib.hid ((setRow_other w5 gb bx (cur5.toList.take (a * 11) ++ A2.toList ++ cur5.toList.drop (a * 11 + 11)).toArray hne).trans HX.out)
           clear HST5 HG5 hcl5
           generalize w5.setRow gb (cur5.toList.take (a * 11) ++ A2.toList ++ cur5.toList.drop (a * 11 + 11)).toArray = w6 at HB6 HO6 HX6 ⊢
           have ld := (show SBox w6 bx x1 from by unfold SBox; rw [HA1.out]; exact HX6.out).load
           rw [HA1.out] at ld
           obtain ⟨g7, cap7, cur7, hv, -, hgs7, hg7, hcur7, hst7⟩ := OwnSl.storeA seenFlat HO6.out (by rw [List.length_set]; exact hTp)
           injection hv with e1 e2 e3
           injection e1 with e1
           injection e1 with e1 _
           subst e1
           rw [List.length_set] at hcur7 hst7
           have hcl7 : c * 11 + 11 ≤ cur7.size := by
             have h1 : (c + 1) * 11 ≤ T.length * 11 := Nat.mul_le_mul_right _ hc
             have h2 : T.length * 11 ≤ cur7.size := hcur7
             omega
           have HST7 := Lib.hid (hst7 c A1 x1 (fun _ => True) hc (by rw [← HA1.out]; exact tSeen_mk HK1.out))
           have HG7 := Lib.hid hg7
           clear hst7 hg7 hcur7 e2 e3)
        | (refine wpList_storeA (.tmp 70) (.tmp 69) rfl 31 rfl rfl (A := A1) Try.sizeOf31 hs h1c rfl rfl HG7.out hcl7 ?_
           clear ld
           have HB8 := Lib.hid (below_setRow (cs := (cur7.toList.take (c * 11) ++ A1.toList ++ cur7.toList.drop (c * 11 + 11)).toArray) HB6.out HB6.out.size hgB)
           have HO8 := Lib.hid (show OwnSl tSeen 31 w1.heap.size (w6.setRow gb (cur7.toList.take (c * 11) ++ A1.toList ++ cur7.toList.drop (c * 11 + 11)).toArray) (.slice (some ⟨gb, 0, none⟩) T.length cv) ((T.set a x2).set c x1) from HST7.out)
           clear HST7 HG7 hcl7
           generalize w6.setRow gb (cur7.toList.take (c * 11) ++ A1.toList ++ cur7.toList.drop (c * 11 + 11)).toArray = w8 at HB8 HO8 ⊢
           have HN8 := Lib.hid (show SlIs tFrm (· < w8.heap.size) w8 (.slice a1 R.length c1) R from SlIs.step HN1.out HB8.out))
        | (go_at_call 11
           refine (HFP.out _ HSP.out _ _ HO8.out.sl).mono ?_
           rintro e w9 ⟨⟨v9, rfl, hn9⟩, hb9⟩
           obtain ⟨a9, c9, rfl, -⟩ := hn9.form
           have HB9 := Lib.hid (bl_trans HB8.out hb9)
           have HN9 := Lib.hid hn9.sl'
           have HM9 := Lib.hid (SlIs.step HN8.out hb9)
           clear hn9 hb9)
        | (go_at_call 10
           refine (sameF_any R R _ _ _ HN9.out HM9.out).mono ?_
           rintro e w10 ⟨rfl, hg10⟩
           have HB10 := Lib.hid (bl_trans HB9.out hg10.below)
           have hdt : decide (R = R) = true := by simp
           rw [hdt]
           clear hg10 hdt)
        | (go_at_call 13
           refine (alive_any _).mono ?_
           rintro e w11 ⟨rfl, hb11⟩
           have HB11 := Lib.hid (bl_trans HB10.out hb11)
           clear hb11))
      go_ret
      exact ⟨rfl, HB1.out.trans (HB11.out.mono HB1.out.size)⟩
    · obtain ⟨m, rfl⟩ : ∃ m, k = m + 1 := ⟨k - 1, by omega⟩
      obtain rfl : z = (m : Int) := by omega
      have hpos : decide ((m : Int) ≥ 0) = true := by rw [decide_eq_true_eq]; omega
      have hml : m < l.length := by omega
      obtain ⟨rfl, -, hbk, hok, hc⟩ := HO.out wo (.of_below (HB1.out.trans (hb.mono HB1.out.size))) m hml
      have HT := Lib.hid (show (l.drop m).reverse = (l.drop (m + 1)).reverse ++ [l[m]] from by rw [List.drop_eq_getElem_cons hml, List.reverse_cons])
      have hln : (l.drop (m + 1)).reverse.length ≤ 40 := by have := HL40.out; simp; omega
      have HLN := Lib.hid hln
      generalize l[m] = s at hc hok HT
      generalize (l.drop (m + 1)).reverse = T at HOW HT hown HLN
      obtain ⟨av, cv, rfl, hv1, hv2⟩ := hown.form
      have ld := load_seen (x := s) Try.prog hc
      obtain ⟨A, hA⟩ : ∃ A, (sCells s).toArray = A := ⟨_, rfl⟩
      rw [hA] at ld
      have hs : A.size = 11 := by rw [← hA]; rfl
      have h1c := oneA hA
      have HA := Lib.hid hA
      have HOK := Lib.hid hok
      have m0 : (0 : Int) ≤ (m : Int) := by omega
      have m1 : (m : Int) < (l.length : Int) := by omega
      have hsB := hb.size
      clear hA hc hok hown hb hbk hln hz2
      go_wp2_with (first
        | (refine wpList_loadA _ rfl 31 rfl Try.isAgg31 Try.sizeOf31 rfl (by with_reducible assumption) ?_)
        | (refine wpList_buildA _ rfl 22 rfl Try.underlying22 Try.sizeOf31 Try.zeroValue31 (by decide) (by decide) rfl (by with_reducible assumption) ?_)
        | (at_builtin
           refine wpList_append_one (.tmp 33) (.tmp 38) rfl 22 rfl slSeen rfl HOW.out rfl (S := fun _ => False) (y := s) (by rw [← HA.out]; exact tSeen_mk HOK.out) (fun _ h => h.elim) (small_bytes (k := 1001) (by have := HLN.out; omega) (by decide)) (by have := HLN.out; unfold maxLen; omega) hsB ?_
           intro v6 w6 ho6 hg6 hb6
           have HO6 := Lib.hid ho6
           have HB6 := Lib.hid (HB.out.trans hb6)
           clear ho6 hg6 hb6))
      go_roundg m
      case measure => omega
      case rel => exact ⟨m, _, rfl, by omega, rfl, by go_num, by rw [HT.out]; exact HO6.out, HB6.out⟩
set_option maxRecDepth 100000 in
theorem order_lift (os : Os) (started : os.Started) (H : Type) (enc : TypeId × Value → H) :
    ReturnsInHanded {} Try.checked os 6 .any (Rows.groupOrderSpec.pre6 enc Try.prog Try.f6 Rows.groupOrderRow.domain false) (Rows.groupOrderSpec.post enc Try.prog Try.f6 false true false false) :=
  law_lift (C := Try.checked) (s := Rows.groupOrderSpec) (fn := Try.f6) ⟨rfl, fun H ds h => by
    match ds, h with
    | [a, b, c, d], _ => exact ⟨rfl, rfl, rfl⟩⟩ rfl Try.underlying4 (by kernel_rfl) laid0 own0 started (by kernel_rfl) Try.func6
    (ChangeSpec.witness6 (enc := enc) (C := Try.checked) false ⟨#[], #[.slice none 0 0, .int .i64 0, .int .u8 0, .int .u8 0], []⟩ 8 (by kernel_rfl) (by kernel_rfl) (by kernel_rfl) (by kernel_rfl)) order_walk

/-- THE STATEMENT: GroupOrder. -/
theorem order_holds : Rows.GroupOrderSaid :=
  OpenClaim.holds_of_wide 6 Try.f6 rfl rfl rfl rfl rfl rfl rfl ⟨rfl, rfl, rfl, rfl, rfl⟩ rfl rfl rfl rfl rfl (by kernel_rfl) Try.func6 (by kernel_rfl)
    (of_decide_eq_true (by kernel_rfl)) (by unfold Func.isWrapper; rw [if_neg (of_decide_eq_false (by kernel_rfl))]; exact ⟨rfl, rfl⟩)
    (fun os started H enc _ => order_lift os started H enc)
end Go.Proofs.Ytffpnbipacgidaa
