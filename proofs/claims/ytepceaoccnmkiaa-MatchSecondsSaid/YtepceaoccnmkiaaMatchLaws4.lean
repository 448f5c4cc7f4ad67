/-
  Layer 6 (match): the law MatchChoices.
-/
import Derived.Test.YtepceaoccnmkiaaMatchLaws
import Derived.Test.YtepceaoccnmkiaaMatchLawsP
namespace Go.Tw.Match
open Go.RowKit
theorem with_spec {m : Mat} (hok : Ok m) (hc : chk m = 0) {i : Nat} (hi : i < m.row.length) {z : Int} (h1 : -1 ≤ z) (h2 : z < m.col.length) : ((withC m i z).2 = true → mn (costs m (opn m.row.length) m.row.length 0 0) ≤ (withC m i z).1) ∧ (z = (bestL m).getD i 0 → (withC m i z).2 = true ∧ (withC m i z).1 = mn (costs m (opn m.row.length) m.row.length 0 0)) := by
  unfold withC
  rw [if_neg (by omega)]
  have e : fixL m.row.length (i : Int).toNat z = fixL' m.row.length i z := rfl
  rw [e]
  split
  · rename_i hn
    refine ⟨fun h => by simp at h, fun hz => ?_⟩
    have h3 := with_best hok hi
    rw [← hz] at h3
    have := best_ok hok
    omega
  · rename_i hn
    refine ⟨fun _ => with_ge hok (by omega), fun hz => ⟨rfl, ?_⟩⟩
    have h3 := with_best hok hi
    rw [← hz] at h3
    exact h3
end Go.Tw.Match
namespace Go.Proofs.Ytepceaoccnmkiaa
open Go.RowKit Go.Tw Go.Tw.Match Go.ChangeShapes Go.WideShapes
set_option maxRecDepth 100000 in
set_option maxHeartbeats 8000000 in
theorem choices_walk : LawWalk Try.prog 8 Try.f8 := by
  intro H enc W base args ds ps hval hA hsz
  rw [Try.params8] at hA hval
  obtain ⟨v0, d0, rfl, rfl, h0⟩ := trodAll_one hA
  obtain ⟨vc, vr, vl, m, rfl, hm⟩ := arg_mat (hval 0 _ _ rfl rfl) h0
  clear hA hval h0 hsz
  have HM := Lib.hid hm
  obtain ⟨ac, cc, bc, oc, ar, cr, br, or, al, cl, bl, ol, rfl, rfl, rfl, hat⟩ := hm.at
  obtain ⟨cc1, cc2, cr1, cr2, cl1, cl2, -, -, -⟩ := hat
  have HB := Lib.hid (BoxW.start W (.slice ac m.cost.length cc) (.slice ar m.row.length cr) (.slice al m.col.length cl))
  clear hm
  go_enter Try.func8, Try.ntmps8
  go_wp2_with (fail)
  refine (great_any m _ _ _ _ (HM.out.step HB.out.2)).mono ?_
  rintro e w1 ⟨⟨bg, rfl⟩, hb⟩
  have HB' := Lib.hid (HB.out.below hb)
  clear hb HB
  have HB := HB'
  clear HB'
  obtain ⟨x0, x1, x2, -⟩ := blk3 HB.out.1
  cases bg
  case true =>
    go_wp2_with (fail)
    refine (awake_any _).mono ?_
    rintro e wz ⟨rfl, hb⟩
    have HZ := Lib.hid (bl_trans HB.out.2 hb)
    clear hb
    go_wp2_with (fail)
    go_ret
    exact ⟨rfl, HZ.out⟩
  go_wp2_with (fail)
  refine (check_any m _ _ _ _ (HM.out.step HB.out.2)).mono ?_
  rintro e w2 ⟨rfl, hb⟩
  have HB' := Lib.hid (HB.out.below hb)
  clear hb HB
  have HB := HB'
  clear HB'
  clear x0 x1 x2
  obtain ⟨x0, x1, x2, -⟩ := blk3 HB.out.1
  by_cases hc : chk m = 0
  case neg =>
    have hcn : (chk m != 0) = true := by rw [bne_iff_ne]; exact hc
    clear hc
    go_wp2_with (fail)
    refine (awake_any _).mono ?_
    rintro e wz ⟨rfl, hb⟩
    have HZ := Lib.hid (bl_trans HB.out.2 hb)
    clear hb
    go_wp2_with (fail)
    go_ret
    exact ⟨rfl, HZ.out⟩
  have hcn : (chk m != 0) = false := by rw [bne_eq_false_iff_eq]; exact hc
  have hok := chk_ok.1 hc
  have HBC := Lib.hid (show bestC m = (bestL m, mn (costs m (opn m.row.length) m.row.length 0 0), 0) by unfold bestC; rw [if_neg (by simp [hc])])
  have HSC := Lib.hid (show secC m = match secO m with | none => ([], 0, false) | some f => (f.1, f.2, true) by unfold secC; rw [if_neg (by simp [hc])]; cases secO m <;> rfl)
  have HTI := Lib.hid (show tiesC m = (tieN (costs m (opn m.row.length) m.row.length 0 0), 0) by unfold tiesC; rw [if_neg (by simp [hc])]; rfl)
  have HC := Lib.hid hc
  clear hc
  have n8 := hok.n8
  have c8 := hok.c8
  have hlr := mn_hi hok (opn m.row.length) m.row.length 0 0
  go_wp2_with (fail)
  refine (best_any m _ _ _ _ (HM.out.step HB.out.2)).mono ?_
  rintro e w3 ⟨⟨v3, rfl, ho3⟩, hb⟩
  rw [HBC.out] at ho3 ⊢
  have HO3 := Lib.hid ho3
  have HB' := Lib.hid (HB.out.below hb)
  clear hb HB
  have HB := HB'
  clear HB'
  obtain ⟨least, hle⟩ : ∃ x, mn (costs m (opn m.row.length) m.row.length 0 0) = x := ⟨_, rfl⟩
  have HLE := Lib.hid hle
  rw [hle] at hlr ⊢
  clear x0 x1 x2 ho3 hle
  obtain ⟨x0, x1, x2, -⟩ := blk3 HB.out.1
  have hbl := best_len hok
  obtain ⟨ao, co, bo, oo, rfl, co1, co2, hio⟩ := Go.Tw.Match.ints_at HO3.out.sl
  unfold maxLen at co2
  rw [hbl] at co1 ⊢
  have HIO := Lib.hid hio
  have HBL := Lib.hid hbl
  clear hio hbl
  go_wp2
  clear x0 x1 x2
  go_loopg [43] m.row.length (fun g' ix wr => ∃ i : Nat, i + g' = m.row.length ∧ ix = .int .i64 i ∧ BoxW W (.slice ac m.cost.length cc) (.slice ar m.row.length cr) (.slice al m.col.length cl) wr ∧ Below w3.heap.size w3 wr)
  case atStart => exact ⟨0, by omega, rfl, HB.out, Below.refl _ _⟩
  case round =>
    obtain ⟨i, hi, rfl, hbx, hbb⟩ := hrel
    clear HB
    have HB := Lib.hid hbx
    have HBB := Lib.hid hbb
    clear hbx hbb
    obtain ⟨x0, x1, x2, -⟩ := blk3 HB.out.1
    by_cases hlt : i < m.row.length
    case pos =>
      have i0 : (0 : Int) ≤ (i : Int) := by omega
      have i1 : (i : Int) < (m.row.length : Int) := by omega
      obtain ⟨hlb, HLB⟩ : ∃ h : i < (bestL m).length, Hid ((bestL m).getD i 0 = (bestL m)[i]) := ⟨by rw [HBL.out]; exact hlt, Lib.hid (by rw [List.getD_eq_getElem?_getD, List.getElem?_eq_getElem (by rw [HBL.out]; exact hlt)]; rfl)⟩
      obtain ⟨bi, hbi⟩ : ∃ bi, (bestL m)[i] = bi := ⟨_, rfl⟩
      have hbr := ((mem_alls hok).1 (best_spec hok).1).rng _ (List.getElem_mem hlb)
      have HYC := Lib.hid (show ∀ W', Below w3.heap.size w3 W' → ao = some ⟨bo, oo, none⟩ ∧ W'.cell? ⟨bo, oo + i, none⟩ = some (.int .i64 bi) from fun W' hW => by
        obtain ⟨e1, -, e2, -⟩ := HIO.out W' hW i hlb
        rw [hbi] at e2
        exact ⟨e1, e2⟩)
      rw [hbi] at HLB hbr
      clear hbi
      obtain ⟨hb1, hb2⟩ := hbr
      go_wp2
      clear x0 x1 x2
      go_loopg [8, 7] (m.col.length + 1) (fun g' jx rx wi => ∃ (t : Nat) (z : Int), t + g' = m.col.length + 1 ∧ z = (t : Int) - 1 ∧ jx = .int .i64 z ∧ rx = .bool (decide (bi < z)) ∧ BoxW W (.slice ac m.cost.length cc) (.slice ar m.row.length cr) (.slice al m.col.length cl) wi ∧ Below w3.heap.size w3 wi)
      case atStart => exact ⟨0, -1, by omega, rfl, rfl, by congr 1; simp; omega, HB.out, HBB.out⟩
      case round =>
        obtain ⟨t, z, ht, hz, rfl, rfl, hbx, hbb⟩ := hrel
        clear HB HBB
        have HB := Lib.hid hbx
        have HBB := Lib.hid hbb
        clear hbx hbb
        obtain ⟨x0, x1, x2, -⟩ := blk3 HB.out.1
        by_cases htl : t < m.col.length + 1
        case neg =>
          obtain rfl : z = (m.col.length : Int) := by omega
          have hcd : decide ((m.col.length : Int) < (m.col.length : Int)) = false := by simp
          have hrd : decide (bi < (m.col.length : Int)) = true := by simpa using hb2
          clear hz htl ht
          go_wp2
          go_roundg (m.row.length - (i + 1))
          case measure => omega
          case rel => exact ⟨i + 1, by omega, by go_num, HB.out, HBB.out⟩
        have hz1 : -1 ≤ z := by omega
        have hz2 : z < (m.col.length : Int) := by omega
        have HZ := Lib.hid hz
        clear hz
        obtain ⟨w1s, w2s⟩ := with_spec hok HC.out hlt hz1 hz2
        rw [HLE.out] at w1s w2s
        rw [HLB.out] at w2s
        obtain ⟨x, hx⟩ : ∃ x, (withC m i z).1 = x := ⟨_, rfl⟩
        obtain ⟨o, ho⟩ : ∃ o, (withC m i z).2 = o := ⟨_, rfl⟩
        have HWI := Lib.hid (show withC m i z = (x, o) by rw [← hx, ← ho])
        rw [hx, ho] at w2s
        rw [hx, ho] at w1s
        have W1 := Lib.hid w1s
        have W2 := Lib.hid w2s
        clear w1s w2s hx ho
        go_wp2_with (fail)
        refine (with_any m i z _ _ _ _ (HM.out.step HB.out.2) (by unfold i64ok; omega) (by unfold i64ok; omega)).mono ?_
        rintro e w5 ⟨rfl, hb⟩
        rw [HWI.out]
        have HBB5 := Lib.hid (HBB.out.trans (hb.mono HBB.out.size))
        have HB5 := Lib.hid (HB.out.below hb)
        clear hb x0 x1 x2
        obtain ⟨rfl, y0⟩ := HYC.out _ HBB5.out
        rcases Int.lt_trichotomy z bi with q | q | q
        · have hzb : (z == bi) = false := by simp; omega
          have hr1 : decide (bi < z) = false := by simp; omega
          have HR := Lib.hid (show Value.bool false = Value.bool (decide (bi < z + 1)) by congr 1; simp; omega)
          cases o with
          | false =>
            go_wp2
            go_roundg (m.col.length + 1 - (t + 1))
            case measure => omega
            case rel => exact ⟨t + 1, z + 1, by omega, by have := HZ.out; omega, by go_num, HR.out, HB5.out, HBB5.out⟩
          | true =>
            have hxl : ¬ x < least := by have := W1.out rfl; omega
            cases hq : (x == least)
            all_goals
              go_wp2
              go_roundg (m.col.length + 1 - (t + 1))
              case measure => omega
              case rel => exact ⟨t + 1, z + 1, by omega, by have := HZ.out; omega, by go_num, HR.out, HB5.out, HBB5.out⟩
        · have hzb : (z == bi) = true := by simp; omega
          have hr1 : decide (bi < z) = false := by simp; omega
          have HR := Lib.hid (show Value.bool true = Value.bool (decide (bi < z + 1)) by congr 1; simp; omega)
          obtain ⟨ho, hx⟩ := W2.out q
          subst ho
          have hxl : ¬ x < least := by omega
          have hxq : (x == least) = true := by simp; omega
          clear hx q
          go_wp2
          go_roundg (m.col.length + 1 - (t + 1))
          case measure => omega
          case rel => exact ⟨t + 1, z + 1, by omega, by have := HZ.out; omega, by go_num, HR.out, HB5.out, HBB5.out⟩
        · have hzb : (z == bi) = false := by simp; omega
          have hr1 : decide (bi < z) = true := by simp; omega
          have HR := Lib.hid (show Value.bool true = Value.bool (decide (bi < z + 1)) by congr 1; simp; omega)
          cases o with
          | false =>
            go_wp2
            go_roundg (m.col.length + 1 - (t + 1))
            case measure => omega
            case rel => exact ⟨t + 1, z + 1, by omega, by have := HZ.out; omega, by go_num, HR.out, HB5.out, HBB5.out⟩
          | true =>
            have hxl : ¬ x < least := by have := W1.out rfl; omega
            go_wp2
            go_roundg (m.col.length + 1 - (t + 1))
            case measure => omega
            case rel => exact ⟨t + 1, z + 1, by omega, by have := HZ.out; omega, by go_num, HR.out, HB5.out, HBB5.out⟩
    case neg =>
      obtain rfl : i = m.row.length := by omega
      have hid' : decide ((m.row.length : Int) < (m.row.length : Int)) = false := by simp
      clear hlt hi
      go_wp2_with (fail)
      refine (ties_any m _ _ _ _ (HM.out.step HB.out.2)).mono ?_
      rintro e w6 ⟨rfl, hb⟩
      rw [HTI.out]
      have HB' := Lib.hid (HB.out.below hb)
      clear hb HB
      have HB := HB'
      clear HB'
      clear x0 x1 x2
      obtain ⟨x0, x1, x2, -⟩ := blk3 HB.out.1
      go_wp2_with (fail)
      refine (second_any m _ _ _ _ (HM.out.step HB.out.2)).mono ?_
      rintro e w7 ⟨⟨v7, rfl, -⟩, hb⟩
      have HB' := Lib.hid (HB.out.below hb)
      clear hb HB
      have HB := HB'
      clear HB'
      clear x0 x1 x2
      have ht1 := ties_ge hok
      have ht2 := ties_one hok
      rw [HLE.out] at ht2
      obtain ⟨n, hn⟩ : ∃ n, tieN (costs m (opn m.row.length) m.row.length 0 0) = n := ⟨_, rfl⟩
      rw [hn] at ht1 ht2 ⊢
      clear hn
      cases hs : secO m with
      | none =>
        rw [hs] at HSC ht2
        have HSC' := Lib.hid (show secC m = ([], 0, false) from HSC.out)
        rw [HSC'.out]
        have hn1 : n = 1 := ht2.2 trivial
        have hnq : (n == 1) = true := by simpa using hn1
        clear ht2 hs hn1
        go_wp2_with (fail)
        refine (awake_any _).mono ?_
        rintro e wz ⟨rfl, hb⟩
        have HZ := Lib.hid (bl_trans HB.out.2 hb)
        clear hb
        go_wp2_with (fail)
        go_ret
        exact ⟨rfl, HZ.out⟩
      | some f =>
        rw [hs] at HSC ht2
        have HSC' := Lib.hid (show secC m = (f.1, f.2, true) from HSC.out)
        rw [HSC'.out]
        change n = 1 ↔ least < f.2 at ht2
        obtain ⟨more, hmore⟩ : ∃ x, f.2 = x := ⟨_, rfl⟩
        rw [hmore] at ht2 ⊢
        by_cases hlm : least < more
        · have hn1 : n = 1 := ht2.2 hlm
          have hnq : (n == 1) = true := by simpa using hn1
          clear ht2 hs hn1 hmore
          go_wp2_with (fail)
          refine (awake_any _).mono ?_
          rintro e wz ⟨rfl, hb⟩
          have HZ := Lib.hid (bl_trans HB.out.2 hb)
          clear hb
          go_wp2_with (fail)
          go_ret
          exact ⟨rfl, HZ.out⟩
        · have hn1 : ¬ n = 1 := fun e => hlm (ht2.1 e)
          have hnq : (n == 1) = false := by simpa using hn1
          have hld : (!decide (least < more)) = true := by simpa using hlm
          clear ht2 hs hn1 hmore
          go_wp2_with (fail)
          refine (awake_any _).mono ?_
          rintro e wz ⟨rfl, hb⟩
          have HZ := Lib.hid (bl_trans HB.out.2 hb)
          have HLD := Lib.hid hld
          clear hb hld
          go_wp2_with (fail)
          go_ret
          exact ⟨rfl, HZ.out⟩

set_option maxRecDepth 100000 in
theorem choices_lift (os : Os) (started : os.Started) (H : Type) (enc : TypeId × Value → H) :
    ReturnsInHanded {} Try.checked os 8 .any (Rows.matchChoicesSpec.pre6 enc Try.prog Try.f8 Rows.matchChoicesRow.domain false) (Rows.matchChoicesSpec.post enc Try.prog Try.f8 false true false false) :=
  law_lift (C := Try.checked) (s := Rows.matchChoicesSpec) (fn := Try.f8) ⟨rfl, fun H ds h => by
    match ds, h with
    | [a], _ => exact ⟨rfl, rfl, rfl⟩⟩ rfl Try.underlying4 (by kernel_rfl) laid0 own0 started (by kernel_rfl) Try.func8
    (ChangeSpec.witness6 (enc := enc) (C := Try.checked) false ⟨#[], #[.agg #[.slice none 0 0, .slice none 0 0, .slice none 0 0]], []⟩ 8 (by kernel_rfl) (by kernel_rfl) (by kernel_rfl) (by kernel_rfl)) choices_walk

/-- THE STATEMENT: MatchChoices. -/
theorem choices_holds : Rows.MatchChoicesSaid :=
  OpenClaim.holds_of_wide 8 Try.f8 rfl rfl rfl rfl rfl rfl rfl ⟨rfl, rfl, rfl, rfl, rfl⟩ rfl rfl rfl rfl rfl (by kernel_rfl) Try.func8 (by kernel_rfl)
    (of_decide_eq_true (by kernel_rfl)) (by unfold Func.isWrapper; rw [if_neg (of_decide_eq_false (by kernel_rfl))]; exact ⟨rfl, rfl⟩)
    (fun os started H enc _ => choices_lift os started H enc)
end Go.Proofs.Ytepceaoccnmkiaa
