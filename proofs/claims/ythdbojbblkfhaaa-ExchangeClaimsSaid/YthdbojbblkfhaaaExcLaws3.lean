/-
  Layer 43 (exchange): the law ExchangeClaims.
-/
import Derived.Test.YthdbojbblkfhaaaExcLaws2
import Derived.Test.YthdbojbblkfhaaaExcClmR
import Derived.Test.YthdbojbblkfhaaaCap1
namespace Go.Proofs.Ythdbojbblkfhaaa
open Go.RowKit Go.Tw Go.Tw.Exc Go.ChangeShapes Go.WideShapes
def InM (r : Rec) : Prop := -1125899906842624 ≤ r.c ∧ r.c ≤ 1125899906842624
set_option maxRecDepth 100000 in
set_option maxHeartbeats 8000000 in
theorem claims_walk : LawWalk Try.prog 6 Try.f6 := by
  intro H enc W base args ds ps hval hA hsz
  rw [Try.params6] at hA hval
  obtain ⟨v0, d0, rfl, rfl, h0⟩ := trodAll_one hA
  obtain ⟨p, vw, vo, vt, rfl, hp⟩ := arg_par (hval 0 _ _ rfl rfl) h0
  clear hA hval h0 hsz
  obtain ⟨aw, cw, _, _, rfl, -⟩ := id hp.wt
  obtain ⟨ao, co, _, _, rfl, ho1, ho2, -⟩ := id hp.ours
  obtain ⟨at', ct, _, _, rfl, ht1, ht2, -⟩ := id hp.thr
  unfold maxLen at ho2 ht2
  have HP := Lib.hid hp
  clear hp
  go_enter Try.func6, Try.ntmps6
  by_cases q1 : 200 < p.ours.length
  · have hq : (200 : Int) < (p.ours.length : Int) := by omega
    go_wp2_with (fail)
    refine (awake_any _).mono ?_
    rintro e wz ⟨rfl, hbz⟩
    have HZ := Lib.hid (bl_trans (bl_alloc (Below.refl W.heap.size W) _) hbz)
    clear hbz
    go_wp2_with (fail)
    go_ret
    exact ⟨rfl, HZ.out⟩
  have hq1 : ¬ (200 : Int) < (p.ours.length : Int) := by omega
  by_cases q2 : 200 < p.thr.length
  · have hq : (200 : Int) < (p.thr.length : Int) := by omega
    go_wp2_with (fail)
    refine (awake_any _).mono ?_
    rintro e wz ⟨rfl, hbz⟩
    have HZ := Lib.hid (bl_trans (bl_alloc (Below.refl W.heap.size W) _) hbz)
    clear hbz
    go_wp2_with (fail)
    go_ret
    exact ⟨rfl, HZ.out⟩
  have hq2 : ¬ (200 : Int) < (p.thr.length : Int) := by omega
  go_upto_region 3 with (fail)
  have n0 := heap_alloc_new W (.cells #[.string p.nm, .int .i64 p.out, .int .i64 p.inn, .slice aw p.wt.length cw, .slice ao p.ours.length co, .slice at' p.thr.length ct] 25)
  obtain ⟨wa, hwa⟩ : ∃ wa, W.alloc (.cells #[.string p.nm, .int .i64 p.out, .int .i64 p.inn, .slice aw p.wt.length cw, .slice ao p.ours.length co, .slice at' p.thr.length ct] 25) = wa := ⟨_, rfl⟩
  have HW := Lib.hid (show Below W.heap.size W wa by rw [← hwa]; exact bl_alloc (Below.refl _ _) _)
  rw [hwa] at n0 ⊢
  clear hwa
  have HBX := Lib.hid (box6 n0)
  have HKE := Lib.hid (show ∀ w', Below wa.heap.size wa w' → w'.cell? ⟨W.heap.size, 4, none⟩ = some (.slice ao p.ours.length co) ∧ w'.cell? ⟨W.heap.size, 5, none⟩ = some (.slice at' p.thr.length ct) from fun w' hb => ⟨(box6 n0 w' hb).2.2.2.2.1, (box6 n0 w' hb).2.2.2.2.2⟩)
  have HOU := Lib.hid (show ∀ w', Below wa.heap.size wa w' → SlIs tRec (· < W.heap.size) w' (.slice ao p.ours.length co) p.ours from fun w' hb => HP.out.ours.keep (fun _ h => h) (.of_below (bl_trans HW.out hb)))
  have HTH := Lib.hid (show ∀ w', Below wa.heap.size wa w' → SlIs tRec (· < W.heap.size) w' (.slice at' p.thr.length ct) p.thr from fun w' hb => HP.out.thr.keep (fun _ h => h) (.of_below (bl_trans HW.out hb)))
  have HZ := Lib.hid HW.out.size
  obtain ⟨x4, x5⟩ := HKE.out wa (Below.refl _ _)
  clear n0
  go_region_held3 (fun w' => w'.cell? ⟨W.heap.size, 4, none⟩ = some (.slice ao p.ours.length co) ∧ w'.cell? ⟨W.heap.size, 5, none⟩ = some (.slice at' p.thr.length ct)) (first | exact HKE.out _ (by (repeat (first | (with_reducible exact Below.refl _ _) | (with_reducible exact HB3.out) | (with_reducible exact HB4.out) | (with_reducible apply bl_drewN) | (with_reducible apply bl_alloc) | (with_reducible apply Below.drew))); done) | go_keep)
    (first
      | (refine step_append_own0 (.tmp 20) (.tmp 22) rfl 23 rfl (B := wa.heap.size) (e := 51) (l := []) slRec rfl (.inl ⟨_, rfl, rfl⟩) rfl (HOU.out _ (by (repeat (first | (with_reducible exact Below.refl _ _) | (with_reducible exact HB3.out) | (with_reducible exact HB4.out) | (with_reducible apply bl_drewN) | (with_reducible apply bl_alloc) | (with_reducible apply Below.drew))); done)) (fun k hk => Nat.lt_of_lt_of_le hk HZ.out) (by simp) (by rw [List.length_nil]; omega) (by rw [List.length_nil]; unfold maxLen; omega) ?_
         rw [List.length_nil, Nat.zero_add, List.nil_append]
         intro a3 c3 w3 ho3 hb3
         have HO3 := Lib.hid ho3
         have HB3 := Lib.hid ((show Below wa.heap.size wa _ from (by (repeat (first | (with_reducible exact Below.refl _ _) | (with_reducible exact HB3.out) | (with_reducible exact HB4.out) | (with_reducible apply bl_drewN) | (with_reducible apply bl_alloc) | (with_reducible apply Below.drew))); done)).trans hb3)
         have hz3 := HB3.out.size
         clear ho3 hb3)
      | (refine step_append_own0 (.tmp 23) (.tmp 25) rfl 23 rfl (B := wa.heap.size) slRec rfl HO3.out rfl (HTH.out _ HB3.out) (fun k hk => Nat.lt_of_lt_of_le hk HZ.out) hz3 (by omega) (by unfold maxLen; omega) ?_
         intro a4 c4 w4 ho4 hb4
         have HO4 := Lib.hid ho4
         have HB4 := Lib.hid (HB3.out.trans hb4)
         have hz4 := HB4.out.size
         clear ho4 hb4))
  obtain ⟨L, hL⟩ : ∃ L, p.ours ++ p.thr = L := ⟨_, rfl⟩
  have hLl : p.ours.length + p.thr.length = L.length := by rw [← hL, List.length_append]
  have HLL := Lib.hid hL
  rw [hL, hLl] at HO4
  rw [hLl]
  have hLc : (p.ours.length : Int) + (p.thr.length : Int) = (L.length : Int) := by omega
  obtain ⟨aL, cL, bL, oL, e4, k1, k2, HOL⟩ := rec_open (HO4.out.fresh flatRec)
  simp only [Value.slice.injEq, true_and] at e4
  obtain ⟨rfl, rfl⟩ := e4
  unfold maxLen at k2
  have HO := Lib.hid HOL
  clear HOL HKE HOU HTH x4 x5 hL hLl HO3 HB3 hz3
  rw [hLc]
  clear hLc
  go_wp2_with (fail)
  go_loopg [28] L.length (fun g i wr => ∃ (k : Nat), k + g = L.length ∧ i = .int .i64 k ∧ Hid (∀ j (_ : j < k) (h : j < L.length), InM L[j]) ∧ Below w4.heap.size w4 wr)
  case atStart => exact ⟨0, by omega, rfl, Lib.hid (fun j h => absurd h (Nat.not_lt_zero _)), Below.refl _ _⟩
  case round =>
    obtain ⟨k, hk, rfl, HIN, hb⟩ := hrel
    have HB := Lib.hid hb
    have HBW := Lib.hid (show Below W.heap.size W wr from bl_trans (bl_trans HW.out HB4.out) hb)
    by_cases hlt : k < L.length
    · obtain ⟨rfl, -, hbs, hok, d0, d1, d2, d3, d4⟩ := HO.out wr (fun q hq => hb.block q hq.2) k hlt
      have HXX := Lib.hid (show InM L[k] → ∀ j (_ : j < k + 1) (h : j < L.length), InM L[j] from fun hx j h1 h2 => by
        by_cases e : j = k
        · subst e; exact hx
        · exact HIN.out j (by omega) h2)
      obtain ⟨x, hx⟩ : ∃ x, L[k] = x := ⟨_, rfl⟩
      rw [hx] at d0 d1 d2 d3 d4 HXX
      have k0 : (0 : Int) ≤ (k : Int) := by omega
      have k1' : (k : Int) < (L.length : Int) := by omega
      clear hx hok hb
      by_cases h1 : x.c < -1125899906842624
      · go_wp2_with (fail)
        refine (awake_any _).mono ?_
        rintro e wz ⟨rfl, hbz⟩
        have HZZ := Lib.hid (bl_trans (bl_alloc HBW.out _) hbz)
        clear hbz
        go_wp2_with (fail)
        go_ret
        exact ⟨rfl, HZZ.out⟩
      by_cases h2 : 1125899906842624 < x.c
      · go_wp2_with (fail)
        refine (awake_any _).mono ?_
        rintro e wz ⟨rfl, hbz⟩
        have HZZ := Lib.hid (bl_trans (bl_alloc HBW.out _) hbz)
        clear hbz
        go_wp2_with (fail)
        go_ret
        exact ⟨rfl, HZZ.out⟩
      have HN := Lib.hid (HXX.out ⟨by omega, by omega⟩)
      go_wp2_with (fail)
      go_roundg (L.length - (k + 1))
      case measure => omega
      case rel => exact ⟨k + 1, by omega, by go_num, HN, bl_alloc HB.out _⟩
    · obtain rfl : k = L.length := by omega
      have hkd : decide ((L.length : Int) < (L.length : Int)) = false := by simp
      have HC1 := Lib.hid (show ∀ r ∈ p.ours, -1125899906842624 ≤ r.c ∧ r.c ≤ 1125899906842624 from fun r hr => by
        have hm : r ∈ L := by rw [← HLL.out]; exact List.mem_append_left _ hr
        obtain ⟨j, hj, rfl⟩ := List.getElem_of_mem hm
        exact HIN.out j hj hj)
      have HC2 := Lib.hid (show ∀ r ∈ p.thr, -1125899906842624 ≤ r.c ∧ r.c ≤ 1125899906842624 from fun r hr => by
        have hm : r ∈ L := by rw [← HLL.out]; exact List.mem_append_right _ hr
        obtain ⟨j, hj, rfl⟩ := List.getElem_of_mem hm
        exact HIN.out j hj hj)
      have HBA := Lib.hid (show Below wa.heap.size wa wr from HB4.out.trans (hb.mono HB4.out.size))
      obtain ⟨y0, y1, y2, y3, y4, y5⟩ := HBX.out wr HBA.out
      clear hlt hb hk
      go_wp2_with (fail)
      refine (claims_any p _ _ _ _ (HP.out.step HBW.out) (by omega) (by omega) HC1.out HC2.out).mono ?_
      rintro e w5 ⟨rfl, hb5⟩
      have HB5 := Lib.hid (HBA.out.trans (hb5.mono HBA.out.size))
      have HBW5 := Lib.hid (bl_trans HBW.out hb5)
      clear hb5 y0 y1 y2 y3 y4 y5
      obtain ⟨y0, y1, y2, y3, y4, y5⟩ := HBX.out w5 HB5.out
      obtain ⟨c1, hc1⟩ : ∃ c, claimC p.ours = c := ⟨_, rfl⟩
      obtain ⟨c2, hc2⟩ : ∃ c, claimC p.thr = c := ⟨_, rfl⟩
      have HCC := Lib.hid (show claimC p.ours = c1 ∧ claimC p.thr = c2 from ⟨hc1, hc2⟩)
      rw [hc1, hc2]
      clear hc1 hc2
      go_wp2_with (fail)
      refine (claimsR_any p _ _ _ _ (HP.out.step HBW5.out) (by omega) (by omega) HC1.out HC2.out).mono ?_
      rintro e w6 ⟨rfl, hb6⟩
      rw [HCC.out.1, HCC.out.2]
      have HBW6 := Lib.hid (bl_trans HBW5.out hb6)
      clear hb6 y0 y1 y2 y3 y4 y5
      have e1 : (c1 == c1) = true := by simp
      have e2 : (c2 == c2) = true := by simp
      go_wp2_with (fail)
      refine (awake_any _).mono ?_
      rintro e wz ⟨rfl, hbz⟩
      have HZZ := Lib.hid (bl_trans HBW6.out hbz)
      clear hbz
      go_wp2_with (fail)
      go_ret
      exact ⟨rfl, HZZ.out⟩
set_option maxRecDepth 100000 in
theorem claims_lift (os : Os) (started : os.Started) (H : Type) (enc : TypeId × Value → H) :
    ReturnsInHanded {} Try.checked os 6 .any (Rows.exchangeClaimsSpec.pre6 enc Try.prog Try.f6 Rows.exchangeClaimsRow.domain false) (Rows.exchangeClaimsSpec.post enc Try.prog Try.f6 false true false false) :=
  law_lift (C := Try.checked) (s := Rows.exchangeClaimsSpec) (fn := Try.f6) ⟨rfl, fun H ds h => by
    match ds, h with
    | [a], _ => exact ⟨rfl, rfl, rfl⟩⟩ rfl Try.underlying4 (by kernel_rfl) laid0 own0 started (by kernel_rfl) Try.func6
    (ChangeSpec.witness6 (enc := enc) (C := Try.checked) false ⟨#[], #[.agg #[.string ByteArray.empty, .int .i64 0, .int .i64 0, .slice none 0 0, .slice none 0 0, .slice none 0 0]], []⟩ 8 (by kernel_rfl) (by kernel_rfl) (by kernel_rfl) (by kernel_rfl)) claims_walk

/-- THE STATEMENT: ExchangeClaims. -/
theorem claims_holds : Rows.ExchangeClaimsSaid :=
  OpenClaim.holds_of_wide 6 Try.f6 rfl rfl rfl rfl rfl rfl rfl ⟨rfl, rfl, rfl, rfl, rfl⟩ rfl rfl rfl rfl rfl (by kernel_rfl) Try.func6 (by kernel_rfl)
    (of_decide_eq_true (by kernel_rfl)) (by unfold Func.isWrapper; rw [if_neg (of_decide_eq_false (by kernel_rfl))]; exact ⟨rfl, rfl⟩)
    (fun os started H enc _ => claims_lift os started H enc)
end Go.Proofs.Ythdbojbblkfhaaa
