/-
  Layer 10 (plate): the laws PlateDistances, PlateNormalAgain.
-/
import Derived.Test.YthpmclhpagcbiaaPlateLaws
import Derived.Deep.RegionHeld3
import Derived.Deep.DeepCutAuto
namespace Go.Proofs.Ythpmclhpagcbiaa
open Go.RowKit Go.Tw Go.Tw.Plate Go.ChangeShapes Go.WideShapes


set_option maxRecDepth 100000 in
set_option maxHeartbeats 8000000 in
theorem dists_walk : LawWalk Try.prog 4 Try.f4 := by
  intro H enc W base args ds ps hval hA hsz
  rw [Try.params4] at hA hval
  obtain ⟨v0, v1, d0, d1, p0, p1, rfl, rfl, rfl, h0, h1⟩ := trodAll_two hA
  obtain ⟨s, rfl, hs⟩ := arg_str Try.underlying9 (hval 0 _ _ rfl rfl) h0
  obtain ⟨t, rfl, ht⟩ := arg_str Try.underlying9 (hval 1 _ _ rfl rfl) h1
  clear hA hval h0 h1 hsz
  have b0 : Below W.heap.size W W := Below.refl _ _
  by_cases hl : 60 < s.size ∨ 60 < t.size
  · by_cases hs1 : 60 < s.size
    · have hl' : (60 : Int) < (s.size : Int) := by omega
      clear hl
      go_enter Try.func4, Try.ntmps4
      go_wp2_with (fail)
      refine (awake_any _).mono ?_
      rintro e wz ⟨rfl, hb⟩
      replace b0 := bl_trans b0 hb
      clear hb
      go_wp2_with (fail)
      go_ret
      exact ⟨rfl, b0⟩
    · have hl' : ¬ (60 : Int) < (s.size : Int) := by omega
      have hl2 : (60 : Int) < (t.size : Int) := by omega
      clear hl
      go_enter Try.func4, Try.ntmps4
      go_wp2_with (fail)
      refine (awake_any _).mono ?_
      rintro e wz ⟨rfl, hb⟩
      replace b0 := bl_trans b0 hb
      clear hb
      go_wp2_with (fail)
      go_ret
      exact ⟨rfl, b0⟩
  have hl' : ¬ (60 : Int) < (s.size : Int) := by omega
  have hl2 : ¬ (60 : Int) < (t.size : Int) := by omega
  have hs6 : s.size ≤ 1000000 := by omega
  have ht6 : t.size ≤ 1000000 := by omega
  clear hl
  by_cases hz : 0 < s.size
  · have hz' : (0 : Int) < (s.size : Int) := by omega
    by_cases hy : 0 < t.size
    · have hy' : (0 : Int) < (t.size : Int) := by omega
      have b2 : 0 ≤ (s[0].toNat : Int) := by omega
      have b3 : (s[0].toNat : Int) ≤ 255 := by have := s[0].toNat_lt; omega
      have b4 : 0 ≤ (t[0].toNat : Int) := by omega
      have b5 : (t[0].toNat : Int) ≤ 255 := by have := t[0].toNat_lt; omega
      have HB0 := Lib.hid b0
      clear b0
      go_enter Try.func4, Try.ntmps4
      go_upto_if 22 with (fail)
      go_cut [5] (fun v wx => v = .bool true ∧ Below W.heap.size W wx)
      case first =>
        go_wp2_with (fail)
        go_region_held3 (fun _ => True) (exact trivial)
          (first
            | (go_at_call 14; refine (Like_any _ _ _ ⟨b2, b3⟩ ⟨b4, b5⟩).mono ?_; rintro e w1 ⟨rfl, hb1⟩; have HB1 := Lib.hid hb1; clear hb1)
            | (go_at_call 15; refine (LikeR_any _ _ _).mono ?_; rintro e w2 ⟨rfl, hb2⟩; have HB2 := Lib.hid hb2; clear hb2))
        all_goals
          go_wp2
          go_meet
          first
            | exact ⟨rfl, (HB0.out.drew.trans (HB1.out.mono (Nat.le_refl _))).trans (HB2.out.mono HB1.out.size)⟩
            | exact ⟨rfl, (HB0.out.drew.trans (HB2.out.mono (Nat.le_refl _))).trans (HB1.out.mono HB2.out.size)⟩
      case rest =>
        obtain ⟨rfl, b0⟩ := hcut
        go_wp2_with (fail)
        refine (Distance_any s t _ hs6 ht6).mono ?_
        rintro e w3 ⟨rfl, hb⟩
        replace b0 := bl_trans b0 hb
        clear hb
        go_wp2_with (fail)
        refine (DistanceR_any s t _ hs6 ht6).mono ?_
        rintro e w4 ⟨rfl, hb⟩
        replace b0 := bl_trans b0 hb
        clear hb
        go_wp2_with (fail)
        refine (Same_any s t _ hs6 ht6).mono ?_
        rintro e w5 ⟨rfl, hb⟩
        replace b0 := bl_trans b0 hb
        clear hb
        go_wp2_with (fail)
        refine (SameR_any s t _ hs6 ht6).mono ?_
        rintro e w6 ⟨rfl, hb⟩
        replace b0 := bl_trans b0 hb
        clear hb
        go_wp2_with (fail)
        refine (awake_any _).mono ?_
        rintro e wz ⟨rfl, hb⟩
        replace b0 := bl_trans b0 hb
        clear hb
        go_wp2_with (fail)
        go_ret
        exact ⟨rfl, b0⟩
    · have hy' : ¬ (0 : Int) < (t.size : Int) := by omega
      go_enter Try.func4, Try.ntmps4
      go_wp2_with (fail)
      refine (Distance_any s t _ hs6 ht6).mono ?_
      rintro e w3 ⟨rfl, hb⟩
      replace b0 := bl_trans b0 hb
      clear hb
      go_wp2_with (fail)
      refine (DistanceR_any s t _ hs6 ht6).mono ?_
      rintro e w4 ⟨rfl, hb⟩
      replace b0 := bl_trans b0 hb
      clear hb
      go_wp2_with (fail)
      refine (Same_any s t _ hs6 ht6).mono ?_
      rintro e w5 ⟨rfl, hb⟩
      replace b0 := bl_trans b0 hb
      clear hb
      go_wp2_with (fail)
      refine (SameR_any s t _ hs6 ht6).mono ?_
      rintro e w6 ⟨rfl, hb⟩
      replace b0 := bl_trans b0 hb
      clear hb
      go_wp2_with (fail)
      refine (awake_any _).mono ?_
      rintro e wz ⟨rfl, hb⟩
      replace b0 := bl_trans b0 hb
      clear hb
      go_wp2_with (fail)
      go_ret
      exact ⟨rfl, b0⟩
  · have hz' : ¬ (0 : Int) < (s.size : Int) := by omega
    go_enter Try.func4, Try.ntmps4
    go_wp2_with (fail)
    refine (Distance_any s t _ hs6 ht6).mono ?_
    rintro e w3 ⟨rfl, hb⟩
    replace b0 := bl_trans b0 hb
    clear hb
    go_wp2_with (fail)
    refine (DistanceR_any s t _ hs6 ht6).mono ?_
    rintro e w4 ⟨rfl, hb⟩
    replace b0 := bl_trans b0 hb
    clear hb
    go_wp2_with (fail)
    refine (Same_any s t _ hs6 ht6).mono ?_
    rintro e w5 ⟨rfl, hb⟩
    replace b0 := bl_trans b0 hb
    clear hb
    go_wp2_with (fail)
    refine (SameR_any s t _ hs6 ht6).mono ?_
    rintro e w6 ⟨rfl, hb⟩
    replace b0 := bl_trans b0 hb
    clear hb
    go_wp2_with (fail)
    refine (awake_any _).mono ?_
    rintro e wz ⟨rfl, hb⟩
    replace b0 := bl_trans b0 hb
    clear hb
    go_wp2_with (fail)
    go_ret
    exact ⟨rfl, b0⟩

set_option maxRecDepth 100000 in
theorem dists_lift (os : Os) (started : os.Started) (H : Type) (enc : TypeId × Value → H) :
    ReturnsInHanded {} Try.checked os 4 .any (Rows.plateDistancesSpec.pre6 enc Try.prog Try.f4 Rows.plateDistancesRow.domain false) (Rows.plateDistancesSpec.post enc Try.prog Try.f4 false true false false) :=
  law_lift (C := Try.checked) (s := Rows.plateDistancesSpec) (fn := Try.f4) ⟨rfl, fun H ds h => by
    match ds, h with
    | [a, b], _ => exact ⟨rfl, rfl, rfl⟩⟩ rfl Try.underlying4 (by kernel_rfl) laid0 own0 started (by kernel_rfl) Try.func4
    (ChangeSpec.witness6 (enc := enc) (C := Try.checked) false ⟨#[], #[.string ByteArray.empty, .string ByteArray.empty], []⟩ 8 (by kernel_rfl) (by kernel_rfl) (by kernel_rfl) (by kernel_rfl)) dists_walk

/-- THE STATEMENT: PlateDistances. -/
theorem dists_holds : Rows.PlateDistancesSaid :=
  OpenClaim.holds_of_wide 4 Try.f4 rfl rfl rfl rfl rfl rfl rfl ⟨rfl, rfl, rfl, rfl, rfl⟩ rfl rfl rfl rfl rfl (by kernel_rfl) Try.func4 (by kernel_rfl)
    (of_decide_eq_true (by kernel_rfl)) (by unfold Func.isWrapper; rw [if_neg (of_decide_eq_false (by kernel_rfl))]; exact ⟨rfl, rfl⟩)
    (fun os started H enc _ => dists_lift os started H enc)

theorem norm_bytes {l r : List Int} (h : normGo [] l = some r) : (∀ c ∈ r, okc c = true) ∧ 2 ≤ r.length ∧ r.length ≤ 10 := norm_out l [] r (by simp) (by simp) h
theorem okc_byte {c : Int} (h : okc c = true) : isByte c := by
  unfold okc at h
  simp at h
  unfold isByte
  omega
theorem nums_size (l : List Int) (h : ∀ c ∈ l, isByte c) : (strOfNums l).size = l.length := by rw [← codes_len, codes_of l h]
set_option maxRecDepth 100000 in
set_option maxHeartbeats 8000000 in
theorem again_walk : LawWalk Try.prog 9 Try.f9 := by
  intro H enc W base args ds ps hval hA hsz
  rw [Try.params9] at hA hval
  obtain ⟨v0, d0, rfl, rfl, h0⟩ := trodAll_one hA
  obtain ⟨s, rfl, hs⟩ := arg_str Try.underlying9 (hval 0 _ _ rfl rfl) h0
  clear hA hval h0 hsz
  have b0 : Below W.heap.size W W := Below.refl _ _
  by_cases hl : 200 < s.size
  · have hl' : (200 : Int) < (s.size : Int) := by omega
    go_enter Try.func9, Try.ntmps9
    go_wp2_with (fail)
    refine (awake_any _).mono ?_
    rintro e wz ⟨rfl, hb⟩
    replace b0 := bl_trans b0 hb
    clear hb
    go_wp2_with (fail)
    go_ret
    exact ⟨rfl, b0⟩
  have hl' : ¬ (200 : Int) < (s.size : Int) := by omega
  cases hn : normGo [] (codes s) with
  | none =>
    have HN := Lib.hid hn; clear hn
    go_enter Try.func9, Try.ntmps9
    go_wp2_with (fail)
    refine (Normal_any s _ (by omega)).mono ?_
    rintro e w1 ⟨rfl, hb⟩
    replace b0 := bl_trans b0 hb
    clear hb
    rw [HN.out]
    unfold normS
    go_wp2_with (fail)
    refine (awake_any _).mono ?_
    rintro e wz ⟨rfl, hb⟩
    replace b0 := bl_trans b0 hb
    clear hb
    go_wp2_with (fail)
    go_ret
    exact ⟨rfl, b0⟩
  | some l =>
    obtain ⟨ho, hl2, hl10⟩ := norm_bytes hn
    have hby : ∀ c ∈ l, isByte c := fun c hc => okc_byte (ho c hc)
    have HN := Lib.hid hn; clear hn
    have hsz := nums_size l hby
    have HC := Lib.hid (codes_of l hby)
    have HA := Lib.hid (norm_again l [] ho (by simpa using hl10) (by simpa using hl2))
    have HO := Lib.hid (norm_other1 l ho hl10 hl2)
    have hp1 : (2 : Int) ≤ ((strOfNums l).size : Int) := by omega
    have hp2 : ((strOfNums l).size : Int) ≤ 10 := by omega
    have hp3 : (strOfNums l).size ≤ 1000 := by omega
    have HCO := Lib.hid (show codes (otherS (strOfNums l)) = 32 :: otherL l by
      unfold otherS
      rw [HC.out]
      refine codes_of _ (fun c hc => ?_)
      rcases List.mem_cons.1 hc with rfl | hc
      · unfold isByte; omega
      · exact otherL_byte l hby c hc)
    have hosz : (otherS (strOfNums l)).size ≤ 1000 := by
      rw [← codes_len, HCO.out, List.length_cons, otherL_len]; omega
    clear ho hby hsz
    go_enter Try.func9, Try.ntmps9
    go_wp2_with (fail)
    refine (Normal_any s _ (by omega)).mono ?_
    rintro e w1 ⟨rfl, hb⟩
    replace b0 := bl_trans b0 hb
    clear hb
    rw [HN.out]
    simp only [normS]
    generalize hp : strOfNums l = p at *
    have HP := Lib.hid hp; clear hp
    go_wp2_with (fail)
    refine (Normal_any p _ (by omega)).mono ?_
    rintro e w2 ⟨rfl, hb⟩
    replace b0 := bl_trans b0 hb
    clear hb
    rw [HC.out, HA.out, List.nil_append]
    simp only [normS]
    rw [HP.out]
    go_wp2_with (fail)
    refine (other_any p _ hp3).mono ?_
    rintro e w3 ⟨rfl, hb⟩
    replace b0 := bl_trans b0 hb
    clear hb
    go_wp2_with (fail)
    refine (Normal_any (otherS p) _ (by omega)).mono ?_
    rintro e w4 ⟨rfl, hb⟩
    replace b0 := bl_trans b0 hb
    clear hb
    rw [HCO.out, HO.out]
    simp only [normS]
    rw [HP.out]
    go_wp2_with (fail)
    refine (awake_any _).mono ?_
    rintro e wz ⟨rfl, hb⟩
    replace b0 := bl_trans b0 hb
    clear hb
    go_wp2_with (fail)
    go_ret
    exact ⟨rfl, b0⟩

set_option maxRecDepth 100000 in
theorem again_lift (os : Os) (started : os.Started) (H : Type) (enc : TypeId × Value → H) :
    ReturnsInHanded {} Try.checked os 9 .any (Rows.plateNormalAgainSpec.pre6 enc Try.prog Try.f9 Rows.plateNormalAgainRow.domain false) (Rows.plateNormalAgainSpec.post enc Try.prog Try.f9 false true false false) :=
  law_lift (C := Try.checked) (s := Rows.plateNormalAgainSpec) (fn := Try.f9) ⟨rfl, fun H ds h => by
    match ds, h with
    | [a], _ => exact ⟨rfl, rfl, rfl⟩⟩ rfl Try.underlying4 (by kernel_rfl) laid0 own0 started (by kernel_rfl) Try.func9
    (ChangeSpec.witness6 (enc := enc) (C := Try.checked) false ⟨#[], #[.string ByteArray.empty], []⟩ 8 (by kernel_rfl) (by kernel_rfl) (by kernel_rfl) (by kernel_rfl)) again_walk

/-- THE STATEMENT: PlateNormalAgain. -/
theorem again_holds : Rows.PlateNormalAgainSaid :=
  OpenClaim.holds_of_wide 9 Try.f9 rfl rfl rfl rfl rfl rfl rfl ⟨rfl, rfl, rfl, rfl, rfl⟩ rfl rfl rfl rfl rfl (by kernel_rfl) Try.func9 (by kernel_rfl)
    (of_decide_eq_true (by kernel_rfl)) (by unfold Func.isWrapper; rw [if_neg (of_decide_eq_false (by kernel_rfl))]; exact ⟨rfl, rfl⟩)
    (fun os started H enc _ => again_lift os started H enc)
end Go.Proofs.Ythpmclhpagcbiaa
