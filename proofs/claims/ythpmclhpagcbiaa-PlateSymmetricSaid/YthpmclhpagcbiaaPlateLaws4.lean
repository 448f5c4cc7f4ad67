/-
  Layer 10 (plate): the law PlateSymmetric.
-/
import Derived.Test.YthpmclhpagcbiaaPlateLaws
namespace Go.Proofs.Ythpmclhpagcbiaa
open Go.RowKit Go.Tw Go.Tw.Plate Go.ChangeShapes Go.WideShapes


theorem cut_zero (s t : ByteArray) : distS s t = 0 ↔ s.extract 0 (min s.size 32) = t.extract 0 (min t.size 32) := by
  unfold distS
  rw [dist_zero, ← codes_first, ← codes_first]
  exact ⟨codes_inj, fun h => by rw [h]⟩
theorem cut_size (s : ByteArray) : (s.extract 0 (min s.size 32)).size = (cutS s).length := by rw [← codes_first, codes_len]
set_option maxRecDepth 100000 in
set_option maxHeartbeats 8000000 in
theorem symm_walk : LawWalk Try.prog 8 Try.f8 := by
  intro H enc W base args ds ps hval hA hsz
  rw [Try.params8] at hA hval
  obtain ⟨v0, v1, d0, d1, p0, p1, rfl, rfl, rfl, h0, h1⟩ := trodAll_two hA
  obtain ⟨s, rfl, hs⟩ := arg_str Try.underlying9 (hval 0 _ _ rfl rfl) h0
  obtain ⟨t, rfl, ht⟩ := arg_str Try.underlying9 (hval 1 _ _ rfl rfl) h1
  clear hA hval h0 h1 hsz
  have b0 : Below W.heap.size W W := Below.refl _ _
  by_cases hl : 60 < s.size ∨ 60 < t.size
  · by_cases hs1 : 60 < s.size
    · have hl' : (60 : Int) < (s.size : Int) := by omega
      clear hl
      go_enter Try.func8, Try.ntmps8
      go_wp2_with (fail)
      refine (awake_any _).mono ?_
      rintro e wz ⟨rfl, hb⟩
      replace b0 := bl_trans b0 hb
      clear hb
      go_wp2_with (fail)
      go_ret
      exact ⟨rfl, b0⟩
    · have hl' : ¬ (60 : Int) < (s.size : Int) := by omega
      have hl2 : (60 : Int) < (t.size : Int) := by omega
      clear hl
      go_enter Try.func8, Try.ntmps8
      go_wp2_with (fail)
      refine (awake_any _).mono ?_
      rintro e wz ⟨rfl, hb⟩
      replace b0 := bl_trans b0 hb
      clear hb
      go_wp2_with (fail)
      go_ret
      exact ⟨rfl, b0⟩
  have hl' : ¬ (60 : Int) < (s.size : Int) := by omega
  have hl2 : ¬ (60 : Int) < (t.size : Int) := by omega
  have hs6 : s.size ≤ 1000000 := by omega
  have ht6 : t.size ≤ 1000000 := by omega
  clear hl
  have HC := Lib.hid (distS_comm t s)
  have hr := distS_range s t
  have hg := dist_gap (cutS s) (cutS t)
  change 3 * (((cutS s).length : Int) - (cutS t).length) ≤ distS s t ∧ 3 * (((cutS t).length : Int) - (cutS s).length) ≤ distS s t at hg
  rw [← cut_size, ← cut_size] at hg
  have h1 := first_size s
  have h2 := first_size t
  have hz : (distS s t == 0) = ((s.extract 0 (min s.size 32)).toList == (t.extract 0 (min t.size 32)).toList) := by
    rw [str_eq, Bool.eq_iff_iff]
    simp only [beq_iff_eq, decide_eq_true_eq]
    exact cut_zero s t
  have HA := Lib.hid (cutL_any s)
  have HBB := Lib.hid (cutL_any t)
  generalize s.extract 0 (min s.size 32) = a at *
  generalize t.extract 0 (min t.size 32) = b at *
  obtain ⟨z, hz1⟩ : ∃ z, (distS s t == 0) = z := ⟨_, rfl⟩
  have hz2 : (a.toList == b.toList) = z := by rw [← hz]; exact hz1
  clear hz
  have hgap : ((a.size : Int) - b.size < 0) ∨ ¬ ((a.size : Int) - b.size < 0) := by omega
  rcases hgap with hgap | hgap
  all_goals
    go_enter Try.func8, Try.ntmps8
    go_wp2_with (fail)
    refine (Distance_any s t _ hs6 ht6).mono ?_
    rintro e w3 ⟨rfl, hb⟩
    replace b0 := bl_trans b0 hb
    clear hb
    go_wp2_with (first
      | (go_at_call 26; refine (HA.out _).mono ?_; rintro e w' ⟨rfl, rfl⟩)
      | (go_at_call 26; refine (HBB.out _).mono ?_; rintro e w' ⟨rfl, rfl⟩))
    refine (Distance_any t s _ ht6 hs6).mono ?_
    rintro e w4 ⟨rfl, hb⟩
    replace b0 := bl_trans b0 hb
    clear hb
    rw [HC.out]
    go_wp2_with (first
      | (go_at_call 26; refine (HA.out _).mono ?_; rintro e w' ⟨rfl, rfl⟩)
      | (go_at_call 26; refine (HBB.out _).mono ?_; rintro e w' ⟨rfl, rfl⟩))
    refine (Same_any s t _ hs6 ht6).mono ?_
    rintro e w5 ⟨rfl, hb⟩
    replace b0 := bl_trans b0 hb
    clear hb
    go_wp2_with (fail)
    refine (awake_any _).mono ?_
    rintro e wz ⟨rfl, hb⟩
    replace b0 := bl_trans b0 hb
    clear hb
    go_wp2_with (fail)
    go_ret
    exact ⟨rfl, b0⟩

set_option maxRecDepth 100000 in
theorem symm_lift (os : Os) (started : os.Started) (H : Type) (enc : TypeId × Value → H) :
    ReturnsInHanded {} Try.checked os 8 .any (Rows.plateSymmetricSpec.pre6 enc Try.prog Try.f8 Rows.plateSymmetricRow.domain false) (Rows.plateSymmetricSpec.post enc Try.prog Try.f8 false true false false) :=
  law_lift (C := Try.checked) (s := Rows.plateSymmetricSpec) (fn := Try.f8) ⟨rfl, fun H ds h => by
    match ds, h with
    | [a, b], _ => exact ⟨rfl, rfl, rfl⟩⟩ rfl Try.underlying4 (by kernel_rfl) laid0 own0 started (by kernel_rfl) Try.func8
    (ChangeSpec.witness6 (enc := enc) (C := Try.checked) false ⟨#[], #[.string ByteArray.empty, .string ByteArray.empty], []⟩ 8 (by kernel_rfl) (by kernel_rfl) (by kernel_rfl) (by kernel_rfl)) symm_walk

/-- THE STATEMENT: PlateSymmetric. -/
theorem symm_holds : Rows.PlateSymmetricSaid :=
  OpenClaim.holds_of_wide 8 Try.f8 rfl rfl rfl rfl rfl rfl rfl ⟨rfl, rfl, rfl, rfl, rfl⟩ rfl rfl rfl rfl rfl (by kernel_rfl) Try.func8 (by kernel_rfl)
    (of_decide_eq_true (by kernel_rfl)) (by unfold Func.isWrapper; rw [if_neg (of_decide_eq_false (by kernel_rfl))]; exact ⟨rfl, rfl⟩)
    (fun os started H enc _ => symm_lift os started H enc)

end Go.Proofs.Ythpmclhpagcbiaa
