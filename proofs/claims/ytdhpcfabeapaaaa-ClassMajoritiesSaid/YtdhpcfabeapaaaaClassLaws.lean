/-
  Layer 12 (class): the examples (awake).
-/
import Derived.Test.YtdhpcfabeapaaaaClassWalk2
import Derived.Test.YtdhpcfabeapaaaaClassWalk3
import Derived.Test.YtdhpcfabeapaaaaRows
namespace Go.Proofs.Ytdhpcfabeapaaaa
open Go.RowKit Go.Tw Go.Tw.Class Go.ChangeShapes Go.WideShapes

def L1 : List Rule := [⟨1, 2, 1⟩, ⟨3, 3, 2⟩, ⟨5, 20, 4⟩]
def L2 : List Rule := [⟨1, 2, 1⟩, ⟨3, 4, 1⟩]
def L3 : List Int := [2, 3, 3, 2, 0]
def A1 : Array Value := #[.int .i64 1, .int .i64 2, .int .i64 1, .int .i64 3, .int .i64 3, .int .i64 2, .int .i64 5, .int .i64 20, .int .i64 4]
def A2 : Array Value := #[.int .i64 1, .int .i64 2, .int .i64 1, .int .i64 3, .int .i64 4, .int .i64 1]
def A3 : Array Value := #[.int .i64 2, .int .i64 3, .int .i64 3, .int .i64 2, .int .i64 0]
theorem ok_small {n : Int} (h : 0 ≤ n ∧ n ≤ 20) : i64ok n := by unfold i64ok; omega
theorem sl1 (w : World) : SlIs tRule (· < (w.alloc (.cells A1 44)).heap.size) (w.alloc (.cells A1 44)) (.slice (some ⟨w.heap.size, 0, none⟩) 3 3) L1 :=
  SlIs.of_block (css := [[.int .i64 1, .int .i64 2, .int .i64 1], [.int .i64 3, .int .i64 3, .int .i64 2], [.int .i64 5, .int .i64 20, .int .i64 4]]) (l := L1) (heap_alloc_new _ _) ⟨[], rfl⟩
    ⟨tRule_mk (r := ⟨1, 2, 1⟩) (ok_small (by decide)) (ok_small (by decide)) (ok_small (by decide)), tRule_mk (r := ⟨3, 3, 2⟩) (ok_small (by decide)) (ok_small (by decide)) (ok_small (by decide)), tRule_mk (r := ⟨5, 20, 4⟩) (ok_small (by decide)) (ok_small (by decide)) (ok_small (by decide)), trivial⟩
    (by simp) (by decide) (by decide)
theorem sl2 (w : World) : SlIs tRule (· < (w.alloc (.cells A2 44)).heap.size) (w.alloc (.cells A2 44)) (.slice (some ⟨w.heap.size, 0, none⟩) 2 2) L2 :=
  SlIs.of_block (css := [[.int .i64 1, .int .i64 2, .int .i64 1], [.int .i64 3, .int .i64 4, .int .i64 1]]) (l := L2) (heap_alloc_new _ _) ⟨[], rfl⟩
    ⟨tRule_mk (r := ⟨1, 2, 1⟩) (ok_small (by decide)) (ok_small (by decide)) (ok_small (by decide)), tRule_mk (r := ⟨3, 4, 1⟩) (ok_small (by decide)) (ok_small (by decide)) (ok_small (by decide)), trivial⟩
    (by simp) (by decide) (by decide)
theorem sl3 (w : World) : SlIs tInt (· < (w.alloc (.cells A3 3)).heap.size) (w.alloc (.cells A3 3)) (.slice (some ⟨w.heap.size, 0, none⟩) 5 5) L3 :=
  SlIs.of_block (css := [[.int .i64 2], [.int .i64 3], [.int .i64 3], [.int .i64 2], [.int .i64 0]]) (l := L3) (heap_alloc_new _ _) ⟨[], rfl⟩
    ⟨⟨rfl, ok_small (by decide)⟩, ⟨rfl, ok_small (by decide)⟩, ⟨rfl, ok_small (by decide)⟩, ⟨rfl, ok_small (by decide)⟩, ⟨rfl, ok_small (by decide)⟩, trivial⟩
    (by simp) (by decide) (by decide)

set_option maxRecDepth 100000 in
set_option maxHeartbeats 1000000 in
theorem awake_any (w : World) : Calls Try.prog 9 #[] w fun e w' => e = .returned (.bool true) ∧ Below w.heap.size w w' := by
  go_enter Try.func9, Try.ntmps9
  go_wp2_with (fail)
  have b0 : Below w.heap.size w (w.alloc (.cells A1 44)) := bl_alloc (Below.refl _ _) _
  have h0 := sl1 w
  refine (of_any L1 _ 2 _ h0).mono ?_
  rintro e w1 ⟨rfl, hb1⟩
  have b1 := bl_trans b0 hb1
  have h1 := h0.step hb1
  rw [show ofC 2 L1 = (1, 0) from rfl]
  clear h0 hb1 b0
  go_wp2_with (fail)
  refine (of_any L1 _ 4 _ h1).mono ?_
  rintro e w2 ⟨rfl, hb2⟩
  have b2 := bl_trans b1 hb2
  have h2 := h1.step hb2
  rw [show ofC 4 L1 = (0, 20) from rfl]
  clear h1 hb2 b1
  go_wp2_with (fail)
  refine (range_any L1 _ 4 _ h2).mono ?_
  rintro e w3 ⟨rfl, hb3⟩
  have b3 := bl_trans b2 hb3
  have h3 := h2.step hb3
  rw [show rangeC 4 L1 = (5, 20, true) from rfl]
  clear h2 hb3 b2
  go_wp2_with (fail)
  refine (recon_any _ _ _).mono ?_
  rintro e _ ⟨rfl, rfl⟩
  rw [show reconC 0 3 = (3, true) from rfl]
  go_wp2_with (fail)
  refine (recon_any _ _ _).mono ?_
  rintro e _ ⟨rfl, rfl⟩
  rw [show reconC 2 3 = (3, false) from rfl]
  go_wp2_with (fail)
  refine (check_any L1 _ _ h3).mono ?_
  rintro e w4 ⟨rfl, hb4⟩
  have b4 := bl_trans b3 hb4
  rw [show chkAll L1 = 0 from rfl]
  clear h3 hb4 b3
  go_wp2_with (fail)
  refine (maj_any L3 _ _ (sl3 w4)).mono ?_
  rintro e w5 ⟨rfl, hb5⟩
  have b5 := bl_trans (bl_alloc b4 _) hb5
  rw [show majC L3 = 2 from rfl]
  clear hb5 b4
  go_wp2_with (fail)
  refine (check_any L2 _ _ (sl2 w5)).mono ?_
  rintro e w6 ⟨rfl, hb6⟩
  have b6 := bl_trans (bl_alloc b5 _) hb6
  rw [show chkAll L2 = 9 from rfl]
  clear hb6 b5
  go_wp2
  go_ret
  exact ⟨rfl, b6⟩

/-! ### The laws -/
theorem own0 : ownKnob Try.prog.godebug = none := by kernel_rfl
theorem laid0 : laidOutB Try.prog = true := by kernel_rfl
theorem opensRule : Opens Try.prog 44 tRule :=
  opens_via (fun x => ⟨x.1, x.2.1, x.2.2⟩) (fun _ => rfl) (opens_struct Try.underlying44 (by kernel_rfl) (.cons rfl (by kernel_rfl) (opens_int Try.underlying3) (.cons rfl (by kernel_rfl) (opens_int Try.underlying3) (.one rfl (by kernel_rfl) (opens_int Try.underlying3)))))
theorem opensRules : Opens Try.prog 22 tRule.list := opens_slice Try.underlying22 (by kernel_rfl) (by decide) opensRule
theorem opensInts : Opens Try.prog 38 tInt.list := opens_slice Try.underlying38 (by kernel_rfl) (by decide) (opens_int Try.underlying3)

theorem recon_walk : LawWalk Try.prog 5 Try.f5 := by
  intro H enc W base args ds ps hval hA hsz
  rw [Try.params5] at hA hval
  obtain ⟨v0, v1, d0, d1, p0, p1, rfl, rfl, rfl, h0, h1⟩ := trodAll_two hA
  obtain ⟨a, rfl, -⟩ := arg_int Try.underlying3 (hval 0 _ _ rfl rfl) h0
  obtain ⟨b, rfl, -⟩ := arg_int Try.underlying3 (hval 1 _ _ rfl rfl) h1
  clear hA hval h0 h1 hsz
  go_enter Try.func5, Try.ntmps5
  go_wp2_with (fail)
  refine (recon_any _ _ _).mono ?_
  rintro e _ ⟨rfl, rfl⟩
  go_wp2_with (fail)
  refine (reconR_any _ _ _).mono ?_
  rintro e _ ⟨rfl, rfl⟩
  go_wp2_with (fail)
  refine (awake_any _).mono ?_
  rintro e w1 ⟨rfl, hb1⟩
  go_wp2
  go_ret
  exact ⟨rfl, hb1⟩
set_option maxRecDepth 100000 in
theorem recon_lift (os : Os) (started : os.Started) (H : Type) (enc : TypeId × Value → H) :
    ReturnsInHanded {} Try.checked os 5 .any (Rows.classReconcilesSpec.pre6 enc Try.prog Try.f5 Rows.classReconcilesRow.domain false) (Rows.classReconcilesSpec.post enc Try.prog Try.f5 false true false false) :=
  law_lift (C := Try.checked) (s := Rows.classReconcilesSpec) (fn := Try.f5) ⟨rfl, fun H ds h => by
    match ds, h with
    | [a, b], _ => exact ⟨rfl, rfl, rfl⟩⟩ rfl Try.underlying4 (by kernel_rfl) laid0 own0 started (by kernel_rfl) Try.func5
    (ChangeSpec.witness6 (enc := enc) (C := Try.checked) false ⟨#[], #[.int .i64 0, .int .i64 0], []⟩ 8 (by kernel_rfl) (by kernel_rfl) (by kernel_rfl) (by kernel_rfl)) recon_walk

/-- THE STATEMENT: ClassReconciles. -/
theorem recon_holds : Rows.ClassReconcilesSaid :=
  OpenClaim.holds_of_wide 5 Try.f5 rfl rfl rfl rfl rfl rfl rfl ⟨rfl, rfl, rfl, rfl, rfl⟩ rfl rfl rfl rfl rfl (by kernel_rfl) Try.func5 (by kernel_rfl)
    (of_decide_eq_true (by kernel_rfl)) (by unfold Func.isWrapper; rw [if_neg (of_decide_eq_false (by kernel_rfl))]; exact ⟨rfl, rfl⟩)
    (fun os started H enc _ => recon_lift os started H enc)

theorem checks_walk : LawWalk Try.prog 3 Try.f3 := by
  intro H enc W base args ds ps hval hA hsz
  rw [Try.params3] at hA hval
  obtain ⟨v0, d0, rfl, rfl, h0⟩ := trodAll_one hA
  obtain ⟨l, hl⟩ := arg_slice Try.underlying22 opensRules (hval 0 _ _ rfl rfl) h0
  clear hA hval h0 hsz
  obtain ⟨ao, cap, b, off, rfl, hlc, hm, -⟩ := rule_open hl
  unfold maxLen at hm
  by_cases hg : 30 < l.length
  · go_enter Try.func3, Try.ntmps3
    go_wp2_with (go_at_call 9; refine (awake_any _).mono ?_; rintro e w1 ⟨rfl, hb1⟩)
    go_ret
    exact ⟨rfl, ‹_›⟩
  · go_enter Try.func3, Try.ntmps3
    go_wp2_with (fail)
    refine (check_any _ _ _ hl).mono ?_
    rintro e w1 ⟨rfl, hb1⟩
    have hl1 := hl.step hb1
    clear hl
    go_wp2_with (fail)
    refine (checkR_any _ _ _ hl1).mono ?_
    rintro e w2 ⟨rfl, hb2⟩
    have b2 := bl_trans hb1 hb2
    clear hl1 hb1 hb2
    go_wp2_with (fail)
    refine (awake_any _).mono ?_
    rintro e w3 ⟨rfl, hb3⟩
    go_wp2
    go_ret
    exact ⟨rfl, bl_trans b2 hb3⟩
set_option maxRecDepth 100000 in
theorem checks_lift (os : Os) (started : os.Started) (H : Type) (enc : TypeId × Value → H) :
    ReturnsInHanded {} Try.checked os 3 .any (Rows.classChecksSpec.pre6 enc Try.prog Try.f3 Rows.classChecksRow.domain false) (Rows.classChecksSpec.post enc Try.prog Try.f3 false true false false) :=
  law_lift (C := Try.checked) (s := Rows.classChecksSpec) (fn := Try.f3) ⟨rfl, fun H ds h => by
    match ds, h with
    | [a], _ => exact ⟨rfl, rfl, rfl⟩⟩ rfl Try.underlying4 (by kernel_rfl) laid0 own0 started (by kernel_rfl) Try.func3
    (ChangeSpec.witness6 (enc := enc) (C := Try.checked) false ⟨#[], #[.slice none 0 0], []⟩ 8 (by kernel_rfl) (by kernel_rfl) (by kernel_rfl) (by kernel_rfl)) checks_walk

/-- THE STATEMENT: ClassChecks. -/
theorem checks_holds : Rows.ClassChecksSaid :=
  OpenClaim.holds_of_wide 3 Try.f3 rfl rfl rfl rfl rfl rfl rfl ⟨rfl, rfl, rfl, rfl, rfl⟩ rfl rfl rfl rfl rfl (by kernel_rfl) Try.func3 (by kernel_rfl)
    (of_decide_eq_true (by kernel_rfl)) (by unfold Func.isWrapper; rw [if_neg (of_decide_eq_false (by kernel_rfl))]; exact ⟨rfl, rfl⟩)
    (fun os started H enc _ => checks_lift os started H enc)

theorem finds_walk : LawWalk Try.prog 4 Try.f4 := by
  intro H enc W base args ds ps hval hA hsz
  rw [Try.params4] at hA hval
  obtain ⟨v0, v1, v2, d0, d1, d2, p0, p1, p2, rfl, rfl, rfl, h0, h1, h2⟩ := trodAll_three hA
  obtain ⟨l, hl⟩ := arg_slice Try.underlying22 opensRules (hval 0 _ _ rfl rfl) h0
  obtain ⟨a, rfl, -⟩ := arg_int Try.underlying3 (hval 1 _ _ rfl rfl) h1
  obtain ⟨c, rfl, -⟩ := arg_int Try.underlying3 (hval 2 _ _ rfl rfl) h2
  clear hA hval h0 h1 h2 hsz
  obtain ⟨ao, cap, b, off, rfl, hlc, hm, -⟩ := rule_open hl
  unfold maxLen at hm
  by_cases hg : 30 < l.length
  · go_enter Try.func4, Try.ntmps4
    go_wp2_with (go_at_call 9; refine (awake_any _).mono ?_; rintro e w1 ⟨rfl, hb1⟩)
    go_ret
    exact ⟨rfl, ‹_›⟩
  · go_enter Try.func4, Try.ntmps4
    go_wp2_with (fail)
    refine (of_any _ _ _ _ hl).mono ?_
    rintro e w1 ⟨rfl, hb1⟩
    have hl1 := hl.step hb1
    clear hl
    go_wp2_with (fail)
    refine (ofR_any _ _ _ _ hl1).mono ?_
    rintro e w2 ⟨rfl, hb2⟩
    have b2 := bl_trans hb1 hb2
    have hl2 := hl1.step hb2
    clear hl1 hb1 hb2
    go_wp2_with (fail)
    refine (range_any _ _ _ _ hl2).mono ?_
    rintro e w3 ⟨rfl, hb3⟩
    have b3 := bl_trans b2 hb3
    have hl3 := hl2.step hb3
    clear hl2 b2 hb3
    go_wp2_with (fail)
    refine (rangeR_any _ _ _ _ hl3).mono ?_
    rintro e w4 ⟨rfl, hb4⟩
    have b4 := bl_trans b3 hb4
    clear hl3 b3 hb4
    go_wp2_with (fail)
    refine (awake_any _).mono ?_
    rintro e w5 ⟨rfl, hb5⟩
    go_wp2
    go_ret
    exact ⟨rfl, bl_trans b4 hb5⟩
set_option maxRecDepth 100000 in
theorem finds_lift (os : Os) (started : os.Started) (H : Type) (enc : TypeId × Value → H) :
    ReturnsInHanded {} Try.checked os 4 .any (Rows.classFindsSpec.pre6 enc Try.prog Try.f4 Rows.classFindsRow.domain false) (Rows.classFindsSpec.post enc Try.prog Try.f4 false true false false) :=
  law_lift (C := Try.checked) (s := Rows.classFindsSpec) (fn := Try.f4) ⟨rfl, fun H ds h => by
    match ds, h with
    | [a, b, c], _ => exact ⟨rfl, rfl, rfl⟩⟩ rfl Try.underlying4 (by kernel_rfl) laid0 own0 started (by kernel_rfl) Try.func4
    (ChangeSpec.witness6 (enc := enc) (C := Try.checked) false ⟨#[], #[.slice none 0 0, .int .i64 0, .int .i64 0], []⟩ 8 (by kernel_rfl) (by kernel_rfl) (by kernel_rfl) (by kernel_rfl)) finds_walk

/-- THE STATEMENT: ClassFinds. -/
theorem finds_holds : Rows.ClassFindsSaid :=
  OpenClaim.holds_of_wide 4 Try.f4 rfl rfl rfl rfl rfl rfl rfl ⟨rfl, rfl, rfl, rfl, rfl⟩ rfl rfl rfl rfl rfl (by kernel_rfl) Try.func4 (by kernel_rfl)
    (of_decide_eq_true (by kernel_rfl)) (by unfold Func.isWrapper; rw [if_neg (of_decide_eq_false (by kernel_rfl))]; exact ⟨rfl, rfl⟩)
    (fun os started H enc _ => finds_lift os started H enc)

theorem majs_walk : LawWalk Try.prog 6 Try.f6 := by
  intro H enc W base args ds ps hval hA hsz
  rw [Try.params6] at hA hval
  obtain ⟨v0, d0, rfl, rfl, h0⟩ := trodAll_one hA
  obtain ⟨l, hl⟩ := arg_slice Try.underlying38 opensInts (hval 0 _ _ rfl rfl) h0
  clear hA hval h0 hsz
  obtain ⟨ao, cap, b, off, rfl, hlc, hm, -⟩ := ints_open hl
  unfold maxLen at hm
  by_cases hg : 200 < l.length
  · go_enter Try.func6, Try.ntmps6
    go_wp2_with (go_at_call 9; refine (awake_any _).mono ?_; rintro e w1 ⟨rfl, hb1⟩)
    go_ret
    exact ⟨rfl, ‹_›⟩
  · go_enter Try.func6, Try.ntmps6
    go_wp2_with (fail)
    refine (maj_any _ _ _ hl).mono ?_
    rintro e w1 ⟨rfl, hb1⟩
    have hl1 := hl.step hb1
    clear hl
    go_wp2_with (fail)
    refine (majR_any _ _ _ hl1).mono ?_
    rintro e w2 ⟨rfl, rfl⟩
    clear hl1
    go_wp2_with (fail)
    refine (awake_any _).mono ?_
    rintro e w3 ⟨rfl, hb3⟩
    go_wp2
    go_ret
    exact ⟨rfl, bl_trans hb1 hb3⟩
set_option maxRecDepth 100000 in
theorem majs_lift (os : Os) (started : os.Started) (H : Type) (enc : TypeId × Value → H) :
    ReturnsInHanded {} Try.checked os 6 .any (Rows.classMajoritiesSpec.pre6 enc Try.prog Try.f6 Rows.classMajoritiesRow.domain false) (Rows.classMajoritiesSpec.post enc Try.prog Try.f6 false true false false) :=
  law_lift (C := Try.checked) (s := Rows.classMajoritiesSpec) (fn := Try.f6) ⟨rfl, fun H ds h => by
    match ds, h with
    | [a], _ => exact ⟨rfl, rfl, rfl⟩⟩ rfl Try.underlying4 (by kernel_rfl) laid0 own0 started (by kernel_rfl) Try.func6
    (ChangeSpec.witness6 (enc := enc) (C := Try.checked) false ⟨#[], #[.slice none 0 0], []⟩ 8 (by kernel_rfl) (by kernel_rfl) (by kernel_rfl) (by kernel_rfl)) majs_walk

/-- THE STATEMENT: ClassMajorities. -/
theorem majs_holds : Rows.ClassMajoritiesSaid :=
  OpenClaim.holds_of_wide 6 Try.f6 rfl rfl rfl rfl rfl rfl rfl ⟨rfl, rfl, rfl, rfl, rfl⟩ rfl rfl rfl rfl rfl (by kernel_rfl) Try.func6 (by kernel_rfl)
    (of_decide_eq_true (by kernel_rfl)) (by unfold Func.isWrapper; rw [if_neg (of_decide_eq_false (by kernel_rfl))]; exact ⟨rfl, rfl⟩)
    (fun os started H enc _ => majs_lift os started H enc)
end Go.Proofs.Ytdhpcfabeapaaaa
