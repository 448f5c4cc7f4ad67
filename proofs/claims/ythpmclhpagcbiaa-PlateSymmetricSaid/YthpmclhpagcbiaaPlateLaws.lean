/-
  Layer 10 (plate): the laws PlateNormals, PlateDistances, PlateLikes, PlateNears, PlateVotes.
-/
import Derived.Test.YthpmclhpagcbiaaPlateAwake
import Derived.Test.YthpmclhpagcbiaaPlateWalkR
import Derived.Test.YthpmclhpagcbiaaRows
namespace Go.Proofs.Ythpmclhpagcbiaa
open Go.RowKit Go.Tw Go.Tw.Plate Go.ChangeShapes Go.WideShapes

theorem own0 : ownKnob Try.prog.godebug = none := by kernel_rfl
theorem laid0 : laidOutB Try.prog = true := by kernel_rfl
theorem opensStrs : Opens Try.prog 32 tStr.list := opens_slice Try.underlying32 (by kernel_rfl) (by decide) (opens_str Try.underlying9)
theorem opensInts : Opens Try.prog 37 tInt.list := opens_slice Try.underlying37 (by kernel_rfl) (by decide) (opens_int Try.underlying3)
theorem arg_u8 {H : Type} {enc : TypeId × Value → H} {P : Program} {w : World} {r : Reach} {b0 : Nat} {t : TypeId} {v : Value} {d : DataW H} {ps : List MemPlace} (ht : P.underlying t = some (.int .u8)) (hval : Value.okWide P w r b0 t v) (hd : DataW.Trod enc P w 0 (fun _ => true) true t v d ps) : ∃ n, v = .int .u8 n ∧ 0 ≤ n ∧ n ≤ 255 := by
  obtain ⟨n, h1, _, _, h2⟩ := open_int ht hval hd
  exact ⟨n, h1, wf_u8 h2⟩

theorem likes_walk : LawWalk Try.prog 5 Try.f5 := by
  intro H enc W base args ds ps hval hA hsz
  rw [Try.params5] at hA hval
  obtain ⟨v0, v1, d0, d1, p0, p1, rfl, rfl, rfl, h0, h1⟩ := trodAll_two hA
  obtain ⟨a, rfl, ha⟩ := arg_u8 Try.underlying5 (hval 0 _ _ rfl rfl) h0
  obtain ⟨b, rfl, hb⟩ := arg_u8 Try.underlying5 (hval 1 _ _ rfl rfl) h1
  clear hA hval h0 h1 hsz
  have b0 : Below W.heap.size W W := Below.refl _ _
  go_enter Try.func5, Try.ntmps5
  go_wp2_with (fail)
  refine (Like_any a b _ ha hb).mono ?_
  rintro e w1 ⟨rfl, hc⟩
  replace b0 := bl_trans b0 hc
  clear hc
  go_wp2_with (fail)
  refine (LikeR_any a b _).mono ?_
  rintro e w2 ⟨rfl, hc⟩
  replace b0 := bl_trans b0 hc
  clear hc
  go_wp2_with (fail)
  refine (awake_any _).mono ?_
  rintro e wz ⟨rfl, hb⟩
  replace b0 := bl_trans b0 hb
  clear hb
  go_wp2_with (fail)
  go_ret
  exact ⟨rfl, b0⟩

set_option maxRecDepth 100000 in
theorem likes_lift (os : Os) (started : os.Started) (H : Type) (enc : TypeId × Value → H) :
    ReturnsInHanded {} Try.checked os 5 .any (Rows.plateLikesSpec.pre6 enc Try.prog Try.f5 Rows.plateLikesRow.domain false) (Rows.plateLikesSpec.post enc Try.prog Try.f5 false true false false) :=
  law_lift (C := Try.checked) (s := Rows.plateLikesSpec) (fn := Try.f5) ⟨rfl, fun H ds h => by
    match ds, h with
    | [a, b], _ => exact ⟨rfl, rfl, rfl⟩⟩ rfl Try.underlying4 (by kernel_rfl) laid0 own0 started (by kernel_rfl) Try.func5
    (ChangeSpec.witness6 (enc := enc) (C := Try.checked) false ⟨#[], #[.int .u8 0, .int .u8 0], []⟩ 8 (by kernel_rfl) (by kernel_rfl) (by kernel_rfl) (by kernel_rfl)) likes_walk

/-- THE STATEMENT: PlateLikes. -/
theorem likes_holds : Rows.PlateLikesSaid :=
  OpenClaim.holds_of_wide 5 Try.f5 rfl rfl rfl rfl rfl rfl rfl ⟨rfl, rfl, rfl, rfl, rfl⟩ rfl rfl rfl rfl rfl (by kernel_rfl) Try.func5 (by kernel_rfl)
    (of_decide_eq_true (by kernel_rfl)) (by unfold Func.isWrapper; rw [if_neg (of_decide_eq_false (by kernel_rfl))]; exact ⟨rfl, rfl⟩)
    (fun os started H enc _ => likes_lift os started H enc)

theorem normals_walk : LawWalk Try.prog 3 Try.f3 := by
  intro H enc W base args ds ps hval hA hsz
  rw [Try.params3] at hA hval
  obtain ⟨v0, d0, rfl, rfl, h0⟩ := trodAll_one hA
  obtain ⟨s, rfl, hs⟩ := arg_str Try.underlying9 (hval 0 _ _ rfl rfl) h0
  clear hA hval h0 hsz
  have b0 : Below W.heap.size W W := Below.refl _ _
  by_cases hl : 200 < s.size
  · have hl' : (200 : Int) < (s.size : Int) := by omega
    go_enter Try.func3, Try.ntmps3
    go_wp2_with (fail)
    refine (awake_any _).mono ?_
    rintro e wz ⟨rfl, hb⟩
    replace b0 := bl_trans b0 hb
    clear hb
    go_wp2_with (fail)
    go_ret
    exact ⟨rfl, b0⟩
  have hl' : ¬ (200 : Int) < (s.size : Int) := by omega
  go_enter Try.func3, Try.ntmps3
  go_wp2_with (fail)
  refine (Normal_any s _ (by omega)).mono ?_
  rintro e w1 ⟨rfl, hb⟩
  replace b0 := bl_trans b0 hb
  clear hb
  go_wp2_with (fail)
  refine (NormalR_any s _ (by omega)).mono ?_
  rintro e w2 ⟨rfl, hb⟩
  replace b0 := bl_trans b0 hb
  clear hb
  rw [norm_eq (codes s) [] (by simp)]
  generalize (normS (normGo [] (codes s))).1 = p
  generalize (normS (normGo [] (codes s))).2 = n
  go_wp2_with (fail)
  refine (awake_any _).mono ?_
  rintro e wz ⟨rfl, hb⟩
  replace b0 := bl_trans b0 hb
  clear hb
  go_wp2_with (fail)
  go_ret
  exact ⟨rfl, b0⟩

set_option maxRecDepth 100000 in
theorem normals_lift (os : Os) (started : os.Started) (H : Type) (enc : TypeId × Value → H) :
    ReturnsInHanded {} Try.checked os 3 .any (Rows.plateNormalsSpec.pre6 enc Try.prog Try.f3 Rows.plateNormalsRow.domain false) (Rows.plateNormalsSpec.post enc Try.prog Try.f3 false true false false) :=
  law_lift (C := Try.checked) (s := Rows.plateNormalsSpec) (fn := Try.f3) ⟨rfl, fun H ds h => by
    match ds, h with
    | [a], _ => exact ⟨rfl, rfl, rfl⟩⟩ rfl Try.underlying4 (by kernel_rfl) laid0 own0 started (by kernel_rfl) Try.func3
    (ChangeSpec.witness6 (enc := enc) (C := Try.checked) false ⟨#[], #[.string ByteArray.empty], []⟩ 8 (by kernel_rfl) (by kernel_rfl) (by kernel_rfl) (by kernel_rfl)) normals_walk

/-- THE STATEMENT: PlateNormals. -/
theorem normals_holds : Rows.PlateNormalsSaid :=
  OpenClaim.holds_of_wide 3 Try.f3 rfl rfl rfl rfl rfl rfl rfl ⟨rfl, rfl, rfl, rfl, rfl⟩ rfl rfl rfl rfl rfl (by kernel_rfl) Try.func3 (by kernel_rfl)
    (of_decide_eq_true (by kernel_rfl)) (by unfold Func.isWrapper; rw [if_neg (of_decide_eq_false (by kernel_rfl))]; exact ⟨rfl, rfl⟩)
    (fun os started H enc _ => normals_lift os started H enc)

theorem nears_walk : LawWalk Try.prog 6 Try.f6 := by
  intro H enc W base args ds ps hval hA hsz
  rw [Try.params6] at hA hval
  obtain ⟨v0, v1, v2, d0, d1, d2, p0, p1, p2, rfl, rfl, rfl, h0, h1, h2⟩ := trodAll_three hA
  obtain ⟨l, hl⟩ := arg_slice Try.underlying32 opensStrs (hval 0 _ _ rfl rfl) h0
  obtain ⟨s, rfl, hs⟩ := arg_str Try.underlying9 (hval 1 _ _ rfl rfl) h1
  obtain ⟨m, rfl, hm⟩ := arg_int Try.underlying3 (hval 2 _ _ rfl rfl) h2
  clear hA hval h0 h1 h2 hsz
  have b0 : Below W.heap.size W W := Below.refl _ _
  go_enter Try.func6, Try.ntmps6
  go_wp2_with (fail)
  refine (few_any l _ _ hl).mono ?_
  rintro e w0 ⟨rfl, ⟨rfl, hf⟩ | ⟨rfl, -⟩⟩
  case inr =>
    go_wp2_with (fail)
    refine (awake_any _).mono ?_
    rintro e wz ⟨rfl, hb⟩
    replace b0 := bl_trans b0 hb
    clear hb
    go_wp2_with (fail)
    go_ret
    exact ⟨rfl, b0⟩
  by_cases h60 : 60 < s.size
  · have h60' : (60 : Int) < (s.size : Int) := by omega
    go_wp2_with (fail)
    refine (awake_any _).mono ?_
    rintro e wz ⟨rfl, hb⟩
    replace b0 := bl_trans b0 hb
    clear hb
    go_wp2_with (fail)
    go_ret
    exact ⟨rfl, b0⟩
  have h60' : ¬ (60 : Int) < (s.size : Int) := by omega
  have HF := Lib.hid hf; clear hf
  go_wp2_with (fail)
  refine (Near_any l s m _ _ hl (by have := HF.out.1; omega) (fun x hx => by have := HF.out.2 x hx; omega) (by omega)).mono ?_
  rintro e w1 ⟨v1, r1, rfl, hs1, hn1, hb⟩
  replace b0 := bl_trans b0 hb
  replace hl := hl.step hb
  have HN1 := Lib.hid hn1
  clear hb hn1
  go_wp2_with (fail)
  refine (NearR_any l s m _ _ hl (by have := HF.out.1; omega) (fun x hx => by have := HF.out.2 x hx; omega) (by omega)).mono ?_
  rintro e w2 ⟨v2, r2, rfl, hs2, hn2, hb⟩
  obtain rfl := HN1.out.uniq hn2
  replace b0 := bl_trans b0 hb
  replace hs1 := hs1.step hb
  clear hb hn2 HN1
  go_wp2_with (fail)
  refine (SameTexts_any r1 _ _ _ hs1 hs2).mono ?_
  rintro e w3 ⟨rfl, hb⟩
  replace b0 := bl_trans b0 hb
  clear hb hs1 hs2
  go_wp2_with (fail)
  refine (awake_any _).mono ?_
  rintro e wz ⟨rfl, hb⟩
  replace b0 := bl_trans b0 hb
  clear hb
  go_wp2_with (fail)
  go_ret
  exact ⟨rfl, b0⟩

set_option maxRecDepth 100000 in
theorem nears_lift (os : Os) (started : os.Started) (H : Type) (enc : TypeId × Value → H) :
    ReturnsInHanded {} Try.checked os 6 .any (Rows.plateNearsSpec.pre6 enc Try.prog Try.f6 Rows.plateNearsRow.domain false) (Rows.plateNearsSpec.post enc Try.prog Try.f6 false true false false) :=
  law_lift (C := Try.checked) (s := Rows.plateNearsSpec) (fn := Try.f6) ⟨rfl, fun H ds h => by
    match ds, h with
    | [a, b, c], _ => exact ⟨rfl, rfl, rfl⟩⟩ rfl Try.underlying4 (by kernel_rfl) laid0 own0 started (by kernel_rfl) Try.func6
    (ChangeSpec.witness6 (enc := enc) (C := Try.checked) false ⟨#[], #[.slice none 0 0, .string ByteArray.empty, .int .i64 0], []⟩ 8 (by kernel_rfl) (by kernel_rfl) (by kernel_rfl) (by kernel_rfl)) nears_walk

/-- THE STATEMENT: PlateNears. -/
theorem nears_holds : Rows.PlateNearsSaid :=
  OpenClaim.holds_of_wide 6 Try.f6 rfl rfl rfl rfl rfl rfl rfl ⟨rfl, rfl, rfl, rfl, rfl⟩ rfl rfl rfl rfl rfl (by kernel_rfl) Try.func6 (by kernel_rfl)
    (of_decide_eq_true (by kernel_rfl)) (by unfold Func.isWrapper; rw [if_neg (of_decide_eq_false (by kernel_rfl))]; exact ⟨rfl, rfl⟩)
    (fun os started H enc _ => nears_lift os started H enc)

theorem votes_walk : LawWalk Try.prog 7 Try.f7 := by
  intro H enc W base args ds ps hval hA hsz
  rw [Try.params7] at hA hval
  obtain ⟨v0, v1, d0, d1, p0, p1, rfl, rfl, rfl, h0, h1⟩ := trodAll_two hA
  obtain ⟨l, hl⟩ := arg_slice Try.underlying32 opensStrs (hval 0 _ _ rfl rfl) h0
  obtain ⟨ws, hw⟩ := arg_slice Try.underlying37 opensInts (hval 1 _ _ rfl rfl) h1
  clear hA hval h0 h1 hsz
  have b0 : Below W.heap.size W W := Below.refl _ _
  obtain ⟨ao, cap, b, off, rfl, hw1, hw2, -⟩ := ints_open hw
  unfold maxLen at hw2
  go_enter Try.func7, Try.ntmps7
  go_wp2_with (fail)
  refine (few_any l _ _ hl).mono ?_
  rintro e w0 ⟨rfl, ⟨rfl, hf⟩ | ⟨rfl, -⟩⟩
  case inr =>
    go_wp2_with (fail)
    refine (awake_any _).mono ?_
    rintro e wz ⟨rfl, hb⟩
    replace b0 := bl_trans b0 hb
    clear hb
    go_wp2_with (fail)
    go_ret
    exact ⟨rfl, b0⟩
  by_cases h40 : 40 < ws.length
  · have h40' : (40 : Int) < (ws.length : Int) := by omega
    go_wp2_with (fail)
    refine (awake_any _).mono ?_
    rintro e wz ⟨rfl, hb⟩
    replace b0 := bl_trans b0 hb
    clear hb
    go_wp2_with (fail)
    go_ret
    exact ⟨rfl, b0⟩
  have h40' : ¬ (40 : Int) < (ws.length : Int) := by omega
  have HF := Lib.hid hf; clear hf
  go_wp2_with (fail)
  refine (Vote_any l ws _ _ _ hl hw (by have := HF.out.1; omega) (fun x hx => by have := HF.out.2 x hx; omega)).mono ?_
  rintro e w1 ⟨⟨s, n, rfl, hv⟩, hb⟩
  replace b0 := bl_trans b0 hb
  replace hl := hl.step hb
  replace hw := hw.step hb
  have HV := Lib.hid hv
  clear hb hv
  go_wp2_with (fail)
  refine (VoteR_any l ws _ _ _ hl hw (by have := HF.out.1; omega) (fun x hx => by have := HF.out.2 x hx; omega)).mono ?_
  rintro e w2 ⟨⟨s2, n2, rfl, hv2⟩, hb⟩
  obtain ⟨rfl, rfl⟩ := HV.out.uniq hv2
  replace b0 := bl_trans b0 hb
  clear hb hl hw hv2 HV
  go_wp2_with (fail)
  refine (awake_any _).mono ?_
  rintro e wz ⟨rfl, hb⟩
  replace b0 := bl_trans b0 hb
  clear hb
  go_wp2_with (fail)
  go_ret
  exact ⟨rfl, b0⟩

set_option maxRecDepth 100000 in
theorem votes_lift (os : Os) (started : os.Started) (H : Type) (enc : TypeId × Value → H) :
    ReturnsInHanded {} Try.checked os 7 .any (Rows.plateVotesSpec.pre6 enc Try.prog Try.f7 Rows.plateVotesRow.domain false) (Rows.plateVotesSpec.post enc Try.prog Try.f7 false true false false) :=
  law_lift (C := Try.checked) (s := Rows.plateVotesSpec) (fn := Try.f7) ⟨rfl, fun H ds h => by
    match ds, h with
    | [a, b], _ => exact ⟨rfl, rfl, rfl⟩⟩ rfl Try.underlying4 (by kernel_rfl) laid0 own0 started (by kernel_rfl) Try.func7
    (ChangeSpec.witness6 (enc := enc) (C := Try.checked) false ⟨#[], #[.slice none 0 0, .slice none 0 0], []⟩ 8 (by kernel_rfl) (by kernel_rfl) (by kernel_rfl) (by kernel_rfl)) votes_walk

/-- THE STATEMENT: PlateVotes. -/
theorem votes_holds : Rows.PlateVotesSaid :=
  OpenClaim.holds_of_wide 7 Try.f7 rfl rfl rfl rfl rfl rfl rfl ⟨rfl, rfl, rfl, rfl, rfl⟩ rfl rfl rfl rfl rfl (by kernel_rfl) Try.func7 (by kernel_rfl)
    (of_decide_eq_true (by kernel_rfl)) (by unfold Func.isWrapper; rw [if_neg (of_decide_eq_false (by kernel_rfl))]; exact ⟨rfl, rfl⟩)
    (fun os started H enc _ => votes_lift os started H enc)
end Go.Proofs.Ythpmclhpagcbiaa
