/-
  Layer 12 (class): THE STATEMENT ClassVotes: no class has more votes than the majority; the order does not matter. No condition.
-/
import Derived.Test.YtdhpcfabeapaaaaClassLaws
import Derived.Test.YtdhpcfabeapaaaaOwn
import Derived.Deep.RegionLaw
namespace Go.Tw.Class
open Go.RowKit

theorem majF_max (l : List Int) : ∀ (k : Nat), (∀ c : Int, 1 ≤ c → c ≤ k → cnt l c ≤ (majF l k).2) ∧ (∀ c : Int, 1 ≤ c → c < (majF l k).1 → cnt l c < (majF l k).2) := by
  intro k
  induction k with
  | zero => exact ⟨fun c h1 h2 => by omega, fun c h1 h2 => by simp [majF] at h2; omega⟩
  | succ k ih =>
    have iv := majF_inv l k
    by_cases h : (majF l k).2 < cnt l (k + 1)
    · rw [majF_yes h]
      refine ⟨fun c h1 h2 => ?_, fun c h1 h2 => ?_⟩
      · by_cases e : c = (k : Int) + 1
        · subst e; exact Int.le_refl _
        · have := ih.1 c h1 (by omega); simp only; omega
      · have := ih.1 c h1 (by simp only at h2; omega); simp only; omega
    · rw [majF_no h]
      refine ⟨fun c h1 h2 => ?_, ih.2⟩
      by_cases e : c = (k : Int) + 1
      · subst e; omega
      · exact ih.1 c h1 (by omega)
/-- what the law asks of best -/
theorem maj_facts (l : List Int) : 0 ≤ majC l ∧ majC l ≤ 9 ∧ (majC l = 0 → ∀ c, 1 ≤ c → c ≤ 9 → cnt l c = 0) ∧
    (∀ c, 1 ≤ c → c ≤ 9 → 1 ≤ majC l → cnt l c ≤ cnt l (majC l)) ∧ (∀ c, 1 ≤ c → c < majC l → cnt l c < cnt l (majC l)) ∧ (1 ≤ majC l → 0 < cnt l (majC l)) := by
  obtain ⟨i1, i2, i3, i4⟩ := majF_inv l 9
  obtain ⟨m1, m2⟩ := majF_max l 9
  unfold majC
  refine ⟨i1, by omega, fun h c h1 h2 => ?_, fun c h1 h2 h3 => ?_, fun c h1 h2 => ?_, fun h => ?_⟩
  · have := m1 c h1 (by omega)
    have := i3 h
    have := cnt_nonneg l c
    omega
  · have := m1 c h1 (by omega)
    rw [(i4 h3).1] at this; exact this
  · have := m2 c h1 h2
    rw [(i4 (by omega)).1] at this; exact this
  · have := i4 h; omega
theorem cnt_zero {l : List Int} (h : ∀ c, 1 ≤ c → c ≤ 9 → cnt l c = 0) : l.any isC = false := by
  rw [List.any_eq_false]
  intro x hx hc
  have hb : 1 ≤ x ∧ x ≤ 9 := by simpa [isC] using hc
  have := h x hb.1 hb.2
  unfold cnt at this
  have : x ∈ l.filter fun y => y == x := by simp [hx]
  have := List.length_pos_of_mem this
  omega
theorem cnt_pos {l : List Int} {c : Int} (hc : isC c = true) (h : 0 < cnt l c) : l.any isC = true := by
  rw [List.any_eq_true]
  unfold cnt at h
  have : 0 < (l.filter fun x => x == c).length := by omega
  obtain ⟨x, hx⟩ := List.exists_mem_of_length_pos this
  simp at hx
  exact ⟨c, hx.2 ▸ hx.1, hc⟩
theorem maj_some (l : List Int) : l.any isC = decide (0 < majC l) := by
  obtain ⟨f1, f2, f3, _, _, f6⟩ := maj_facts l
  by_cases h : 0 < majC l
  · rw [cnt_pos (c := majC l) (by simp [isC]; omega) (f6 h)]; simp [h]
  · rw [cnt_zero (f3 (by omega))]; simp; omega
theorem majF_congr {l m : List Int} (h : ∀ c, cnt l c = cnt m c) : ∀ k, majF l k = majF m k
  | 0 => rfl
  | k + 1 => by rw [majF, majF, majF_congr h k, h]
theorem maj_turn (l : List Int) (t : Nat) : majC (l.drop t ++ l.take t) = majC l := by
  unfold majC
  rw [majF_congr (m := l)]
  intro c
  unfold cnt
  rw [List.filter_append, List.length_append]
  conv => rhs; rw [← List.take_append_drop t l]
  rw [List.filter_append, List.length_append]; omega
end Go.Tw.Class
namespace Go.Proofs.Ytdhpcfabeapaaaa
open Go.RowKit Go.Tw Go.Tw.Class Go.ChangeShapes Go.WideShapes

theorem slInt : SlT Try.prog 38 3 1 8 := SlT.of (z := .int .i64 0) Try.underlying38 (by kernel_rfl) rfl (by decide)

set_option maxRecDepth 100000 in
set_option maxHeartbeats 1000000 in
theorem votes_walk : LawWalk Try.prog 8 Try.f8 := by
  intro H enc W base args ds ps hval hA hsz
  rw [Try.params8] at hA hval
  obtain ⟨v0, v1, d0, d1, p0, p1, rfl, rfl, rfl, h0, h1⟩ := trodAll_two hA
  obtain ⟨l, hl⟩ := arg_slice Try.underlying38 opensInts (hval 0 _ _ rfl rfl) h0
  obtain ⟨tn, rfl, htn⟩ := arg_int Try.underlying3 (hval 1 _ _ rfl rfl) h1
  clear hA hval h0 h1 hsz
  obtain ⟨ao, cap, b, off, rfl, hlc, hm, ho⟩ := ints_open hl
  unfold maxLen at hm
  by_cases hg : 100 < l.length
  · go_enter Try.func8, Try.ntmps8
    go_wp2_with (go_at_call 9; refine (awake_any _).mono ?_; rintro e w1 ⟨rfl, hb1⟩)
    go_ret
    exact ⟨rfl, ‹_›⟩
  by_cases hg1 : tn < 0
  · go_enter Try.func8, Try.ntmps8
    go_wp2_with (go_at_call 9; refine (awake_any _).mono ?_; rintro e w1 ⟨rfl, hb1⟩)
    go_ret
    exact ⟨rfl, ‹_›⟩
  by_cases hg2 : (l.length : Int) < tn
  · go_enter Try.func8, Try.ntmps8
    go_wp2_with (go_at_call 9; refine (awake_any _).mono ?_; rintro e w1 ⟨rfl, hb1⟩)
    go_ret
    exact ⟨rfl, ‹_›⟩
  obtain ⟨t, rfl⟩ : ∃ t : Nat, tn = t := ⟨tn.toNat, by omega⟩
  go_enter Try.func8, Try.ntmps8
  go_wp2_with (fail)
  refine (maj_any _ _ _ hl).mono ?_
  rintro e w1 ⟨rfl, hb1⟩
  obtain ⟨best, hbest⟩ : ∃ best, best = majC l := ⟨_, rfl⟩
  rw [← hbest]
  have HB := Lib.hid hbest; clear hbest
  go_wp2_with (fail)
  go_loopg [7, 30] l.length (fun g s i wr => ∃ k : Nat, k + g = l.length ∧ i = .int .i64 k ∧ s = .bool ((l.take k).any isC) ∧ Counts wr w1.heap.size 41 (l.take k) ∧ Below W.heap.size W wr)
  case atStart =>
    refine ⟨0, by omega, rfl, rfl, ⟨_, rfl, heap_alloc_new _ _, fun j hj => ?_⟩, bl_alloc hb1 _⟩
    match j, hj with
    | 0, _ | 1, _ | 2, _ | 3, _ | 4, _ | 5, _ | 6, _ | 7, _ | 8, _ | 9, _ => rfl
  case round =>
    obtain ⟨k, hk, rfl, rfl, hs, hb2⟩ := hrel
    have hw1 : W.heap.size ≤ w1.heap.size := hb1.size
    by_cases hlt : k < l.length
    · obtain ⟨rfl, hb, c0, -⟩ := ho wr hb2 k hlt
      clear ho
      have hts : ((l.take (k + 1)).any isC) = ((l.take k).any isC || isC l[k]) := by rw [List.take_succ_eq_append_getElem hlt, List.any_append]; simp
      have HS := Lib.hid hts; clear hts
      by_cases hc : isC l[k] = true
      · have hb9 : 1 ≤ l[k] ∧ l[k] ≤ 9 := by simpa [isC] using hc
        obtain ⟨b1, b2⟩ := hb9
        obtain ⟨s1, s2⟩ := hs.cell (c := l[k]) (by omega) (by omega)
        have n1 := cntT_nonneg (l.take k) l[k]
        have n2 := cntT_le (l.take k) l[k]
        rw [List.length_take] at n2
        have n3 : cntT (l.take k) l[k] ≤ 9223372036854775806 := by omega
        have HC := Lib.hid hc; clear n2 hc
        go_wp2
        go_roundg (l.length - (k + 1))
        case measure => omega
        case rel =>
          refine ⟨k + 1, by omega, by go_num, by rw [HS.out, HC.out]; simp, ?_, bl_set hb2 _ hw1⟩
          rw [List.take_succ_eq_append_getElem hlt]
          exact hs.set HC.out
      · have hc' : isC l[k] = false := by simpa using hc
        have hb9 : l[k] < 1 ∨ 9 < l[k] := by simp [isC] at hc'; omega
        have HC := Lib.hid hc'; clear hc hc'
        rcases hb9 with hb9 | hb9
        all_goals
          go_wp2
          go_roundg (l.length - (k + 1))
          case measure => omega
          case rel =>
            refine ⟨k + 1, by omega, by go_num, by rw [HS.out, HC.out]; simp, ?_, hb2⟩
            rw [List.take_succ_eq_append_getElem hlt]
            exact hs.pass HC.out
    rw [List.take_of_length_le (by omega)] at hs ⊢
    obtain ⟨f1, f2, f3, f4, f5, f6⟩ := maj_facts l
    have fs := maj_some l
    rw [← HB.out] at f1 f2 f3 f4 f5 f6 fs
    rw [fs]
    have H3 := Lib.hid f3; clear f3
    have H4 := Lib.hid f4; clear f4
    have H5 := Lib.hid f5; clear f5
    clear f6 fs
    obtain ⟨s1, s2⟩ := hs.cell (c := best) (by omega) (by omega)
    obtain ⟨wo, hwo⟩ : ∃ wo : World, wo = wr := ⟨_, rfl⟩
    subst hwo
    obtain ⟨g0, hg0⟩ : ∃ g0 : Nat, g0 = gk := ⟨_, rfl⟩
    subst hg0
    have q1 : ¬ best < 0 := by omega
    have q2 : ¬ 9 < best := by omega
    have q3 : (decide (0 < best) != decide (0 < best)) = false := by simp
    go_wp2
    go_loopg [10] 9 (fun g c wi => ∃ k : Nat, k + g = 9 ∧ c = .int .i64 (k + 1) ∧ Counts wi w1.heap.size 41 l ∧ Below W.heap.size W wi)
    case atStart => exact ⟨0, by omega, rfl, hs, hb2⟩
    case round =>
      obtain ⟨j, hj, rfl, hs2, hb3⟩ := hrel
      clear s1 s2 hs hb2
      by_cases hj9 : j < 9
      · obtain ⟨s1, s2⟩ := hs2.cell (c := best) (by omega) (by omega)
        obtain ⟨s3, s4⟩ := hs2.cell (c := (j : Int) + 1) (by omega) (by omega)
        have hcj : cntT l ((j : Int) + 1) = cnt l ((j : Int) + 1) := cntT_pos (by simp [isC]; omega)
        have d1 : decide (cntT l best < cntT l ((j : Int) + 1)) = false := by
          rw [hcj]
          by_cases hb0 : 1 ≤ best
          · have := H4.out ((j : Int) + 1) (by omega) (by omega) hb0
            rw [cntT_pos (c := best) (by simp [isC]; omega)]
            simp; omega
          · have := H3.out (by omega) ((j : Int) + 1) (by omega) (by omega)
            have := cntT_nonneg l best
            simp; omega
        have t0 : (0 : Int) ≤ (j : Int) + 1 := by omega
        have t1 : (j : Int) + 1 < 10 := by omega
        have t5 : ((j : Int) + 1).toNat = j + 1 := by omega
        rw [t5] at s3 s4
        clear hcj
        clear ho
        by_cases hcb : (j : Int) + 1 < best
        · have d2 : decide ((j : Int) + 1 < best) = true := by simpa using hcb
          have d3 : (cntT l ((j : Int) + 1) == cntT l best) = false := by
            rw [cntT_pos (c := best) (by simp [isC]; omega), cntT_pos (c := (j : Int) + 1) (by simp [isC]; omega)]
            have := H5.out ((j : Int) + 1) (by omega) hcb
            simp; omega
          go_wp2_with (go_quiet (fail))
          go_roundg (9 - (j + 1))
          case measure => omega
          case rel => exact ⟨j + 1, by omega, by go_num, hs2, bl_drewN hb3 _⟩
        · have d2 : decide ((j : Int) + 1 < best) = false := by simpa using hcb
          go_wp2_with (go_quiet (fail))
          go_roundg (9 - (j + 1))
          case measure => omega
          case rel => exact ⟨j + 1, by omega, by go_num, hs2, bl_drewN hb3 _⟩
      · have hlW := hl.keep (fun k hk => hk) (.of_below hb3)
        have hb3' := hb3.size
        go_wp2
        clear ho
        have hcap : (t : Int) ≤ (cap : Int) := by omega
        have ht0 : (0 : Int) ≤ (t : Int) := by omega
        have hB : W.heap.size ≤ wr.heap.size := hb3'
        have o0 : OwnSl tInt 3 W.heap.size (wr.alloc (.cells #[] 3)) (.slice (some ⟨wr.heap.size, 0, none⟩) 0 0) [] := OwnSl.lit (css := []) rfl trivial hB (by decide)
        have hd : SlIs tInt (· < W.heap.size) wr (.slice (if cap = t then ao else Option.map (fun x => x.add t) ao) (l.length - t) (cap - t)) (l.drop t) := SlIs.drop hlW (by omega) (by simp [tInt])
        have hk : SlIs tInt (· < W.heap.size) wr (.slice ao t cap) (l.take t) := SlIs.take hlW (by omega)
        have l1 : ([] : List Int).length + (l.drop t).length ≤ 100 := by rw [List.length_drop, List.length_nil]; omega
        have l2 : ([] ++ l.drop t).length + (l.take t).length ≤ 100 := by rw [List.nil_append, List.length_drop, List.length_take]; omega
        have m1 : ([] : List Int).length + (l.drop t).length ≤ maxLen := Nat.le_trans l1 (by decide)
        have m2 : ([] ++ l.drop t).length + (l.take t).length ≤ maxLen := Nat.le_trans l2 (by decide)
        have HD := Lib.hid hd
        have HK := Lib.hid hk
        have HO := Lib.hid o0
        have L1 := Lib.hid l1
        have L2 := Lib.hid l2
        have M1 := Lib.hid m1
        have M2 := Lib.hid m2
        clear hd hk o0 l1 l2 m1 m2 hl hlW
        have hB2 : W.heap.size ≤ (wr.alloc (.cells #[] 3)).drew.heap.size := by show W.heap.size ≤ (wr.alloc _).heap.size; simp; omega
        go_region_law (first
          | (refine step_append_old (.tmp 86) (.tmp 89) rfl 38 rfl slInt rfl HO.out.drew rfl (HD.out.keep (fun k hk => hk) (fun k hk => Below.heap_alloc _ _ _ (Nat.lt_of_lt_of_le hk hB))) (small_bytes L1.out (by decide)) M1.out hB2 ?_
             intro v1 wa oa ga ba
             have sa : SameOn (fun k => k < W.heap.size) wr wa := fun k hk => (ba.block k hk).trans (Below.heap_alloc _ _ _ (Nat.lt_of_lt_of_le hk hB))
             have hBa : W.heap.size ≤ wa.heap.size := Nat.le_trans hB2 ba.size)
          | (refine step_append_old (.tmp 90) (.tmp 93) rfl 38 rfl slInt rfl (by assumption) rfl (HK.out.keep (fun k hk => hk) (by assumption)) (small_bytes L2.out (by decide)) M2.out (by assumption) ?_
             intro v2 wb ob gb bb))
        clear ga gb
        rw [List.nil_append] at ob
        have b1 : Below W.heap.size W wb := ((((hb3.alloc hb3' _).drew).trans ba).trans bb)
        by_cases hct : cap = t
        all_goals
          go_wp2_with (fail)
          refine (maj_any _ _ _ ob.sl).mono ?_
          rintro e w2 ⟨rfl, hb5⟩
          rw [maj_turn, ← HB.out]
          have b2 := bl_trans b1 hb5
          clear b1 hb5 ob oa
          go_wp2_with (fail)
          refine (awake_any _).mono ?_
          rintro e w3 ⟨rfl, hb6⟩
          go_wp2
          go_ret
          exact ⟨rfl, bl_trans b2 hb6⟩
set_option maxRecDepth 100000 in
theorem votes_lift (os : Os) (started : os.Started) (H : Type) (enc : TypeId × Value → H) :
    ReturnsInHanded {} Try.checked os 8 .any (Rows.classVotesSpec.pre6 enc Try.prog Try.f8 Rows.classVotesRow.domain false) (Rows.classVotesSpec.post enc Try.prog Try.f8 false true false false) :=
  law_lift (C := Try.checked) (s := Rows.classVotesSpec) (fn := Try.f8) ⟨rfl, fun H ds h => by
    match ds, h with
    | [a, b], _ => exact ⟨rfl, rfl, rfl⟩⟩ rfl Try.underlying4 (by kernel_rfl) laid0 own0 started (by kernel_rfl) Try.func8
    (ChangeSpec.witness6 (enc := enc) (C := Try.checked) false ⟨#[], #[.slice none 0 0, .int .i64 0], []⟩ 8 (by kernel_rfl) (by kernel_rfl) (by kernel_rfl) (by kernel_rfl)) votes_walk

/-- THE STATEMENT: ClassVotes. -/
theorem votes_holds : Rows.ClassVotesSaid :=
  OpenClaim.holds_of_wide 8 Try.f8 rfl rfl rfl rfl rfl rfl rfl ⟨rfl, rfl, rfl, rfl, rfl⟩ rfl rfl rfl rfl rfl (by kernel_rfl) Try.func8 (by kernel_rfl)
    (of_decide_eq_true (by kernel_rfl)) (by unfold Func.isWrapper; rw [if_neg (of_decide_eq_false (by kernel_rfl))]; exact ⟨rfl, rfl⟩)
    (fun os started H enc _ => votes_lift os started H enc)
end Go.Proofs.Ytdhpcfabeapaaaa
