/-
  Layer 12 (class): THE STATEMENT ClassPartition: valid rules partition the numbers of axles. No condition.
-/
import Derived.Test.YtdhpcfabeapaaaaClassLaws
namespace Go.Tw.Class
open Go.RowKit

/-- the class c covers ax -/
def hit (l : List Rule) (ax c : Int) : Bool := (rangeC c l).2.2 && decide ((rangeC c l).1 ≤ ax) && decide (ax ≤ (rangeC c l).2.1)

theorem chk_valid : ∀ {rest done : List Rule}, chk done rest = 0 →
    (∀ r ∈ rest, isC r.c = true ∧ r.f ≤ r.t ∧ (∀ p ∈ done, p.c ≠ r.c) ∧ ∀ p, done.getLast? = some p → p.t < r.f) ∧ rest.Pairwise fun a b => a.t < b.f ∧ a.c ≠ b.c
  | [], _, _ => ⟨fun _ h => absurd h (List.not_mem_nil), List.Pairwise.nil⟩
  | r :: rest, done, h => by
    rw [chk] at h
    by_cases q1 : bad1 r = true
    · rw [if_pos q1] at h; cases h
    rw [if_neg q1] at h
    by_cases q2 : isC r.c = false
    · rw [if_pos q2] at h; cases h
    rw [if_neg q2] at h
    have key : (∀ p, done.getLast? = some p → p.t < r.f) ∧ (if (done.any fun p => p.c == r.c) = true then 9 else chk (done ++ [r]) rest) = 0 := by
      cases hlast : done.getLast? with
      | none =>
        rw [hlast] at h
        simp only [Bool.false_eq_true, if_false] at h
        exact ⟨fun p hp => (by cases hp), h⟩
      | some p =>
        rw [hlast] at h
        simp only [decide_eq_true_eq] at h
        by_cases q : r.f ≤ p.t
        · rw [if_pos q] at h; cases h
        · rw [if_neg q] at h
          exact ⟨fun p' hp => (by cases hp; omega), h⟩
    obtain ⟨hlast, h⟩ := key
    by_cases q4 : (done.any fun p => p.c == r.c) = true
    · rw [if_pos q4] at h; cases h
    rw [if_neg q4] at h
    obtain ⟨g1, g2⟩ := chk_valid h
    have hr : r.f ≤ r.t := by simp [bad1] at q1; omega
    have hdone : ∀ p ∈ done, p.c ≠ r.c := by simpa using q4
    refine ⟨fun x hx => ?_, List.Pairwise.cons (fun x hx => ?_) g2⟩
    · rcases List.mem_cons.1 hx with rfl | hx
      · exact ⟨by simpa using q2, hr, hdone, hlast⟩
      · obtain ⟨a1, a2, a3, a4⟩ := g1 x hx
        refine ⟨a1, a2, fun p hp => a3 p (by simp [hp]), fun p hp => ?_⟩
        have := a4 r (by simp)
        have := hlast p hp
        omega
    · obtain ⟨a1, a2, a3, a4⟩ := g1 x hx
      exact ⟨a4 r (by simp), a3 r (by simp)⟩

theorem rangeC_mem {c : Int} : ∀ {l : List Rule}, (rangeC c l).2.2 = true → ∃ r ∈ l, r.c = c ∧ rangeC c l = (r.f, r.t, true)
  | [], h => by cases h
  | r :: rest, h => by
    rw [rangeC] at h ⊢
    by_cases e : r.c = c
    · rw [if_pos e]; exact ⟨r, by simp, e, rfl⟩
    · rw [if_neg e] at h ⊢
      obtain ⟨x, hx, h1, h2⟩ := rangeC_mem h
      exact ⟨x, by simp [hx], h1, h2⟩
theorem ofC_mem {ax : Int} : ∀ {l : List Rule}, (ofC ax l).2 = 0 → ∃ r ∈ l, r.f ≤ ax ∧ ax ≤ r.t ∧ ofC ax l = (r.c, 0)
  | [], h => by cases h
  | r :: rest, h => by
    rw [ofC] at h ⊢
    by_cases e : r.f ≤ ax ∧ ax ≤ r.t
    · rw [if_pos e]; exact ⟨r, by simp, e.1, e.2, rfl⟩
    · rw [if_neg e] at h ⊢
      obtain ⟨x, hx, h1⟩ := ofC_mem h
      exact ⟨x, by simp [hx], h1⟩
theorem ofC_two {ax : Int} : ∀ (l : List Rule), (ofC ax l).2 = 0 ∨ (ofC ax l).2 = 20
  | [] => .inr rfl
  | r :: rest => by
    rw [ofC]
    split
    · exact .inl rfl
    · exact ofC_two rest

theorem hit_iff {ax c : Int} : ∀ {l : List Rule}, (∀ r ∈ l, r.f ≤ r.t) → l.Pairwise (fun a b => a.t < b.f ∧ a.c ≠ b.c) → (hit l ax c = true ↔ (ofC ax l).2 = 0 ∧ (ofC ax l).1 = c)
  | [], _, _ => by simp [hit, rangeC, ofC]
  | r :: rest, h1, h2 => by
    obtain ⟨p1, p2⟩ := List.pairwise_cons.1 h2
    have ih := hit_iff (ax := ax) (c := c) (fun x hx => h1 x (by simp [hx])) p2
    by_cases e : r.f ≤ ax ∧ ax ≤ r.t
    · rw [ofC, if_pos e]
      by_cases ec : r.c = c
      · simp [hit, rangeC, ec, e]
      · simp only [hit, rangeC, if_neg ec]
        simp only [ec, and_false, iff_false, Bool.and_eq_true, not_and, decide_eq_true_eq, and_imp]
        intro a1 a2
        obtain ⟨x, hx, _, g2⟩ := rangeC_mem a1
        have := p1 x hx
        rw [g2] at a2 ⊢
        simp only at a2 ⊢
        omega
    · rw [ofC, if_neg e]
      by_cases ec : r.c = c
      · have e2 : hit (r :: rest) ax c = false := by
          simp only [hit, rangeC, if_pos ec]
          simp; omega
        rw [e2]
        simp only [Bool.false_eq_true, false_iff, not_and]
        intro a1 a2
        obtain ⟨x, hx, _, _, g⟩ := ofC_mem a1
        have := p1 x hx
        rw [g] at a2
        simp only at a2
        exact this.2 (by rw [ec, a2])
      · rw [← ih]
        simp [hit, rangeC, if_neg ec]

/-- how many classes up to c cover ax -/
def hits (l : List Rule) (ax : Int) : Nat → Int
  | 0 => 0
  | c + 1 => hits l ax c + if hit l ax (c + 1) then 1 else 0
theorem valid_hits {l : List Rule} (hv : chkAll l = 0) (ax : Int) : ∀ n : Nat, hits l ax n = if (ofC ax l).2 = 0 ∧ 1 ≤ (ofC ax l).1 ∧ (ofC ax l).1 ≤ n then 1 else 0 := by
  have hc : chk [] l = 0 := by
    unfold chkAll at hv
    split at hv
    · cases hv
    · exact hv
  obtain ⟨v1, v2⟩ := chk_valid hc
  intro n
  induction n with
  | zero => rw [hits, if_neg (by omega)]
  | succ n ih =>
    rw [hits, ih]
    have := hit_iff (ax := ax) (c := (n : Int) + 1) (fun r hr => (v1 r hr).2.1) v2
    by_cases h : hit l ax ((n : Int) + 1) = true
    · have g := this.1 h
      rw [if_pos h, if_neg (by omega), if_pos (by omega)]; rfl
    · rw [if_neg h]
      have g : ¬ ((ofC ax l).2 = 0 ∧ (ofC ax l).1 = (n : Int) + 1) := fun hh => h (this.2 hh)
      by_cases k : (ofC ax l).2 = 0 ∧ 1 ≤ (ofC ax l).1 ∧ (ofC ax l).1 ≤ n
      · rw [if_pos k, if_pos (by omega)]; rfl
      · rw [if_neg k, if_neg (by omega)]; rfl
theorem valid_hit {l : List Rule} (hv : chkAll l = 0) (ax c : Int) : hit l ax c = true ↔ (ofC ax l).2 = 0 ∧ (ofC ax l).1 = c := by
  have hc : chk [] l = 0 := by
    unfold chkAll at hv
    split at hv
    · cases hv
    · exact hv
  obtain ⟨v1, v2⟩ := chk_valid hc
  exact hit_iff (fun r hr => (v1 r hr).2.1) v2
theorem valid_class {l : List Rule} (hv : chkAll l = 0) (ax : Int) (h : (ofC ax l).2 = 0) : 1 ≤ (ofC ax l).1 ∧ (ofC ax l).1 ≤ 9 := by
  have hc : chk [] l = 0 := by
    unfold chkAll at hv
    split at hv
    · cases hv
    · exact hv
  obtain ⟨v1, v2⟩ := chk_valid hc
  obtain ⟨r, hr, _, _, g⟩ := ofC_mem h
  have := (v1 r hr).1
  rw [g]
  simpa [isC] using this
end Go.Tw.Class
namespace Go.Proofs.Ytdhpcfabeapaaaa
open Go.RowKit Go.Tw Go.Tw.Class Go.ChangeShapes Go.WideShapes

set_option maxRecDepth 100000 in
set_option maxHeartbeats 1000000 in
theorem part_walk : LawWalk Try.prog 7 Try.f7 := by
  intro H enc W base args ds ps hval hA hsz
  rw [Try.params7] at hA hval
  obtain ⟨v0, d0, rfl, rfl, h0⟩ := trodAll_one hA
  obtain ⟨l, hl⟩ := arg_slice Try.underlying22 opensRules (hval 0 _ _ rfl rfl) h0
  clear hA hval h0 hsz
  obtain ⟨ao, cap, b, off, rfl, hlc, hm, -⟩ := rule_open hl
  unfold maxLen at hm
  by_cases hg : 30 < l.length
  · go_enter Try.func7, Try.ntmps7
    go_wp2_with (go_at_call 9; refine (awake_any _).mono ?_; rintro e w1 ⟨rfl, hb1⟩)
    go_ret
    exact ⟨rfl, ‹_›⟩
  by_cases hv : chkAll l = 0
  case neg =>
    have hv' : (chkAll l != 0) = true := by simpa using hv
    clear hv
    go_enter Try.func7, Try.ntmps7
    go_wp2_with (fail)
    refine (check_any _ _ _ hl).mono ?_
    rintro e w1 ⟨rfl, hb1⟩
    clear hl
    go_wp2_with (fail)
    refine (awake_any _).mono ?_
    rintro e w2 ⟨rfl, hb2⟩
    go_wp2
    go_ret
    exact ⟨rfl, bl_trans hb1 hb2⟩
  go_enter Try.func7, Try.ntmps7
  go_wp2_with (fail)
  refine (check_any _ _ _ hl).mono ?_
  rintro e w1 ⟨rfl, hb1⟩
  rw [hv]
  have HV := Lib.hid hv; clear hv
  go_wp2_with (fail)
  go_loopg [3] 22 (fun g i wr => ∃ j : Nat, j + g = 22 ∧ i = .int .i64 j ∧ Below W.heap.size W wr)
  case atStart => exact ⟨0, by omega, rfl, hb1⟩
  case round =>
    obtain ⟨j, hj, rfl, hb2⟩ := hrel
    clear hb1
    by_cases hj22 : j < 22
    case neg =>
      go_wp2_with (fail)
      refine (awake_any _).mono ?_
      rintro e w2 ⟨rfl, hb3⟩
      go_wp2
      go_ret
      exact ⟨rfl, bl_trans hb2 hb3⟩
    have hl2 := hl.step hb2
    have hvh := valid_hits HV.out j
    have hvc := valid_class HV.out j
    have hvt := valid_hit HV.out j
    have hv2 := ofC_two (ax := j) l
    obtain ⟨n, hn⟩ : ∃ n, n = (ofC (j : Int) l).1 := ⟨_, rfl⟩
    obtain ⟨e, he⟩ : ∃ e, e = (ofC (j : Int) l).2 := ⟨_, rfl⟩
    rw [← hn, ← he] at hvh
    rw [← hn, ← he] at hvc
    rw [← hn, ← he] at hvt
    rw [← he] at hv2
    have HH := Lib.hid hvh; clear hvh
    have HC := Lib.hid hvc; clear hvc
    have HT := Lib.hid hvt; clear hvt
    have H2 := Lib.hid hv2; clear hv2
    go_wp2_with (fail)
    refine (of_any _ _ _ _ hl2).mono ?_
    rintro e' w2 ⟨rfl, hb3⟩
    rw [← hn, ← he]
    clear hn he hl2
    have hb4 := bl_trans hb2 hb3
    clear hb2 hb3
    go_wp2_with (fail)
    obtain ⟨g0, hg0⟩ : ∃ g0 : Nat, g0 = gk := ⟨_, rfl⟩
    subst hg0
    clear wr
    go_loopg [6, 7] 9 (fun g i c wi => ∃ k : Nat, k + g = 9 ∧ c = .int .i64 (k + 1) ∧ i = .int .i64 (hits l j k) ∧ Below W.heap.size W wi)
    case atStart => exact ⟨0, by omega, rfl, rfl, hb4⟩
    case round =>
      obtain ⟨k, hk, rfl, rfl, hb5⟩ := hrel
      clear hb4
      have hb01 : 0 ≤ hits l j k ∧ hits l j k ≤ 1 := by rw [HH.out]; split <;> omega
      obtain ⟨i0, i1⟩ := hb01
      by_cases hk9 : k < 9
      case neg =>
        obtain rfl : k = 9 := by omega
        have hx : (e = 0 ∧ hits l j 9 = 1) ∨ (e = 20 ∧ hits l j 9 = 0) := by
          rw [HH.out]
          rcases H2.out with h | h
          · have := HC.out h
            left; exact ⟨h, by rw [if_pos (by omega)]⟩
          · right; exact ⟨h, by rw [if_neg (by omega)]⟩
        have q0 : decide (1 < hits l j 9) = false := by simp; omega
        rcases hx with ⟨x1, x2⟩ | ⟨x1, x2⟩
        all_goals
          subst x1
          rw [x2]
          clear x2 q0 i0 i1
          go_wp2
          go_roundg (22 - (j + 1))
          case measure => omega
          case rel => exact ⟨j + 1, by omega, by go_num, hb5⟩
      have hl3 := hl.step hb5
      have hs : hits l j (k + 1) = hits l j k + if hit l j (k + 1) then 1 else 0 := rfl
      have ht := HT.out (k + 1)
      obtain ⟨r, hr⟩ : ∃ r, r = rangeC ((k : Int) + 1) l := ⟨_, rfl⟩
      unfold hit at hs ht
      rw [← hr] at hs
      rw [← hr] at ht
      go_wp2_with (fail)
      refine (range_any _ _ _ _ hl3).mono ?_
      rintro e' w3 ⟨rfl, hb6⟩
      rw [← hr]
      clear hr hl3
      have hb7 := bl_trans hb5 hb6
      clear hb5 hb6
      obtain ⟨f, t, ok⟩ := r
      simp only at hs ht ⊢
      cases ok
      case false =>
        have hno : ¬ (e = 0 ∧ n = (k : Int) + 1) := fun hh => absurd (ht.2 hh) (by simp)
        have hsk : hits l j (k + 1) = hits l j k := by rw [hs, if_neg (by simp)]; omega
        clear hs ht
        rcases H2.out with rfl | rfl
        · have hn0 : (n == (k : Int) + 1) = false := by simp; omega
          clear hno
          have HS := Lib.hid hsk; clear hsk
          go_wp2
          go_roundg (9 - (k + 1))
          case measure => omega
          case rel => exact ⟨k + 1, by omega, by go_num, by rw [HS.out], hb7⟩
        · clear hno
          have HS := Lib.hid hsk; clear hsk
          go_wp2
          go_roundg (9 - (k + 1))
          case measure => omega
          case rel => exact ⟨k + 1, by omega, by go_num, by rw [HS.out], hb7⟩
      by_cases q1 : (j : Int) < f
      case pos =>
        have hno : ¬ (e = 0 ∧ n = (k : Int) + 1) := fun hh => absurd (ht.2 hh) (by simp; omega)
        have hsk : hits l j (k + 1) = hits l j k := by rw [hs, if_neg (by simp; omega)]; omega
        clear hs ht
        rcases H2.out with rfl | rfl
        · have hn0 : (n == (k : Int) + 1) = false := by simp; omega
          clear hno
          have HS := Lib.hid hsk; clear hsk
          go_wp2
          go_roundg (9 - (k + 1))
          case measure => omega
          case rel => exact ⟨k + 1, by omega, by go_num, by rw [HS.out], hb7⟩
        · clear hno
          have HS := Lib.hid hsk; clear hsk
          go_wp2
          go_roundg (9 - (k + 1))
          case measure => omega
          case rel => exact ⟨k + 1, by omega, by go_num, by rw [HS.out], hb7⟩
      by_cases q2 : t < (j : Int)
      case pos =>
        have hno : ¬ (e = 0 ∧ n = (k : Int) + 1) := fun hh => absurd (ht.2 hh) (by simp; omega)
        have hsk : hits l j (k + 1) = hits l j k := by rw [hs, if_neg (by simp; omega)]; omega
        clear hs ht
        rcases H2.out with rfl | rfl
        · have hn0 : (n == (k : Int) + 1) = false := by simp; omega
          clear hno
          have HS := Lib.hid hsk; clear hsk
          go_wp2
          go_roundg (9 - (k + 1))
          case measure => omega
          case rel => exact ⟨k + 1, by omega, by go_num, by rw [HS.out], hb7⟩
        · clear hno
          have HS := Lib.hid hsk; clear hsk
          go_wp2
          go_roundg (9 - (k + 1))
          case measure => omega
          case rel => exact ⟨k + 1, by omega, by go_num, by rw [HS.out], hb7⟩
      have hy : (true && decide (f ≤ (j : Int)) && decide ((j : Int) ≤ t)) = true := by simp; omega
      obtain ⟨rfl, rfl⟩ := ht.1 hy
      have hsk : hits l j (k + 1) = hits l j k + 1 := by rw [hs, if_pos hy]
      clear hs ht hy
      have HS := Lib.hid hsk; clear hsk
      go_wp2
      go_roundg (9 - (k + 1))
      case measure => omega
      case rel => exact ⟨k + 1, by omega, by go_num, by rw [HS.out], hb7⟩
set_option maxRecDepth 100000 in
theorem part_lift (os : Os) (started : os.Started) (H : Type) (enc : TypeId × Value → H) :
    ReturnsInHanded {} Try.checked os 7 .any (Rows.classPartitionSpec.pre6 enc Try.prog Try.f7 Rows.classPartitionRow.domain false) (Rows.classPartitionSpec.post enc Try.prog Try.f7 false true false false) :=
  law_lift (C := Try.checked) (s := Rows.classPartitionSpec) (fn := Try.f7) ⟨rfl, fun H ds h => by
    match ds, h with
    | [a], _ => exact ⟨rfl, rfl, rfl⟩⟩ rfl Try.underlying4 (by kernel_rfl) laid0 own0 started (by kernel_rfl) Try.func7
    (ChangeSpec.witness6 (enc := enc) (C := Try.checked) false ⟨#[], #[.slice none 0 0], []⟩ 8 (by kernel_rfl) (by kernel_rfl) (by kernel_rfl) (by kernel_rfl)) part_walk

/-- THE STATEMENT: ClassPartition. -/
theorem part_holds : Rows.ClassPartitionSaid :=
  OpenClaim.holds_of_wide 7 Try.f7 rfl rfl rfl rfl rfl rfl rfl ⟨rfl, rfl, rfl, rfl, rfl⟩ rfl rfl rfl rfl rfl (by kernel_rfl) Try.func7 (by kernel_rfl)
    (of_decide_eq_true (by kernel_rfl)) (by unfold Func.isWrapper; rw [if_neg (of_decide_eq_false (by kernel_rfl))]; exact ⟨rfl, rfl⟩)
    (fun os started H enc _ => part_lift os started H enc)
end Go.Proofs.Ytdhpcfabeapaaaa
