/-
  Layer 6 (match) in plain Lean: all assignments, in their order; which of them a demand leaves.
-/
import Derived.Test.YtepceaoccnmkiaaMatchGreedyP
import Derived.Test.YtepceaoccnmkiaaMatchTotP
namespace Go.Tw.Match
open Go.RowKit

/-! ### The order -/
/-- j comes before k -/
def prec (j k : Int) : Bool := decide (0 ≤ j) && (decide (k < 0) || decide (j < k))
theorem choices_prec (c : Nat) : (choices c).Pairwise (fun j k => prec j k = true) := by
  unfold choices cols
  rw [List.pairwise_append]
  refine ⟨?_, by simp, fun a ha b hb => ?_⟩
  · rw [List.pairwise_map]
    refine (List.pairwise_lt_range (n := c)).imp fun {a b} h => ?_
    unfold prec
    simp
    omega
  · obtain ⟨k, -, rfl⟩ := List.mem_map.1 ha
    rw [List.mem_singleton] at hb
    subst hb
    unfold prec
    simp
theorem befC_self : ∀ a : List Int, befC a a = false
  | [] => rfl
  | x :: a => by rw [befC, if_pos rfl, befC_self a]
theorem befC_asymm : ∀ {a b : List Int}, befC a b = true → befC b a = false
  | [], _, h => by simp [befC] at h
  | _ :: _, [], h => by simp [befC] at h
  | x :: a, y :: b, h => by
    rw [befC] at h ⊢
    by_cases e : x = y
    · subst e
      rw [if_pos rfl] at h ⊢
      exact befC_asymm h
    · rw [if_neg e] at h
      rw [if_neg (fun q => e q.symm)]
      simp at h ⊢
      omega
theorem befC_trans : ∀ {a b c : List Int}, befC a b = true → befC b c = true → befC a c = true
  | [], _, _, h, _ => by simp [befC] at h
  | _ :: _, [], _, h, _ => by simp [befC] at h
  | _ :: _, _ :: _, [], _, h => by simp [befC] at h
  | x :: a, y :: b, z :: c, h, h2 => by
    rw [befC] at h h2 ⊢
    by_cases e : x = y
    · subst e
      rw [if_pos rfl] at h
      by_cases e2 : x = z
      · rw [if_pos e2] at h2 ⊢
        exact befC_trans h h2
      · rw [if_neg e2] at h2 ⊢
        exact h2
    · rw [if_neg e] at h
      by_cases e2 : y = z
      · subst e2
        rw [if_neg e]
        exact h
      · rw [if_neg e2] at h2
        simp at h h2
        rw [if_neg (by omega)]
        simp
        omega
theorem befC_total : ∀ {a b : List Int}, a.length = b.length → (∀ x ∈ a, -1 ≤ x) → (∀ x ∈ b, -1 ≤ x) → a = b ∨ befC a b = true ∨ befC b a = true
  | [], [], _, _, _ => .inl rfl
  | [], _ :: _, h, _, _ => by simp at h
  | _ :: _, [], h, _, _ => by simp at h
  | x :: a, y :: b, h, ha, hb => by
    rw [befC, befC]
    by_cases e : x = y
    · subst e
      rw [if_pos rfl, if_pos rfl]
      rcases befC_total (a := a) (b := b) (by simpa using h) (fun z hz => ha z (by simp [hz])) (fun z hz => hb z (by simp [hz])) with q | q | q
      · exact .inl (by rw [q])
      · exact .inr (.inl q)
      · exact .inr (.inr q)
    · rw [if_neg e, if_neg (fun q => e q.symm)]
      have h1 := ha x (by simp)
      have h2 := hb y (by simp)
      right
      simp
      omega

/-! ### All assignments -/
def opn (n : Nat) : List Int := List.replicate n (-2)
theorem okF_opn {n i : Nat} (h : i < n) (j : Int) : okF (opn n) i j = true := by
  unfold okF opn
  rw [List.getD_eq_getElem?_getD, List.getElem?_replicate, if_pos h]
  simp
/-- a list that keeps to the demands from row i on -/
def fits (F : List Int) : Nat → List Int → Bool
  | _, [] => true
  | i, j :: r => okF F i j && fits F (i + 1) r
theorem filter_cons_map {α : Type} (p : List α → Bool) (x : α) (l : List (List α)) : (l.map (x :: ·)).filter p = (l.filter (fun r => p (x :: r))).map (x :: ·) := by
  rw [List.filter_map]; rfl
theorem comps_filter (m : Mat) (F : List Int) {n : Nat} : ∀ (k i mask : Nat), i + k ≤ n → comps m F k i mask = (comps m (opn n) k i mask).filter (fits F i)
  | 0, i, mask, _ => by rw [comps, comps]; rfl
  | k + 1, i, mask, h => by
    rw [comps, comps, List.filter_flatMap]
    congr 1
    funext j
    have ih := comps_filter m F (n := n) k (i + 1) (nxt mask j) (by omega)
    unfold ok
    rw [okF_opn (by omega) j, Bool.true_and]
    by_cases q : okJ m i j mask = true
    · rw [if_pos q, filter_cons_map]
      by_cases p : okF F i j = true
      · rw [if_pos (by rw [p, q]; rfl), ih]
        congr 1
        congr 1
        funext r
        rw [fits, p, Bool.true_and]
      · have p' : okF F i j = false := by simpa using p
        rw [if_neg (by rw [p']; simp)]
        have : (comps m (opn n) k (i + 1) (nxt mask j)).filter (fun r => fits F i (j :: r)) = [] := by
          rw [List.filter_eq_nil_iff]
          intro r _
          rw [fits, p']
          simp
        rw [this]; rfl
    · rw [if_neg q, if_neg (by simp [q])]; rfl
theorem comps_sorted (m : Mat) (F : List Int) : ∀ (k i mask : Nat), (comps m F k i mask).Pairwise (fun a b => befC a b = true)
  | 0, i, mask => by simp [comps]
  | k + 1, i, mask => by
    rw [comps, List.pairwise_flatMap]
    constructor
    · intro j _
      split
      · rw [List.pairwise_map]
        refine (comps_sorted m F k (i + 1) (nxt mask j)).imp fun {a b} h => ?_
        rw [befC, if_pos rfl]; exact h
      · exact List.Pairwise.nil
    · refine (choices_prec m.col.length).imp fun {j k'} h a ha b hb => ?_
      split at ha
      · split at hb
        · obtain ⟨a', -, rfl⟩ := List.mem_map.1 ha
          obtain ⟨b', -, rfl⟩ := List.mem_map.1 hb
          rw [befC]
          unfold prec at h
          have hne : ¬ j = k' := by
            intro e; subst e; simp at h; omega
          rw [if_neg hne]; exact h
        · cases hb
      · cases ha
/-- from row i on, with these columns used -/
def chain (m : Mat) : Nat → Nat → List Int → Prop
  | _, _, [] => True
  | i, mask, j :: r => j ∈ choices m.col.length ∧ okJ m i j mask = true ∧ chain m (i + 1) (nxt mask j) r
theorem mem_comps (m : Mat) {n : Nat} : ∀ (k i mask : Nat) (a : List Int), i + k ≤ n → (a ∈ comps m (opn n) k i mask ↔ a.length = k ∧ chain m i mask a)
  | 0, i, mask, a, _ => by
    simp only [comps, List.mem_singleton]
    constructor
    · rintro rfl; exact ⟨rfl, trivial⟩
    · rintro ⟨h, -⟩; exact List.eq_nil_of_length_eq_zero h
  | k + 1, i, mask, a, h => by
    rw [comps, List.mem_flatMap]
    constructor
    · rintro ⟨j, hj, ha⟩
      split at ha
      · rename_i hok
        obtain ⟨r, hr, rfl⟩ := List.mem_map.1 ha
        obtain ⟨h1, h2⟩ := (mem_comps m k (i + 1) (nxt mask j) r (by omega)).1 hr
        unfold ok at hok
        simp only [Bool.and_eq_true] at hok
        exact ⟨by simp [h1], hj, hok.2, h2⟩
      · cases ha
    · rintro ⟨hl, hc⟩
      match a, hl, hc with
      | j :: r, hl, ⟨hj, hok, hc⟩ =>
        refine ⟨j, hj, ?_⟩
        rw [if_pos (by unfold ok; rw [okF_opn (by omega), hok]; rfl)]
        exact List.mem_map.2 ⟨r, (mem_comps m k (i + 1) (nxt mask j) r (by omega)).2 ⟨by simpa using hl, hc⟩, rfl⟩
/-- the columns that a list uses -/
def msk : Nat → List Int → Nat
  | mask, [] => mask
  | mask, j :: r => msk (nxt mask j) r
theorem msk_bit : ∀ (a : List Int) (mask k : Nat), (msk mask a).testBit k = (mask.testBit k || decide ((k : Int) ∈ a))
  | [], mask, k => by simp [msk]
  | j :: a, mask, k => by
    rw [msk, msk_bit a, nxt_bit, Bool.eq_iff_iff]
    simp [or_assoc]
theorem cst_eq (m : Mat) : ∀ (a : List Int) (i mask : Nat), cst m i mask a = rowsum m i a + fin m (msk mask a)
  | [], i, mask => by simp [cst, rowsum, msk]
  | j :: a, i, mask => by rw [cst, rowsum, msk, cst_eq m a]; omega
theorem cst_costA (m : Mat) (a : List Int) : cst m 0 0 a = costA m a := by
  rw [cst_eq]
  unfold costA fin
  congr 1
  refine freeS_congr _ _ fun k _ _ => ?_
  rw [msk_bit]
  unfold used
  simp
theorem chain_iff (m : Mat) : ∀ (a : List Int) (i mask : Nat), chain m i mask a ↔ (∀ j ∈ a, j ∈ choices m.col.length) ∧ (∀ j ∈ a, 0 ≤ j → mask.testBit j.toNat = false) ∧ (∀ s t (hs : s < a.length) (ht : t < a.length), s < t → 0 ≤ a[t] → a[s] ≠ a[t]) ∧ (∀ s (hs : s < a.length), 0 ≤ a[s] → 0 ≤ price m (i + s) a[s])
  | [], i, mask => by simp [chain]
  | j :: a, i, mask => by
    have ih := chain_iff m a (i + 1) (nxt mask j)
    rw [chain, ih]
    have hokJ : okJ m i j mask = true ↔ (0 ≤ j → mask.testBit j.toNat = false ∧ 0 ≤ price m i j) := by
      unfold okJ
      by_cases q : j < 0
      · simp [q]; intro h; omega
      · have : 0 ≤ j := by omega
        simp [q, this]
    rw [hokJ]
    constructor
    · rintro ⟨h1, h2, h3, h4, h5, h6⟩
      refine ⟨fun x hx => ?_, fun x hx h0 => ?_, fun s t hs ht hst h0 => ?_, fun s hs h0 => ?_⟩
      · rcases List.mem_cons.1 hx with rfl | hx
        · exact h1
        · exact h3 x hx
      · rcases List.mem_cons.1 hx with rfl | hx
        · exact (h2 h0).1
        · have := h4 x hx h0
          rw [nxt_bit] at this
          simp at this
          exact this.1
      · match s, t, hst with
        | 0, t + 1, _ =>
          simp only [List.getElem_cons_zero, List.getElem_cons_succ] at h0 ⊢
          have hm : a[t]'(by simpa using ht) ∈ a := List.getElem_mem _
          have := h4 _ hm h0
          rw [nxt_bit] at this
          simp at this
          intro e
          omega
        | s + 1, t + 1, hst =>
          simp only [List.getElem_cons_succ] at h0 ⊢
          exact h5 s t (by simpa using hs) (by simpa using ht) (by omega) h0
      · match s with
        | 0 => exact (h2 h0).2
        | s + 1 =>
          simp only [List.getElem_cons_succ] at h0 ⊢
          have := h6 s (by simpa using hs) h0
          rwa [show i + 1 + s = i + (s + 1) by omega] at this
    · rintro ⟨h1, h2, h3, h4⟩
      refine ⟨h1 j (by simp), fun h0 => ⟨h2 j (by simp) h0, ?_⟩, fun x hx => h1 x (by simp [hx]), fun x hx h0 => ?_, fun s t hs ht hst h0 => ?_, fun s hs h0 => ?_⟩
      · have := h4 0 (by simp) (by simpa using h0)
        simpa using this
      · rw [nxt_bit, h2 x (by simp [hx]) h0]
        obtain ⟨t, ht, rfl⟩ := List.getElem_of_mem hx
        have := h3 0 (t + 1) (by simp) (by simpa using ht) (by omega) (by simpa using h0)
        simp at this
        simp
        omega
      · have := h3 (s + 1) (t + 1) (by simpa using hs) (by simpa using ht) (by omega) (by simpa using h0)
        simpa using this
      · have := h4 (s + 1) (by simpa using hs) (by simpa using h0)
        rw [show i + (s + 1) = i + 1 + s by omega] at this
        simpa using this
/-- the assignments of a matrix, in their order -/
def alls (m : Mat) : List (List Int) := comps m (opn m.row.length) m.row.length 0 0
theorem mem_alls {m : Mat} (h : Ok m) {a : List Int} : a ∈ alls m ↔ Valid m a := by
  unfold alls
  rw [mem_comps m _ _ _ _ (by omega), chain_iff]
  constructor
  · rintro ⟨hl, h1, -, h3, h4⟩
    refine ⟨hl, fun j hj => choices_mem.1 (h1 j hj), h3, fun i hi => ?_⟩
    by_cases q : 0 ≤ a[i]
    · simpa using h4 i hi q
    · exact price_none h i (by omega)
  · rintro ⟨hl, h1, h3, h4⟩
    exact ⟨hl, fun j hj => choices_mem.2 (h1 j hj), fun j hj _ => by simp, h3, fun s hs _ => by simpa using h4 s hs⟩
theorem tot_valid {m : Mat} (h : Ok m) {a : List Int} (ha : a ∈ alls m) : totC m a = (cst m 0 0 a, 0) := by
  have hv := (mem_alls h).1 ha
  unfold totC
  rw [if_neg (by rw [chk_ok.2 h]; simp), if_neg (by simp [hv.len]), if_neg (by rw [(valid_iff hv.len).2 hv]; simp), cst_costA]
theorem tot_alls {m : Mat} (h : Ok m) {a : List Int} (ha : (totC m a).2 = 0) : a ∈ alls m := by
  unfold totC at ha
  rw [if_neg (by rw [chk_ok.2 h]; simp)] at ha
  split at ha
  · exact absurd ha (by decide)
  · rename_i hl
    have hl : a.length = m.row.length := by omega
    split at ha
    · rename_i he; exact absurd ha he
    · rename_i he
      exact (mem_alls h).2 ((valid_iff hl).1 (by omega))
theorem alls_sorted (m : Mat) : (alls m).Pairwise (fun a b => befC a b = true) := comps_sorted _ _ _ _ _
theorem sorted_nodup {l : List (List Int)} (h : l.Pairwise (fun a b => befC a b = true)) : l.Nodup := h.imp fun {a b} q e => by
  subst e; rw [befC_self] at q; cases q
/-- those that keep to the demands F -/
def fitting (m : Mat) (F : List Int) : List (List Int) := (alls m).filter (fits F 0)
theorem comps_fitting (m : Mat) (F : List Int) : comps m F m.row.length 0 0 = fitting m F := comps_filter m F _ _ _ (by omega)
theorem costs_fitting (m : Mat) (F : List Int) : costs m F m.row.length 0 0 = (fitting m F).map (cst m 0 0) := by unfold costs; rw [comps_fitting]
theorem fits_opn {n : Nat} : ∀ (a : List Int) (i : Nat), i + a.length ≤ n → fits (opn n) i a = true
  | [], _, _ => rfl
  | x :: a, i, h => by rw [fits, okF_opn (by simp at h; omega), fits_opn a (i + 1) (by simp at h; omega)]; rfl
theorem alls_len {m : Mat} {a : List Int} (ha : a ∈ alls m) : a.length = m.row.length := by
  unfold alls at ha
  exact ((mem_comps m _ _ _ _ (by omega)).1 ha).1
theorem alls_ge {m : Mat} {a : List Int} (ha : a ∈ alls m) : ∀ x ∈ a, -1 ≤ x := by
  unfold alls at ha
  have := ((chain_iff m _ _ _).1 ((mem_comps m _ _ _ _ (by omega)).1 ha).2).1
  exact fun x hx => (choices_mem.1 (this x hx)).1
theorem find_first {α : Type} {R : α → α → Prop} {p : α → Bool} : ∀ {l : List α} {a b : α}, l.Pairwise R → l.find? p = some a → b ∈ l → p b = true → a = b ∨ R a b
  | x :: l, a, b, hp, hf, hb, hpb => by
    rw [List.pairwise_cons] at hp
    rw [List.find?_cons] at hf
    split at hf
    · simp only [Option.some.injEq] at hf
      subst hf
      rcases List.mem_cons.1 hb with rfl | hb
      · exact .inl rfl
      · exact .inr (hp.1 b hb)
    · rename_i hx
      rcases List.mem_cons.1 hb with rfl | hb
      · rw [hpb] at hx; cases hx
      · exact find_first hp.2 hf hb hpb
/-- the first of the best -/
theorem greedy_first {m : Mat} (h : Ok m) (F : List Int) : ∀ (k i mask : Nat), ∀ a ∈ comps m F k i mask, cst m i mask a = mn (costs m F k i mask) → a = greedy m F k i mask ∨ befC (greedy m F k i mask) a = true
  | 0, i, mask, a, ha, _ => by
    simp only [comps, List.mem_singleton] at ha
    exact .inl ha
  | k + 1, i, mask, a, ha, hc => by
    have hnn := costs_nonneg h F (k + 1) i mask
    have h0 : 0 ≤ mn (costs m F (k + 1) i mask) := by
      rw [← hc]
      exact hnn _ (by unfold costs; exact List.mem_map.2 ⟨a, ha, rfl⟩)
    obtain ⟨j, hf, hj, hg, he⟩ := greedy_step h h0
    rw [comps, List.mem_flatMap] at ha
    obtain ⟨j', hj', ha⟩ := ha
    split at ha
    · rename_i hok
      obtain ⟨r, hr, rfl⟩ := List.mem_map.1 ha
      have hsub := costs_nonneg h F k (i + 1) (nxt mask j')
      have hrin : cst m (i + 1) (nxt mask j') r ∈ costs m F k (i + 1) (nxt mask j') := by unfold costs; exact List.mem_map.2 ⟨r, hr, rfl⟩
      have hs2 := mn_spec (List.ne_nil_of_mem hrin) hsub
      have h2 := hs2.2 _ hrin
      have h3 := hsub _ hs2.1
      have hin : price m i j' + mn (costs m F k (i + 1) (nxt mask j')) ∈ costs m F (k + 1) i mask := by
        rw [costs_succ, List.mem_flatMap]
        refine ⟨j', hj', ?_⟩
        unfold via
        rw [if_pos hok]
        exact List.mem_map.2 ⟨_, hs2.1, rfl⟩
      have h1 := (mn_spec (List.ne_nil_of_mem hin) hnn).2 _ hin
      rw [cst] at hc
      have hlead : leads m F k i mask j' = true := by
        unfold leads
        simp only [Bool.and_eq_true, decide_eq_true_eq]
        exact ⟨⟨hok, h3⟩, by omega⟩
      rw [he]
      rcases find_first (choices_prec m.col.length) hf hj' hlead with e | e
      · subst e
        rcases greedy_first h F k (i + 1) (nxt mask j) r hr (by omega) with q | q
        · exact .inl (by rw [q])
        · exact .inr (by rw [befC, if_pos rfl]; exact q)
      · right
        unfold prec at e
        rw [befC, if_neg (by intro q; subst q; simp at e; omega)]
        exact e
    · cases ha
/-- the best of what a demand leaves -/
theorem greedy_best {m : Mat} (h : Ok m) (F : List Int) (h0 : 0 ≤ mn (costs m F m.row.length 0 0)) :
    greedy m F m.row.length 0 0 ∈ fitting m F ∧ cst m 0 0 (greedy m F m.row.length 0 0) = mn (costs m F m.row.length 0 0) ∧
    ∀ a ∈ fitting m F, mn (costs m F m.row.length 0 0) ≤ cst m 0 0 a ∧ (cst m 0 0 a = mn (costs m F m.row.length 0 0) → a = greedy m F m.row.length 0 0 ∨ befC (greedy m F m.row.length 0 0) a = true) := by
  obtain ⟨g1, g2, g3⟩ := greedy_spec h F _ _ _ h0
  rw [comps_fitting] at g1
  refine ⟨g1, g2, fun a ha => ?_⟩
  have hin : cst m 0 0 a ∈ costs m F m.row.length 0 0 := by rw [costs_fitting]; exact List.mem_map.2 ⟨a, ha, rfl⟩
  exact ⟨(mn_spec (List.ne_nil_of_mem hin) (costs_nonneg h F _ _ _)).2 _ hin, fun hc => greedy_first h F _ _ _ a (by rw [comps_fitting]; exact ha) hc⟩
theorem mn_fits {m : Mat} (h : Ok m) (F : List Int) {a : List Int} (ha : a ∈ fitting m F) : 0 ≤ mn (costs m F m.row.length 0 0) := by
  have hin : cst m 0 0 a ∈ costs m F m.row.length 0 0 := by rw [costs_fitting]; exact List.mem_map.2 ⟨a, ha, rfl⟩
  exact costs_nonneg h F _ _ _ _ (mn_spec (List.ne_nil_of_mem hin) (costs_nonneg h F _ _ _)).1
theorem fitting_opn (m : Mat) : fitting m (opn m.row.length) = alls m := by
  unfold fitting
  rw [List.filter_eq_self]
  intro a ha
  exact fits_opn a 0 (by rw [alls_len ha]; omega)
theorem fitting_alls {m : Mat} {F a : List Int} (h : a ∈ fitting m F) : a ∈ alls m ∧ fits F 0 a = true := List.mem_filter.1 h
/-- there is always one: no row has a column -/
theorem alls_none {m : Mat} (h : Ok m) : List.replicate m.row.length (-1) ∈ alls m := by
  rw [mem_alls h]
  refine ⟨by simp, fun j hj => ?_, fun i k hi hk _ h0 => ?_, fun i hi => ?_⟩
  · rw [(List.mem_replicate.1 hj).2]; omega
  · simp at h0
  · simp only [List.getElem_replicate]; exact price_none h i (by omega)
theorem best_ok {m : Mat} (h : Ok m) : 0 ≤ mn (costs m (opn m.row.length) m.row.length 0 0) := mn_fits h _ (by rw [fitting_opn]; exact alls_none h)
end Go.Tw.Match
