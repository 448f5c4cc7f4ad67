/-
  Layer 14 (group) in plain Lean: lanes: each once, ascending. No program in sight.
-/
import Derived.Test.YtffpnbipacgidaaGrpP
import Derived.Lib.SlicesCompact
namespace Go.Tw.Grp
open Go.RowKit Go.Sort Go.Tw.Ord
theorem asc_uniq {a b : List Int} (ha : a.Pairwise (· < ·)) (hb : b.Pairwise (· < ·)) (h : ∀ x, x ∈ a ↔ x ∈ b) : a = b := by
  have le : ∀ {x y : Int}, x < y → cmpI x y ≤ 0 := fun {x y} h => by unfold cmpI; rw [if_pos h]; decide
  have hp : a.Perm b := (List.perm_ext_iff_of_nodup (ha.imp (fun h => Int.ne_of_lt h)) (hb.imp (fun h => Int.ne_of_lt h))).2 h
  exact (sortL_uniq cmpI_cmp (fun _ _ => cmpI_zero) hp (ha.imp le)).trans (sortL_uniq cmpI_cmp (fun _ _ => cmpI_zero) (List.Perm.refl b) (hb.imp le)).symm
theorem compact_spec {zs : List Int} (hs : zs.Pairwise (· ≤ ·)) : (Lib.compact zs).Pairwise (· < ·) ∧ ∀ x, x ∈ Lib.compact zs ↔ x ∈ zs := by
  have hget : ∀ {j : Nat} (hj : j < zs.length), zs.toArray[j]! = zs[j] := fun {j} hj => by rw [getElem!_pos zs.toArray j (by simpa using hj)]; simp
  have key : ∀ m, m ≤ zs.length → (Lib.compactUpTo zs.toArray m).Pairwise (· < ·) ∧ (∀ x, x ∈ Lib.compactUpTo zs.toArray m ↔ ∃ j, j < m ∧ zs.toArray[j]! = x) ∧ ∀ x ∈ Lib.compactUpTo zs.toArray m, x ≤ zs.toArray[m - 1]! := by
    intro m
    induction m with
    | zero => intro _; exact ⟨List.Pairwise.nil, fun x => ⟨fun h => absurd h List.not_mem_nil, fun ⟨j, hj, _⟩ => absurd hj (Nat.not_lt_zero _)⟩, fun x h => absurd h List.not_mem_nil⟩
    | succ m ih =>
      intro hm
      obtain ⟨i1, i2, i3⟩ := ih (by omega)
      have hmono : 0 < m → zs.toArray[m - 1]! ≤ zs.toArray[m]! := fun h0 => by
        rw [hget (by omega), hget (by omega)]
        exact List.pairwise_iff_getElem.1 hs (m - 1) m (by omega) (by omega) (by omega)
      rw [Lib.compactUpTo_succ]
      by_cases hk : Lib.keeps zs.toArray m = true
      · rw [if_pos hk]
        unfold Lib.keeps at hk
        have hk := of_decide_eq_true hk
        refine ⟨?_, fun x => ?_, fun x hx => ?_⟩
        · rw [List.pairwise_append]
          refine ⟨i1, List.pairwise_singleton _ _, fun a ha b hb => ?_⟩
          obtain rfl := List.mem_singleton.1 hb
          obtain ⟨j, hj, -⟩ := (i2 a).1 ha
          have h0 : 0 < m := by omega
          have h1 := i3 a ha
          have h2 := hmono h0
          rcases hk with hk | hk
          · omega
          · omega
        · rw [List.mem_append, i2]
          simp only [List.mem_singleton]
          constructor
          · rintro (⟨j, hj, e⟩ | rfl)
            · exact ⟨j, by omega, e⟩
            · exact ⟨m, by omega, rfl⟩
          · rintro ⟨j, hj, e⟩
            by_cases hjm : j = m
            · subst hjm; exact .inr e.symm
            · exact .inl ⟨j, by omega, e⟩
        · rcases List.mem_append.1 hx with hx | hx
          · obtain ⟨j, hj, -⟩ := (i2 x).1 hx
            have := i3 x hx
            have := hmono (by omega)
            simp only [Nat.add_sub_cancel]
            omega
          · obtain rfl := List.mem_singleton.1 hx
            simp only [Nat.add_sub_cancel]
            omega
      · rw [if_neg hk, List.append_nil]
        unfold Lib.keeps at hk
        simp only [decide_eq_true_eq, not_or, Classical.not_not] at hk
        obtain ⟨hk0, hk1⟩ := hk
        refine ⟨i1, fun x => ?_, fun x hx => ?_⟩
        · rw [i2]
          constructor
          · rintro ⟨j, hj, e⟩; exact ⟨j, by omega, e⟩
          · rintro ⟨j, hj, e⟩
            by_cases hjm : j = m
            · subst hjm; exact ⟨j - 1, by omega, by rw [← hk1]; exact e⟩
            · exact ⟨j, by omega, e⟩
        · have := i3 x hx
          simp only [Nat.add_sub_cancel]
          omega
  obtain ⟨h1, h2, -⟩ := key zs.length (Nat.le_refl _)
  refine ⟨h1, fun x => ?_⟩
  show x ∈ Lib.compactUpTo zs.toArray zs.length ↔ _
  rw [h2]
  constructor
  · rintro ⟨j, hj, e⟩
    rw [hget hj] at e
    exact e ▸ List.getElem_mem hj
  · intro hx
    obtain ⟨j, hj, e⟩ := List.getElem_of_mem hx
    exact ⟨j, hj, by rw [hget hj]; exact e⟩
/-- the lanes of detections -/
def LnSpec (l : List Seen) (O : List Int) : Prop := O.Pairwise (· < ·) ∧ ∀ x, x ∈ O ↔ ∃ s ∈ l, s.ln = x
theorem LnSpec.uniq {l : List Seen} {a b : List Int} (ha : LnSpec l a) (hb : LnSpec l b) : a = b := asc_uniq ha.1 hb.1 fun x => (ha.2 x).trans (hb.2 x).symm
theorem LnSpec.nil : LnSpec [] [] := ⟨List.Pairwise.nil, fun x => by simp⟩
theorem LnSpec.of_sort {l : List Seen} : LnSpec l (Lib.compact ((l.map Seen.ln).mergeSort fun x y => decide (x ≤ y))) := by
  have hs : ((l.map Seen.ln).mergeSort fun x y => decide (x ≤ y)).Pairwise (· ≤ ·) := by
    have := List.pairwise_mergeSort (le := fun x y : Int => decide (x ≤ y)) (fun a b c h1 h2 => by simp only [decide_eq_true_eq] at *; omega) (fun a b => by simp only [Bool.or_eq_true, decide_eq_true_eq]; omega) (l.map Seen.ln)
    exact this.imp fun h => by simpa using h
  obtain ⟨h1, h2⟩ := compact_spec hs
  refine ⟨h1, fun x => ?_⟩
  rw [h2, (List.mergeSort_perm _ _).mem_iff, List.mem_map]
theorem LnSpec.snoc {l : List Seen} {O O' : List Int} {s : Seen} (h : LnSpec l O) (h1 : O'.Pairwise (· < ·)) (h2 : ∀ x, x ∈ O' ↔ x ∈ O ∨ x = s.ln) : LnSpec (l ++ [s]) O' := by
  refine ⟨h1, fun x => ?_⟩
  rw [h2, h.2]
  constructor
  · rintro (⟨t, ht, e⟩ | rfl)
    · exact ⟨t, List.mem_append_left _ ht, e⟩
    · exact ⟨s, by simp, rfl⟩
  · rintro ⟨t, ht, e⟩
    rcases List.mem_append.1 ht with ht | ht
    · exact .inl ⟨t, ht, e⟩
    · simp at ht; subst ht; exact .inr e.symm
theorem LnSpec.same {l : List Seen} {O : List Int} {s : Seen} (h : LnSpec l O) (hm : s.ln ∈ O) : LnSpec (l ++ [s]) O :=
  h.snoc h.1 fun _ => ⟨fun h => .inl h, fun h => h.elim id fun e => e ▸ hm⟩
theorem LnSpec.ins {l : List Seen} {O : List Int} {s : Seen} {k : Nat} (h : LnSpec l O) (h1 : ∀ j (hj : j < O.length), j < k → O[j] < s.ln) (h2 : ∀ h : k < O.length, s.ln < O[k]) : LnSpec (l ++ [s]) (O.take k ++ [s.ln] ++ O.drop k) := by
  have hO := h.1
  refine h.snoc ?_ fun x => ?_
  · have hs' := hO
    rw [← List.take_append_drop k O, List.pairwise_append] at hs'
    obtain ⟨p1, p2, p3⟩ := hs'
    have ha : ∀ a ∈ O.take k, a < s.ln := fun a ha => by
      obtain ⟨j, hj, rfl⟩ := List.getElem_of_mem ha
      rw [List.getElem_take]
      rw [List.length_take] at hj
      exact h1 j (by omega) (by omega)
    have hb : ∀ b ∈ O.drop k, s.ln < b := fun b hb => by
      obtain ⟨j, hj, rfl⟩ := List.getElem_of_mem hb
      rw [List.length_drop] at hj
      have hk : k < O.length := by omega
      have e := h2 hk
      rw [List.getElem_drop]
      rcases Nat.eq_zero_or_pos j with rfl | hj0
      · simpa using e
      · exact Int.lt_trans e (List.pairwise_iff_getElem.1 hO k (k + j) hk (by omega) (by omega))
    rw [List.pairwise_append, List.pairwise_append]
    refine ⟨⟨p1, List.pairwise_singleton _ _, fun a h b hb' => by simp at hb'; subst hb'; exact ha a h⟩, p2, fun a h b hb' => ?_⟩
    rcases List.mem_append.1 h with h | h
    · exact p3 a h b hb'
    · simp at h; subst h; exact hb b hb'
  · have e : x ∈ O ↔ x ∈ O.take k ∨ x ∈ O.drop k := by
      conv => lhs; rw [← List.take_append_drop k O]
      exact List.mem_append
    rw [e]
    simp only [List.mem_append, List.mem_singleton]
    constructor
    · rintro ((h | h) | h)
      · exact .inl (.inl h)
      · exact .inr h
      · exact .inl (.inr h)
    · rintro ((h | h) | h)
      · exact .inl (.inl h)
      · exact .inr h
      · exact .inl (.inr h)
end Go.Tw.Grp
