/-
  Layer 6 (match) in plain Lean: the first of the best assignments.
-/
import Derived.Test.YtepceaoccnmkiaaMatchPure
namespace Go.Tw.Match
open Go.RowKit
/-- a choice that leads to the least cost -/
def leads (m : Mat) (F : List Int) (k i mask : Nat) (j : Int) : Bool :=
  ok m F i j mask && decide (0 ≤ mn (costs m F k (i + 1) (nxt mask j))) && decide (price m i j + mn (costs m F k (i + 1) (nxt mask j)) = mn (costs m F (k + 1) i mask))
def greedy (m : Mat) (F : List Int) : Nat → Nat → Nat → List Int
  | 0, _, _ => []
  | k + 1, i, mask => match (choices m.col.length).find? (leads m F k i mask) with
    | some j => j :: greedy m F k (i + 1) (nxt mask j)
    | none => []
theorem leads_spec {m : Mat} {F : List Int} {k i mask : Nat} {j : Int} (h : leads m F k i mask j = true) :
    ok m F i j mask = true ∧ 0 ≤ mn (costs m F k (i + 1) (nxt mask j)) ∧ price m i j + mn (costs m F k (i + 1) (nxt mask j)) = mn (costs m F (k + 1) i mask) := by
  unfold leads at h
  simp only [Bool.and_eq_true, decide_eq_true_eq] at h
  exact ⟨h.1.1, h.1.2, h.2⟩
theorem leads_exists {m : Mat} (h : Ok m) {F : List Int} {k i mask : Nat} (h0 : 0 ≤ mn (costs m F (k + 1) i mask)) : ∃ j ∈ choices m.col.length, leads m F k i mask j = true := by
  have hnn := costs_nonneg h F (k + 1) i mask
  have hne : costs m F (k + 1) i mask ≠ [] := fun e => by rw [e] at h0; revert h0; decide
  have hs := mn_spec hne hnn
  have hm := hs.1
  rw [costs_succ, List.mem_flatMap] at hm
  obtain ⟨j, hj, hv⟩ := hm
  rw [← costs_succ] at hv
  refine ⟨j, hj, ?_⟩
  unfold via at hv
  split at hv
  · rename_i hok
    obtain ⟨y, hy, he⟩ := List.mem_map.1 hv
    have hsub := costs_nonneg h F k (i + 1) (nxt mask j)
    have hs2 := mn_spec (List.ne_nil_of_mem hy) hsub
    have hin : price m i j + mn (costs m F k (i + 1) (nxt mask j)) ∈ costs m F (k + 1) i mask := by
      rw [costs_succ, List.mem_flatMap]
      refine ⟨j, hj, ?_⟩
      unfold via
      rw [if_pos hok]
      exact List.mem_map.2 ⟨_, hs2.1, rfl⟩
    have h1 := hs.2 _ hin
    have h2 := hs2.2 _ hy
    have h3 := hsub _ hs2.1
    unfold leads
    simp only [Bool.and_eq_true, decide_eq_true_eq]
    exact ⟨⟨hok, h3⟩, by omega⟩
  · cases hv
theorem greedy_step {m : Mat} (h : Ok m) {F : List Int} {k i mask : Nat} (h0 : 0 ≤ mn (costs m F (k + 1) i mask)) :
    ∃ j, (choices m.col.length).find? (leads m F k i mask) = some j ∧ j ∈ choices m.col.length ∧ leads m F k i mask j = true ∧ greedy m F (k + 1) i mask = j :: greedy m F k (i + 1) (nxt mask j) := by
  obtain ⟨j0, hj0, hg0⟩ := leads_exists h h0
  cases hf : (choices m.col.length).find? (leads m F k i mask) with
  | none => exact absurd hg0 (by simpa using List.find?_eq_none.1 hf j0 hj0)
  | some j => exact ⟨j, rfl, List.mem_of_find?_eq_some hf, List.find?_some hf, by rw [greedy, hf]⟩
theorem greedy_spec {m : Mat} (h : Ok m) (F : List Int) : ∀ (k i mask : Nat), 0 ≤ mn (costs m F k i mask) → greedy m F k i mask ∈ comps m F k i mask ∧ cst m i mask (greedy m F k i mask) = mn (costs m F k i mask) ∧ (greedy m F k i mask).length = k
  | 0, i, mask, _ => by
    refine ⟨by simp [greedy, comps], ?_, rfl⟩
    rw [greedy, cst, costs_zero]
    unfold mn
    rw [if_pos (.inl (by decide))]
  | k + 1, i, mask, h0 => by
    obtain ⟨j, -, hj, hg, he⟩ := greedy_step h h0
    obtain ⟨g1, g2, g3⟩ := leads_spec hg
    obtain ⟨i1, i2, i3⟩ := greedy_spec h F k (i + 1) (nxt mask j) g2
    rw [he]
    refine ⟨?_, ?_, by rw [List.length_cons, i3]⟩
    · rw [comps, List.mem_flatMap]
      exact ⟨j, hj, by rw [if_pos g1]; exact List.mem_map.2 ⟨_, i1, rfl⟩⟩
    · rw [cst, i2, g3]
end Go.Tw.Match
