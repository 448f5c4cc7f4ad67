/-
  Layer 6 (match) in plain Lean: what the laws without the reference ask.
-/
import Derived.Test.YtepceaoccnmkiaaMatchTurnP
namespace Go.Tw.Match
open Go.RowKit
def fixL' (n i : Nat) (j : Int) : List Int := (List.replicate n (-2)).set i j
theorem fix_fits {n i : Nat} {j : Int} (hi : i < n) (h2 : j ≠ -2) {a : List Int} (hl : a.length = n) : fits (fixL' n i j) 0 a = true ↔ a[i]'(by omega) = j := by
  rw [fits_get]
  have get : ∀ t, t < n → (fixL' n i j).getD t 0 = if i = t then j else -2 := fun t ht => by
    unfold fixL'
    rw [List.getD_eq_getElem?_getD, List.getElem?_set]
    by_cases e : i = t
    · subst e; rw [if_pos rfl, if_pos rfl, if_pos (by simpa using ht)]; rfl
    · rw [if_neg e, if_neg e, List.getElem?_replicate, if_pos ht]; rfl
  constructor
  · intro h
    have := h i (by omega)
    unfold okF at this
    rw [Nat.zero_add, get i hi, if_pos rfl] at this
    simp [h2] at this
    exact this.symm
  · intro h t ht
    unfold okF
    rw [Nat.zero_add, get t (by omega)]
    by_cases e : i = t
    · subst e; rw [if_pos rfl, h]; simp
    · rw [if_neg e]; simp
/-- the least cost of a choice is not below Best's -/
theorem with_ge {m : Mat} (h : Ok m) {F : List Int} (h0 : 0 ≤ mn (costs m F m.row.length 0 0)) : mn (costs m (opn m.row.length) m.row.length 0 0) ≤ mn (costs m F m.row.length 0 0) := by
  obtain ⟨b1, b2, -⟩ := greedy_best h F h0
  rw [← b2]
  exact ((best_spec h).2.2 _ (fitting_alls b1).1).1
/-- Best's own choice reaches it -/
theorem with_best {m : Mat} (h : Ok m) {i : Nat} (hi : i < m.row.length) : mn (costs m (fixL' m.row.length i ((bestL m).getD i 0)) m.row.length 0 0) = mn (costs m (opn m.row.length) m.row.length 0 0) := by
  obtain ⟨b1, b2, -⟩ := best_spec h
  have hbl := best_len h
  have hg : (bestL m).getD i 0 = (bestL m)[i]'(by omega) := by rw [List.getD_eq_getElem?_getD, List.getElem?_eq_getElem (by omega)]; rfl
  have hr := ((mem_alls h).1 b1).rng _ (List.getElem_mem (show i < (bestL m).length by omega))
  have hfit : bestL m ∈ fitting m (fixL' m.row.length i ((bestL m).getD i 0)) := List.mem_filter.2 ⟨b1, (fix_fits hi (by rw [hg]; omega) hbl).2 (by rw [hg])⟩
  have h0 := mn_fits h _ hfit
  have h1 := with_ge h h0
  have h2 := ((greedy_best h _ h0).2.2 _ hfit).1
  rw [b2] at h2
  omega
theorem count_map_eq {l : List (List Int)} {f : List Int → Int} {c : Int} : (l.map f).count c = (l.filter (fun a => decide (f a = c))).length := by
  rw [List.count_eq_countP, List.countP_map, List.countP_eq_length_filter]
  congr 1
/-- how often the least cost is reached -/
theorem ties_ge {m : Mat} (h : Ok m) : 1 ≤ tieN (costs m (opn m.row.length) m.row.length 0 0) := by
  obtain ⟨b1, b2, -⟩ := best_spec h
  unfold tieN
  have hm : mn (costs m (opn m.row.length) m.row.length 0 0) ∈ costs m (opn m.row.length) m.row.length 0 0 := by
    rw [← b2, costs_fitting, fitting_opn]
    exact List.mem_map.2 ⟨_, b1, rfl⟩
  have := List.count_pos_iff.2 hm
  omega
theorem ties_one {m : Mat} (h : Ok m) : tieN (costs m (opn m.row.length) m.row.length 0 0) = 1 ↔ (match secO m with | none => True | some f => mn (costs m (opn m.row.length) m.row.length 0 0) < f.2) := by
  obtain ⟨b1, b2, b3⟩ := best_spec h
  have hn := sorted_nodup (alls_sorted m)
  have hc : tieN (costs m (opn m.row.length) m.row.length 0 0) = (((alls m).filter (fun a => decide (cst m 0 0 a = mn (costs m (opn m.row.length) m.row.length 0 0)))).length : Int) := by
    unfold tieN
    conv => lhs; rw [costs_fitting, fitting_opn]
    rw [count_map_eq]
    rw [← fitting_opn, ← costs_fitting]
  rw [hc]
  have hbm : bestL m ∈ (alls m).filter (fun a => decide (cst m 0 0 a = mn (costs m (opn m.row.length) m.row.length 0 0))) := List.mem_filter.2 ⟨b1, by simpa using b2⟩
  have hnf : ((alls m).filter (fun a => decide (cst m 0 0 a = mn (costs m (opn m.row.length) m.row.length 0 0)))).Nodup := List.Pairwise.filter _ hn
  generalize hL : (alls m).filter (fun a => decide (cst m 0 0 a = mn (costs m (opn m.row.length) m.row.length 0 0))) = L at hbm hnf
  have one : (∀ a ∈ L, a = bestL m) → (L.length : Int) = 1 := fun ha => by
    match L, hbm, hnf with
    | [x], _, _ => rfl
    | x :: y :: l, _, hnf =>
      exfalso
      have hx := ha x (by simp)
      have hy := ha y (by simp)
      simp [hx, hy] at hnf
  have two : ∀ a ∈ L, a ≠ bestL m → (L.length : Int) ≠ 1 := fun a ha hne he => by
    match L, hbm, ha with
    | [x], hbm, ha =>
      rw [List.mem_singleton] at hbm ha
      exact hne (by rw [ha, hbm])
    | x :: y :: l, _, _ => simp at he; omega
  cases hs : secO m with
  | none =>
    simp only [iff_true]
    refine one fun a ha => ?_
    rw [← hL] at ha
    exact sec_none h hs a (List.mem_filter.1 ha).1
  | some f =>
    obtain ⟨f1, f2, f3, f4⟩ := sec_some h hs
    have hge := (b3 _ f1).1
    show _ ↔ _ < f.2
    constructor
    · intro he
      by_cases q : mn (costs m (opn m.row.length) m.row.length 0 0) < f.2
      · exact q
      · exfalso
        refine two f.1 ?_ f2 he
        rw [← hL]
        exact List.mem_filter.2 ⟨f1, by simp; omega⟩
    · intro hlt
      refine one fun a ha => ?_
      rw [← hL] at ha
      obtain ⟨a1, a2⟩ := List.mem_filter.1 ha
      refine Classical.byContradiction fun hne => ?_
      have := f4 a a1 hne
      have a2' : cst m 0 0 a = mn (costs m (opn m.row.length) m.row.length 0 0) := by simpa using a2
      rcases this with q | ⟨q, -⟩
      · have : f.2 < cst m 0 0 a := q
        omega
      · have : f.2 = cst m 0 0 a := q
        omega
end Go.Tw.Match
