/-
  Layer 6 (match) in plain Lean: the cost of an assignment.
-/
import Derived.Test.YtepceaoccnmkiaaMatchRep
import Derived.Test.YtepceaoccnmkiaaCells
namespace Go.Tw.Match
open Go.RowKit

def rowsum (m : Mat) : Nat → List Int → Int
  | _, [] => 0
  | i, j :: r => price m i j + rowsum m (i + 1) r
theorem rowsum_snoc (m : Mat) (j : Int) : ∀ (a : List Int) (i : Nat), rowsum m i (a ++ [j]) = rowsum m i a + price m (i + a.length) j
  | [], i => by simp [rowsum]
  | x :: a, i => by
    rw [List.cons_append, rowsum, rowsum, rowsum_snoc m j a (i + 1), List.length_cons, show i + (a.length + 1) = i + 1 + a.length by omega]
    omega
theorem rowsum_range {m : Mat} (h : Ok m) : ∀ (a : List Int) (i : Nat), -1 * (a.length : Int) ≤ rowsum m i a ∧ rowsum m i a ≤ 2147483648 * a.length
  | [], i => by simp [rowsum]
  | x :: a, i => by
    have h1 := rowsum_range h a (i + 1)
    have h2 := price_range h i x
    rw [rowsum, List.length_cons]
    omega
def used (a : List Int) : Nat → Bool := fun j => decide ((j : Int) ∈ a)
theorem used_nil (j : Nat) : used [] j = false := rfl
theorem used_snoc (a : List Int) (x : Int) (j : Nat) : used (a ++ [x]) j = (used a j || decide ((j : Int) = x)) := by
  unfold used
  rw [Bool.eq_iff_iff]
  simp
/-- the costs of the columns, those used made 0 -/
def zeroed (u : Nat → Bool) : Nat → List Int → List Int
  | _, [] => []
  | j, c :: l => (if u j then 0 else c) :: zeroed u (j + 1) l
theorem zeroed_len (u : Nat → Bool) : ∀ (l : List Int) (j : Nat), (zeroed u j l).length = l.length
  | [], _ => rfl
  | c :: l, j => by rw [zeroed, List.length_cons, List.length_cons, zeroed_len u l (j + 1)]
theorem zeroed_sum (u : Nat → Bool) : ∀ (l : List Int) (j : Nat), (zeroed u j l).sum = freeS u j l
  | [], _ => rfl
  | c :: l, j => by rw [zeroed, freeS, List.sum_cons, zeroed_sum u l (j + 1)]
theorem zeroed_none : ∀ (l : List Int) (j : Nat), zeroed (used []) j l = l
  | [], _ => rfl
  | c :: l, j => by rw [zeroed, zeroed_none l (j + 1), used_nil]; rfl
theorem zeroed_congr {u v : Nat → Bool} : ∀ (l : List Int) (j : Nat), (∀ k, j ≤ k → u k = v k) → zeroed u j l = zeroed v j l
  | [], _, _ => rfl
  | c :: l, j, h => by rw [zeroed, zeroed, h j (Nat.le_refl _), zeroed_congr l (j + 1) (fun k hk => h k (by omega))]
theorem zeroed_set {u v : Nat → Bool} : ∀ (l : List Int) (j k : Nat), (∀ i, v i = (u i || decide (i = j + k))) → k < l.length → (zeroed u j l).set k 0 = zeroed v j l
  | [], _, _, _, hk => by simp at hk
  | c :: l, j, 0, h, _ => by
    rw [zeroed, zeroed, List.set_cons_zero, h j]
    simp only [Nat.add_zero, decide_true, Bool.or_true, if_true]
    rw [zeroed_congr (u := u) (v := v) l (j + 1) (fun i hi => by rw [h i, decide_eq_false (by omega)]; simp)]
  | c :: l, j, k + 1, h, hk => by
    rw [zeroed, zeroed, List.set_cons_succ, zeroed_set (u := u) (v := v) l (j + 1) k (fun i => by rw [h i, show j + (k + 1) = j + 1 + k by omega]) (by simpa using hk), h j, decide_eq_false (by omega)]
    simp
theorem zeroed_range {u : Nat → Bool} : ∀ {l : List Int} (j : Nat), (∀ x ∈ l, 0 ≤ x ∧ x ≤ 2147483648) → ∀ x ∈ zeroed u j l, 0 ≤ x ∧ x ≤ 2147483648
  | [], _, _, x, hx => by simp [zeroed] at hx
  | c :: l, j, h, x, hx => by
    rw [zeroed] at hx
    rcases List.mem_cons.1 hx with rfl | hx
    · split
      · omega
      · exact h c (by simp)
    · exact zeroed_range (j + 1) (fun y hy => h y (by simp [hy])) x hx
theorem sum_take_succ {l : List Int} {k : Nat} (h : k < l.length) : (l.take (k + 1)).sum = (l.take k).sum + l[k] := by
  rw [List.take_succ_eq_append_getElem h, List.sum_append]
  simp
theorem sum_range {l : List Int} (h : ∀ x ∈ l, 0 ≤ x ∧ x ≤ 2147483648) : 0 ≤ l.sum ∧ l.sum ≤ 2147483648 * l.length := by
  induction l with
  | nil => simp
  | cons x l ih =>
    have h1 := ih (fun y hy => h y (by simp [hy]))
    have h2 := h x (by simp)
    rw [List.sum_cons, List.length_cons]
    omega
def costA (m : Mat) (a : List Int) : Int := rowsum m 0 a + freeS (used a) 0 m.col
/-- the first thing wrong -/
def errGo (m : Mat) : List Int → List Int → Int
  | _, [] => 0
  | pre, j :: r => if j < -1 ∨ (m.col.length : Int) ≤ j then 2 else if 0 ≤ j ∧ j ∈ pre then 9 else if price m pre.length j < 0 then 1 else errGo m (pre ++ [j]) r
theorem errGo_drop {m : Mat} {a : List Int} {k : Nat} (h : k < a.length) : errGo m (a.take k) (a.drop k) =
    if a[k] < -1 ∨ (m.col.length : Int) ≤ a[k] then 2 else if 0 ≤ a[k] ∧ a[k] ∈ a.take k then 9 else if price m k a[k] < 0 then 1 else errGo m (a.take (k + 1)) (a.drop (k + 1)) := by
  rw [List.drop_eq_getElem_cons h, errGo, List.take_succ_eq_append_getElem h, List.length_take, Nat.min_eq_left (by omega)]
theorem errGo_end {m : Mat} {a : List Int} {k : Nat} (h : a.length ≤ k) : errGo m (a.take k) (a.drop k) = 0 := by rw [List.drop_eq_nil_of_le h, errGo]
def totC (m : Mat) (a : List Int) : Int × Int := if chk m ≠ 0 then (0, chk m) else if a.length ≠ m.row.length then (0, 2) else if errGo m [] a ≠ 0 then (0, errGo m [] a) else (costA m a, 0)
/-- a valid assignment -/
structure Valid (m : Mat) (a : List Int) : Prop where
  len : a.length = m.row.length
  rng : ∀ j ∈ a, -1 ≤ j ∧ j < m.col.length
  nod : ∀ i k (hi : i < a.length) (hk : k < a.length), i < k → 0 ≤ a[k] → a[i] ≠ a[k]
  pri : ∀ i (hi : i < a.length), 0 ≤ price m i a[i]
theorem errGo_zero {m : Mat} {a : List Int} : ∀ (n k : Nat), k + n = a.length → (errGo m (a.take k) (a.drop k) = 0 ↔ ∀ i (hi : i < a.length), k ≤ i → -1 ≤ a[i] ∧ a[i] < m.col.length ∧ (0 ≤ a[i] → a[i] ∉ a.take i) ∧ 0 ≤ price m i a[i])
  | 0, k, h => by
    rw [errGo_end (by omega)]
    exact ⟨fun _ i hi hk => by omega, fun _ => rfl⟩
  | n + 1, k, h => by
    have hk : k < a.length := by omega
    have ih := errGo_zero (m := m) (a := a) n (k + 1) (by omega)
    rw [errGo_drop hk]
    constructor
    · intro q i hi hki
      split at q
      · omega
      · rename_i q1
        split at q
        · omega
        · rename_i q2
          split at q
          · omega
          · rename_i q3
            rcases Nat.lt_or_ge k i with g | g
            · exact ih.1 q i hi g
            · obtain rfl : i = k := by omega
              exact ⟨by omega, by omega, fun h0 hm => q2 ⟨h0, hm⟩, by omega⟩
    · intro q
      have h0 := q k hk (Nat.le_refl _)
      rw [if_neg (by omega), if_neg (fun w => h0.2.2.1 w.1 w.2), if_neg (by omega)]
      exact ih.2 (fun i hi hki => q i hi (by omega))
theorem valid_iff {m : Mat} {a : List Int} (hl : a.length = m.row.length) : errGo m [] a = 0 ↔ Valid m a := by
  have := errGo_zero (m := m) (a := a) a.length 0 (by omega)
  rw [List.take_zero, List.drop_zero] at this
  rw [this]
  constructor
  · intro h
    refine ⟨hl, fun j hj => ?_, fun i k hi hk hik h0 e => ?_, fun i hi => (h i hi (Nat.zero_le _)).2.2.2⟩
    · obtain ⟨i, hi, rfl⟩ := List.getElem_of_mem hj
      have := h i hi (Nat.zero_le _)
      exact ⟨this.1, this.2.1⟩
    · exact (h k hk (Nat.zero_le _)).2.2.1 h0 (List.mem_take_iff_getElem.2 ⟨i, by omega, e⟩)
  · intro h i hi _
    have h1 := h.rng _ (List.getElem_mem hi)
    refine ⟨h1.1, h1.2, fun h0 hm => ?_, h.pri i hi⟩
    obtain ⟨k, hk, e⟩ := List.mem_take_iff_getElem.1 hm
    exact h.nod k i (by omega) hi (by omega) h0 e
end Go.Tw.Match
