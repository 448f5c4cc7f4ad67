/-
  Layer 10 (plate) in plain Lean: the laws of the distance (symmetric, zero exactly for equal ones, at least three times the gap, at most 96) and of the normal form.
-/
import Derived.Test.YthpmclhpagcbiaaPlatePure
namespace Go.Tw.Plate
open Go.RowKit

theorem chg_comm (a b : Int) : chg a b = chg b a := by
  unfold chg
  rw [like_comm a b]
  by_cases h : a = b
  · rw [if_pos h, if_pos h.symm]
  · rw [if_neg h, if_neg (show ¬ b = a from fun e => h e.symm)]
theorem chg_zero {a b : Int} : chg a b = 0 ↔ a = b := by
  unfold chg
  by_cases h : a = b
  · simp [h]
  · rw [if_neg h]
    constructor
    · intro e; split at e <;> omega
    · intro e; exact absurd e h
theorem D_comm (A B : List Int) : ∀ i j : Nat, D A B i j = D B A j i
  | 0, 0 => by simp [D]
  | 0, j + 1 => by simp [D]
  | i + 1, 0 => by simp [D]
  | i + 1, j + 1 => by
    simp only [D]
    rw [D_comm A B i j, D_comm A B i (j + 1), D_comm A B (i + 1) j, chg_comm]
    omega
theorem dist_comm (A B : List Int) : dist A B = dist B A := D_comm A B _ _
theorem D_gap (A B : List Int) : ∀ i j : Nat, 3 * ((i : Int) - j) ≤ D A B i j ∧ 3 * ((j : Int) - i) ≤ D A B i j
  | 0, 0 => by simp [D]
  | 0, j + 1 => by simp only [D]; omega
  | i + 1, 0 => by simp only [D]; omega
  | i + 1, j + 1 => by
    have h1 := D_gap A B i j
    have h2 := D_gap A B i (j + 1)
    have h3 := D_gap A B (i + 1) j
    have h4 := chg_range (A.getD i 0) (B.getD j 0)
    simp only [D]
    omega
theorem dist_gap (A B : List Int) : 3 * ((A.length : Int) - B.length) ≤ dist A B ∧ 3 * ((B.length : Int) - A.length) ≤ dist A B := D_gap A B _ _
theorem dist_range (A B : List Int) : 0 ≤ dist A B ∧ dist A B ≤ 3 * max (A.length : Int) (B.length : Int) := D_range A B _ _
theorem D_zero (A B : List Int) : ∀ i j : Nat, i ≤ A.length → j ≤ B.length → (D A B i j = 0 ↔ A.take i = B.take j)
  | 0, 0, _, _ => by simp [D]
  | 0, j + 1, _, hj => by
    simp only [D]
    constructor
    · intro h; omega
    · intro h
      have := congrArg List.length h
      rw [List.length_take, List.length_take] at this
      omega
  | i + 1, 0, hi, _ => by
    simp only [D]
    constructor
    · intro h; omega
    · intro h
      have := congrArg List.length h
      rw [List.length_take, List.length_take] at this
      omega
  | i + 1, j + 1, hi, hj => by
    have h1 := D_zero A B i j (by omega) (by omega)
    have g1 := D_range A B i j
    have g2 := D_range A B i (j + 1)
    have g3 := D_range A B (i + 1) j
    have g4 := chg_range (A.getD i 0) (B.getD j 0)
    have hA : A.getD i 0 = A[i]'(by omega) := by simp [List.getD, List.getElem?_eq_getElem (show i < A.length by omega)]
    have hB : B.getD j 0 = B[j]'(by omega) := by simp [List.getD, List.getElem?_eq_getElem (show j < B.length by omega)]
    have hz := chg_zero (a := A.getD i 0) (b := B.getD j 0)
    rw [List.take_succ_eq_append_getElem (show i < A.length by omega), List.take_succ_eq_append_getElem (show j < B.length by omega)]
    simp only [D]
    constructor
    · intro h
      have e1 : D A B i j = 0 := by omega
      have e2 : chg (A.getD i 0) (B.getD j 0) = 0 := by omega
      have e3 := hz.mp e2
      rw [hA, hB] at e3
      rw [h1.mp e1, e3]
    · intro h
      have hl := congrArg List.length h
      simp at hl
      obtain ⟨h5, h6⟩ := List.append_inj' h rfl
      have e1 := h1.mpr h5
      have e2 : chg (A.getD i 0) (B.getD j 0) = 0 := hz.mpr (by rw [hA, hB]; simpa using h6)
      omega
theorem dist_zero (A B : List Int) : dist A B = 0 ↔ A = B := by
  have := D_zero A B A.length B.length (Nat.le_refl _) (Nat.le_refl _)
  rwa [List.take_length, List.take_length] at this

/-! ### the normal form -/
theorem up_ok {c : Int} (h : okc c = true) : up c = c := by
  unfold okc at h
  unfold up
  simp at h
  split <;> omega
theorem ok_not_sep {c : Int} (h : okc c = true) : sep c = false := by
  unfold okc at h
  unfold sep
  simp at h ⊢
  omega
/-- what comes out: only good letters, at most ten -/
theorem norm_out : ∀ (l out r : List Int), (∀ c ∈ out, okc c = true) → out.length ≤ 10 → normGo out l = some r → (∀ c ∈ r, okc c = true) ∧ 2 ≤ r.length ∧ r.length ≤ 10
  | [], out, r, h, hl, e => by
    rw [normGo] at e
    split at e
    · cases e
    · cases e; exact ⟨h, by omega, hl⟩
  | c :: q, out, r, h, hl, e => by
    rw [normGo] at e
    split at e
    · exact norm_out q out r h hl e
    · split at e
      · cases e
      · rename_i h2
        have h2a : okc (up c) = true := by
          cases hq : okc (up c)
          · exact absurd (.inl hq) h2
          · rfl
        have h2b : out.length ≠ 10 := fun q => h2 (.inr q)
        refine norm_out q _ r ?_ (by simp; omega) e
        intro x hx
        rcases List.mem_append.mp hx with hx | hx
        · exact h x hx
        · rw [List.mem_singleton.mp hx]; exact h2a
/-- good letters are taken as they are -/
theorem norm_again : ∀ (l out : List Int), (∀ c ∈ l, okc c = true) → out.length + l.length ≤ 10 → 2 ≤ out.length + l.length → normGo out l = some (out ++ l)
  | [], out, _, h1, h2 => by rw [normGo, if_neg (by simp at h2; omega), List.append_nil]
  | c :: q, out, h, h1, h2 => by
    have hc := h c (by simp)
    rw [normGo, up_ok hc, ok_not_sep hc, if_neg (by simp), if_neg (by simp [hc]; simp at h1; omega), norm_again q _ (fun x hx => h x (by simp [hx])) (by simp at h1 ⊢; omega) (by simp at h2 ⊢; omega), List.append_assoc]
    rfl
/-- a letter made small -/
def small (c : Int) : Int := if 65 ≤ c ∧ c ≤ 90 then c + 32 else c
theorem up_small {c : Int} (h : okc c = true) : up (small c) = c := by
  unfold okc at h
  unfold up small
  simp at h
  split <;> split <;> omega
def otherL : List Int → List Int
  | [] => []
  | c :: r => small c :: 45 :: otherL r
theorem norm_other : ∀ (l out : List Int), (∀ c ∈ l, okc c = true) → out.length + l.length ≤ 10 → 2 ≤ out.length + l.length → normGo out (otherL l) = some (out ++ l)
  | [], out, _, h1, h2 => by rw [otherL, normGo, if_neg (by simp at h2; omega), List.append_nil]
  | c :: q, out, h, h1, h2 => by
    have hc := h c (by simp)
    rw [otherL, normGo, up_small hc, ok_not_sep hc, if_neg (by simp), if_neg (by simp [hc]; simp at h1; omega), normGo, if_pos (by decide), norm_other q _ (fun x hx => h x (by simp [hx])) (by simp at h1 ⊢; omega) (by simp at h2 ⊢; omega), List.append_assoc]
    rfl
theorem norm_other1 (l : List Int) (h : ∀ c ∈ l, okc c = true) (h1 : l.length ≤ 10) (h2 : 2 ≤ l.length) : normGo [] (32 :: otherL l) = some l := by
  rw [normGo, if_pos (by decide), norm_other l [] h (by simpa using h1) (by simpa using h2)]
  rfl
