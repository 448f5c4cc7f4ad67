/-
  Layer 6 (match) in plain Lean: what the program and the reference compute. No program in sight.
-/
import Derived.Test.YtepceaoccnmkiaaRow
namespace Go.Tw.Match
open Go.RowKit

structure Mat where
  cost : List (List Int)
  row : List Int
  col : List Int

/-! ### Check -/
def inC (x : Int) : Bool := decide (-1 ≤ x) && decide (x ≤ 2147483648)
def inN (x : Int) : Bool := decide (0 ≤ x) && decide (x ≤ 2147483648)
def rowOk (c : Nat) (r : List Int) : Bool := decide (r.length = c) && r.all inC
def matOk (m : Mat) : Bool := decide (m.cost.length = m.row.length) && m.cost.all (rowOk m.col.length) && m.row.all inN && m.col.all inN
def chk (m : Mat) : Int := if 8 < m.row.length ∨ 8 < m.col.length then 3 else if matOk m = true then 0 else 1

/-- a valid matrix -/
structure Ok (m : Mat) : Prop where
  n8 : m.row.length ≤ 8
  c8 : m.col.length ≤ 8
  rows : m.cost.length = m.row.length
  cols : ∀ r ∈ m.cost, r.length = m.col.length
  cin : ∀ r ∈ m.cost, ∀ x ∈ r, -1 ≤ x ∧ x ≤ 2147483648
  rin : ∀ x ∈ m.row, 0 ≤ x ∧ x ≤ 2147483648
  lin : ∀ x ∈ m.col, 0 ≤ x ∧ x ≤ 2147483648
theorem chk_ok {m : Mat} : chk m = 0 ↔ Ok m := by
  unfold chk
  constructor
  · intro h
    split at h
    · omega
    · rename_i h8
      split at h
      · rename_i ho
        unfold matOk at ho
        simp only [Bool.and_eq_true, decide_eq_true_eq, List.all_eq_true] at ho
        obtain ⟨⟨⟨h1, h2⟩, h3⟩, h4⟩ := ho
        refine ⟨by omega, by omega, h1, fun r hr => ?_, fun r hr x hx => ?_, fun x hx => ?_, fun x hx => ?_⟩
        · have := h2 r hr
          unfold rowOk at this
          simp only [Bool.and_eq_true, decide_eq_true_eq, List.all_eq_true] at this
          exact this.1
        · have := h2 r hr
          unfold rowOk at this
          simp only [Bool.and_eq_true, decide_eq_true_eq, List.all_eq_true] at this
          have := this.2 x hx
          unfold inC at this
          simpa using this
        · have := h3 x hx
          unfold inN at this
          simpa using this
        · have := h4 x hx
          unfold inN at this
          simpa using this
      · omega
  · intro h
    have h8 := h.n8
    have c8 := h.c8
    rw [if_neg (by omega), if_pos]
    unfold matOk
    simp only [Bool.and_eq_true, decide_eq_true_eq, List.all_eq_true]
    refine ⟨⟨⟨h.rows, fun r hr => ?_⟩, fun x hx => ?_⟩, fun x hx => ?_⟩
    · unfold rowOk
      simp only [Bool.and_eq_true, decide_eq_true_eq, List.all_eq_true]
      refine ⟨h.cols r hr, fun x hx => ?_⟩
      have := h.cin r hr x hx
      unfold inC
      simpa using this
    · have := h.rin x hx
      unfold inN
      simpa using this
    · have := h.lin x hx
      unfold inN
      simpa using this

/-! ### Costs -/
/-- the cost of a choice; -1: it is forbidden -/
def price (m : Mat) (i : Nat) (j : Int) : Int := if j < 0 then m.row.getD i 0 else (m.cost.getD i []).getD j.toNat 0
theorem price_range {m : Mat} (h : Ok m) (i : Nat) (j : Int) : -1 ≤ price m i j ∧ price m i j ≤ 2147483648 := by
  unfold price
  split
  · rw [List.getD_eq_getElem?_getD]
    rcases Nat.lt_or_ge i m.row.length with hi | hi
    · rw [List.getElem?_eq_getElem hi]
      have := h.rin _ (List.getElem_mem hi)
      simp; omega
    · rw [List.getElem?_eq_none hi]; simp
  · rw [List.getD_eq_getElem?_getD, List.getD_eq_getElem?_getD]
    rcases Nat.lt_or_ge i m.cost.length with hi | hi
    · rw [List.getElem?_eq_getElem hi, Option.getD_some]
      rcases Nat.lt_or_ge j.toNat m.cost[i].length with hj | hj
      · rw [List.getElem?_eq_getElem hj]
        have := h.cin _ (List.getElem_mem hi) _ (List.getElem_mem hj)
        simp; omega
      · rw [List.getElem?_eq_none hj]; simp
    · rw [List.getElem?_eq_none hi]; simp
theorem price_none {m : Mat} (h : Ok m) (i : Nat) {j : Int} (hj : j < 0) : 0 ≤ price m i j := by
  unfold price
  rw [if_pos hj, List.getD_eq_getElem?_getD]
  rcases Nat.lt_or_ge i m.row.length with hi | hi
  · rw [List.getElem?_eq_getElem hi]
    have := h.rin _ (List.getElem_mem hi)
    simp; omega
  · rw [List.getElem?_eq_none hi]; simp
/-- the columns that stay free: those for which u is false -/
def freeS (u : Nat → Bool) : Nat → List Int → Int
  | _, [] => 0
  | j, c :: l => (if u j then 0 else c) + freeS u (j + 1) l
theorem freeS_range {u : Nat → Bool} : ∀ {l : List Int} (j : Nat), (∀ x ∈ l, 0 ≤ x ∧ x ≤ 2147483648) → 0 ≤ freeS u j l ∧ freeS u j l ≤ 2147483648 * l.length
  | [], j, _ => by simp [freeS]
  | c :: l, j, h => by
    have h1 := freeS_range (u := u) (l := l) (j + 1) (fun x hx => h x (by simp [hx]))
    have h2 := h c (by simp)
    rw [freeS, List.length_cons]
    split <;> omega
theorem freeS_snoc {u : Nat → Bool} (c : Int) : ∀ (l : List Int) (j : Nat), freeS u j (l ++ [c]) = freeS u j l + if u (j + l.length) then 0 else c
  | [], j => by simp [freeS]
  | d :: l, j => by
    rw [List.cons_append, freeS, freeS, freeS_snoc c l (j + 1), List.length_cons, show j + (l.length + 1) = j + 1 + l.length by omega]
    omega
theorem freeS_congr {u v : Nat → Bool} : ∀ (l : List Int) (j : Nat), (∀ k, j ≤ k → k < j + l.length → u k = v k) → freeS u j l = freeS v j l
  | [], _, _ => rfl
  | c :: l, j, h => by
    rw [freeS, freeS, h j (Nat.le_refl _) (by simp), freeS_congr l (j + 1) (fun k h1 h2 => h k (by omega) (by simp at h2 ⊢; omega))]
def fin (m : Mat) (mask : Nat) : Int := freeS (fun j => mask.testBit j) 0 m.col
theorem fin_range {m : Mat} (h : Ok m) (mask : Nat) : 0 ≤ fin m mask ∧ fin m mask ≤ 17179869184 := by
  have h1 := freeS_range (u := fun j => mask.testBit j) (l := m.col) 0 h.lin
  have := h.c8
  unfold fin
  omega
/-- the columns that are used when this one is taken -/
def nxt (mask : Nat) (j : Int) : Nat := if j < 0 then mask else mask ||| (1 <<< j.toNat)
theorem nxt_lt {mask c : Nat} {j : Int} (h : mask < 2 ^ c) (hj : j < c) : nxt mask j < 2 ^ c := by
  unfold nxt
  split
  · exact h
  · refine Nat.or_lt_two_pow h ?_
    rw [Nat.shiftLeft_eq, Nat.one_mul]
    exact Nat.pow_lt_pow_right (by decide) (by omega)
theorem nxt_bit {mask : Nat} {j : Int} (k : Nat) : (nxt mask j).testBit k = (mask.testBit k || decide ((k : Int) = j)) := by
  unfold nxt
  split
  · rename_i h
    have : ¬ (k : Int) = j := by omega
    simp [this]
  · rename_i h
    rw [Nat.testBit_or, Nat.one_shiftLeft, Nat.testBit_two_pow]
    congr 1
    rw [Bool.eq_iff_iff]
    simp
    omega

/-! ### The least, and how often -/
def mn : List Int → Int
  | [] => -1
  | x :: l => if mn l < 0 ∨ x < mn l then x else mn l
def tieN (l : List Int) : Int := (l.count (mn l) : Int)
theorem mn_spec : ∀ {l : List Int}, l ≠ [] → (∀ x ∈ l, 0 ≤ x) → mn l ∈ l ∧ ∀ x ∈ l, mn l ≤ x
  | [], h, _ => absurd rfl h
  | [x], _, h => by
    have := h x (by simp)
    simp [mn]
  | x :: y :: l, _, h => by
    have ih := mn_spec (l := y :: l) (by simp) (fun z hz => h z (by simp at hz ⊢; exact .inr hz))
    have h0 := h _ (List.mem_cons_of_mem x ih.1)
    rw [mn]
    by_cases q : x < mn (y :: l)
    · rw [if_pos (.inr q)]
      refine ⟨by simp, fun z hz => ?_⟩
      rcases List.mem_cons.1 hz with rfl | hz
      · exact Int.le_refl _
      · have := ih.2 z hz; omega
    · rw [if_neg (by omega)]
      refine ⟨List.mem_cons_of_mem _ ih.1, fun z hz => ?_⟩
      rcases List.mem_cons.1 hz with rfl | hz
      · omega
      · exact ih.2 z hz
theorem mn_neg {l : List Int} (h : ∀ x ∈ l, 0 ≤ x) : mn l < 0 ↔ l = [] := by
  constructor
  · intro q
    by_cases e : l = []
    · exact e
    · have := h _ (mn_spec e h).1; omega
  · rintro rfl; decide
theorem mn_ge (l : List Int) (h : ∀ x ∈ l, 0 ≤ x) : -1 ≤ mn l := by
  by_cases e : l = []
  · subst e; decide
  · have := h _ (mn_spec e h).1; omega
theorem mn_uniq {l : List Int} {a : Int} (h : ∀ x ∈ l, 0 ≤ x) (ha : a ∈ l) (hm : ∀ x ∈ l, a ≤ x) : mn l = a := by
  have := mn_spec (List.ne_nil_of_mem ha) h
  have h1 := hm _ this.1
  have h2 := this.2 _ ha
  omega
theorem mn_perm {l k : List Int} (h : ∀ x ∈ l, 0 ≤ x) (hp : l.Perm k) : mn l = mn k := by
  by_cases e : k = []
  · subst e; rw [hp.eq_nil]
  · have := mn_spec e (fun x hx => h x (hp.mem_iff.2 hx))
    exact mn_uniq h (hp.mem_iff.2 this.1) (fun x hx => this.2 x (hp.mem_iff.1 hx))
theorem ways_perm {l k : List Int} (h : ∀ x ∈ l, 0 ≤ x) (hp : l.Perm k) : tieN l = tieN k := by
  unfold tieN
  rw [mn_perm h hp, hp.count_eq]
theorem count_shift (c a : Int) : ∀ l : List Int, (l.map (c + ·)).count (c + a) = l.count a
  | [] => rfl
  | x :: l => by
    rw [List.map_cons, List.count_cons, List.count_cons, count_shift c a l]
    congr 1
    by_cases e : x = a
    · subst e; simp
    · have : ¬ c + x = c + a := by omega
      simp [e, this]
theorem mn_shift {c : Int} {l : List Int} (hl : l ≠ []) (h : ∀ x ∈ l, 0 ≤ x) (hc : 0 ≤ c) : mn (l.map (c + ·)) = c + mn l := by
  have hs := mn_spec hl h
  refine mn_uniq (fun x hx => ?_) (List.mem_map.2 ⟨_, hs.1, rfl⟩) (fun x hx => ?_)
  · obtain ⟨y, hy, rfl⟩ := List.mem_map.1 hx
    have := h y hy; omega
  · obtain ⟨y, hy, rfl⟩ := List.mem_map.1 hx
    have := hs.2 y hy; omega
/-- one more choice: its cost c, what follows it r -/
theorem mn_none {l r : List Int} {c : Int} (hr : ∀ x ∈ r, 0 ≤ x) (q : mn r < 0) : l ++ r.map (c + ·) = l := by
  rw [(mn_neg hr).1 q]; simp
theorem mn_less {l r : List Int} {c : Int} (hl : ∀ x ∈ l, 0 ≤ x) (hr : ∀ x ∈ r, 0 ≤ x) (hc : 0 ≤ c) (q : ¬ mn r < 0) (q2 : mn l < 0 ∨ c + mn r < mn l) :
    mn (l ++ r.map (c + ·)) = c + mn r ∧ tieN (l ++ r.map (c + ·)) = tieN r := by
  have hne : r ≠ [] := fun e => q ((mn_neg hr).2 e)
  have hs := mn_spec hne hr
  have h0 : ∀ x ∈ l ++ r.map (c + ·), 0 ≤ x := fun x hx => by
    rcases List.mem_append.1 hx with hx | hx
    · exact hl x hx
    · obtain ⟨y, hy, rfl⟩ := List.mem_map.1 hx
      have := hr y hy; omega
  have hlt : ∀ x ∈ l, c + mn r < x := fun x hx => by
    rcases q2 with q2 | q2
    · rw [(mn_neg hl).1 q2] at hx; cases hx
    · have := (mn_spec (List.ne_nil_of_mem hx) hl).2 x hx; omega
  have e : mn (l ++ r.map (c + ·)) = c + mn r := mn_uniq h0 (List.mem_append.2 (.inr (List.mem_map.2 ⟨_, hs.1, rfl⟩))) (fun x hx => by
    rcases List.mem_append.1 hx with hx | hx
    · have := hlt x hx; omega
    · obtain ⟨y, hy, rfl⟩ := List.mem_map.1 hx
      have := hs.2 y hy; omega)
  refine ⟨e, ?_⟩
  unfold tieN
  rw [e, List.count_append, count_shift, List.count_eq_zero_of_not_mem (fun hx => by have := hlt _ hx; omega)]
  simp
theorem mn_same {l r : List Int} {c : Int} (hl : ∀ x ∈ l, 0 ≤ x) (hr : ∀ x ∈ r, 0 ≤ x) (hc : 0 ≤ c) (q : ¬ mn r < 0) (q1 : ¬ mn l < 0) (q2 : c + mn r = mn l) :
    mn (l ++ r.map (c + ·)) = mn l ∧ tieN (l ++ r.map (c + ·)) = tieN l + tieN r := by
  have hne : r ≠ [] := fun e => q ((mn_neg hr).2 e)
  have hnl : l ≠ [] := fun e => q1 ((mn_neg hl).2 e)
  have hs := mn_spec hne hr
  have ht := mn_spec hnl hl
  have h0 : ∀ x ∈ l ++ r.map (c + ·), 0 ≤ x := fun x hx => by
    rcases List.mem_append.1 hx with hx | hx
    · exact hl x hx
    · obtain ⟨y, hy, rfl⟩ := List.mem_map.1 hx
      have := hr y hy; omega
  have e : mn (l ++ r.map (c + ·)) = mn l := mn_uniq h0 (List.mem_append.2 (.inl ht.1)) (fun x hx => by
    rcases List.mem_append.1 hx with hx | hx
    · exact ht.2 x hx
    · obtain ⟨y, hy, rfl⟩ := List.mem_map.1 hx
      have := hs.2 y hy; omega)
  refine ⟨e, ?_⟩
  unfold tieN
  rw [e, List.count_append, ← q2, count_shift]
  omega
theorem mn_more {l r : List Int} {c : Int} (hl : ∀ x ∈ l, 0 ≤ x) (hr : ∀ x ∈ r, 0 ≤ x) (hc : 0 ≤ c) (q : ¬ mn r < 0) (q1 : ¬ mn l < 0) (q2 : mn l < c + mn r) :
    mn (l ++ r.map (c + ·)) = mn l ∧ tieN (l ++ r.map (c + ·)) = tieN l := by
  have hne : r ≠ [] := fun e => q ((mn_neg hr).2 e)
  have hnl : l ≠ [] := fun e => q1 ((mn_neg hl).2 e)
  have hs := mn_spec hne hr
  have ht := mn_spec hnl hl
  have h0 : ∀ x ∈ l ++ r.map (c + ·), 0 ≤ x := fun x hx => by
    rcases List.mem_append.1 hx with hx | hx
    · exact hl x hx
    · obtain ⟨y, hy, rfl⟩ := List.mem_map.1 hx
      have := hr y hy; omega
  have e : mn (l ++ r.map (c + ·)) = mn l := mn_uniq h0 (List.mem_append.2 (.inl ht.1)) (fun x hx => by
    rcases List.mem_append.1 hx with hx | hx
    · exact ht.2 x hx
    · obtain ⟨y, hy, rfl⟩ := List.mem_map.1 hx
      have := hs.2 y hy; omega)
  refine ⟨e, ?_⟩
  unfold tieN
  rw [e, List.count_append]
  have : (r.map (c + ·)).count (mn l) = 0 := List.count_eq_zero_of_not_mem (fun hx => by
    obtain ⟨y, hy, hy2⟩ := List.mem_map.1 hx
    have := hs.2 y hy; omega)
  rw [this]
  simp

/-! ### All assignments of the last k rows, in their order -/
/-- row i may have this column -/
def okF (F : List Int) (i : Nat) (j : Int) : Bool := decide (F.getD i 0 = -2) || decide (F.getD i 0 = j)
def okJ (m : Mat) (i : Nat) (j : Int) (mask : Nat) : Bool := decide (j < 0) || (!mask.testBit j.toNat && decide (0 ≤ price m i j))
def ok (m : Mat) (F : List Int) (i : Nat) (j : Int) (mask : Nat) : Bool := okF F i j && okJ m i j mask
def cols (c : Nat) : List Int := (List.range c).map fun (j : Nat) => (j : Int)
def choices (c : Nat) : List Int := cols c ++ [-1]
theorem cols_mem {c : Nat} {j : Int} : j ∈ cols c ↔ 0 ≤ j ∧ j < c := by
  unfold cols
  rw [List.mem_map]
  constructor
  · rintro ⟨k, hk, rfl⟩
    have := List.mem_range.1 hk; omega
  · rintro ⟨h1, h2⟩
    exact ⟨j.toNat, List.mem_range.2 (by omega), by omega⟩
theorem choices_mem {c : Nat} {j : Int} : j ∈ choices c ↔ -1 ≤ j ∧ j < c := by
  unfold choices
  rw [List.mem_append, cols_mem, List.mem_singleton]
  omega
def comps (m : Mat) (F : List Int) : Nat → Nat → Nat → List (List Int)
  | 0, _, _ => [[]]
  | k + 1, i, mask => (choices m.col.length).flatMap fun j => if ok m F i j mask then (comps m F k (i + 1) (nxt mask j)).map (j :: ·) else []
def cst (m : Mat) : Nat → Nat → List Int → Int
  | _, mask, [] => fin m mask
  | i, mask, j :: r => price m i j + cst m (i + 1) (nxt mask j) r
/-- the costs of what begins with one of these choices -/
def costs (m : Mat) (F : List Int) (k i mask : Nat) : List Int := (comps m F k i mask).map (cst m i mask)
def via (m : Mat) (F : List Int) (k i mask : Nat) (j : Int) : List Int := if ok m F i j mask then (costs m F k (i + 1) (nxt mask j)).map (price m i j + ·) else []
theorem costs_zero (m : Mat) (F : List Int) (i mask : Nat) : costs m F 0 i mask = [fin m mask] := rfl
theorem costs_succ (m : Mat) (F : List Int) (k i mask : Nat) : costs m F (k + 1) i mask = (choices m.col.length).flatMap (via m F k i mask) := by
  unfold costs
  rw [comps, List.map_flatMap]
  congr 1
  funext j
  unfold via costs
  split
  · rw [List.map_map, List.map_map]; rfl
  · rfl
theorem ok_price {m : Mat} (h : Ok m) {F : List Int} {i : Nat} {j : Int} {mask : Nat} (q : ok m F i j mask = true) : 0 ≤ price m i j := by
  unfold ok okJ at q
  simp only [Bool.and_eq_true, Bool.or_eq_true, decide_eq_true_eq] at q
  rcases q.2 with q | q
  · exact price_none h i q
  · exact q.2
theorem costs_range {m : Mat} (h : Ok m) (F : List Int) : ∀ (k i mask : Nat), ∀ x ∈ costs m F k i mask, 0 ≤ x ∧ x ≤ 17179869184 + 2147483648 * k
  | 0, i, mask, x, hx => by
    rw [costs_zero, List.mem_singleton] at hx
    have := fin_range h mask
    omega
  | k + 1, i, mask, x, hx => by
    rw [costs_succ, List.mem_flatMap] at hx
    obtain ⟨j, hj, hx⟩ := hx
    unfold via at hx
    split at hx
    · rename_i ho
      obtain ⟨y, hy, rfl⟩ := List.mem_map.1 hx
      have h1 := costs_range h F k (i + 1) _ y hy
      have h2 := price_range h i j
      have h3 := ok_price h ho
      omega
    · cases hx
theorem costs_len (m : Mat) (F : List Int) : ∀ (k i mask : Nat), (costs m F k i mask).length ≤ (m.col.length + 1) ^ k
  | 0, i, mask => by rw [costs_zero]; simp
  | k + 1, i, mask => by
    rw [costs_succ]
    have key : ∀ l : List Int, (l.flatMap (via m F k i mask)).length ≤ l.length * (m.col.length + 1) ^ k := fun l => by
      induction l with
      | nil => simp
      | cons j l ih =>
        rw [List.flatMap_cons, List.length_append, List.length_cons, Nat.succ_mul]
        have : (via m F k i mask j).length ≤ (m.col.length + 1) ^ k := by
          unfold via
          split
          · rw [List.length_map]; exact costs_len m F k (i + 1) _
          · simp
        omega
    refine Nat.le_trans (key _) ?_
    rw [show (choices m.col.length).length = m.col.length + 1 by simp [choices, cols], Nat.pow_succ, Nat.mul_comm]
    exact Nat.le_refl _
theorem costs_nonneg {m : Mat} (h : Ok m) (F : List Int) (k i mask : Nat) : ∀ x ∈ costs m F k i mask, 0 ≤ x := fun x hx => (costs_range h F k i mask x hx).1
/-- while the choices are gone through -/
def soFar (m : Mat) (F : List Int) (k i mask t : Nat) : List Int := ((choices m.col.length).take t).flatMap (via m F k i mask)
theorem soFar_zero (m : Mat) (F : List Int) (k i mask : Nat) : soFar m F k i mask 0 = [] := rfl
theorem choices_len (c : Nat) : (choices c).length = c + 1 := by simp [choices, cols]
theorem soFar_succ (m : Mat) (F : List Int) (k i mask : Nat) {t : Nat} (ht : t < (choices m.col.length).length) : soFar m F k i mask (t + 1) = soFar m F k i mask t ++ via m F k i mask (choices m.col.length)[t] := by
  unfold soFar
  rw [List.take_succ_eq_append_getElem ht, List.flatMap_append]
  simp
theorem soFar_end (m : Mat) (F : List Int) (k i mask t : Nat) (ht : m.col.length + 1 ≤ t) : soFar m F k i mask t = costs m F (k + 1) i mask := by
  unfold soFar
  rw [List.take_of_length_le (by rw [choices_len]; exact ht), costs_succ]
theorem soFar_nonneg {m : Mat} (h : Ok m) (F : List Int) (k i mask t : Nat) : ∀ x ∈ soFar m F k i mask t, 0 ≤ x := fun x hx => by
  refine costs_nonneg h F (k + 1) i mask x ?_
  rw [costs_succ]
  unfold soFar at hx
  obtain ⟨j, hj, hx⟩ := List.mem_flatMap.1 hx
  exact List.mem_flatMap.2 ⟨j, List.mem_of_mem_take hj, hx⟩
/-- the order of assignments, where -1 follows all columns -/
def befC : List Int → List Int → Bool
  | x :: a, y :: b => if x = y then befC a b else decide (0 ≤ x) && (decide (y < 0) || decide (x < y))
  | _, _ => false
end Go.Tw.Match
