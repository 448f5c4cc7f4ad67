/-
  Layer 12 (class) in plain Lean: what the program and the reference compute, and why the laws hold. No program in sight.
-/
import Derived.Test.YtdhpcfabeapaaaaLib
namespace Go.Tw.Class
open Go.RowKit

structure Rule where
  f : Int
  t : Int
  c : Int
def tRule : Ty Rule := (tInt.pair (tInt.pair tInt)).via fun r => (r.f, r.t, r.c)
theorem tRule_is {S : Nat → Prop} {w : World} {cs : List Value} {r : Rule} (h : tRule.is S w cs r) : cs = [.int .i64 r.f, .int .i64 r.t, .int .i64 r.c] ∧ i64ok r.f ∧ i64ok r.t ∧ i64ok r.c := by
  obtain ⟨_, _, rfl, ⟨rfl, h1⟩, _, _, rfl, ⟨rfl, h2⟩, ⟨rfl, h3⟩⟩ := h
  exact ⟨rfl, h1, h2, h3⟩
theorem tRule_mk {S : Nat → Prop} {w : World} {r : Rule} (h1 : i64ok r.f) (h2 : i64ok r.t) (h3 : i64ok r.c) : tRule.is S w [.int .i64 r.f, .int .i64 r.t, .int .i64 r.c] r :=
  ⟨[_], [_, _], rfl, ⟨rfl, h1⟩, [_], [_], rfl, ⟨rfl, h2⟩, rfl, h3⟩

/-- the cells of one rule -/
theorem rule_open {B : Nat} {w : World} {v : Value} {l : List Rule} (h : SlIs tRule (· < B) w v l) :
    ∃ ao cap b off, v = .slice ao l.length cap ∧ l.length ≤ cap ∧ cap ≤ maxLen ∧ ∀ w', Below B w w' → ∀ k (_ : k < l.length), ao = some ⟨b, off, none⟩ ∧ b < B ∧
      w'.cell? ⟨b, off + k * 3, none⟩ = some (.int .i64 l[k].f) ∧ w'.cell? ⟨b, off + k * 3 + 1, none⟩ = some (.int .i64 l[k].t) ∧ w'.cell? ⟨b, off + k * 3 + 2, none⟩ = some (.int .i64 l[k].c) ∧ i64ok l[k].f ∧ i64ok l[k].t ∧ i64ok l[k].c := by
  obtain ⟨ao, cap, b, off, hv, h1, h2, h3⟩ := h.openB
  refine ⟨ao, cap, b, off, hv, h1, h2, fun w' hw k hk => ?_⟩
  obtain ⟨g1, g2, cs, g3, g4⟩ := h3 w' hw k hk
  obtain ⟨rfl, g5⟩ := tRule_is g4
  have := cells3 (f := fun j => w'.cell? ⟨b, off + k * 3 + j, none⟩) g3
  exact ⟨g1, g2, this.1, this.2.1, this.2.2, g5⟩

def isC (n : Int) : Bool := decide (1 ≤ n) && decide (n ≤ 9)

/-- P12.1, rule by rule: 'done': the rules before -/
def bad1 (r : Rule) : Bool := decide (r.f < 1) || decide (r.t < r.f) || decide (20 < r.t)
def chk (done : List Rule) : List Rule → Int
  | [] => 0
  | r :: rest =>
    if bad1 r then 1 else if isC r.c = false then 20
    else if (match done.getLast? with | none => false | some p => decide (r.f ≤ p.t)) then 15
    else if done.any (fun p => p.c == r.c) then 9
    else chk (done ++ [r]) rest
def chkAll (l : List Rule) : Int := if 9 < l.length then 3 else chk [] l

def ofC (ax : Int) : List Rule → Int × Int
  | [] => (0, 20)
  | r :: rest => if r.f ≤ ax ∧ ax ≤ r.t then (r.c, 0) else ofC ax rest
def rangeC (c : Int) : List Rule → Int × Int × Bool
  | [] => (0, 0, false)
  | r :: rest => if r.c = c then (r.f, r.t, true) else rangeC c rest
def reconC (d m : Int) : Int × Bool := if isC m then (m, d == m || !isC d) else if isC d then (d, false) else (0, false)

def cnt (l : List Int) (c : Int) : Int := (l.filter fun x => x == c).length
/-- best and most behind the classes 1 .. k -/
def majF (l : List Int) : Nat → Int × Int
  | 0 => (0, 0)
  | k + 1 => if (majF l k).2 < cnt l (k + 1) then ((k : Int) + 1, cnt l (k + 1)) else majF l k
def majC (l : List Int) : Int := (majF l 9).1

theorem ofC_drop {ax : Int} {l : List Rule} {k : Nat} (h : k < l.length) : ofC ax (l.drop k) = if l[k].f ≤ ax ∧ ax ≤ l[k].t then (l[k].c, 0) else ofC ax (l.drop (k + 1)) := by
  rw [List.drop_eq_getElem_cons h]; rfl
theorem rangeC_drop {c : Int} {l : List Rule} {k : Nat} (h : k < l.length) : rangeC c (l.drop k) = if l[k].c = c then (l[k].f, l[k].t, true) else rangeC c (l.drop (k + 1)) := by
  rw [List.drop_eq_getElem_cons h]; rfl
theorem ofC_end {ax : Int} {l : List Rule} {k : Nat} (h : l.length ≤ k) : ofC ax (l.drop k) = (0, 20) := by
  rw [List.drop_eq_nil_of_le h]; rfl
theorem rangeC_end {c : Int} {l : List Rule} {k : Nat} (h : l.length ≤ k) : rangeC c (l.drop k) = (0, 0, false) := by
  rw [List.drop_eq_nil_of_le h]; rfl


theorem take_last {α : Type} {l : List α} {k : Nat} (h : k ≤ l.length) (hk : 0 < k) : (l.take k).getLast? = some (l[k - 1]'(by omega)) := by
  rw [List.getLast?_eq_getElem?, List.length_take, Nat.min_eq_left h, List.getElem?_take_of_lt (by omega)]
  exact List.getElem?_eq_getElem _

theorem chk_step {l : List Rule} {k : Nat} (h : k < l.length) : chk (l.take k) (l.drop k) =
    if bad1 l[k] then 1 else if isC l[k].c = false then 20
    else if 0 < k ∧ l[k].f ≤ (l[k - 1]'(by omega)).t then 15
    else if (l.take k).any (fun p => p.c == l[k].c) then 9
    else chk (l.take (k + 1)) (l.drop (k + 1)) := by
  rw [List.drop_eq_getElem_cons h, chk, List.take_succ_eq_append_getElem h]
  by_cases hk : 0 < k
  · rw [take_last (by omega) hk]
    simp [hk]
  · obtain rfl : k = 0 := by omega
    simp
theorem chk_end {l : List Rule} {k : Nat} (h : l.length ≤ k) : chk (l.take k) (l.drop k) = 0 := by
  rw [List.drop_eq_nil_of_le h]; rfl

/-- the ways of one round, in the tests' own words -/
theorem chk_1 {l : List Rule} {k : Nat} (h : k < l.length) (q : l[k].f < 1 ∨ l[k].t < l[k].f ∨ 20 < l[k].t) : chk (l.take k) (l.drop k) = 1 := by
  rw [chk_step h, if_pos (by simp [bad1]; omega)]
theorem bad1_no {r : Rule} (q1 : 1 ≤ r.f) (q2 : r.f ≤ r.t) (q3 : r.t ≤ 20) : bad1 r = false := by simp [bad1]; omega
theorem chk_20 {l : List Rule} {k : Nat} (h : k < l.length) (q : bad1 l[k] = false) (q2 : isC l[k].c = false) : chk (l.take k) (l.drop k) = 20 := by
  rw [chk_step h, if_neg (by simp [q]), if_pos q2]
theorem chk_15 {l : List Rule} {k : Nat} (h : k < l.length) (q : bad1 l[k] = false) (q2 : isC l[k].c = true) (hk : 0 < k) (q3 : l[k].f ≤ (l[k - 1]'(by omega)).t) : chk (l.take k) (l.drop k) = 15 := by
  rw [chk_step h, if_neg (by simp [q]), if_neg (by simp [q2]), if_pos ⟨hk, q3⟩]
theorem chk_9 {l : List Rule} {k : Nat} (h : k < l.length) (q : bad1 l[k] = false) (q2 : isC l[k].c = true) (q3 : 0 < k → (l[k - 1]'(by omega)).t < l[k].f) (q4 : (l.take k).any (fun p => p.c == l[k].c) = true) : chk (l.take k) (l.drop k) = 9 := by
  rw [chk_step h, if_neg (by simp [q]), if_neg (by simp [q2]), if_neg (by intro hh; have := q3 hh.1; omega), if_pos q4]
theorem chk_on {l : List Rule} {k : Nat} (h : k < l.length) (q : bad1 l[k] = false) (q2 : isC l[k].c = true) (q3 : 0 < k → (l[k - 1]'(by omega)).t < l[k].f) (q4 : (l.take k).any (fun p => p.c == l[k].c) = false) : chk (l.take k) (l.drop k) = chk (l.take (k + 1)) (l.drop (k + 1)) := by
  rw [chk_step h, if_neg (by simp [q]), if_neg (by simp [q2]), if_neg (by intro hh; have := q3 hh.1; omega), if_neg (by simp [q4])]

/-- the program's table of the classes that were seen -/
def Seen (w : World) (S : Nat) (T : TypeId) (l : List Rule) : Prop :=
  ∃ A : Array Value, A.size = 10 ∧ w.heap[S]? = some (.cells A T (0, 0)) ∧ ∀ j : Nat, j < 10 → A[j]? = some (.bool (l.any fun p => p.c == (j : Int)))
theorem Seen.lt {w : World} {S : Nat} {T : TypeId} {l : List Rule} (h : Seen w S T l) : S < w.heap.size := by
  obtain ⟨A, _, h2, _⟩ := h
  exact lt_of_heap h2
theorem Seen.cell {w : World} {S : Nat} {T : TypeId} {l : List Rule} (h : Seen w S T l) {c : Int} (h0 : 0 ≤ c) (h1 : c ≤ 9) : w.cell? ⟨S, c.toNat, none⟩ = some (.bool (l.any fun p => p.c == c)) ∧ w.frozen? ⟨S, c.toNat, none⟩ = false := by
  obtain ⟨A, h1, h2, h3⟩ := h
  have := h3 c.toNat (by omega)
  rw [show ((c.toNat : Nat) : Int) = c by omega] at this
  exact ⟨by simp [World.cell?, h2, this], by simp [World.frozen?, h2]⟩
theorem Seen.alloc {w : World} {S : Nat} {T : TypeId} {l : List Rule} (h : Seen w S T l) (o : Obj) : Seen (w.alloc o) S T l := by
  have := h.lt
  obtain ⟨A, h1, h2, h3⟩ := h
  exact ⟨A, h1, by rw [Below.heap_alloc _ _ _ this]; exact h2, h3⟩
theorem Seen.drewN {w : World} {S : Nat} {T : TypeId} {l : List Rule} {n : Nat} (h : Seen w S T l) : Seen (w.drewN n) S T l := h
theorem Seen.set {w : World} {S : Nat} {T : TypeId} {l : List Rule} (h : Seen w S T l) {r : Rule} (h0 : 0 ≤ r.c) (h9 : r.c ≤ 9) : Seen (w.setCell ⟨S, r.c.toNat, none⟩ (.bool true)) S T (l ++ [r]) := by
  obtain ⟨A, h1, h2, h3⟩ := h
  refine ⟨A.setIfInBounds r.c.toNat (.bool true), by simp [h1], ?_, fun j hj => ?_⟩
  · exact heap_setCell_same _ _ _ _ _ _ h2
  · rw [Array.getElem?_setIfInBounds]
    by_cases e : r.c.toNat = j
    · subst e
      rw [if_pos rfl, if_pos (by omega)]
      have e2 : ((r.c.toNat : Nat) : Int) = r.c := by omega
      rw [e2]; simp
    · rw [if_neg e, h3 j hj]
      have e2 : (r.c == (j : Int)) = false := by simp; omega
      simp [e2]
theorem cnt_nonneg (l : List Int) (c : Int) : 0 ≤ cnt l c := by unfold cnt; omega
theorem cnt_le (l : List Int) (c : Int) : cnt l c ≤ l.length := by unfold cnt; have := List.length_filter_le (fun x => x == c) l; omega
theorem cnt_snoc (l : List Int) (x c : Int) : cnt (l ++ [x]) c = cnt l c + if x = c then 1 else 0 := by
  unfold cnt; rw [List.filter_append]; by_cases h : x = c <;> simp [h]
theorem majF_inv (l : List Int) (k : Nat) : 0 ≤ (majF l k).1 ∧ (majF l k).1 ≤ k ∧ ((majF l k).1 = 0 → (majF l k).2 = 0) ∧ (1 ≤ (majF l k).1 → (majF l k).2 = cnt l (majF l k).1 ∧ 0 < (majF l k).2) := by
  induction k with
  | zero => simp [majF]
  | succ k ih =>
    have := cnt_nonneg l (k + 1)
    unfold majF
    split
    · refine ⟨by simp; omega, by simp, fun h => by simp at h; omega, fun _ => ⟨by simp, ?_⟩⟩
      simp only
      rcases Int.lt_or_le 0 (majF l k).1 with h | h
      · have := ih.2.2.2 h; omega
      · have := ih.2.2.1 (by omega); omega
    · exact ⟨ih.1, by omega, ih.2.2.1, ih.2.2.2⟩
theorem majF_yes {l : List Int} {k : Nat} (h : (majF l k).2 < cnt l (k + 1)) : majF l (k + 1) = ((k : Int) + 1, cnt l (k + 1)) := by rw [majF, if_pos h]
theorem majF_no {l : List Int} {k : Nat} (h : ¬ (majF l k).2 < cnt l (k + 1)) : majF l (k + 1) = majF l k := by rw [majF, if_neg h]

/-- the program's counts: of the classes 1 .. 9 alone -/
def cntT (l : List Int) (j : Int) : Int := if isC j then cnt l j else 0
def Counts (w : World) (S : Nat) (T : TypeId) (l : List Int) : Prop :=
  ∃ A : Array Value, A.size = 10 ∧ w.heap[S]? = some (.cells A T (0, 0)) ∧ ∀ j : Nat, j < 10 → A[j]? = some (.int .i64 (cntT l j))
theorem Counts.lt {w : World} {S : Nat} {T : TypeId} {l : List Int} (h : Counts w S T l) : S < w.heap.size := by
  obtain ⟨A, _, h2, _⟩ := h
  exact lt_of_heap h2
theorem Counts.cell {w : World} {S : Nat} {T : TypeId} {l : List Int} (h : Counts w S T l) {c : Int} (h0 : 0 ≤ c) (h1 : c ≤ 9) : w.cell? ⟨S, c.toNat, none⟩ = some (.int .i64 (cntT l c)) ∧ w.frozen? ⟨S, c.toNat, none⟩ = false := by
  obtain ⟨A, h1, h2, h3⟩ := h
  have := h3 c.toNat (by omega)
  rw [show ((c.toNat : Nat) : Int) = c by omega] at this
  exact ⟨by simp [World.cell?, h2, this], by simp [World.frozen?, h2]⟩
theorem Counts.set {w : World} {S : Nat} {T : TypeId} {l : List Int} (h : Counts w S T l) {c : Int} (hc : isC c = true) : Counts (w.setCell ⟨S, c.toNat, none⟩ (.int .i64 (cntT l c + 1))) S T (l ++ [c]) := by
  obtain ⟨A, h1, h2, h3⟩ := h
  have hb : 1 ≤ c ∧ c ≤ 9 := by simpa [isC] using hc
  refine ⟨A.setIfInBounds c.toNat _, by simp [h1], heap_setCell_same _ _ _ _ _ _ h2, fun j hj => ?_⟩
  rw [Array.getElem?_setIfInBounds]
  by_cases e : c.toNat = j
  · subst e
    rw [if_pos rfl, if_pos (by omega)]
    have e2 : ((c.toNat : Nat) : Int) = c := by omega
    rw [e2]; simp [cntT, hc, cnt_snoc]
  · rw [if_neg e, h3 j hj]
    have e2 : ¬ c = (j : Int) := by omega
    simp [cntT, cnt_snoc, e2]
theorem Counts.pass {w : World} {S : Nat} {T : TypeId} {l : List Int} (h : Counts w S T l) {c : Int} (hc : isC c = false) : Counts w S T (l ++ [c]) := by
  obtain ⟨A, h1, h2, h3⟩ := h
  refine ⟨A, h1, h2, fun j hj => ?_⟩
  rw [h3 j hj]
  by_cases e : c = (j : Int)
  · subst e; simp [cntT, hc]
  · simp [cntT, cnt_snoc, e]
theorem cntT_pos {l : List Int} {c : Int} (hc : isC c = true) : cntT l c = cnt l c := by simp [cntT, hc]
theorem cntT_nonneg (l : List Int) (c : Int) : 0 ≤ cntT l c := by unfold cntT; split; exact cnt_nonneg _ _; omega
theorem cntT_le (l : List Int) (c : Int) : cntT l c ≤ l.length := by unfold cntT; split; exact cnt_le _ _; omega

theorem maj_most {l : List Int} {j : Nat} {best : Int} (hb : best = (majF l (j - 1)).1) (hj : j ≤ 9) : (best = 0 → (majF l (j - 1)).2 = 0) ∧ (1 ≤ best → (majF l (j - 1)).2 = cntT l best ∧ 0 < cntT l best) ∧ 0 ≤ best ∧ best ≤ 9 := by
  obtain ⟨i1, i2, i3, i4⟩ := majF_inv l (j - 1)
  rw [← hb] at i1 i2 i3 i4
  have e : 1 ≤ best → cntT l best = cnt l best := fun h => cntT_pos (by simp [isC]; omega)
  exact ⟨i3, fun h => by rw [e h]; have := i4 h; omega, i1, by omega⟩
theorem maj_yes {l : List Int} {j : Nat} {best : Int} (hb : best = (majF l (j - 1)).1) (hj1 : 1 ≤ j) (hj : j ≤ 9) (h0 : 0 < cnt l j) (h : best = 0 ∨ cntT l best < cnt l j) : (majF l (j + 1 - 1)).1 = j := by
  obtain ⟨i1, i2, i3, i4⟩ := maj_most hb hj
  obtain ⟨m, rfl⟩ : ∃ m, j = m + 1 := ⟨j - 1, by omega⟩
  rw [show m + 1 + 1 - 1 = m + 1 from rfl, majF_yes]
  · simp
  · rw [show m + 1 - 1 = m from rfl] at i1 i2
    rw [show ((m + 1 : Nat) : Int) = (m : Int) + 1 by omega] at h0 h
    rcases h with h | h
    · have := i1 h; omega
    · rcases Int.lt_or_le 0 best with hp | hp
      · have := i2 hp; omega
      · have := i1 (by omega); omega
theorem maj_no {l : List Int} {j : Nat} {best : Int} (hb : best = (majF l (j - 1)).1) (hj1 : 1 ≤ j) (hj : j ≤ 9) (h : cnt l j ≤ 0 ∨ (¬ best = 0 ∧ cnt l j ≤ cntT l best)) : (majF l (j + 1 - 1)).1 = best := by
  obtain ⟨i1, i2, i3, i4⟩ := maj_most hb hj
  obtain ⟨m, rfl⟩ : ∃ m, j = m + 1 := ⟨j - 1, by omega⟩
  rw [show m + 1 + 1 - 1 = m + 1 from rfl, majF_no]
  · exact hb.symm
  · rw [show m + 1 - 1 = m from rfl] at i1 i2
    rw [show ((m + 1 : Nat) : Int) = (m : Int) + 1 by omega] at h
    rcases h with h | ⟨h, h'⟩
    · rcases Int.lt_or_le 0 best with hp | hp
      · have := i2 hp; omega
      · have := i1 (by omega); omega
    · have := i2 (by omega); omega

theorem any_at {l : List Rule} {j k : Nat} {c : Int} (hjk : j < k) (hj : j < l.length) (hq : (l[j].c == c) = true) : ((l.take k).any fun p => p.c == c) = true := by
  rw [List.any_eq_true]
  exact ⟨l[j], by rw [List.mem_take_iff_getElem]; exact ⟨j, by omega, rfl⟩, hq⟩
theorem any_on {l : List Rule} {j : Nat} {c : Int} (hj : j < l.length) (h : ((l.take j).any fun p => p.c == c) = false) (hq : (l[j].c == c) = false) : ((l.take (j + 1)).any fun p => p.c == c) = false := by
  rw [List.take_succ_eq_append_getElem hj, List.any_append, h]
  simpa using hq
end Go.Tw.Class
