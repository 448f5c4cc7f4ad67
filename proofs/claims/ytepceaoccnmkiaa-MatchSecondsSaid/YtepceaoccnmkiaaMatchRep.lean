/-
  Layer 6 (match): a matrix in memory, opened.
-/
import Derived.Test.YtepceaoccnmkiaaMatchPure
namespace Go.Tw.Match
open Go.RowKit Go.Tw

/-- ints in a slice that lies below B, opened at any later world -/
def IntsAt (B : Nat) (w : World) (ao : Option Addr) (b off : Nat) (l : List Int) : Prop :=
  ∀ w', Below B w w' → ∀ k (_ : k < l.length), ao = some ⟨b, off, none⟩ ∧ b < B ∧ w'.cell? ⟨b, off + k, none⟩ = some (.int .i64 l[k]) ∧ i64ok l[k]
theorem ints_at {B : Nat} {w : World} {v : Value} {l : List Int} (h : SlIs tInt (· < B) w v l) : ∃ ao cap b off, v = .slice ao l.length cap ∧ l.length ≤ cap ∧ cap ≤ maxLen ∧ IntsAt B w ao b off l := ints_open h
theorem IntsAt.later {B : Nat} {w w1 : World} {ao : Option Addr} {b off : Nat} {l : List Int} (h : IntsAt B w ao b off l) (hb : Below B w w1) : IntsAt B w1 ao b off l := fun w' hw => h w' (hb.trans hw)
/-- a slice of slices of ints -/
def RowsAt (B : Nat) (w : World) (ao : Option Addr) (b off : Nat) (l : List (List Int)) : Prop :=
  ∀ k (_ : k < l.length), ao = some ⟨b, off, none⟩ ∧ b < B ∧ ∃ ar cap br offr, (∀ w', Below B w w' → w'.cell? ⟨b, off + k, none⟩ = some (.slice ar l[k].length cap)) ∧ l[k].length ≤ cap ∧ cap ≤ maxLen ∧ IntsAt B w ar br offr l[k]
theorem rows_at {B : Nat} {w : World} {v : Value} {l : List (List Int)} {e : TypeId} (h : SlIs (tInt.list e) (· < B) w v l) : ∃ ao cap b off, v = .slice ao l.length cap ∧ l.length ≤ cap ∧ cap ≤ maxLen ∧ RowsAt B w ao b off l := by
  obtain ⟨ao, cap, b, off, hv, h1, h2, h3⟩ := h.openB
  refine ⟨ao, cap, b, off, hv, h1, h2, fun k hk => ?_⟩
  obtain ⟨g1, g2, cs, g3, u, rfl, g5⟩ := h3 w (Below.refl _ _) k hk
  obtain ⟨ar, capr, br, offr, rfl, r1, r2, r3⟩ := ints_at g5
  refine ⟨g1, g2, ar, capr, br, offr, fun w' hw => ?_, r1, r2, r3⟩
  have := g3 0 (by show 0 < 1; decide)
  rw [show off + k * (tInt.list e).sz + 0 = off + k from by show off + k * 1 + 0 = off + k; omega] at this
  rw [hw.cell (p := ⟨b, off + k, none⟩) g2]
  exact this
/-- a matrix: its three slices -/
def tMat (e1 e2 : TypeId) : Ty Mat := Ty.via ((Ty.list (Ty.list tInt e2) e1).pair ((Ty.list tInt e2).pair (Ty.list tInt e2))) (fun m => (m.cost, m.row, m.col))
structure MatIs (w : World) (vc vr vl : Value) (m : Mat) : Prop where
  cost : SlIs (Ty.list tInt) (· < w.heap.size) w vc m.cost
  row : SlIs tInt (· < w.heap.size) w vr m.row
  col : SlIs tInt (· < w.heap.size) w vl m.col
theorem list_e {α : Type} {T : Ty α} {e e' : TypeId} {S : Nat → Prop} {w : World} {v : Value} {l : List (List α)} (h : SlIs (T.list e) S w v l) : SlIs (T.list e') S w v l := h
theorem mat_is {w : World} {cs : List Value} {m : Mat} {e1 e2 : TypeId} (h : (tMat e1 e2).is (· < w.heap.size) w cs m) : ∃ vc vr vl, cs = [vc, vr, vl] ∧ MatIs w vc vr vl m := by
  obtain ⟨c, d, rfl, ⟨vc, rfl, h1⟩, c2, d2, rfl, ⟨vr, rfl, h2⟩, vl, rfl, h3⟩ := h
  exact ⟨vc, vr, vl, rfl, list_e h1, h2, h3⟩
theorem MatIs.step {W w : World} {vc vr vl : Value} {m : Mat} (h : MatIs W vc vr vl m) (hb : Below W.heap.size W w) : MatIs w vc vr vl m :=
  ⟨h.cost.step hb, h.row.step hb, h.col.step hb⟩
/-- .. opened -/
structure MatAt (w : World) (ac : Option Addr) (cc bc oc : Nat) (ar : Option Addr) (cr br or : Nat) (al : Option Addr) (cl bl ol : Nat) (m : Mat) : Prop where
  cc1 : m.cost.length ≤ cc
  cc2 : cc ≤ 9223372036854775807
  cr1 : m.row.length ≤ cr
  cr2 : cr ≤ 9223372036854775807
  cl1 : m.col.length ≤ cl
  cl2 : cl ≤ 9223372036854775807
  cost : RowsAt w.heap.size w ac bc oc m.cost
  row : IntsAt w.heap.size w ar br or m.row
  col : IntsAt w.heap.size w al bl ol m.col
theorem MatIs.at {w : World} {vc vr vl : Value} {m : Mat} (h : MatIs w vc vr vl m) : ∃ ac cc bc oc ar cr br or al cl bl ol, vc = .slice ac m.cost.length cc ∧ vr = .slice ar m.row.length cr ∧ vl = .slice al m.col.length cl ∧ MatAt w ac cc bc oc ar cr br or al cl bl ol m := by
  obtain ⟨ac, cc, bc, oc, h1, h2, h3, h4⟩ := rows_at h.cost
  obtain ⟨ar, cr, br, or, h5, h6, h7, h8⟩ := ints_at h.row
  obtain ⟨al, cl, bl, ol, h9, ha, hb, hc⟩ := ints_at h.col
  unfold maxLen at h3 h7 hb
  exact ⟨ac, cc, bc, oc, ar, cr, br, or, al, cl, bl, ol, h1, h5, h9, h2, h3, h6, h7, ha, hb, h4, h8, hc⟩

/-! what the tests of Check say -/
theorem rowOk_len {c : Nat} {r : List Int} (h : r.length ≠ c) : rowOk c r = false := by unfold rowOk; simp [h]
theorem rowOk_at {c : Nat} {r : List Int} {j : Nat} (hj : j < r.length) (h : inC r[j] = false) : rowOk c r = false := by
  unfold rowOk
  have : r.all inC = false := by
    rw [List.all_eq_false]
    exact ⟨_, List.getElem_mem hj, by simp [h]⟩
  rw [this]; simp
theorem rowOk_of {c : Nat} {r : List Int} (h : r.length = c) (ha : ∀ j (hj : j < r.length), inC r[j] = true) : rowOk c r = true := by
  unfold rowOk
  simp only [h, decide_true, Bool.true_and, List.all_eq_true]
  intro x hx
  obtain ⟨j, hj, rfl⟩ := List.getElem_of_mem hx
  exact ha j hj
theorem bad_len {m : Mat} (h : m.cost.length ≠ m.row.length) : matOk m = false := by unfold matOk; simp [h]
theorem bad_row {m : Mat} {k : Nat} (hk : k < m.cost.length) (h : rowOk m.col.length m.cost[k] = false) : matOk m = false := by
  unfold matOk
  have : m.cost.all (rowOk m.col.length) = false := by
    rw [List.all_eq_false]
    exact ⟨_, List.getElem_mem hk, by simp [h]⟩
  rw [this]; simp
theorem bad_r {m : Mat} {k : Nat} (hk : k < m.row.length) (h : inN m.row[k] = false) : matOk m = false := by
  unfold matOk
  have : m.row.all inN = false := by
    rw [List.all_eq_false]
    exact ⟨_, List.getElem_mem hk, by simp [h]⟩
  rw [this]; simp
theorem bad_c {m : Mat} {k : Nat} (hk : k < m.col.length) (h : inN m.col[k] = false) : matOk m = false := by
  unfold matOk
  have : m.col.all inN = false := by
    rw [List.all_eq_false]
    exact ⟨_, List.getElem_mem hk, by simp [h]⟩
  rw [this]; simp
theorem good {m : Mat} (h1 : m.cost.length = m.row.length) (h2 : ∀ k (hk : k < m.cost.length), rowOk m.col.length m.cost[k] = true) (h3 : ∀ k (hk : k < m.row.length), inN m.row[k] = true) (h4 : ∀ k (hk : k < m.col.length), inN m.col[k] = true) : matOk m = true := by
  unfold matOk
  simp only [Bool.and_eq_true, decide_eq_true_eq, List.all_eq_true]
  refine ⟨⟨⟨h1, fun x hx => ?_⟩, fun x hx => ?_⟩, fun x hx => ?_⟩
  · obtain ⟨j, hj, rfl⟩ := List.getElem_of_mem hx; exact h2 j hj
  · obtain ⟨j, hj, rfl⟩ := List.getElem_of_mem hx; exact h3 j hj
  · obtain ⟨j, hj, rfl⟩ := List.getElem_of_mem hx; exact h4 j hj
theorem chk_big {m : Mat} (h : 8 < m.row.length ∨ 8 < m.col.length) : chk m = 3 := by unfold chk; rw [if_pos h]
theorem chk_bad {m : Mat} (h8 : ¬ (8 < m.row.length ∨ 8 < m.col.length)) (h : matOk m = false) : chk m = 1 := by unfold chk; rw [if_neg h8, if_neg (by simp [h])]
theorem chk_good {m : Mat} (h8 : ¬ (8 < m.row.length ∨ 8 < m.col.length)) (h : matOk m = true) : chk m = 0 := by unfold chk; rw [if_neg h8, if_pos h]
theorem inC_lo {x : Int} (h : x < -1) : inC x = false := by unfold inC; simp; omega
theorem inC_hi {x : Int} (h : 2147483648 < x) : inC x = false := by unfold inC; simp; omega
theorem inC_in {x : Int} (h : ¬ x < -1) (h2 : ¬ 2147483648 < x) : inC x = true := by unfold inC; simp; omega
theorem inN_lo {x : Int} (h : x < 0) : inN x = false := by unfold inN; simp; omega
theorem inN_hi {x : Int} (h : 2147483648 < x) : inN x = false := by unfold inN; simp; omega
theorem inN_in {x : Int} (h : ¬ x < 0) (h2 : ¬ 2147483648 < x) : inN x = true := by unfold inN; simp; omega
end Go.Tw.Match
