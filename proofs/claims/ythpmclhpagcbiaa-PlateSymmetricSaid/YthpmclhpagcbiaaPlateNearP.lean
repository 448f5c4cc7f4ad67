/-
  Layer 10 (plate) in plain Lean: the plates near one, in their order.
-/
import Derived.Test.YthpmclhpagcbiaaPlateOrd
namespace Go.Tw.Plate
open Go.RowKit Go.Sort

instance : LawfulBEq ByteArray where
  eq_of_beq {a b} h := by rw [bytes_beq_eq] at h; exact of_decide_eq_true h
  rfl {a} := by rw [bytes_beq_eq]; exact decide_eq_true rfl
/-- the plates within a distance, each once, as found -/
def nearGo (s : ByteArray) (most : Int) : List ByteArray → List ByteArray → List ByteArray → List ByteArray
  | _, out, [] => out
  | seen, out, p :: r => if p ∈ seen then nearGo s most (seen ++ [p]) out r else nearGo s most (seen ++ [p]) (if distS p s ≤ most then out ++ [p] else out) r
theorem nearGo_drop {s : ByteArray} {most : Int} {l out : List ByteArray} {k : Nat} (h : k < l.length) :
    nearGo s most (l.take k) out (l.drop k) = if l[k] ∈ l.take k then nearGo s most (l.take (k + 1)) out (l.drop (k + 1)) else nearGo s most (l.take (k + 1)) (if distS l[k] s ≤ most then out ++ [l[k]] else out) (l.drop (k + 1)) := by
  rw [List.drop_eq_getElem_cons h, nearGo, List.take_succ_eq_append_getElem h]
/-- the map behind k plates -/
def farM (s : ByteArray) (seen : List ByteArray) : ByteArray → Option Value := fun x => if x ∈ seen then some (.int .i64 (distS x s)) else none
def farI (s : ByteArray) (seen : List ByteArray) : ByteArray → Int := fun x => if x ∈ seen then distS x s else 0
theorem farM_old {s p : ByteArray} {seen : List ByteArray} (h : p ∈ seen) (x : ByteArray) : farM s seen x = farM s (seen ++ [p]) x := by
  unfold farM
  by_cases hx : x ∈ seen
  · rw [if_pos hx, if_pos (by simp [hx])]
  · rw [if_neg hx, if_neg]
    intro q
    rcases List.mem_append.mp q with q | q
    · exact hx q
    · rw [List.mem_singleton.mp q] at hx; exact hx h
theorem farM_new {s p : ByteArray} {seen : List ByteArray} (x : ByteArray) : (if x = p then some (.int .i64 (distS p s)) else farM s seen x) = farM s (seen ++ [p]) x := by
  unfold farM
  by_cases h : x = p
  · subst h
    rw [if_pos rfl, if_pos (by simp)]
  · rw [if_neg h]
    by_cases hx : x ∈ seen
    · rw [if_pos hx, if_pos (by simp [hx])]
    · rw [if_neg hx, if_neg]
      intro q
      rcases List.mem_append.mp q with q | q
      · exact hx q
      · exact h (List.mem_singleton.mp q)
/-- nearer, or as near and before -/
def nearLt (s x y : ByteArray) : Bool := decide (distS x s < distS y s) || (decide (distS x s = distS y s) && ltL (codes x) (codes y))
theorem nearLt_total {s x y : ByteArray} (h1 : nearLt s x y = false) (h2 : nearLt s y x = false) : x = y := by
  unfold nearLt at h1 h2
  simp at h1 h2
  have e : distS x s = distS y s := by omega
  exact codes_inj (ltL_total _ _ (h1.2 e) (h2.2 e.symm))
/-- one ordered list alone -/
theorem near_one (s : ByteArray) : ∀ {a b : List ByteArray}, a.Perm b → a.Pairwise (fun x y => nearLt s y x = false) → b.Pairwise (fun x y => nearLt s y x = false) → a = b := by
  intro a b hp ha hb
  exact hp.eq_of_pairwise (fun x y _ _ h1 h2 => nearLt_total h2 h1) ha hb
end Go.Tw.Plate
namespace Go.Proofs.Ythpmclhpagcbiaa
open Go.RowKit Go.Tw Go.Tw.Plate Go.Sort
theorem far_reads (s : ByteArray) (seen : List ByteArray) : Reads (farM s seen) (farI s seen) := fun x => by
  unfold farM farI
  split <;> rfl
theorem far_lt {s x y : ByteArray} {seen : List ByteArray} (hx : x ∈ seen) (hy : y ∈ seen) : ltOf (nearC (farI s seen)) x y = nearLt s x y := by
  rw [near_lt]
  unfold farI nearLt
  rw [if_pos hx, if_pos hy]
end Go.Proofs.Ythpmclhpagcbiaa
