import Derived.Test.YtifcelebfagjbaaGreatDoorMgA
import Derived.Test.YtifcelebfagjbaaGreatDoorMgB
namespace Go.Tw.Plate
open Go.RowKit
/-! ### Normal -/
def up (n : Int) : Int := if 97 ≤ n ∧ n ≤ 122 then n - 32 else n
def sep (n : Int) : Bool := n == 32 || n == 45
def okc (n : Int) : Bool := (decide (65 ≤ n) && decide (n ≤ 90)) || (decide (48 ≤ n) && decide (n ≤ 57))
def normGo (out : List Int) : List Int → Option (List Int)
 | [] => if out.length < 2 then none else some out
 | c :: r => if sep (up c) then normGo out r else if okc (up c) = false ∨ out.length = 10 then none else normGo (out ++ [up c]) r
def normGoR (out : List Int) : List Int → Option (List Int)
 | [] => if out.length < 2 ∨ 10 < out.length then none else some out
 | c :: r => if sep c then normGoR out r else if okc (up c) = false then none else normGoR (out ++ [up c]) r
def normS (o : Option (List Int)) : ByteArray × Int := match o with | none => (ByteArray.empty, 19) | some l => (strOfNums l, 0)
theorem normGo_drop {out l : List Int} {k : Nat} (h : k < l.length) : normGo out (l.drop k) = if sep (up l[k]) then normGo out (l.drop (k + 1)) else if okc (up l[k]) = false ∨ out.length = 10 then none else normGo (out ++ [up l[k]]) (l.drop (k + 1)) := by
 rw [List.drop_eq_getElem_cons h, normGo]
theorem normGoR_drop {out l : List Int} {k : Nat} (h : k < l.length) : normGoR out (l.drop k) = if sep l[k] then normGoR out (l.drop (k + 1)) else if okc (up l[k]) = false then none else normGoR (out ++ [up l[k]]) (l.drop (k + 1)) := by
 rw [List.drop_eq_getElem_cons h, normGoR]
theorem norm_ways {out l : List Int} {k : Nat} (h : k < l.length) {c : Int} (hc : l[k] = c) :
  (¬ 97 ≤ c ∧ (c == 32) = true ∧ normGo out (l.drop k) = normGo out (l.drop (k + 1)) ∧ normGoR out (l.drop k) = normGoR out (l.drop (k + 1))) ∨
  (¬ 97 ≤ c ∧ (c == 32) = false ∧ (c == 45) = true ∧ normGo out (l.drop k) = normGo out (l.drop (k + 1)) ∧ normGoR out (l.drop k) = normGoR out (l.drop (k + 1))) ∨
  (97 ≤ c ∧ c ≤ 122 ∧ (c == 32) = false ∧ (c == 45) = false ∧ (c - 32 == 32) = false ∧ (c - 32 == 45) = false ∧ 65 ≤ c - 32 ∧ c - 32 ≤ 90 ∧ normGo out (l.drop k) = (if out.length = 10 then none else normGo (out ++ [c - 32]) (l.drop (k + 1))) ∧ normGoR out (l.drop k) = normGoR (out ++ [c - 32]) (l.drop (k + 1))) ∨
  (¬ 97 ≤ c ∧ (c == 32) = false ∧ (c == 45) = false ∧ 65 ≤ c ∧ c ≤ 90 ∧ normGo out (l.drop k) = (if out.length = 10 then none else normGo (out ++ [c]) (l.drop (k + 1))) ∧ normGoR out (l.drop k) = normGoR (out ++ [c]) (l.drop (k + 1))) ∨
  (¬ 97 ≤ c ∧ (c == 32) = false ∧ (c == 45) = false ∧ c < 65 ∧ 48 ≤ c ∧ c ≤ 57 ∧ normGo out (l.drop k) = (if out.length = 10 then none else normGo (out ++ [c]) (l.drop (k + 1))) ∧ normGoR out (l.drop k) = normGoR (out ++ [c]) (l.drop (k + 1))) ∨
  (¬ 97 ≤ c ∧ (c == 32) = false ∧ (c == 45) = false ∧ c < 65 ∧ c < 48 ∧ normGo out (l.drop k) = none ∧ normGoR out (l.drop k) = none) ∨
  (¬ 97 ≤ c ∧ (c == 32) = false ∧ (c == 45) = false ∧ c < 65 ∧ 48 ≤ c ∧ 57 < c ∧ normGo out (l.drop k) = none ∧ normGoR out (l.drop k) = none) ∨
  (¬ 97 ≤ c ∧ (c == 32) = false ∧ (c == 45) = false ∧ 65 ≤ c ∧ 90 < c ∧ 48 ≤ c ∧ 57 < c ∧ normGo out (l.drop k) = none ∧ normGoR out (l.drop k) = none) ∨
  (97 ≤ c ∧ 122 < c ∧ (c == 32) = false ∧ (c == 45) = false ∧ 65 ≤ c ∧ 90 < c ∧ 48 ≤ c ∧ 57 < c ∧ normGo out (l.drop k) = none ∧ normGoR out (l.drop k) = none) := by
 rw [normGo_drop h, normGoR_drop h, hc]; have hs : ∀ n : Int, sep n = true ↔ n = 32 ∨ n = 45 := fun n => by simp [sep]
 have ho : ∀ n : Int, okc n = false ↔ ¬ ((65 ≤ n ∧ n ≤ 90) ∨ (48 ≤ n ∧ n ≤ 57)) := fun n => by
  have : okc n = true ↔ ((65 ≤ n ∧ n ≤ 90) ∨ (48 ≤ n ∧ n ≤ 57)) := by simp [okc]
  rw [← Bool.not_eq_true, this]
 have hb : ∀ n m : Int, (n == m) = true ↔ n = m := fun n m => by simp
 have hb' : ∀ n m : Int, (n == m) = false ↔ ¬ n = m := fun n m => by simp
 simp only [hs, ho, hb, hb']
 rcases Int.lt_or_le c 97 with h1 | h1
 · have hu : up c = c := by unfold up; rw [if_neg (by omega)]
   rw [hu]
   by_cases a1 : c = 32
   · exact .inl ⟨by omega, a1, if_pos (.inl a1), if_pos (.inl a1)⟩
   by_cases a2 : c = 45
   · exact .inr (.inl ⟨by omega, a1, a2, if_pos (.inr a2), if_pos (.inr a2)⟩)
   have hns : ¬ (c = 32 ∨ c = 45) := by omega
   rw [if_neg hns, if_neg hns]
   by_cases a3 : 65 ≤ c ∧ c ≤ 90
   · have hk : ¬ ¬ ((65 ≤ c ∧ c ≤ 90) ∨ (48 ≤ c ∧ c ≤ 57)) := fun q => q (.inl a3)
     refine .inr (.inr (.inr (.inl ⟨by omega, a1, a2, a3.1, a3.2, ?_, if_neg hk⟩)))
     by_cases q : out.length = 10
     · rw [if_pos (.inr q), if_pos q]
     · rw [if_neg (by rintro (h | h); exact hk h; exact q h), if_neg q]
   by_cases a4 : 48 ≤ c ∧ c ≤ 57
   · have hk : ¬ ¬ ((65 ≤ c ∧ c ≤ 90) ∨ (48 ≤ c ∧ c ≤ 57)) := fun q => q (.inr a4)
     refine .inr (.inr (.inr (.inr (.inl ⟨by omega, a1, a2, by omega, a4.1, a4.2, ?_, if_neg hk⟩))))
     by_cases q : out.length = 10
     · rw [if_pos (.inr q), if_pos q]
     · rw [if_neg (by rintro (h | h); exact hk h; exact q h), if_neg q]
   have hk : ¬ ((65 ≤ c ∧ c ≤ 90) ∨ (48 ≤ c ∧ c ≤ 57)) := by omega
   rw [if_pos (.inl hk), if_pos hk]
   rcases Int.lt_or_le c 48 with b1 | b1
   · exact .inr (.inr (.inr (.inr (.inr (.inl ⟨by omega, a1, a2, by omega, b1, rfl, rfl⟩)))))
   rcases Int.lt_or_le c 65 with b2 | b2
   · exact .inr (.inr (.inr (.inr (.inr (.inr (.inl ⟨by omega, a1, a2, b2, b1, by omega, rfl, rfl⟩))))))
   · exact .inr (.inr (.inr (.inr (.inr (.inr (.inr (.inl ⟨by omega, a1, a2, b2, by omega, b1, by omega, rfl, rfl⟩)))))))
 · have hns0 : ¬ (c = 32 ∨ c = 45) := by omega
   rw [if_neg hns0]
   rcases Int.lt_or_le 122 c with h2 | h2
   · have hu : up c = c := by unfold up; rw [if_neg (by omega)]
     have hk : ¬ ((65 ≤ c ∧ c ≤ 90) ∨ (48 ≤ c ∧ c ≤ 57)) := by omega
     rw [hu, if_neg hns0, if_pos (.inl hk), if_pos hk]; exact .inr (.inr (.inr (.inr (.inr (.inr (.inr (.inr ⟨h1, h2, by omega, by omega, by omega, by omega, by omega, by omega, rfl, rfl⟩)))))))
   · have hu : up c = c - 32 := by unfold up; rw [if_pos ⟨h1, h2⟩]
     have hns : ¬ (c - 32 = 32 ∨ c - 32 = 45) := by omega
     have hk : ¬ ¬ ((65 ≤ c - 32 ∧ c - 32 ≤ 90) ∨ (48 ≤ c - 32 ∧ c - 32 ≤ 57)) := fun q => q (.inl (by omega))
     rw [hu, if_neg hns]; refine .inr (.inr (.inl ⟨h1, h2, by omega, by omega, by omega, by omega, by omega, by omega, ?_, if_neg hk⟩))
     by_cases q : out.length = 10
     · rw [if_pos (.inr q), if_pos q]
     · rw [if_neg (by rintro (h | h); exact hk h; exact q h), if_neg q]
theorem normGoR_end {out l : List Int} {k : Nat} (h : l.length ≤ k) : normGoR out (l.drop k) = if out.length < 2 ∨ 10 < out.length then none else some out := by rw [List.drop_eq_nil_of_le h, normGoR]
/-! ### Like -/
def like1 (a b : Int) : Bool := (a == 48 && (b == 79 || b == 68 || b == 81)) || (a == 49 && b == 73) || (a == 50 && b == 90) || (a == 53 && b == 83) || (a == 56 && b == 66) || (a == 54 && b == 71) || (a == 85 && b == 86)
def like (a b : Int) : Bool := like1 a b || like1 b a
/-! ### Distance -/
def chg (a b : Int) : Int := if a = b then 0 else if like a b then 1 else 3
def D (A B : List Int) : Nat → Nat → Int
 | 0, j => 3 * (j : Int)
 | i + 1, 0 => 3 * ((i : Int) + 1)
 | i + 1, j + 1 => min (min (D A B i j + chg (A.getD i 0) (B.getD j 0)) (D A B i (j + 1) + 3)) (D A B (i + 1) j + 3)
def dist (A B : List Int) : Int := D A B A.length B.length
def cutS (s : ByteArray) : List Int := (codes s).take 32
def distS (s t : ByteArray) : Int := dist (cutS s) (cutS t)
def rowL (A B : List Int) (n i : Nat) : List Int := (List.range n).map (D A B i)
def rowP (A B : List Int) (n i j : Nat) : List Int := (List.range n).map fun k => if k ≤ j then D A B (i + 1) k else 0
def row0 (n k : Nat) : List Int := (List.range n).map fun j => if j < k then 3 * (j : Int) else 0
end Go.Tw.Plate
