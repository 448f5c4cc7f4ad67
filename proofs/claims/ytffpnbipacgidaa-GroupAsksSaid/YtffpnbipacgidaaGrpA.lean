/-
  Layer 14 (group): the chapter's examples, in plain Lean.
-/
import Derived.Test.YtffpnbipacgidaaGrpU
namespace Go.Proofs.Ytffpnbipacgidaa
open Go.RowKit Go.Tw Go.Tw.Ord Go.Tw.Grp Go.Sort
theorem seenC_lt {x y : Seen} (h : x.tm < y.tm) : seenC x y ≤ 0 := by
  unfold seenC seenF cmpI
  simp only [List.map_cons, orL]
  rw [if_pos h, if_neg (by decide)]
  decide
theorem sort_ex {l l' : List Seen} (hp : l'.Perm l) (hs : l'.Pairwise fun x y => seenC x y ≤ 0) : sortS l = l' := (sortL_uniq seenC_cmp (fun _ _ => seenC_zero) hp hs).symm
def bp : ByteArray := ⟨#[112]⟩
def bq : ByteArray := ⟨#[113]⟩
set_option maxRecDepth 100000
theorem sort4 : sortS [atC bp 11, atC bp 0, atC bp 14, atC bp 5] = [atC bp 0, atC bp 5, atC bp 11, atC bp 14] := by
  refine sort_ex (by decide) ?_
  simp only [List.pairwise_cons, List.mem_cons, List.not_mem_nil, or_false, forall_eq_or_imp, forall_eq]
  refine ⟨⟨?_, ?_, ?_⟩, ⟨?_, ?_⟩, ?_, ?_⟩
  all_goals first | exact seenC_lt (by decide) | simp
theorem ex1 : framesC 5 [atC bp 11, atC bp 0, atC bp 14, atC bp 5] = [[atC bp 0, atC bp 5], [atC bp 11, atC bp 14]] := by
  unfold framesC
  rw [sort4]
  decide
theorem ex2 : framesC 6 [atC bp 11, atC bp 0, atC bp 14, atC bp 5] = [[atC bp 0, atC bp 5, atC bp 11, atC bp 14]] := by
  unfold framesC
  rw [sort4]
  decide
theorem ex3 : framesC 9 [atC bp 3, atC bq 3] = [[atC bp 3], [atC bq 3]] := by
  have h : sortS [atC bp 3, atC bq 3] = [atC bp 3, atC bq 3] := by
    refine sort_ex (List.Perm.refl _) ?_
    simp only [List.pairwise_cons, List.mem_cons, List.not_mem_nil, or_false, forall_eq]
    refine ⟨?_, ?_⟩
    · decide
    · simp
  unfold framesC
  rw [h]
  decide
theorem ex4 : framesC 5 ([[atC bp 0, atC bp 5], [atC bp 11, atC bp 14]].flatten ++ [atC bp 8]) = [[atC bp 0, atC bp 5, atC bp 8, atC bp 11, atC bp 14]] := by
  have h : sortS [atC bp 0, atC bp 5, atC bp 11, atC bp 14, atC bp 8] = [atC bp 0, atC bp 5, atC bp 8, atC bp 11, atC bp 14] := by
    refine sort_ex (by decide) ?_
    simp only [List.pairwise_cons, List.mem_cons, List.not_mem_nil, or_false, forall_eq_or_imp, forall_eq]
    refine ⟨⟨?_, ?_, ?_, ?_⟩, ⟨?_, ?_, ?_⟩, ⟨?_, ?_⟩, ?_, ?_⟩
    all_goals first | exact seenC_lt (by decide) | simp
  unfold framesC
  rw [show [[atC bp 0, atC bp 5], [atC bp 11, atC bp 14]].flatten ++ [atC bp 8] = [atC bp 0, atC bp 5, atC bp 11, atC bp 14, atC bp 8] from rfl, h]
  decide
theorem ex5 : idxF [[atC bp 0, atC bp 5, atC bp 8, atC bp 11, atC bp 14]] (atC bp 8) = 0 := by
  have h : ([[atC bp 0, atC bp 5, atC bp 8, atC bp 11, atC bp 14]] : List (List Seen)).findIdx? (fun f => f.any fun x => atC bp 8 == x) = some 0 := by
    rw [List.findIdx?_cons]
    simp
  unfold idxF
  rw [h]
  rfl
theorem ex6 : spanC [atC bp 11, atC bp 14] = (11, 15) := by
  decide
end Go.Proofs.Ytffpnbipacgidaa
