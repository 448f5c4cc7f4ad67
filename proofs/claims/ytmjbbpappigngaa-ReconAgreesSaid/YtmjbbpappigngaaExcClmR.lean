/-
  Layer 43 (exchange): the walks of the reference's Amount, sum and Claims.
-/
import Derived.Test.YtmjbbpappigngaaExcClmP
import Derived.Lib.QuietBelow
namespace Go.Proofs.Ytmjbbpappigngaa
open Go.RowKit Go.Tw Go.Tw.Exc
theorem after_ways (n : Int) (r : Rec) : ((r.k = 1 ∨ r.k = 2) ∧ afterC n r = n + r.c) ∨ (r.k = 4 ∧ afterC n r = n - r.c) ∨ (r.k = 3 ∧ afterC n r = 0) ∨ ((r.k ≠ 1 ∧ r.k ≠ 2 ∧ r.k ≠ 3 ∧ r.k ≠ 4) ∧ afterC n r = n) := by
  unfold afterC
  by_cases h1 : r.k = 1 ∨ r.k = 2
  · exact .inl ⟨h1, if_pos h1⟩
  · by_cases h2 : r.k = 4
    · exact .inr (.inl ⟨h2, by rw [if_neg h1, if_pos h2]⟩)
    · by_cases h3 : r.k = 3
      · exact .inr (.inr (.inl ⟨h3, by rw [if_neg h1, if_neg h2, if_pos h3]⟩))
      · exact .inr (.inr (.inr ⟨by omega, by rw [if_neg h1, if_neg h2, if_neg h3]⟩))
end Go.Proofs.Ytmjbbpappigngaa
