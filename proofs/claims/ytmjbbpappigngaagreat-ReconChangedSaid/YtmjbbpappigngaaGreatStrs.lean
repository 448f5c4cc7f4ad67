/-
  Slices of strings: the cells. No program in sight.
-/
import Derived.Test.YtmjbbpappigngaaGreatLib
namespace Go.Tw
open Go.RowKit
theorem strs_open {S : Nat → Prop} {w : World} {v : Value} {l : List ByteArray} (h : SlIs tStr S w v l) :
    ∃ ao cap b off, v = .slice ao l.length cap ∧ l.length ≤ cap ∧ cap ≤ maxLen ∧ ∀ w', SameOn S w w' → ∀ k (_ : k < l.length), ao = some ⟨b, off, none⟩ ∧ S b ∧ b < w.heap.size ∧
      w'.cell? ⟨b, off + k, none⟩ = some (.string l[k]) ∧ l[k].size ≤ maxLen := by
  obtain ⟨ao, cap, b, off, hv, h1, h2, h3⟩ := h.openS
  refine ⟨ao, cap, b, off, hv, h1, h2, fun w' hw k hk => ?_⟩
  obtain ⟨g1, g2, g2', cs, g3, rfl, g5⟩ := h3 w' hw k hk
  have := g3 0 (by decide)
  simp [tStr] at this
  exact ⟨g1, g2, g2', this, g5⟩
end Go.Tw
