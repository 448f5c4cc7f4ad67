/-
  Slices of the call's own: cut short. No program in sight.
-/
import Derived.Test.YtffpnbipacgidaaDeep
namespace Go.Tw
open Go.RowKit
variable {α : Type} {T : Ty α} {e : TypeId} {F : List Nat} {w w' : World} {v : Value} {l : List α}
theorem OwnL.formS (h : OwnL T e F w v l) (hl : 0 < l.length) : ∃ g cap, v = .slice (some ⟨g, 0, none⟩) l.length cap ∧ g ∈ F ∧ l.length ≤ cap ∧ cap ≤ maxLen := by
  obtain ⟨css, Fs, h1, h2, rfl⟩ := h
  rcases h1.2 with ⟨h, h'⟩ | ⟨g, cap, cur, rfl, _, _, h3, h4, _⟩
  · omega
  · exact ⟨g, cap, rfl, by simp [Value.ownBlock], h3, h4⟩
/-- s[:k] of a slice of the call's own -/
theorem OwnSl.take {B : Nat} {ao : Option Addr} {n cap k : Nat} (h : OwnSl T e B w (.slice ao n cap) l) (hk : k ≤ l.length) : OwnSl T e B w (.slice ao k cap) (l.take k) := by
  obtain ⟨css, h1, h2⟩ := h
  have key : ∀ (S : Nat → Prop) (k : Nat) (css : List (List Value)) (l : List α), AllIs T S w css l → k ≤ l.length → ∃ cst, AllIs T S w cst (l.take k) ∧ cst.flatten = css.flatten.take (k * T.sz) := by
    intro S k
    induction k with
    | zero => exact fun css l h hk => ⟨[], by rw [List.take_zero]; trivial, by simp⟩
    | succ k ih =>
      intro css l h hk
      match css, l, h with
      | c :: css, x :: l, h =>
        obtain ⟨cst, g1, g2⟩ := ih css l h.2 (by simpa using hk)
        refine ⟨c :: cst, ⟨h.1, g1⟩, ?_⟩
        have hc := T.len h.1
        rw [List.flatten_cons, List.flatten_cons, g2, Nat.succ_mul, Nat.add_comm, ← hc, List.take_length_add_append]
      | [], [], _ => simp at hk
  obtain ⟨cst, g1, g2⟩ := key _ _ _ _ h2 hk
  have hle : k * T.sz ≤ l.length * T.sz := Nat.mul_le_mul_right _ hk
  have hkl : (l.take k).length = k := by rw [List.length_take, Nat.min_eq_left hk]
  refine ⟨cst, ⟨by rw [g2, List.length_take, h1.1, hkl, Nat.min_eq_left hle], ?_⟩, ?_⟩
  · rcases h1.2 with ⟨h, h'⟩ | ⟨g, cap', cur, h, q1, q2, q3, q4, q5, q6⟩
    · simp only [Value.slice.injEq] at h
      obtain ⟨rfl, rfl, rfl⟩ := h
      exact .inl ⟨by rw [show k = 0 by omega], by omega⟩
    · simp only [Value.slice.injEq] at h
      obtain ⟨rfl, rfl, rfl⟩ := h
      refine .inr ⟨g, cap, cur, by rw [hkl], q1, q2, by omega, q4, q5, ?_⟩
      rw [hkl, g2, ← q6, List.take_take, Nat.min_eq_left hle]
  · rw [show (Value.slice ao k cap).ownBlock = (Value.slice ao n cap).ownBlock by cases ao <;> rfl]
    exact g1
end Go.Tw
