/-
  append(append([]T{}, a...), b...): a slice that is empty, wherever it looks, or owned. No program in sight.
-/
import Derived.Test.YthdbojbblkfhaaaCap0
namespace Go.Tw
open Go.RowKit
section
variable {P : Program} {w : World} {α : Type}
def Own0 (T : Ty α) (e : TypeId) (B : Nat) (w : World) (v : Value) (l : List α) : Prop := (∃ b, v = .slice (some b) 0 0 ∧ l = []) ∨ OwnSl T e B w v l
theorem OwnSl.lowB {T : Ty α} {e : TypeId} {B B' : Nat} {v : Value} {l : List α} (h : OwnSl T e B w v l) (hB : B' ≤ B) : OwnSl T e B' w v l := by
  obtain ⟨css, h1, h2⟩ := h
  refine ⟨css, ⟨h1.1, ?_⟩, h2⟩
  rcases h1.2 with ⟨a, b⟩ | ⟨g, cap, cur, a, b, c⟩
  · exact .inl ⟨a, b⟩
  · exact .inr ⟨g, cap, cur, a, Nat.le_trans hB b, c⟩
theorem Own0.form {T : Ty α} {e : TypeId} {B : Nat} {v : Value} {l : List α} (h : Own0 T e B w v l) : ∃ ao cap, v = .slice ao l.length cap ∧ l.length ≤ cap ∧ cap ≤ maxLen := by
  rcases h with ⟨b, rfl, rfl⟩ | h
  · exact ⟨_, 0, rfl, Nat.le_refl _, Nat.zero_le _⟩
  · exact h.form
theorem Own0.fresh {T : Ty α} (hF : T.Flat) {e : TypeId} {B : Nat} {v : Value} {l : List α} (h : Own0 T e B w v l) : SlIs T (fun k => B ≤ k ∧ k < w.heap.size) w v l := by
  rcases h with ⟨b, rfl, rfl⟩ | h
  · exact SlIs.empty b
  · exact h.fresh hF
theorem run_append_own0 {T : Ty α} {t ty e : TypeId} {bytes B : Nat} (hT : SlT P t e T.sz bytes) {v v2 : Value} {l l2 : List α} {S : Nat → Prop} (hv : Own0 T e B w v l) (hsl : SlIs T S w v2 l2) (hS : ∀ k, S k → k < B) (hB : B ≤ w.heap.size)
    (hbytes : (l.length + l2.length) * bytes ≤ 140737488355328) (h63 : l.length + l2.length ≤ maxLen) :
    ∃ v' w', (Builtin.append_ #[t, t] ty #[v, v2]).run P w = .ok v' w' ∧ Own0 T e B w' v' (l ++ l2) ∧ Below B w w' := by
  rcases hv with ⟨b, rfl, rfl⟩ | hv
  · obtain ⟨v', w', hr, h2, h3⟩ := run_append_cap0 (P := P) (ty := ty) (e := e) hT b hsl (fun k hk => Nat.lt_of_lt_of_le (hS k hk) hB) (by simpa using hbytes) (by simpa using h63)
    refine ⟨v', w', hr, ?_, h3.mono hB⟩
    rcases h2 with ⟨rfl, rfl, rfl⟩ | ⟨h2, -⟩
    · exact .inl ⟨b, rfl, rfl⟩
    · exact .inr (by simpa using h2.lowB hB)
  · have hlt := hv.own_lt
    obtain ⟨v', w', hr, h2, h3, -⟩ := run_append_sl (P := P) (ty := ty) hT hv hsl (fun k hk => ⟨Nat.lt_of_lt_of_le (hS k hk) hB, fun e => by have := (hlt k e.symm).1; have := hS k hk; omega⟩) hbytes h63 hB
    exact ⟨v', w', hr, .inr h2, Below.of_grown h3 hB (fun k hk => (hlt k hk).1)⟩
theorem step_append_own0 {ops : Array Oper} {o : Oper} {a : Act} {K : Act → World → Prop} {Q : Exit → Act → World → Prop} {E : Prop} (s x : Operand) (hgd : o.guard = none) (t : TypeId)
    (ho : o.op = .call { callee := .builtin .append, args := #[s, x], argTypes := #[t, t] }) {T : Ty α} {e : TypeId} {bytes B : Nat} (hT : SlT P t e T.sz bytes) {v v2 : Value} {l l2 : List α} {S : Nat → Prop} (hs : a.eval s = v) (hv : Own0 T e B w v l)
    (hx : a.eval x = v2) (hsl : SlIs T S w v2 l2) (hS : ∀ k, S k → k < B) (hB : B ≤ w.heap.size) (hbytes : (l.length + l2.length) * bytes ≤ 140737488355328) (h63 : l.length + l2.length ≤ maxLen)
    (h : ∀ ao cap w', Own0 T e B w' (.slice ao (l.length + l2.length) cap) (l ++ l2) → Below B w w' → K (a.put o.dst (.slice ao (l.length + l2.length) cap)) w') :
    if Region.wanted o (yielded ops a.tmps) = true then Oper.wp P o a w K Q else E := by
  have hw : Region.wanted o (yielded ops a.tmps) = true := by simp [Region.wanted, hgd]
  rw [if_pos hw]
  obtain ⟨v', w', hr, h2, h3⟩ := run_append_own0 (P := P) (ty := o.type) hT hv hsl hS hB hbytes h63
  obtain ⟨ao, cap, rfl, -⟩ := h2.form
  rw [List.length_append] at h2 hr
  unfold Oper.wp execOp
  simp only [ho, resolve, invoke, builtin, Sem.run_bind, Sem.run_pure, Result.andThen_ok, List.map_toArray, List.map_cons, List.map_nil, hs, hx, hr]
  exact h ao cap w' h2 h3
end
end Go.Tw
