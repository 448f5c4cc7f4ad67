/-
  append to a slice of no capacity, wherever it looks: a new slice. No program in sight.
-/
import Derived.Test.YthdbojbblkfhaaaOwn
namespace Go.Tw
open Go.RowKit
section
variable {P : Program} {w : World} {α : Type}
theorem SlIs.empty {T : Ty α} {S : Nat → Prop} {w : World} (b : Addr) : SlIs T S w (.slice (some b) 0 0) ([] : List α) :=
  ⟨some b, 0, 0, 0, rfl, Nat.le_refl _, Nat.zero_le _, fun h => (by cases h), fun _ hk => absurd hk (Nat.not_lt_zero _)⟩
theorem append_cap0_eq {T : Ty α} {t ty e : TypeId} {bytes : Nat} (hT : SlT P t e T.sz bytes) (b : Addr) {v2 : Value} {l2 : List α} {S : Nat → Prop} (hsl : SlIs T S w v2 l2) (hne : l2 ≠ [])
    (hbytes : l2.length * bytes ≤ 140737488355328) (h63 : l2.length ≤ maxLen) :
    (Builtin.append_ #[t, t] ty #[.slice (some b) 0 0, v2]).run P w = (Builtin.append_ #[t, t] ty #[.slice none 0 0, v2]).run P w := by
  obtain ⟨und, ⟨i, z, hi, hz, hsize, hby, hzs⟩, hpos⟩ := hT
  obtain ⟨css2, g1, g2⟩ := hsl.cells
  rcases g2 with ⟨rfl, rfl, rfl⟩ | ⟨a, cap, rfl, hcap, hcell⟩
  · exact absurd rfl hne
  have hl : css2.flatten.length = l2.length * i.size := by rw [g1.flatten_len, hsize]
  have h0 : 0 < l2.length := List.length_pos_iff.2 hne
  unfold maxLen at h63
  rw [run_append_grow (P := P) (w := w) t ty e i z und hi hz b 0 0 [] (by simp) (fun j v h => by simp at h) a l2.length cap css2.flatten hl hcell (by omega) (by omega) (by rw [Nat.zero_add, nextslicecap_zero h0, hby]; omega),
    run_append_nil (P := P) (w := w) t ty e i z und hi hz a l2.length cap css2.flatten hl hcell h0 (by omega) (by rw [hby]; omega)]
  simp
theorem run_append_cap0 {T : Ty α} {t ty e : TypeId} {bytes : Nat} (hT : SlT P t e T.sz bytes) (b : Addr) {v2 : Value} {l2 : List α} {S : Nat → Prop} (hsl : SlIs T S w v2 l2) (hS : ∀ k, S k → k < w.heap.size)
    (hbytes : l2.length * bytes ≤ 140737488355328) (h63 : l2.length ≤ maxLen) :
    ∃ v' w', (Builtin.append_ #[t, t] ty #[.slice (some b) 0 0, v2]).run P w = .ok v' w' ∧ ((v' = .slice (some b) 0 0 ∧ l2 = [] ∧ w' = w) ∨ (OwnSl T e w.heap.size w' v' l2 ∧ l2 ≠ [])) ∧ Below w.heap.size w w' := by
  by_cases hne : l2 = []
  · subst hne
    obtain ⟨und, ⟨i, z, hi, hz, hsize, hby, hzs⟩, hpos⟩ := hT
    obtain ⟨ao, cap, bb, off, rfl, h1, h2, h3, -⟩ := hsl
    refine ⟨.slice (some b) 0 0, w, ?_, .inl ⟨rfl, rfl, rfl⟩, Below.refl _ _⟩
    cases ao <;> simp [Builtin.append_, run_underlying und, sizeOf, typeInfo, hi, Builtin.lenOf, Builtin.firstCells, loadCells, loadCellsFrom, storeCells]
  · rw [append_cap0_eq hT b hsl hne hbytes h63]
    obtain ⟨v', w', hr, ho, hg, -⟩ := run_append_sl (P := P) (ty := ty) hT (OwnSl.nil T e w.heap.size w) hsl (fun k hk => ⟨hS k hk, by simp [Value.ownBlock]⟩) (by simpa using hbytes) (by simpa using h63) (Nat.le_refl _)
    exact ⟨v', w', hr, .inr ⟨by simpa using ho, hne⟩, Below.of_grown hg (Nat.le_refl _) (fun k hk => by simp [Value.ownBlock] at hk)⟩
/-- .. in a region that draws its order -/
theorem step_append_cap0 {ops : Array Oper} {o : Oper} {a : Act} {K : Act → World → Prop} {Q : Exit → Act → World → Prop} {E : Prop} (s x : Operand) (hgd : o.guard = none) (t : TypeId)
    (ho : o.op = .call { callee := .builtin .append, args := #[s, x], argTypes := #[t, t] }) {T : Ty α} (hF : T.Flat) {e : TypeId} {bytes : Nat} (hT : SlT P t e T.sz bytes) {b : Addr} {v2 : Value} {l2 : List α} {S : Nat → Prop} (hs : a.eval s = .slice (some b) 0 0)
    (hx : a.eval x = v2) (hsl : SlIs T S w v2 l2) (hS : ∀ k, S k → k < w.heap.size) (hbytes : l2.length * bytes ≤ 140737488355328) (h63 : l2.length ≤ maxLen)
    (h : ∀ ao cap w', SlIs T (fun k => w.heap.size ≤ k ∧ k < w'.heap.size) w' (.slice ao l2.length cap) l2 → Below w.heap.size w w' → K (a.put o.dst (.slice ao l2.length cap)) w') :
    if Region.wanted o (yielded ops a.tmps) = true then Oper.wp P o a w K Q else E := by
  have hw : Region.wanted o (yielded ops a.tmps) = true := by simp [Region.wanted, hgd]
  rw [if_pos hw]
  obtain ⟨v', w', hr, h2, h3⟩ := run_append_cap0 (P := P) (ty := o.type) hT b hsl hS hbytes h63
  have h2' : SlIs T (fun k => w.heap.size ≤ k ∧ k < w'.heap.size) w' v' l2 := by
    rcases h2 with ⟨rfl, rfl, rfl⟩ | ⟨h2, -⟩
    · exact SlIs.empty b
    · exact h2.fresh hF
  obtain ⟨ao, cap, bb, off, rfl, -⟩ := id h2'
  unfold Oper.wp execOp
  simp only [ho, resolve, invoke, builtin, Sem.run_bind, Sem.run_pure, Result.andThen_ok, List.map_toArray, List.map_cons, List.map_nil, hs, hx, hr]
  exact h ao cap w' h2' h3
end
end Go.Tw
