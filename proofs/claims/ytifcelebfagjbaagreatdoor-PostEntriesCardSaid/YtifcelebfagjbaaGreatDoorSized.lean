/-
  What a law is handed is bounded in its bytes: also the inner slices of a slice of slices. No program in sight.
-/
import Derived.Test.YtifcelebfagjbaaGreatDoorLib
namespace Go.Tw
open Go.RowKit Go.ChangeShapes Go.WideShapes
/-- a type's values of which p holds -/
def Ty.sub {α : Type} (T : Ty α) (p : α → Prop) : Ty α where
  sz := T.sz
  is := fun S w cs x => T.is S w cs x ∧ p x
  len := fun h => T.len h.1
  keep := fun h hs hw => ⟨T.keep h.1 hs hw, h.2⟩
  one := fun h => T.one h.1
  own := fun F w cs x => T.own F w cs x ∧ p x
  own_is := fun h => ⟨T.own_is h.1, h.2⟩
  own_keep := fun h hw => ⟨T.own_keep h.1 hw, h.2⟩
  own_lt := fun h => T.own_lt h.1
theorem SlIs.ofSub {α : Type} {T : Ty α} {p : α → Prop} {S : Nat → Prop} {w : World} {v : Value} {l : List α} (h : SlIs (T.sub p) S w v l) : SlIs T S w v l ∧ ∀ x ∈ l, p x := by
  obtain ⟨ao, cap, b, off, hv, h1, h2, h3, h4⟩ := h
  refine ⟨⟨ao, cap, b, off, hv, h1, h2, h3, fun k hk => ?_⟩, fun x hx => ?_⟩
  · obtain ⟨g1, g2, g3, cs, g4, g5⟩ := h4 k hk
    exact ⟨g1, g2, g3, cs, g4, g5.1⟩
  · obtain ⟨k, hk, rfl⟩ := List.getElem_of_mem hx
    obtain ⟨_, _, _, cs, _, g5⟩ := h4 k hk
    exact g5.2
def OpensW {α : Type} (P : Program) (t : TypeId) (T : Ty α) : Prop :=
  ∀ (H : Type) (enc : TypeId × Value → H) (w : World) (fuel : Nat) (cs : List Value) (x : DataW H × List MemPlace), DataW.trod enc P w 0 (fun _ => true) true fuel t cs = some x → (∀ n ∈ x.1.weights P t, n ≤ reachBytes) → ∃ y, T.is (· < w.heap.size) w cs y
theorem weightsAll_mem {H : Type} {P : Program} {e : TypeId} {d : DataW H} {n : Nat} (hn : n ∈ d.weights P e) : ∀ {l : List (DataW H)}, d ∈ l → n ∈ DataW.weightsAll P e l
  | [], h => absurd h List.not_mem_nil
  | x :: l, h => by
    rw [DataW.weightsAll, List.mem_append]
    rcases List.mem_cons.1 h with rfl | h
    · exact .inl hn
    · exact .inr (weightsAll_mem hn h)
section
variable {P : Program}
theorem Opens.sized {α : Type} {T : Ty α} {t : TypeId} (h : Opens P t T) : OpensW P t T := fun H enc w fuel cs x hx _ => h H enc w fuel cs x hx
theorem opensW_slice {α : Type} {T : Ty α} {t e : TypeId} (ht : P.underlying t = some (.slice e)) (hsz : P.cellsOf e = T.sz) (hpos : 0 < T.sz) (hby : 0 < P.bytesOf e) (he : OpensW P e T) {e' : TypeId} : OpensW P t ((T.list e').sub fun l => l.length ≤ reachBytes) := fun H enc w fuel cs x h hw => by
  rcases Go.Deep.open_slice ht h with ⟨rfl, _⟩ | ⟨a, len, cap, m, n, D, Pl, rfl, _, hl, hm, hmm, rfl, hx⟩
  · exact ⟨[], ⟨_, rfl, none, 0, 0, 0, rfl, Nat.le_refl _, Nat.zero_le _, fun _ => rfl, fun k hk => absurd hk (Nat.not_lt_zero _)⟩, Nat.zero_le _⟩
  · simp only [if_true] at hmm
    subst hmm
    have hlen0 : len ≤ reachBytes := by
      have := hw ((len + (m - len)) * P.bytesOf e) (by simp [DataW.weights, ht])
      have h2 : len * 1 ≤ (len + (m - len)) * P.bytesOf e := Nat.mul_le_mul (by omega) hby
      omega
    have hwi : ∀ i, i < len → ∀ k ∈ (D i).weights P e, k ≤ reachBytes := fun i hi k hk => hw k (by
      simp only [DataW.weights, ht, List.mem_cons, List.mem_append]
      exact .inr (.inl (weightsAll_mem hk (List.mem_map.2 ⟨i, by simpa using hi, rfl⟩))))
    have key : ∀ i, i < len → ∃ y, ∃ cs' : List Value, w.cells? 0 (a.add (i * T.sz)) T.sz = some cs' ∧ T.is (· < w.heap.size) w cs' y := fun i hi => by
      obtain ⟨cs', h1, h2⟩ := hx i (by omega)
      obtain ⟨y, hy⟩ := he _ _ _ _ _ _ h2 (hwi i hi)
      rw [hsz] at h1
      exact ⟨y, cs', h1, hy⟩
    obtain ⟨l, hlen, hget⟩ := list_of_lt key
    subst hlen
    refine ⟨l, ⟨_, rfl, some a, _, a.block, a.off, rfl, hl, hm, fun h => (by cases h), fun k hk => ?_⟩, hlen0⟩
    obtain ⟨cs', h1, h2⟩ := hget k hk
    obtain ⟨g1, g2⟩ := cells?_get h1
    have h0 := g2 0 hpos
    have h0' : ∃ u, w.cell? ((a.add (k * T.sz)).add 0) = some u := ⟨cs'[0]'(by omega), by rw [h0]; exact List.getElem?_eq_getElem _⟩
    obtain ⟨u, hu⟩ := h0'
    have hblk : a.block < w.heap.size := by
      have := lt_of_cell hu
      have e : ((a.add (k * T.sz)).add 0).block = a.block := by unfold Addr.add; simp; split <;> rfl
      rwa [e] at this
    have hspot : a.spot = none := by
      obtain ⟨cs0, q1, _⟩ := hget 0 (by omega)
      obtain ⟨q3, q4⟩ := cells?_get q1
      have := q4 0 hpos
      simp [Addr.add] at this
      rw [List.getElem?_eq_getElem (by omega)] at this
      exact World.cell?_spot this
    obtain ⟨ab, ao, as⟩ := a
    simp only at hspot hblk
    subst hspot
    refine ⟨rfl, hblk, hblk, cs', fun j hj => ?_, h2⟩
    rw [← g2 j hj, Go.Deep.add_add]
    congr 1
    unfold Addr.add
    split
    · rename_i h; simp at h; simp only [h, Nat.add_zero]
    · simp
/-- a law's argument: a slice, bounded -/
theorem arg_sliceW {H : Type} {enc : TypeId × Value → H} {w : World} {r : Reach} {b0 : Nat} {t : TypeId} {v : Value} {d : DataW H} {ps : List MemPlace} {ts : List TypeId} {ds : List (DataW H)} {j : Nat}
    {α : Type} {T : Ty α} {e : TypeId} (ht : P.underlying t = some (.slice e)) {e' : TypeId} {p : List α → Prop} (ho : OpensW P t ((T.list e').sub p)) (hval : Value.okWide P w r b0 t v) (hd : DataW.Trod enc P w 0 (fun _ => true) true t v d ps)
    (hz : (DataW.weightsEach P ts ds).all (· ≤ reachBytes) = true) (htj : ts[j]? = some t) (hdj : ds[j]? = some d) : ∃ l, SlIs T (· < w.heap.size) w v l ∧ p l := by
  obtain ⟨fuel, h⟩ := hd
  obtain ⟨l, ⟨v', hv, hl⟩, hp⟩ := ho _ _ _ _ _ _ h (fun n hn => by
    have := List.all_eq_true.1 hz _ (DataW.weights_mem_each htj hdj n hn)
    simpa using this)
  obtain ⟨a, len, cap, rfl⟩ := okWide_slice ht hval
  simp [Value.cells] at hv
  exact ⟨l, hv ▸ hl, hp⟩
end
end Go.Tw
