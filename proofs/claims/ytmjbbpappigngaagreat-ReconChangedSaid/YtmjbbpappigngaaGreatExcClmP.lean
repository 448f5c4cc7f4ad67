/-
  Layer 43 (exchange) in plain Lean: the claim as the sum over the keys in the order of their first records.
-/
import Derived.Test.YtmjbbpappigngaaGreatExcClaims
namespace Go.Tw.Exc
open Go.RowKit Go.Tw
open Classical in
/-- the keys, each once -/
noncomputable def fkeys (l : List Rec) : List ByteArray := l.foldl (fun acc x => if x.key ∈ acc then acc else acc ++ [x.key]) []
open Classical in
theorem fkeys_snoc (l : List Rec) (x : Rec) : fkeys (l ++ [x]) = if x.key ∈ fkeys l then fkeys l else fkeys l ++ [x.key] := by unfold fkeys; rw [List.foldl_append]; rfl
theorem fkeys_mem (l : List Rec) (y : ByteArray) : y ∈ fkeys l ↔ ∃ x ∈ l, x.key = y := by
  refine snocInd (p := fun l => y ∈ fkeys l ↔ ∃ x ∈ l, x.key = y) (by simp [fkeys]) ?_ l
  intro l x ih
  have hr : (∃ z ∈ l ++ [x], z.key = y) ↔ (∃ z ∈ l, z.key = y) ∨ x.key = y := by
    constructor
    · rintro ⟨z, hz, e⟩
      rcases List.mem_append.1 hz with hz | hz
      · exact .inl ⟨z, hz, e⟩
      · rw [List.mem_singleton.1 hz] at e; exact .inr e
    · rintro (⟨z, hz, e⟩ | e)
      · exact ⟨z, by simp [hz], e⟩
      · exact ⟨x, by simp, e⟩
  rw [fkeys_snoc, hr, ← ih]
  by_cases h : x.key ∈ fkeys l
  · rw [if_pos h]
    constructor
    · exact .inl
    · rintro (q | rfl)
      · exact q
      · exact h
  · rw [if_neg h, List.mem_append, List.mem_singleton]
    constructor
    · rintro (q | q)
      · exact .inl q
      · exact .inr q.symm
    · rintro (q | q)
      · exact .inl q
      · exact .inr q.symm
theorem fkeys_nodup (l : List Rec) : (fkeys l).Nodup := by
  refine snocInd (p := fun l => (fkeys l).Nodup) List.nodup_nil ?_ l
  intro l x ih
  rw [fkeys_snoc]
  by_cases h : x.key ∈ fkeys l
  · rw [if_pos h]; exact ih
  · rw [if_neg h]
    refine List.nodup_append.2 ⟨ih, by simp, fun a ha b hb e => ?_⟩
    rw [List.mem_singleton.1 hb] at e
    exact h (e ▸ ha)
theorem fkeys_prefix (a b : List Rec) : ∃ c, fkeys (a ++ b) = fkeys a ++ c := by
  refine snocInd (p := fun b => ∃ c, fkeys (a ++ b) = fkeys a ++ c) ⟨[], by simp⟩ ?_ b
  rintro b x ⟨c, ih⟩
  rw [← List.append_assoc, fkeys_snoc, ih]
  split
  · exact ⟨c, rfl⟩
  · exact ⟨c ++ [x.key], by rw [List.append_assoc]⟩
theorem fkeys_perm (l : List Rec) : (fkeys l).Perm ((netGo l).map (·.key)) := by
  have h := net_is l
  refine (List.perm_ext_iff_of_nodup (fkeys_nodup l) h.nod).2 fun y => ?_
  rw [fkeys_mem, ← h.mem, List.mem_map]
theorem amounts_perm (l : List Rec) : ((fkeys l).map (amountC l)).Perm ((netGo l).map (·.c)) := by
  have h := net_is l
  have e : (netGo l).map (·.c) = ((netGo l).map (·.key)).map (amountC l) := by
    rw [List.map_map]
    exact List.map_congr_left fun r hr => h.amt r hr
  rw [e]
  exact (fkeys_perm l).map _
theorem claim_fkeys (l : List Rec) : claimC l = sumZ ((fkeys l).map (amountC l)) := (sumZ_perm (amounts_perm l)).symm
/-- the sum over the keys of the first k records -/
noncomputable def partC (l : List Rec) (k : Nat) : Int := sumZ ((fkeys (l.take k)).map (amountC l))
theorem part_bound {l : List Rec} (hl : l.length ≤ 200) (hc : ∀ r ∈ l, -1125899906842624 ≤ r.c ∧ r.c ≤ 1125899906842624) (k : Nat) : -225179981368524800 ≤ partC l k ∧ partC l k ≤ 225179981368524800 := by
  have h1 := sumZ_abs ((fkeys (l.take k)).map (amountC l))
  obtain ⟨c, hcc⟩ := fkeys_prefix (l.take k) (l.drop k)
  rw [List.take_append_drop] at hcc
  have h2 : absN ((fkeys l).map (amountC l)) = absN ((fkeys (l.take k)).map (amountC l)) + absN (c.map (amountC l)) := by rw [hcc, List.map_append, absN_append]
  rw [absN_perm (amounts_perm l)] at h2
  have h3 := net_abs l
  have h4 := abs_bound l hc
  have h5 : l.length * 1125899906842624 ≤ 225179981368524800 := by omega
  unfold partC
  omega
open Classical in
/-- is the key of record k none of those before? -/
noncomputable def newK (l : List Rec) (_ m : Nat) (y : ByteArray) : Bool := decide (∀ x ∈ l.take m, x.key ≠ y)
theorem newK_zero (l : List Rec) (k : Nat) (y : ByteArray) : newK l k 0 y = true := by unfold newK; simp
theorem newK_succ {l : List Rec} {k m : Nat} (hm : m < l.length) (y : ByteArray) : newK l k (m + 1) y = (newK l k m y && decide (l[m].key ≠ y)) := by
  unfold newK
  rw [List.take_succ_eq_append_getElem hm, ← Bool.decide_and]
  congr 1
  apply propext
  constructor
  · intro h
    exact ⟨fun x hx => h x (List.mem_append_left _ hx), h _ (List.mem_append_right _ (List.mem_singleton.2 rfl))⟩
  · rintro ⟨h1, h2⟩ x hx
    rcases List.mem_append.1 hx with hx | hx
    · exact h1 x hx
    · rw [List.mem_singleton.1 hx]; exact h2
theorem part_new {l : List Rec} {k : Nat} (hk : k < l.length) (h : newK l k k l[k].key = true) : partC l (k + 1) = partC l k + amountC l l[k].key := by
  have hn : l[k].key ∉ fkeys (l.take k) := fun hm => by
    obtain ⟨x, hx, e⟩ := (fkeys_mem _ _).1 hm
    unfold newK at h
    exact (of_decide_eq_true h) x hx e
  unfold partC
  rw [List.take_succ_eq_append_getElem hk, fkeys_snoc, if_neg hn, List.map_append, List.map_cons, List.map_nil, sumZ_snoc]
theorem part_old {l : List Rec} {k : Nat} (hk : k < l.length) (h : newK l k k l[k].key = false) : partC l (k + 1) = partC l k := by
  have hn : l[k].key ∈ fkeys (l.take k) := by
    unfold newK at h
    have h' := of_decide_eq_false h
    refine (fkeys_mem _ _).2 ?_
    exact Classical.byContradiction fun q => h' fun x hx e => q ⟨x, hx, e⟩
  unfold partC
  rw [List.take_succ_eq_append_getElem hk, fkeys_snoc, if_pos hn]
theorem part_end (l : List Rec) : partC l l.length = claimC l := by unfold partC; rw [List.take_length, claim_fkeys]
theorem part_zero (l : List Rec) : partC l 0 = 0 := rfl
theorem amount_take {l : List Rec} {k : Nat} (hk : k < l.length) (y : ByteArray) : amountC (l.take (k + 1)) y = if l[k].key = y then afterC (amountC (l.take k) y) l[k] else amountC (l.take k) y := by rw [List.take_succ_eq_append_getElem hk, amount_snoc]
theorem amount_in {l : List Rec} (hc : ∀ r ∈ l, -1125899906842624 ≤ r.c ∧ r.c ≤ 1125899906842624) (y : ByteArray) : ∀ k, k ≤ l.length → -(k : Int) * 1125899906842624 ≤ amountC (l.take k) y ∧ amountC (l.take k) y ≤ (k : Int) * 1125899906842624
  | 0, _ => by rw [List.take_zero]; unfold amountC; simp
  | k + 1, h => by
    have ih := amount_in hc y k (by omega)
    have hx := hc _ (List.getElem_mem (show k < l.length by omega))
    rw [amount_take (by omega)]
    split
    · exact after_bound ih.1 ih.2 hx.1 hx.2
    · omega
end Go.Tw.Exc
