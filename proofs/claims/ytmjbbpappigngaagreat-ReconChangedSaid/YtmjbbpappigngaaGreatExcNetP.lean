/-
  Layer 42 (agency) in plain Lean: one record for each key.
-/
import Derived.Test.YtmjbbpappigngaaGreatExcTot
namespace Go.Tw.Exc
open Go.RowKit Go.Tw
def idxK (out : List Rec) (y : ByteArray) : Option Nat := out.findIdx? fun r => decide (r.key = y)
def fO (out : List Rec) (y : ByteArray) : Option Value := (idxK out y).map fun i => Value.int .i64 (i : Nat)
def newR (key : ByteArray) : Rec := ⟨1, key, 0, 0, 0⟩
/-- the list with a place for the key, and the place -/
def netAt (out : List Rec) (key : ByteArray) : List Rec × Nat := match idxK out key with
  | none => (out ++ [newR key], out.length)
  | some i => (out, i)
def bump (r x : Rec) : Rec := { r with t := x.t, c := afterC r.c x }
def netStep (out : List Rec) (x : Rec) : List Rec := (netAt out x.key).1.set (netAt out x.key).2 (bump ((netAt out x.key).1.getD (netAt out x.key).2 (newR x.key)) x)
def netGo (l : List Rec) : List Rec := l.foldl netStep []
theorem netGo_snoc (l : List Rec) (x : Rec) : netGo (l ++ [x]) = netStep (netGo l) x := by unfold netGo; rw [List.foldl_append]; rfl
theorem idxK_some {out : List Rec} {y : ByteArray} {i : Nat} (h : idxK out y = some i) : ∃ hi : i < out.length, out[i].key = y := by
  unfold idxK at h
  obtain ⟨hi, h1, -⟩ := List.findIdx?_eq_some_iff_getElem.1 h
  exact ⟨hi, by simpa using h1⟩
theorem idxK_none {out : List Rec} {y : ByteArray} (h : idxK out y = none) : ∀ r ∈ out, r.key ≠ y := by
  unfold idxK at h
  intro r hr
  simpa using List.findIdx?_eq_none_iff.1 h r hr
theorem idxK_snoc (out : List Rec) (r : Rec) (y : ByteArray) : idxK (out ++ [r]) y = (idxK out y).or (if r.key = y then some out.length else none) := by
  unfold idxK
  rw [List.findIdx?_append]
  by_cases h : r.key = y <;> simp [h]
theorem fO_snoc {out : List Rec} {key : ByteArray} (h : idxK out key = none) (y : ByteArray) : (if y = key then some (Value.int .i64 ((out.length : Nat) : Int)) else fO out y) = fO (out ++ [newR key]) y := by
  unfold fO
  rw [idxK_snoc]
  by_cases e : y = key
  · subst e
    rw [h, if_pos rfl]
    simp [newR]
  · rw [if_neg e]
    have e2 : ¬ (newR key).key = y := fun q => e q.symm
    rw [if_neg e2]
    simp
theorem idxK_set {out : List Rec} {i : Nat} {r : Rec} (hi : i < out.length) (hk : r.key = out[i].key) (y : ByteArray) : idxK (out.set i r) y = idxK out y := by
  unfold idxK
  induction out generalizing i with
  | nil => rfl
  | cons a out ih =>
    cases i with
    | zero =>
      simp only [List.set_cons_zero, List.findIdx?_cons]
      simp only [List.getElem_cons_zero] at hk
      rw [hk]
    | succ i =>
      simp only [List.set_cons_succ, List.findIdx?_cons]
      rw [ih (by simpa using hi) (by simpa using hk)]
theorem fO_set {out : List Rec} {i : Nat} {r : Rec} (hi : i < out.length) (hk : r.key = out[i].key) (y : ByteArray) : fO (out.set i r) y = fO out y := by unfold fO; rw [idxK_set hi hk]
theorem netAt_lt (out : List Rec) (key : ByteArray) : (netAt out key).2 < (netAt out key).1.length := by
  unfold netAt
  cases h : idxK out key with
  | none => simp
  | some i => obtain ⟨hi, -⟩ := idxK_some h; exact hi
theorem netStep_some {out : List Rec} {x : Rec} {i : Nat} (h : idxK out x.key = some i) (hi : i < out.length) : netStep out x = out.set i (bump out[i] x) := by
  unfold netStep netAt
  rw [h]
  simp only
  rw [List.getD_eq_getElem?_getD, List.getElem?_eq_getElem hi]
  rfl
theorem netStep_none {out : List Rec} {x : Rec} (h : idxK out x.key = none) : netStep out x = out ++ [bump (newR x.key) x] := by
  unfold netStep netAt
  rw [h]
  simp
theorem amount_snoc (l : List Rec) (x : Rec) (y : ByteArray) : amountC (l ++ [x]) y = if x.key = y then afterC (amountC l y) x else amountC l y := by
  unfold amountC
  rw [List.filter_append, List.foldl_append]
  by_cases h : x.key = y <;> simp [h]
/-- what stands in the list: each key once, with its amount -/
structure NetIs (l out : List Rec) : Prop where
  nod : (out.map (·.key)).Nodup
  mem : ∀ y, (∃ r ∈ out, r.key = y) ↔ ∃ x ∈ l, x.key = y
  amt : ∀ r ∈ out, r.c = amountC l r.key
  kind : ∀ r ∈ out, r.k = 1 ∧ r.y = 0
theorem snocRec {α : Type} {p : List α → Prop} (h0 : p []) (h1 : ∀ l x, p l → p (l ++ [x])) (l : List α) : p l := snocInd h0 h1 l
theorem net_is (l : List Rec) : NetIs l (netGo l) := by
  refine snocRec (p := fun l => NetIs l (netGo l)) ?_ ?_ l
  · exact ⟨List.nodup_nil, (fun y => by simp [netGo]), (fun r hr => by cases hr), (fun r hr => by cases hr)⟩
  · intro l x ih
    rw [netGo_snoc]
    cases h : idxK (netGo l) x.key with
    | none =>
      rw [netStep_none h]
      have hno := idxK_none h
      have hnl : ∀ z ∈ l, z.key ≠ x.key := fun z hz e => by
        obtain ⟨r, hr, he⟩ := (ih.mem x.key).2 ⟨z, hz, e⟩
        exact hno r hr he
      have h0 : amountC l x.key = 0 := by
        unfold amountC
        rw [List.filter_eq_nil_iff.2 (fun z hz => by simpa using hnl z hz)]
        rfl
      refine ⟨?_, fun y => ?_, fun r hr => ?_, fun r hr => ?_⟩
      · rw [List.map_append]
        refine List.nodup_append.2 ⟨ih.nod, by simp, fun a ha b hb e => ?_⟩
        simp only [List.map_cons, List.map_nil, List.mem_singleton] at hb
        obtain ⟨r, hr, rfl⟩ := List.mem_map.1 ha
        exact hno r hr (e.trans hb)
      · constructor
        · rintro ⟨r, hr, rfl⟩
          rcases List.mem_append.1 hr with hr | hr
          · obtain ⟨z, hz, e⟩ := (ih.mem r.key).1 ⟨r, hr, rfl⟩
            exact ⟨z, by simp [hz], e⟩
          · rw [List.mem_singleton.1 hr]; exact ⟨x, by simp, rfl⟩
        · rintro ⟨z, hz, rfl⟩
          rcases List.mem_append.1 hz with hz | hz
          · obtain ⟨r, hr, e⟩ := (ih.mem z.key).2 ⟨z, hz, rfl⟩
            exact ⟨r, by simp [hr], e⟩
          · rw [List.mem_singleton.1 hz]; exact ⟨bump (newR x.key) x, by simp, rfl⟩
      · rw [amount_snoc]
        rcases List.mem_append.1 hr with hr | hr
        · rw [if_neg (fun e => hno r hr e.symm)]; exact ih.amt r hr
        · rw [List.mem_singleton.1 hr]
          show afterC 0 x = if x.key = x.key then _ else _
          rw [if_pos rfl, show (bump (newR x.key) x).key = x.key from rfl, h0]
      · rcases List.mem_append.1 hr with hr | hr
        · exact ih.kind r hr
        · rw [List.mem_singleton.1 hr]; exact ⟨rfl, rfl⟩
    | some i =>
      obtain ⟨hi, hk⟩ := idxK_some h
      rw [netStep_some h hi]
      have hkeys : ((netGo l).set i (bump (netGo l)[i] x)).map (·.key) = (netGo l).map (·.key) := by
        rw [List.map_set]
        rw [show (bump (netGo l)[i] x).key = ((netGo l).map (·.key))[i]'(by simpa using hi) by simp [bump]]
        exact List.set_getElem_self _
      refine ⟨by rw [hkeys]; exact ih.nod, fun y => ?_, fun r hr => ?_, fun r hr => ?_⟩
      · have e1 : (∃ r ∈ (netGo l).set i (bump (netGo l)[i] x), r.key = y) ↔ y ∈ ((netGo l).set i (bump (netGo l)[i] x)).map (·.key) := List.mem_map.symm
        have e2 : (∃ r ∈ netGo l, r.key = y) ↔ y ∈ (netGo l).map (·.key) := List.mem_map.symm
        rw [e1, hkeys, ← e2, ih.mem]
        constructor
        · rintro ⟨z, hz, e⟩; exact ⟨z, by simp [hz], e⟩
        · rintro ⟨z, hz, e⟩
          rcases List.mem_append.1 hz with hz | hz
          · exact ⟨z, hz, e⟩
          · rw [List.mem_singleton.1 hz] at e
            obtain ⟨q, hq, e3⟩ := (ih.mem x.key).1 ⟨_, List.getElem_mem hi, hk⟩
            exact ⟨q, hq, e3.trans e⟩
      · rw [amount_snoc]
        rw [List.mem_iff_getElem] at hr
        obtain ⟨j, hj, rfl⟩ := hr
        rw [List.length_set] at hj
        by_cases e : i = j
        · subst e
          rw [List.getElem_set_self]
          rw [if_pos (show x.key = (bump (netGo l)[i] x).key from hk.symm)]
          show afterC (netGo l)[i].c x = _
          rw [ih.amt _ (List.getElem_mem hi)]
          rfl
        · rw [List.getElem_set_ne e]
          rw [if_neg]
          · exact ih.amt _ (List.getElem_mem hj)
          · intro q
            have hnd := ih.nod
            have := (List.nodup_iff_pairwise_ne.1 hnd)
            rw [List.pairwise_iff_getElem] at this
            rcases Nat.lt_or_gt_of_ne e with h1 | h1
            · exact this i j (by simpa using hi) (by simpa using hj) h1 (by simp [hk, q])
            · exact this j i (by simpa using hj) (by simpa using hi) h1 (by simp [hk, q])
      · rcases List.mem_or_eq_of_mem_set hr with hr | e
        · exact ih.kind r hr
        · rw [e]
          have := ih.kind _ (List.getElem_mem hi)
          exact ⟨this.1, this.2⟩
/-! ### Bounds -/
def CM : Int := 1125899906842624
theorem after_bound {n : Int} {r : Rec} {k : Nat} (h1 : -(k : Int) * 1125899906842624 ≤ n) (h2 : n ≤ (k : Int) * 1125899906842624) (h3 : -1125899906842624 ≤ r.c) (h4 : r.c ≤ 1125899906842624) : -((k + 1 : Nat) : Int) * 1125899906842624 ≤ afterC n r ∧ afterC n r ≤ ((k + 1 : Nat) : Int) * 1125899906842624 := by
  unfold afterC
  split
  · omega
  · split
    · omega
    · split
      · omega
      · omega
end Go.Tw.Exc
