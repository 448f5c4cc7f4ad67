/-
  Layer 6 (match) in plain Lean: rows and columns exchanged.
-/
import Derived.Test.YtepceaoccnmkiaaMatchSecP
namespace Go.Tw.Match
open Go.RowKit

def sumN : Nat → (Nat → Int) → Int
  | 0, _ => 0
  | n + 1, f => sumN n f + f n
theorem sumN_congr {f g : Nat → Int} : ∀ {n : Nat}, (∀ i, i < n → f i = g i) → sumN n f = sumN n g
  | 0, _ => rfl
  | n + 1, h => by rw [sumN, sumN, sumN_congr (fun i hi => h i (by omega)), h n (by omega)]
theorem sumN_add (f g : Nat → Int) : ∀ n : Nat, sumN n (fun i => f i + g i) = sumN n f + sumN n g
  | 0 => rfl
  | n + 1 => by rw [sumN, sumN, sumN, sumN_add f g n]; omega
theorem sumN_zero : ∀ n : Nat, sumN n (fun _ => 0) = 0
  | 0 => rfl
  | n + 1 => by rw [sumN, sumN_zero n]; rfl
theorem sumN_comm (f : Nat → Nat → Int) (c : Nat) : ∀ n : Nat, sumN n (fun i => sumN c (fun j => f i j)) = sumN c (fun j => sumN n (fun i => f i j))
  | 0 => by simp [sumN, sumN_zero]
  | n + 1 => by
    rw [sumN, sumN_comm f c n]
    simp only [sumN]
    rw [sumN_add]
theorem sumN_one {x : Int} (g : Nat → Int) : ∀ c : Nat, sumN c (fun j => if x = (j : Int) then g j else 0) = if 0 ≤ x ∧ x < c then g x.toNat else 0
  | 0 => by simp [sumN]; intro h h2; omega
  | c + 1 => by
    rw [sumN, sumN_one g c]
    by_cases e : x = (c : Int)
    · subst e
      simp
      omega
    · rw [if_neg e]
      by_cases q : 0 ≤ x ∧ x < c
      · rw [if_pos q, if_pos (by omega)]; omega
      · rw [if_neg q, if_neg (by omega)]; rfl
theorem rowsum_sumN (m : Mat) (a : List Int) : rowsum m 0 a = sumN a.length (fun i => price m i (a.getD i 0)) := by
  refine snocInd (p := fun a => rowsum m 0 a = sumN a.length (fun i => price m i (a.getD i 0))) rfl (fun l x ih => ?_) a
  rw [rowsum_snoc, ih, List.length_append, List.length_singleton, sumN, Nat.zero_add]
  congr 1
  · refine sumN_congr fun i hi => ?_
    rw [List.getD_eq_getElem?_getD, List.getD_eq_getElem?_getD, List.getElem?_append_left hi]
  · rw [List.getD_eq_getElem?_getD, List.getElem?_append_right (Nat.le_refl _)]
    simp
theorem freeS_sumN (u : Nat → Bool) (l : List Int) : freeS u 0 l = sumN l.length (fun j => if u j then 0 else l.getD j 0) := by
  refine snocInd (p := fun l => freeS u 0 l = sumN l.length (fun j => if u j then 0 else l.getD j 0)) rfl (fun l x ih => ?_) l
  rw [freeS_snoc, ih, List.length_append, List.length_singleton, sumN, Nat.zero_add]
  congr 1
  · refine sumN_congr fun i hi => ?_
    rw [List.getD_eq_getElem?_getD, List.getD_eq_getElem?_getD, List.getElem?_append_left hi]
  · rw [List.getD_eq_getElem?_getD, List.getElem?_append_right (Nat.le_refl _)]
    simp
def ent (m : Mat) (i j : Nat) : Int := (m.cost.getD i []).getD j 0
structure Turns (m T : Mat) : Prop where
  row : T.row = m.col
  col : T.col = m.row
  ent : ∀ i j, i < m.row.length → j < m.col.length → ent T j i = ent m i j
theorem Turns.symm {m T : Mat} (h : Turns m T) : Turns T m := ⟨h.col.symm, h.row.symm, fun i j hi hj => by
  rw [h.row] at hi; rw [h.col] at hj
  exact (h.ent j i hj hi).symm⟩
def inv (c : Nat) (a : List Int) : List Int := (List.range c).map fun (j : Nat) => if (j : Int) ∈ a then (a.idxOf (j : Int) : Int) else -1
theorem inv_len (c : Nat) (a : List Int) : (inv c a).length = c := by simp [inv]
theorem inv_get {c : Nat} {a : List Int} {j : Nat} (hj : j < (inv c a).length) : (inv c a)[j] = if (j : Int) ∈ a then (a.idxOf (j : Int) : Int) else -1 := by simp [inv]
theorem valid_inj {m : Mat} {a : List Int} (hv : Valid m a) {i k : Nat} (hi : i < a.length) (hk : k < a.length) (h0 : 0 ≤ a[i]) (e : a[i] = a[k]) : i = k := by
  rcases Nat.lt_trichotomy i k with q | q | q
  · exact absurd e (hv.nod i k hi hk q (by omega))
  · exact q
  · exact absurd e.symm (hv.nod k i hk hi q h0)
theorem inv_iff {m : Mat} {a : List Int} (hv : Valid m a) {i j : Nat} (hi : i < a.length) (hj : j < (inv m.col.length a).length) : a[i] = (j : Int) ↔ (inv m.col.length a)[j] = (i : Int) := by
  rw [inv_get]
  constructor
  · intro e
    have hm : (j : Int) ∈ a := by rw [← e]; exact List.getElem_mem hi
    rw [if_pos hm]
    have hlt := List.idxOf_lt_length_of_mem hm
    have hg := List.getElem_idxOf hlt
    have := valid_inj hv hi hlt (by omega) (by rw [hg, e])
    omega
  · intro e
    split at e
    · rename_i hm
      have hlt := List.idxOf_lt_length_of_mem hm
      have hg := List.getElem_idxOf hlt
      have hii : a.idxOf (j : Int) = i := by omega
      rw [← hg]
      congr 1
      exact hii.symm
    · omega
theorem inv_neg {c : Nat} {a : List Int} {j : Nat} (hj : j < (inv c a).length) : (inv c a)[j] < 0 ↔ (j : Int) ∉ a := by
  rw [inv_get]
  split
  · rename_i h; exact ⟨fun w => by omega, fun w => absurd h w⟩
  · rename_i h; exact ⟨fun _ => h, fun _ => by omega⟩
theorem inv_mem {m : Mat} {a : List Int} (hv : Valid m a) {i : Nat} (hi : i < a.length) : (i : Int) ∈ inv m.col.length a ↔ 0 ≤ a[i] := by
  constructor
  · intro h
    obtain ⟨j, hj, e⟩ := List.getElem_of_mem h
    have := (inv_iff hv hi hj).2 e
    omega
  · intro h
    have hr := hv.rng _ (List.getElem_mem hi)
    have hj : a[i].toNat < (inv m.col.length a).length := by rw [inv_len]; omega
    have := (inv_iff hv hi hj).1 (by omega)
    rw [← this]
    exact List.getElem_mem hj
theorem inv_valid {m T : Mat} (hm : Ok m) (hT : Ok T) (ht : Turns m T) {a : List Int} (hv : Valid m a) : Valid T (inv m.col.length a) := by
  refine ⟨by rw [inv_len, ht.row], fun x hx => ?_, fun s t hs hts hst h0 e => ?_, fun j hj => ?_⟩
  · obtain ⟨j, hj, rfl⟩ := List.getElem_of_mem hx
    rw [inv_get, ht.col]
    split
    · rename_i h
      have := List.idxOf_lt_length_of_mem h
      rw [hv.len] at this
      omega
    · omega
  · obtain ⟨i, hi⟩ : ∃ i : Nat, (inv m.col.length a)[t] = (i : Int) := ⟨((inv m.col.length a)[t]).toNat, by omega⟩
    have hia : i < a.length := by
      rw [inv_get] at hi
      split at hi
      · rename_i h
        have := List.idxOf_lt_length_of_mem h
        omega
      · omega
    have h1 := (inv_iff hv hia hts).2 hi
    have h2 := (inv_iff hv hia hs).2 (by rw [e]; exact hi)
    omega
  · by_cases q : (inv m.col.length a)[j] < 0
    · exact price_none hT j q
    · obtain ⟨i, hi⟩ : ∃ i : Nat, (inv m.col.length a)[j] = (i : Int) := ⟨((inv m.col.length a)[j]).toNat, by omega⟩
      have hia : i < a.length := by
        rw [inv_get] at hi
        split at hi
        · rename_i h
          have := List.idxOf_lt_length_of_mem h
          omega
        · omega
      have h1 := (inv_iff hv hia hj).2 hi
      have h2 := hv.pri i hia
      rw [h1] at h2
      rw [hi]
      unfold price at h2 ⊢
      rw [if_neg (by omega)] at h2 ⊢
      have h3 := ht.ent i j (by rw [← hv.len]; exact hia) (by rw [inv_len] at hj; exact hj)
      unfold ent at h3
      simp only [Int.toNat_natCast] at h2 ⊢
      rw [h3]
      exact h2
theorem inv_inv {m T : Mat} (hm : Ok m) (hT : Ok T) (ht : Turns m T) {a : List Int} (hv : Valid m a) : inv T.col.length (inv m.col.length a) = a := by
  have hv2 := inv_valid hm hT ht hv
  apply List.ext_getElem
  · rw [inv_len, ht.col, hv.len]
  · intro i h1 h2
    by_cases q : a[i] < 0
    · have hr := hv.rng _ (List.getElem_mem h2)
      have : (i : Int) ∉ inv m.col.length a := fun w => by have := (inv_mem hv h2).1 w; omega
      have := (inv_neg h1).2 this
      rw [inv_get] at this ⊢
      split
      · rename_i w; rw [if_pos w] at this; omega
      · omega
    · have hr := hv.rng _ (List.getElem_mem h2)
      have hj : a[i].toNat < (inv m.col.length a).length := by rw [inv_len]; omega
      have e := (inv_iff hv h2 hj).1 (by omega)
      have := (inv_iff hv2 hj h1).1 e
      rw [this]; omega
theorem cost_sum {m : Mat} {a : List Int} (hv : Valid m a) : costA m a = sumN m.row.length (fun i => if a.getD i 0 < 0 then m.row.getD i 0 else 0) + sumN m.row.length (fun i => sumN m.col.length (fun j => if a.getD i 0 = (j : Int) then ent m i j else 0)) + sumN m.col.length (fun j => if (j : Int) ∈ a then 0 else m.col.getD j 0) := by
  unfold costA
  rw [rowsum_sumN, freeS_sumN, hv.len, ← sumN_add]
  congr 1
  · refine sumN_congr fun i hi => ?_
    rw [sumN_one]
    have hi' : i < a.length := by rw [hv.len]; exact hi
    have hr := hv.rng _ (List.getElem_mem hi')
    have e : a.getD i 0 = a[i] := by rw [List.getD_eq_getElem?_getD, List.getElem?_eq_getElem hi']; rfl
    rw [e]
    unfold price ent
    by_cases q : a[i] < 0
    · rw [if_pos q, if_pos q, if_neg (by omega)]; omega
    · rw [if_neg q, if_neg q, if_pos (by omega)]; omega
  · refine sumN_congr fun j _ => ?_
    unfold used
    by_cases q : (j : Int) ∈ a <;> simp [q]
theorem turn_cost {m T : Mat} (hm : Ok m) (hT : Ok T) (ht : Turns m T) {a : List Int} (hv : Valid m a) : cst T 0 0 (inv m.col.length a) = cst m 0 0 a := by
  have hv2 := inv_valid hm hT ht hv
  have get : ∀ {l : List Int} {i : Nat} (h : i < l.length), l.getD i 0 = l[i] := fun h => by rw [List.getD_eq_getElem?_getD, List.getElem?_eq_getElem h]; rfl
  rw [cst_costA, cst_costA, cost_sum hv, cost_sum hv2, sumN_comm, ht.row, ht.col]
  have e1 : sumN m.col.length (fun j => if (inv m.col.length a).getD j 0 < 0 then m.col.getD j 0 else 0) = sumN m.col.length (fun j => if (j : Int) ∈ a then 0 else m.col.getD j 0) := by
    refine sumN_congr fun j hj => ?_
    have hj' : j < (inv m.col.length a).length := by rw [inv_len]; exact hj
    rw [get hj']
    have := inv_neg hj'
    by_cases q : (j : Int) ∈ a
    · rw [if_neg (fun w => this.1 w q), if_pos q]
    · rw [if_pos (this.2 q), if_neg q]
  have e2 : sumN m.row.length (fun i => if (i : Int) ∈ inv m.col.length a then 0 else m.row.getD i 0) = sumN m.row.length (fun i => if a.getD i 0 < 0 then m.row.getD i 0 else 0) := by
    refine sumN_congr fun i hi => ?_
    have hi' : i < a.length := by rw [hv.len]; exact hi
    rw [get hi']
    have := inv_mem hv hi'
    by_cases q : a[i] < 0
    · rw [if_pos q, if_neg (fun w => by have := this.1 w; omega)]
    · rw [if_neg q, if_pos (this.2 (by omega))]
  have e3 : sumN m.row.length (fun i => sumN m.col.length (fun j => if (inv m.col.length a).getD j 0 = (i : Int) then ent T j i else 0)) = sumN m.row.length (fun i => sumN m.col.length (fun j => if a.getD i 0 = (j : Int) then ent m i j else 0)) := by
    refine sumN_congr fun i hi => sumN_congr fun j hj => ?_
    have hi' : i < a.length := by rw [hv.len]; exact hi
    have hj' : j < (inv m.col.length a).length := by rw [inv_len]; exact hj
    rw [get hi', get hj', ht.ent i j hi hj]
    have := inv_iff hv hi' hj'
    by_cases q : a[i] = (j : Int)
    · rw [if_pos q, if_pos (this.1 q)]
    · rw [if_neg q, if_neg (fun w => q (this.2 w))]
  rw [e1, e2, e3]
  omega
theorem turn_perm {m T : Mat} (hm : Ok m) (hT : Ok T) (ht : Turns m T) : ((alls m).map (inv m.col.length)).Perm (alls T) := by
  rw [List.perm_ext_iff_of_nodup]
  · intro b
    constructor
    · intro hb
      obtain ⟨a, ha, rfl⟩ := List.mem_map.1 hb
      exact (mem_alls hT).2 (inv_valid hm hT ht ((mem_alls hm).1 ha))
    · intro hb
      have hvb := (mem_alls hT).1 hb
      exact List.mem_map.2 ⟨inv T.col.length b, (mem_alls hm).2 (inv_valid hT hm ht.symm hvb), inv_inv hT hm ht.symm hvb⟩
  · unfold List.Nodup
    rw [List.pairwise_map]
    refine (sorted_nodup (alls_sorted m)).imp_of_mem fun {a b} ha hb hne e => hne ?_
    rw [← inv_inv hm hT ht ((mem_alls hm).1 ha), e, inv_inv hm hT ht ((mem_alls hm).1 hb)]
  · exact sorted_nodup (alls_sorted T)
theorem turn_costs {m T : Mat} (hm : Ok m) (hT : Ok T) (ht : Turns m T) : (costs m (opn m.row.length) m.row.length 0 0).Perm (costs T (opn T.row.length) T.row.length 0 0) := by
  rw [costs_fitting, costs_fitting, fitting_opn, fitting_opn]
  have := (turn_perm hm hT ht).map (cst T 0 0)
  rw [List.map_map] at this
  refine (List.Perm.of_eq ?_).trans this
  refine List.map_congr_left fun a ha => ?_
  exact (turn_cost hm hT ht ((mem_alls hm).1 ha)).symm
/-- the exchanged matrix -/
def turned (m : Mat) : Mat := ⟨(List.range m.col.length).map fun j => (List.range m.row.length).map fun i => ent m i j, m.col, m.row⟩
theorem turned_ok {m : Mat} (h : Ok m) : Ok (turned m) where
  n8 := h.c8
  c8 := h.n8
  rows := by simp [turned]
  cols := fun r hr => by
    obtain ⟨j, -, rfl⟩ := List.mem_map.1 hr
    simp [turned]
  cin := fun r hr x hx => by
    obtain ⟨j, hj, rfl⟩ := List.mem_map.1 hr
    obtain ⟨i, hi, rfl⟩ := List.mem_map.1 hx
    have := price_range h i (j : Int)
    unfold price at this
    rw [if_neg (by omega)] at this
    simpa [ent] using this
  rin := h.lin
  lin := h.rin
theorem turned_turns (m : Mat) : Turns m (turned m) := ⟨rfl, rfl, fun i j hi hj => by simp [ent, turned, hi, hj]⟩
theorem turned_mn {m : Mat} (h : Ok m) : mn (costs (turned m) (opn m.col.length) m.col.length 0 0) = mn (costs m (opn m.row.length) m.row.length 0 0) ∧ tieN (costs (turned m) (opn m.col.length) m.col.length 0 0) = tieN (costs m (opn m.row.length) m.row.length 0 0) := by
  have hp := turn_costs h (turned_ok h) (turned_turns m)
  have hn := costs_nonneg h (opn m.row.length) m.row.length 0 0
  exact ⟨(mn_perm hn hp).symm, (ways_perm hn hp).symm⟩
end Go.Tw.Match
