/-
  Layer 6 (match) in plain Lean: the best alternative.
-/
import Derived.Test.YtepceaoccnmkiaaMatchLawP
namespace Go.Tw.Match
open Go.RowKit

theorem comps_congr (m : Mat) {F G : List Int} : ∀ (k i mask : Nat), (∀ t, i ≤ t → t < i + k → F.getD t 0 = G.getD t 0) → comps m F k i mask = comps m G k i mask
  | 0, _, _, _ => by rw [comps, comps]
  | k + 1, i, mask, h => by
    rw [comps, comps]
    congr 1
    funext j
    rw [comps_congr m k (i + 1) (nxt mask j) (fun t h1 h2 => h t (by omega) (by omega))]
    unfold ok okF
    rw [h i (by omega) (by omega)]
theorem costs_congr (m : Mat) {F G : List Int} (k i mask : Nat) (h : ∀ t, i ≤ t → t < i + k → F.getD t 0 = G.getD t 0) : costs m F k i mask = costs m G k i mask := by
  unfold costs; rw [comps_congr m k i mask h]
theorem greedy_congr (m : Mat) {F G : List Int} : ∀ (k i mask : Nat), (∀ t, i ≤ t → t < i + k → F.getD t 0 = G.getD t 0) → greedy m F k i mask = greedy m G k i mask
  | 0, _, _, _ => by rw [greedy, greedy]
  | k + 1, i, mask, h => by
    have e : leads m F k i mask = leads m G k i mask := by
      funext j
      unfold leads
      rw [costs_congr m (k + 1) i mask h, costs_congr m k (i + 1) (nxt mask j) (fun t h1 h2 => h t (by omega) (by omega))]
      unfold ok okF
      rw [h i (by omega) (by omega)]
    rw [greedy, greedy, e]
    have ih := fun j => greedy_congr m (F := F) (G := G) k (i + 1) (nxt mask j) (fun t h1 h2 => h t (by omega) (by omega))
    simp only [ih]
/-- one row's column is demanded -/
theorem pin_costs {m : Mat} {F : List Int} {k i mask : Nat} {j : Int} (hj : F.getD i 0 = j) (hc : j ∈ choices m.col.length) : costs m F (k + 1) i mask ≠ [] ↔ okJ m i j mask = true ∧ costs m F k (i + 1) (nxt mask j) ≠ [] := by
  have h2 : j ≠ -2 := by have := choices_mem.1 hc; omega
  rw [costs_succ]
  constructor
  · intro h
    rw [Ne, List.flatMap_eq_nil_iff] at h
    have : ∃ x ∈ choices m.col.length, via m F k i mask x ≠ [] := by
      refine Classical.byContradiction fun q => h fun x hx => ?_
      exact Classical.byContradiction fun e => q ⟨x, hx, e⟩
    obtain ⟨x, hx, hv⟩ := this
    unfold via at hv
    split at hv
    · rename_i hok
      unfold ok okF at hok
      rw [hj] at hok
      simp only [Bool.and_eq_true, Bool.or_eq_true, decide_eq_true_eq] at hok
      obtain rfl : j = x := by rcases hok.1 with q | q; exact absurd q h2; exact q
      exact ⟨hok.2, fun e => hv (by rw [e]; rfl)⟩
    · exact absurd rfl hv
  · rintro ⟨h1, h3⟩ e
    rw [List.flatMap_eq_nil_iff] at e
    have := e j hc
    unfold via at this
    rw [if_pos (by unfold ok okF; rw [hj, h1]; simp)] at this
    exact h3 (List.map_eq_nil_iff.1 this)
theorem ge_iff {m : Mat} (h : Ok m) (F : List Int) (k i mask : Nat) : 0 ≤ mn (costs m F k i mask) ↔ costs m F k i mask ≠ [] := by
  have := mn_neg (costs_nonneg h F k i mask)
  constructor
  · intro q e; have := this.2 e; omega
  · intro q; exact Int.not_lt.1 fun w => q (this.1 w)
theorem pin_greedy {m : Mat} (h : Ok m) {F : List Int} {k i mask : Nat} {j : Int} (hj : F.getD i 0 = j) (hc : j ∈ choices m.col.length) (h0 : 0 ≤ mn (costs m F (k + 1) i mask)) : greedy m F (k + 1) i mask = j :: greedy m F k (i + 1) (nxt mask j) := by
  obtain ⟨x, -, -, hl, he⟩ := greedy_step h h0
  have hok := (leads_spec hl).1
  have h2 : j ≠ -2 := by have := choices_mem.1 hc; omega
  unfold ok okF at hok
  rw [hj] at hok
  simp only [Bool.and_eq_true, Bool.or_eq_true, decide_eq_true_eq] at hok
  obtain rfl : j = x := by rcases hok.1 with q | q; exact absurd q h2; exact q
  exact he
theorem prefix_costs {m : Mat} {F : List Int} : ∀ (P : List Int) (k i mask : Nat), (∀ t (ht : t < P.length), F.getD (i + t) 0 = P[t]) → (∀ x ∈ P, x ∈ choices m.col.length) →
    (costs m F (P.length + k) i mask ≠ [] ↔ chain m i mask P ∧ costs m F k (i + P.length) (msk mask P) ≠ [])
  | [], k, i, mask, _, _ => by simp [chain, msk]
  | j :: P, k, i, mask, h, hc => by
    have hj : F.getD i 0 = j := h 0 (Nat.succ_pos _)
    have ih := prefix_costs (m := m) (F := F) P k (i + 1) (nxt mask j) (fun t ht => by have := h (t + 1) (by simpa using ht); rw [show i + 1 + t = i + (t + 1) by omega]; simpa using this) (fun x hx => hc x (by simp [hx]))
    rw [List.length_cons, show P.length + 1 + k = P.length + k + 1 by omega, pin_costs hj (hc j (by simp)), ih, chain, msk, show i + (P.length + 1) = i + 1 + P.length by omega]
    constructor
    · rintro ⟨a, b, c⟩; exact ⟨⟨hc j (by simp), a, b⟩, c⟩
    · rintro ⟨⟨-, a, b⟩, c⟩; exact ⟨a, b, c⟩
theorem prefix_greedy {m : Mat} (h : Ok m) {F : List Int} : ∀ (P : List Int) (k i mask : Nat), (∀ t (ht : t < P.length), F.getD (i + t) 0 = P[t]) → (∀ x ∈ P, x ∈ choices m.col.length) →
    costs m F (P.length + k) i mask ≠ [] → greedy m F (P.length + k) i mask = P ++ greedy m F k (i + P.length) (msk mask P)
  | [], k, i, mask, _, _, _ => by simp [msk]
  | j :: P, k, i, mask, hF, hc, hne => by
    have hj : F.getD i 0 = j := hF 0 (Nat.succ_pos _)
    rw [List.length_cons, show P.length + 1 + k = P.length + k + 1 by omega] at hne ⊢
    have h2 := (pin_costs hj (hc j (by simp))).1 hne
    have ih := prefix_greedy h (F := F) P k (i + 1) (nxt mask j) (fun t ht => by have := hF (t + 1) (by simpa using ht); rw [show i + 1 + t = i + (t + 1) by omega]; simpa using this) (fun x hx => hc x (by simp [hx])) h2.2
    rw [pin_greedy h hj (hc j (by simp)) ((ge_iff h _ _ _ _).2 hne), ih, msk, show i + (P.length + 1) = i + 1 + P.length by omega]
    rfl
theorem chain_snoc (m : Mat) (j : Int) : ∀ (P : List Int) (i mask : Nat), chain m i mask (P ++ [j]) ↔ chain m i mask P ∧ j ∈ choices m.col.length ∧ okJ m (i + P.length) j (msk mask P) = true
  | [], i, mask => by simp [chain, msk]
  | x :: P, i, mask => by
    rw [List.cons_append, chain, chain_snoc m j P, chain, msk, List.length_cons, show i + 1 + P.length = i + (P.length + 1) by omega]
    constructor
    · rintro ⟨a, b, c, d, e⟩; exact ⟨⟨a, b, c⟩, d, e⟩
    · rintro ⟨⟨a, b, c⟩, d, e⟩; exact ⟨a, b, c, d, e⟩
theorem chain_take (m : Mat) : ∀ (a : List Int) (i mask t : Nat), chain m i mask a → chain m i mask (a.take t)
  | [], _, _, t, _ => by rw [List.take_nil]; trivial
  | x :: a, i, mask, 0, _ => trivial
  | x :: a, i, mask, t + 1, ⟨h1, h2, h3⟩ => ⟨h1, h2, chain_take m a _ _ t h3⟩
theorem msk_snoc (j : Int) : ∀ (P : List Int) (mask : Nat), msk mask (P ++ [j]) = nxt (msk mask P) j
  | [], _ => rfl
  | x :: P, mask => by rw [List.cons_append, msk, msk, msk_snoc j P]

/-- the demands: as Best up to row i, which has column j -/
def pinL (n : Nat) (best : List Int) (i : Nat) (j : Int) : List Int := (best.take i ++ (opn n).drop i).set i j
theorem pinL_len {n : Nat} {best : List Int} {i : Nat} {j : Int} (hi : i ≤ best.length) (hn : best.length = n) : (pinL n best i j).length = n := by
  unfold pinL opn
  simp
  omega
theorem pinL_get {n : Nat} {best : List Int} {i : Nat} {j : Int} (hi : i < n) (hn : best.length = n) {t : Nat} (ht : t < n) : (pinL n best i j).getD t 0 = if t < i then best.getD t 0 else if t = i then j else -2 := by
  unfold pinL opn
  rw [List.getD_eq_getElem?_getD, List.getD_eq_getElem?_getD, List.getElem?_set]
  by_cases e : i = t
  · subst e
    rw [if_pos rfl, if_pos (by simp only [List.length_append, List.length_take, List.length_drop, List.length_replicate]; omega), if_neg (by omega), if_pos rfl]
    rfl
  · rw [if_neg e]
    by_cases q : t < i
    · rw [if_pos q, List.getElem?_append_left (by simp; omega), List.getElem?_take, if_pos q]
    · rw [if_neg q, if_neg (by omega), List.getElem?_append_right (by simp; omega), List.getElem?_drop, List.getElem?_replicate, List.length_take, if_pos (by omega)]
      rfl
def bestL (m : Mat) : List Int := greedy m (opn m.row.length) m.row.length 0 0
theorem best_spec {m : Mat} (h : Ok m) : bestL m ∈ alls m ∧ cst m 0 0 (bestL m) = mn (costs m (opn m.row.length) m.row.length 0 0) ∧
    ∀ a ∈ alls m, mn (costs m (opn m.row.length) m.row.length 0 0) ≤ cst m 0 0 a ∧ (cst m 0 0 a = mn (costs m (opn m.row.length) m.row.length 0 0) → a = bestL m ∨ befC (bestL m) a = true) := by
  have := greedy_best h (opn m.row.length) (best_ok h)
  rw [fitting_opn] at this
  exact this
/-- the best that begins like Best up to row i, which has another column j -/
def cand (m : Mat) (i : Nat) (j : Int) : List (List Int × Int) :=
  if j = (bestL m).getD i 0 then [] else if mn (costs m (pinL m.row.length (bestL m) i j) m.row.length 0 0) < 0 then [] else [(greedy m (pinL m.row.length (bestL m) i j) m.row.length 0 0, mn (costs m (pinL m.row.length (bestL m) i j) m.row.length 0 0))]
def candR (m : Mat) (i : Nat) (j : Int) : List (List Int × Int) :=
  if j = (bestL m).getD i 0 ∨ okJ m i j (msk 0 ((bestL m).take i)) = false ∨ mn (costs m (opn m.row.length) (m.row.length - (i + 1)) (i + 1) (nxt (msk 0 ((bestL m).take i)) j)) < 0 then []
  else [((bestL m).take i ++ j :: greedy m (opn m.row.length) (m.row.length - (i + 1)) (i + 1) (nxt (msk 0 ((bestL m).take i)) j), (totC m ((bestL m).take i ++ j :: greedy m (opn m.row.length) (m.row.length - (i + 1)) (i + 1) (nxt (msk 0 ((bestL m).take i)) j))).1)]
theorem best_len {m : Mat} (h : Ok m) : (bestL m).length = m.row.length := alls_len (best_spec h).1
theorem best_chain {m : Mat} (h : Ok m) : chain m 0 0 (bestL m) := by
  have := (best_spec h).1
  unfold alls at this
  exact ((mem_comps m _ _ _ _ (by omega)).1 this).2
theorem cand_eq {m : Mat} (h : Ok m) {i : Nat} {j : Int} (hi : i < m.row.length) (hj : j ∈ choices m.col.length) : cand m i j = candR m i j := by
  unfold cand candR
  by_cases e : j = (bestL m).getD i 0
  · rw [if_pos e, if_pos (.inl e)]
  have hbl := best_len h
  have hlen : ((bestL m).take i ++ [j]).length = i + 1 := by simp; omega
  have hF : ∀ t (ht : t < ((bestL m).take i ++ [j]).length), (pinL m.row.length (bestL m) i j).getD (0 + t) 0 = ((bestL m).take i ++ [j])[t] := by
    intro t ht
    rw [hlen] at ht
    rw [Nat.zero_add, pinL_get hi hbl (by omega)]
    by_cases q : t < i
    · rw [if_pos q, List.getElem_append_left (by simp; omega), List.getElem_take, List.getD_eq_getElem?_getD, List.getElem?_eq_getElem (by omega)]
      rfl
    · obtain rfl : t = i := by omega
      rw [if_neg q, if_pos rfl, List.getElem_append_right (by rw [List.length_take]; omega)]
      simp
  have hc : ∀ x ∈ (bestL m).take i ++ [j], x ∈ choices m.col.length := fun x hx => by
    rcases List.mem_append.1 hx with hx | hx
    · exact ((chain_iff m _ _ _).1 (best_chain h)).1 x (List.mem_of_mem_take hx)
    · rw [List.mem_singleton] at hx; subst hx; exact hj
  have hcg : ∀ t, i + 1 ≤ t → t < i + 1 + (m.row.length - (i + 1)) → (pinL m.row.length (bestL m) i j).getD t 0 = (opn m.row.length).getD t 0 := fun t h1 h2 => by
    rw [pinL_get hi hbl (by omega), if_neg (by omega), if_neg (by omega)]
    unfold opn
    rw [List.getD_eq_getElem?_getD, List.getElem?_replicate, if_pos (by omega)]
    rfl
  have hP := prefix_costs (m := m) ((bestL m).take i ++ [j]) (m.row.length - (i + 1)) 0 0 hF hc
  have hG := prefix_greedy h ((bestL m).take i ++ [j]) (m.row.length - (i + 1)) 0 0 hF hc
  rw [hlen, show i + 1 + (m.row.length - (i + 1)) = m.row.length by omega, Nat.zero_add, chain_snoc, msk_snoc, costs_congr m _ (i + 1) _ hcg, List.length_take, hbl, Nat.min_eq_left (by omega), Nat.zero_add] at hP
  rw [hlen, show i + 1 + (m.row.length - (i + 1)) = m.row.length by omega, Nat.zero_add, msk_snoc, greedy_congr m _ (i + 1) _ hcg] at hG
  rw [← ge_iff h, ← ge_iff h] at hP
  rw [← ge_iff h] at hG
  rw [if_neg e]
  by_cases q : mn (costs m (pinL m.row.length (bestL m) i j) m.row.length 0 0) < 0
  · rw [if_pos q, if_pos]
    by_cases w : okJ m i j (msk 0 ((bestL m).take i)) = true
    · refine .inr (.inr (Int.not_le.1 fun g => ?_))
      have := hP.2 ⟨⟨chain_take m _ _ _ _ (best_chain h), hj, w⟩, g⟩
      omega
    · exact .inr (.inl (by simpa using w))
  · rw [if_neg q]
    obtain ⟨⟨-, -, p1⟩, p2⟩ := hP.1 (by omega)
    have hg := hG (by omega)
    obtain ⟨b1, b2, -⟩ := greedy_best h (pinL m.row.length (bestL m) i j) (by omega)
    rw [if_neg (by rw [p1]; simp; exact ⟨e, p2⟩)]
    rw [show (bestL m).take i ++ j :: greedy m (opn m.row.length) (m.row.length - (i + 1)) (i + 1) (nxt (msk 0 ((bestL m).take i)) j) = greedy m (pinL m.row.length (bestL m) i j) m.row.length 0 0 by rw [hg]; simp]
    rw [tot_valid h (fitting_alls b1).1, b2]

/-! ### The choice among them -/
def pick : Option (List Int × Int) → List Int × Int → Option (List Int × Int)
  | none, c => some c
  | some f, c => if c.2 < f.2 ∨ (c.2 = f.2 ∧ befC c.1 f.1 = true) then some c else some f
def leC (f c : List Int × Int) : Prop := f.2 < c.2 ∨ (f.2 = c.2 ∧ (f.1 = c.1 ∨ befC f.1 c.1 = true))
theorem leC_trans {a b c : List Int × Int} (h : leC a b) (k : leC b c) : leC a c := by
  unfold leC at *
  rcases h with h | ⟨h, h2⟩
  · rcases k with k | ⟨k, -⟩
    · left; omega
    · left; omega
  · rcases k with k | ⟨k, k2⟩
    · left; omega
    · right
      refine ⟨by omega, ?_⟩
      rcases h2 with h2 | h2
      · rw [h2]; exact k2
      · rcases k2 with k2 | k2
        · rw [← k2]; exact .inr h2
        · exact .inr (befC_trans h2 k2)
theorem leC_self (a : List Int × Int) : leC a a := .inr ⟨rfl, .inl rfl⟩
def sound (n : Nat) (c : List Int × Int) : Prop := c.1.length = n ∧ ∀ x ∈ c.1, -1 ≤ x
theorem fold_some {n : Nat} : ∀ (l : List (List Int × Int)) (s : List Int × Int), sound n s → (∀ c ∈ l, sound n c) → ∃ f, l.foldl pick (some s) = some f ∧ (f = s ∨ f ∈ l) ∧ leC f s ∧ ∀ c ∈ l, leC f c
  | [], s, _, _ => ⟨s, rfl, .inl rfl, leC_self s, fun c hc => by cases hc⟩
  | c :: l, s, hs, hl => by
    rw [List.foldl_cons, pick]
    have hc := hl c (by simp)
    by_cases q : c.2 < s.2 ∨ (c.2 = s.2 ∧ befC c.1 s.1 = true)
    · rw [if_pos q]
      obtain ⟨f, h1, h2, h3, h4⟩ := fold_some l c hc (fun d hd => hl d (by simp [hd]))
      have hcs : leC c s := by
        rcases q with q | q
        · exact .inl q
        · exact .inr ⟨q.1, .inr q.2⟩
      refine ⟨f, h1, .inr ?_, leC_trans h3 hcs, fun d hd => ?_⟩
      · rcases h2 with rfl | h2 <;> simp [*]
      · rcases List.mem_cons.1 hd with rfl | hd
        · exact h3
        · exact h4 d hd
    · rw [if_neg q]
      obtain ⟨f, h1, h2, h3, h4⟩ := fold_some l s hs (fun d hd => hl d (by simp [hd]))
      have hsc : leC s c := by
        unfold leC
        by_cases w : s.2 < c.2
        · exact .inl w
        · have e : s.2 = c.2 := by omega
          refine .inr ⟨e, ?_⟩
          rcases befC_total (a := s.1) (b := c.1) (hs.1.trans hc.1.symm) hs.2 hc.2 with g | g | g
          · exact .inl g
          · exact .inr g
          · exact absurd (.inr ⟨e.symm, g⟩) q
      refine ⟨f, h1, ?_, h3, fun d hd => ?_⟩
      · rcases h2 with rfl | h2
        · exact .inl rfl
        · exact .inr (by simp [h2])
      · rcases List.mem_cons.1 hd with rfl | hd
        · exact leC_trans h3 hsc
        · exact h4 d hd
def cands (m : Mat) : List (List Int × Int) := (List.range m.row.length).flatMap fun i => ((-1) :: cols m.col.length).flatMap (cand m i)
def secO (m : Mat) : Option (List Int × Int) := (cands m).foldl pick none
def secC (m : Mat) : List Int × Int × Bool := if chk m ≠ 0 then ([], 0, false) else match secO m with
  | none => ([], 0, false)
  | some f => (f.1, f.2, true)
theorem col_choice {c : Nat} {j : Int} : j ∈ (-1) :: cols c ↔ j ∈ choices c := by
  unfold choices
  rw [List.mem_cons, List.mem_append, List.mem_singleton]
  exact or_comm
theorem fits_get : ∀ (F a : List Int) (i : Nat), fits F i a = true ↔ ∀ t (ht : t < a.length), okF F (i + t) a[t] = true
  | F, [], i => by simp [fits]
  | F, x :: a, i => by
    rw [fits, Bool.and_eq_true, fits_get F a (i + 1)]
    constructor
    · rintro ⟨h1, h2⟩ t ht
      match t with
      | 0 => simpa using h1
      | t + 1 =>
        have := h2 t (by simpa using ht)
        rw [show i + (t + 1) = i + 1 + t by omega]
        simpa using this
    · intro h
      refine ⟨h 0 (Nat.succ_pos _), fun t ht => ?_⟩
      have := h (t + 1) (by simpa using ht)
      rw [show i + 1 + t = i + (t + 1) by omega]
      simpa using this
theorem differ : ∀ {a b : List Int}, a.length = b.length → a ≠ b → ∃ i, ∃ (h : i < a.length) (h' : i < b.length), a.take i = b.take i ∧ a[i] ≠ b[i]
  | [], [], _, h => absurd rfl h
  | [], _ :: _, h, _ => by simp at h
  | _ :: _, [], h, _ => by simp at h
  | x :: a, y :: b, hl, hne => by
    by_cases e : x = y
    · subst e
      obtain ⟨i, h1, h2, h3, h4⟩ := differ (a := a) (b := b) (by simpa using hl) (fun q => hne (by rw [q]))
      exact ⟨i + 1, by simpa using h1, by simpa using h2, by simp [h3], by simpa using h4⟩
    · exact ⟨0, by simp, by simp, rfl, by simpa using e⟩
theorem cand_mem {m : Mat} (h : Ok m) {i : Nat} {j : Int} (hi : i < m.row.length) (hj : j ∈ choices m.col.length) {c : List Int × Int} (hc : c ∈ cand m i j) : c.1 ∈ alls m ∧ c.1 ≠ bestL m ∧ cst m 0 0 c.1 = c.2 := by
  unfold cand at hc
  split at hc
  · cases hc
  · rename_i e
    split at hc
    · cases hc
    · rename_i q
      rw [List.mem_singleton] at hc
      subst hc
      obtain ⟨b1, b2, -⟩ := greedy_best h (pinL m.row.length (bestL m) i j) (by omega)
      obtain ⟨c1, c2⟩ := fitting_alls b1
      refine ⟨c1, fun w => ?_, b2⟩
      change greedy m (pinL m.row.length (bestL m) i j) m.row.length 0 0 = bestL m at w
      rw [w] at c1 c2
      have hl := best_len h
      have h2 : j ≠ -2 := by have := choices_mem.1 hj; omega
      have := (fits_get _ _ _).1 c2 i (by rw [alls_len c1]; exact hi)
      unfold okF at this
      rw [Nat.zero_add, pinL_get hi hl hi, if_neg (by omega), if_pos rfl] at this
      simp [h2] at this
      refine e ?_
      rw [this, List.getD_eq_getElem?_getD, List.getElem?_eq_getElem (by omega)]
      rfl
theorem cands_mem {m : Mat} (h : Ok m) {c : List Int × Int} (hc : c ∈ cands m) : c.1 ∈ alls m ∧ c.1 ≠ bestL m ∧ cst m 0 0 c.1 = c.2 := by
  unfold cands at hc
  obtain ⟨i, hi, hc⟩ := List.mem_flatMap.1 hc
  obtain ⟨j, hj, hc⟩ := List.mem_flatMap.1 hc
  exact cand_mem h (List.mem_range.1 hi) (col_choice.1 hj) hc
theorem cands_cover {m : Mat} (h : Ok m) {a : List Int} (ha : a ∈ alls m) (hne : a ≠ bestL m) : ∃ c ∈ cands m, leC c (a, cst m 0 0 a) := by
  have hbl := best_len h
  have hal := alls_len ha
  obtain ⟨i, h1, h2, h3, h4⟩ := differ (by rw [hal, hbl]) hne
  have hi : i < m.row.length := by omega
  have hv := (mem_alls h).1 ha
  have hj : a[i] ∈ choices m.col.length := choices_mem.2 (hv.rng _ (List.getElem_mem h1))
  have hbd : (bestL m).getD i 0 = (bestL m)[i] := by rw [List.getD_eq_getElem?_getD, List.getElem?_eq_getElem h2]; rfl
  have hfit : a ∈ fitting m (pinL m.row.length (bestL m) i a[i]) := by
    refine List.mem_filter.2 ⟨ha, (fits_get _ _ _).2 fun t ht => ?_⟩
    unfold okF
    rw [Nat.zero_add, pinL_get hi hbl (by omega)]
    by_cases q : t < i
    · rw [if_pos q, List.getD_eq_getElem?_getD, List.getElem?_eq_getElem (show t < (bestL m).length by omega), Option.getD_some]
      have e1 : (a.take i)[t]? = some a[t] := by rw [List.getElem?_take, if_pos q, List.getElem?_eq_getElem]
      rw [h3, List.getElem?_take, if_pos q, List.getElem?_eq_getElem (show t < (bestL m).length by omega)] at e1
      simp only [Option.some.injEq] at e1
      rw [decide_eq_true e1]; simp
    · rw [if_neg q]
      by_cases e : t = i
      · subst e; simp
      · rw [if_neg e]; simp
  have h0 := mn_fits h _ hfit
  obtain ⟨b1, b2, b3⟩ := greedy_best h _ h0
  obtain ⟨b4, b5⟩ := b3 a hfit
  refine ⟨(greedy m (pinL m.row.length (bestL m) i a[i]) m.row.length 0 0, mn (costs m (pinL m.row.length (bestL m) i a[i]) m.row.length 0 0)), ?_, ?_⟩
  · unfold cands
    refine List.mem_flatMap.2 ⟨i, List.mem_range.2 hi, List.mem_flatMap.2 ⟨a[i], col_choice.2 hj, ?_⟩⟩
    unfold cand
    rw [if_neg (by rw [hbd]; exact h4), if_neg (by omega)]
    simp
  · unfold leC
    by_cases q : mn (costs m (pinL m.row.length (bestL m) i a[i]) m.row.length 0 0) < cst m 0 0 a
    · exact .inl q
    · refine .inr ⟨by show mn _ = cst m 0 0 a; omega, ?_⟩
      rcases b5 (by omega) with w | w
      · exact .inl w.symm
      · exact .inr w
/-- what Second finds -/
theorem sec_none {m : Mat} (h : Ok m) (hs : secO m = none) : ∀ a ∈ alls m, a = bestL m := by
  intro a ha
  refine Classical.byContradiction fun hne => ?_
  obtain ⟨c, hc, -⟩ := cands_cover h ha hne
  unfold secO at hs
  match hcs : cands m with
  | [] => rw [hcs] at hc; cases hc
  | d :: l =>
    rw [hcs, List.foldl_cons, pick] at hs
    obtain ⟨f, hf, -⟩ := fold_some (n := m.row.length) l d ⟨alls_len (cands_mem h (by rw [hcs]; simp)).1, alls_ge (cands_mem h (by rw [hcs]; simp)).1⟩ (fun e he => ⟨alls_len (cands_mem h (by rw [hcs]; simp [he])).1, alls_ge (cands_mem h (by rw [hcs]; simp [he])).1⟩)
    rw [hf] at hs
    cases hs
theorem sec_some {m : Mat} (h : Ok m) {f : List Int × Int} (hs : secO m = some f) : f.1 ∈ alls m ∧ f.1 ≠ bestL m ∧ cst m 0 0 f.1 = f.2 ∧ ∀ a ∈ alls m, a ≠ bestL m → leC f (a, cst m 0 0 a) := by
  unfold secO at hs
  match hcs : cands m with
  | [] => rw [hcs] at hs; cases hs
  | d :: l =>
    rw [hcs, List.foldl_cons, pick] at hs
    have hall : ∀ e ∈ d :: l, sound m.row.length e := fun e he => ⟨alls_len (cands_mem h (by rw [hcs]; exact he)).1, alls_ge (cands_mem h (by rw [hcs]; exact he)).1⟩
    obtain ⟨f', hf, h2, h3, h4⟩ := fold_some (n := m.row.length) l d (hall d (by simp)) (fun e he => hall e (by simp [he]))
    rw [hf] at hs
    simp only [Option.some.injEq] at hs
    subst hs
    have hin : f' ∈ cands m := by
      rw [hcs]
      rcases h2 with rfl | h2 <;> simp [*]
    obtain ⟨g1, g2, g3⟩ := cands_mem h hin
    refine ⟨g1, g2, g3, fun a ha hne => ?_⟩
    obtain ⟨c, hc, hle⟩ := cands_cover h ha hne
    refine leC_trans ?_ hle
    rw [hcs] at hc
    rcases List.mem_cons.1 hc with rfl | hc
    · exact h3
    · exact h4 c hc
end Go.Tw.Match
