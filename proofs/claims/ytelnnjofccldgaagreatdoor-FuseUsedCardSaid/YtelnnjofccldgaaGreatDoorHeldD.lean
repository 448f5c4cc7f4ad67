/-
  A region that draws its order: loads are taken first where the condition S on the world need hold only behind the operations of kind 0; those of kind 1 leave the world alone; all others wait for the load by an edge of their own. What yields the same in every world is taken first without any condition. No program in sight.
-/
import Derived.Test.YtelnnjofccldgaaGreatDoorHeld
namespace Go.Tw
open Go.RowKit
section
variable {P : Program} {ops : Array Oper} {Q : Exit → Act → World → Prop} {md : Region.Mode} {D : Nat → Nat} {S : World → Prop}
/-- whatever order is picked, and S holds behind each of D -/
def wpD (P : Program) (md : Region.Mode) (ops : Array Oper) (Q : Exit → Act → World → Prop) (D : Nat → Nat) (S : World → Prop) : Nat → Array Bool → Act → World → Prop
  | 0, listed, a, w => Region.ready md ops listed = [] ∧ Q .normal a w
  | fuel + 1, listed, a, w =>
    (Region.ready md ops listed = [] → Q .normal a w) ∧
    ∀ i ∈ Region.ready md ops listed, wpOp P ops Q i (fun a' w' => ((D i = 0 → S w') ∧ (D i = 1 → w' = w)) ∧ wpD P md ops Q D S fuel (listed.setIfInBounds i true) a' w') a w
theorem wpAny_of_D : ∀ (fuel : Nat) (listed : Array Bool) (a : Act) (w : World), wpD P md ops Q D S fuel listed a w → wpAny P md ops Q fuel listed a w
  | 0, _, _, _, h => h
  | fuel + 1, _, _, _, h => ⟨h.1, fun i hi => wpOp_mono (fun a' w' h' => wpAny_of_D fuel _ a' w' h'.2) (h.2 i hi)⟩
/-- is each operation that is not of D behind i, by an edge of its own? -/
def Region.behind (md : Region.Mode) (ops : Array Oper) (D : Nat → Nat) (i : Nat) : Bool :=
  (List.range ops.size).all fun j => decide (j = i) || decide (D j = 0) || decide (D j = 1) || (match ops[j]? with | some oj => oj.after.any fun e => Region.binds md e && decide (e.on = i) | none => true)
theorem behind_spec {i : Nat} (h : Region.behind md ops D i = true) {j : Nat} {oj : Oper} (hoj : ops[j]? = some oj) (hji : j ≠ i) (hn : ∀ e ∈ oj.after, Region.binds md e = true → e.on ≠ i) : D j = 0 ∨ D j = 1 := by
  unfold Region.behind at h
  have hj : j < ops.size := by
    rcases Nat.lt_or_ge j ops.size with q | q
    · exact q
    · rw [Array.getElem?_eq_none q] at hoj; cases hoj
  have := List.all_eq_true.1 h j (List.mem_range.2 hj)
  rw [hoj] at this
  simp only [Bool.or_eq_true, decide_eq_true_eq, Array.any_eq_true, Bool.and_eq_true] at this
  rcases this with ((q | q) | q) | ⟨k, hk, q1, q2⟩
  · exact absurd q hji
  · exact .inl q
  · exact .inr q
  · exact absurd q2 (hn _ (Array.getElem_mem hk) q1)
theorem wpD_first {S' : World → Prop} {i : Nat} {oi : Oper} {v : Value} (hi : ops[i]? = some oi) (hsel : ∀ (j : Nat) (o : Oper) cs b, ops[j]? = some o → o.op ≠ .select cs b)
    (hQ : ∀ c a w, Q (.panic c) (a.put oi.dst v) w → Q (.panic c) a w)
    (hD : ∀ j oj, ops[j]? = some oj → j ≠ i → (∀ e ∈ oj.after, Region.binds md e = true → e.on ≠ i) → ∀ w w', S' w → ((D j = 0 → S w') ∧ (D j = 1 → w' = w)) → S' w') (hD0 : ∀ w', S' w' → D i = 0 → S w') :
    ∀ (fuel : Nat) (listed : Array Bool) (a : Act) (w : World),
      (∀ j oj, ops[j]? = some oj → j ≠ i → listed.getD j true = false → (∀ e ∈ oj.after, Region.binds md e = true → e.on ≠ i) → oi.apart ops oj = true) →
      i ∈ Region.ready md ops listed → YieldsIf P ops S' oi v a → S' w →
      wpD P md ops Q D S fuel (listed.setIfInBounds i true) (a.put oi.dst v) w → wpD P md ops Q D S (fuel + 1) listed a w := by
  intro fuel
  induction fuel with
  | zero =>
    intro listed a w _ hr hy hS H
    refine ⟨fun h => (by rw [h] at hr; cases hr), fun j hj => ?_⟩
    by_cases hji : j = i
    · subst hji; exact hy.wpOp hi hS ⟨⟨hD0 w hS, fun _ => rfl⟩, H⟩
    · have := ready_mono hj hji
      rw [H.1] at this
      cases this
  | succ fuel ih =>
    intro listed a w hfree hr hy hS H
    refine ⟨fun h => (by rw [h] at hr; cases hr), fun j hj => ?_⟩
    by_cases hji : j = i
    · subst hji; exact hy.wpOp hi hS ⟨⟨hD0 w hS, fun _ => rfl⟩, H⟩
    · have h1 := H.2 j (ready_mono hj hji)
      obtain ⟨hjun, oj, hoj, hall⟩ := mem_ready.1 hj
      have hun := (mem_ready.1 hr).1
      have hnot : ∀ e ∈ oj.after, Region.binds md e = true → e.on ≠ i := fun e he hb heq => by
        have h1 := hall e he hb
        rw [heq, getD_both hun] at h1
        cases h1
      have hDj := hD j oj hoj hji hnot
      have h2 := wpOp_putIf hoj (hfree j oj hoj hji hjun hnot) (fun cs b => hsel i oi cs b hi) (fun cs b => hsel j oj cs b hoj) hQ hy h1
      have hfree' : ∀ k ok, ops[k]? = some ok → k ≠ i → (listed.setIfInBounds j true).getD k true = false →
          (∀ e ∈ ok.after, Region.binds md e = true → e.on ≠ i) → oi.apart ops ok = true := fun k ok hk hki hun hno => by
        refine hfree k ok hk hki ?_ hno
        by_cases hjk : j = k
        · subst hjk; exact hjun
        · rw [getD_set_ne true hjk] at hun; exact hun
      refine wpOp_mono (fun a' w' h3 => ⟨h3.2.1, ih (listed.setIfInBounds j true) a' w' hfree' (ready_mono hr (Ne.symm hji)) h3.1 (hDj w w' hS h3.2.1) ?_⟩) h2
      rw [Array.setIfInBounds_comm _ _ hji]
      exact h3.2.2
theorem wpD_take {i : Nat} {oi : Oper} {v : Value} {fuel : Nat} {listed : Array Bool} {a : Act} {w : World} (hi : ops[i]? = some oi) (hB : (Region.behind md ops D i && Region.noSelect ops && Region.free md ops listed i && (Region.ready md ops listed).contains i) = true)
    (hQ : ∀ c a w, Q (.panic c) (a.put oi.dst v) w → Q (.panic c) a w) (hy : YieldsIf P ops S oi v a) (hS : S w)
    (h : wpD P md ops Q D S fuel (listed.setIfInBounds i true) (a.put oi.dst v) w) : wpD P md ops Q D S (fuel + 1) listed a w := by
  simp only [Bool.and_eq_true] at hB
  obtain ⟨⟨⟨h1, h5⟩, h6⟩, h7⟩ := hB
  have hr : i ∈ Region.ready md ops listed := by simpa using h7
  exact wpD_first (S' := S) hi (Region.noSelect_spec h5) hQ (fun j oj hoj hji hn w w' hw hd => by
    rcases behind_spec h1 hoj hji hn with q | q
    · exact hd.1 q
    · rw [hd.2 q]; exact hw) (fun w' hw _ => hw) fuel listed a w (Region.free_spec hi h6) hr hy hS h
/-- what yields the same in every world: it waits for nothing; itself it is not of D, or S holds all the while -/
theorem wpD_pure {i : Nat} {oi : Oper} {v : Value} {fuel : Nat} {listed : Array Bool} {a : Act} {w : World} (hi : ops[i]? = some oi) (hB : (decide (D i ≠ 0) && Region.noSelect ops && Region.free md ops listed i && (Region.ready md ops listed).contains i) = true)
    (hQ : ∀ c a w, Q (.panic c) (a.put oi.dst v) w → Q (.panic c) a w) (hy : YieldsIf P ops (fun _ => True) oi v a)
    (h : wpD P md ops Q D S fuel (listed.setIfInBounds i true) (a.put oi.dst v) w) : wpD P md ops Q D S (fuel + 1) listed a w := by
  simp only [Bool.and_eq_true] at hB
  obtain ⟨⟨⟨h1, h5⟩, h6⟩, h7⟩ := hB
  have hr : i ∈ Region.ready md ops listed := by simpa using h7
  exact wpD_first (S' := fun _ => True) hi (Region.noSelect_spec h5) hQ (fun j oj hoj hji hn w w' _ _ => trivial) (fun w' _ hd => by simp at h1; exact absurd hd h1) fuel listed a w (Region.free_spec hi h6) hr hy trivial h
def AllReadyD (P : Program) (md : Region.Mode) (ops : Array Oper) (Q : Exit → Act → World → Prop) (D : Nat → Nat) (S : World → Prop) (fuel : Nat) (listed : Array Bool) (a : Act) (w : World) (rs : List Nat) : Prop :=
  ∀ i ∈ rs, wpOp P ops Q i (fun a' w' => ((D i = 0 → S w') ∧ (D i = 1 → w' = w)) ∧ wpD P md ops Q D S fuel (listed.setIfInBounds i true) a' w') a w
theorem AllReadyD.nil {fuel : Nat} {listed : Array Bool} {a : Act} {w : World} : AllReadyD P md ops Q D S fuel listed a w [] := fun _ h => by cases h
theorem AllReadyD.cons {fuel : Nat} {listed : Array Bool} {a : Act} {w : World} {i : Nat} {o : Oper} {rs : List Nat} (ho : ops[i]? = some o)
    (h : ∀ K' : Act → World → Prop, Shut (∀ a' w', ((D i = 0 → S w') ∧ (D i = 1 → w' = w)) → (((D i = 0 → S w') ∧ (D i = 1 → w' = w)) → wpD P md ops Q D S fuel (listed.setIfInBounds i true) a' w') → K' a' w') → if Region.wanted o (yielded ops a.tmps) = true then Oper.wp P o a w K' Q else K' (a.put o.dst undef) w)
    (hs : AllReadyD P md ops Q D S fuel listed a w rs) : AllReadyD P md ops Q D S fuel listed a w (i :: rs) := fun j hj => by
  rcases List.mem_cons.1 hj with rfl | hj
  · exact wpOp_step ho (fun K' hK => h K' (fun a w hS hW => hK a w ⟨hS, hW hS⟩))
  · exact hs j hj
theorem wpD_ready {rs : List Nat} {fuel : Nat} {listed : Array Bool} {a : Act} {w : World} (hr : Region.ready md ops listed = rs) (hB : (!rs.isEmpty) = true)
    (h : AllReadyD P md ops Q D S fuel listed a w rs) : wpD P md ops Q D S (fuel + 1) listed a w := by
  refine ⟨fun h0 => ?_, fun i hi => ?_⟩
  · rw [h0] at hr; rw [← hr] at hB; simp at hB
  · exact h i (hr ▸ hi)
theorem gk1 (i : Nat) {oi : Oper} {v : Value} {fuel : Nat} {listed : Array Bool} {a : Act} {w : World} (hi : ops[i]? = some oi) (hy : ∀ w, S w → (execOp a.eval oi).run P w = .ok (.value v) w)
    (h : wpD P md ops Q D S fuel (listed.setIfInBounds i true) (a.put oi.dst v) w) (hB : (Region.behind md ops D i && Region.noSelect ops && Region.free md ops listed i && (Region.ready md ops listed).contains i) = true := by kernel_rfl)
    (hQ : ∀ c a w, Q (.panic c) (a.put oi.dst v) w → Q (.panic c) a w := by exact fun _ _ _ h => h) (hw : Region.wanted oi (yielded ops a.tmps) = true := by kernel_rfl) (hS : S w := by assumption) : wpD P md ops Q D S (fuel + 1) listed a w := wpD_take hi hB hQ (Or.inl ⟨hw, hy⟩) hS h
theorem gk3 (i : Nat) {o : Oper} {fuel : Nat} {listed : Array Bool} {a : Act} {w : World} (ho : ops[i]? = some o)
    (h : ∀ K' : Act → World → Prop, Shut (∀ a' w', ((D i = 0 → S w') ∧ (D i = 1 → w' = w)) → (((D i = 0 → S w') ∧ (D i = 1 → w' = w)) → wpD P md ops Q D S fuel (listed.setIfInBounds i true) a' w') → K' a' w') → Oper.wp P o a w K' Q)
    (hr : Region.ready md ops listed = [i] := by kernel_rfl) (hw : Region.wanted o (yielded ops a.tmps) = true := by kernel_rfl) : wpD P md ops Q D S (fuel + 1) listed a w :=
  wpD_ready (rs := [i]) hr rfl (AllReadyD.cons ho (fun K' hK => by rw [if_pos hw]; exact h K' hK) AllReadyD.nil)
theorem gk5 {d : Nat} {w : World} {S' : World → Prop} {G K : Act → World → Prop} (h : ∀ a' w', ((d = 0 → S' w') ∧ (d = 1 → w' = w)) → (((d = 0 → S' w') ∧ (d = 1 → w' = w)) → G a' w') → K a' w') (hd : d = 0) {a' : Act} {w' : World} (hS : S' w') (hG : S' w' → G a' w') : K a' w' :=
  h a' w' ⟨fun _ => hS, fun e => absurd (hd.symm.trans e) (by decide)⟩ fun g => hG (g.1 hd)
theorem wpD_done {fuel : Nat} {listed : Array Bool} {a : Act} {w : World} (hB : (Region.ready md ops listed).isEmpty = true) (h : Q .normal a w) : wpD P md ops Q D S fuel listed a w := by
  have hr : Region.ready md ops listed = [] := by simpa using hB
  cases fuel with
  | zero => exact ⟨hr, h⟩
  | succ fuel => exact ⟨fun _ => h, fun i hi => by rw [hr] at hi; cases hi⟩
theorem wp_region_D {id : Nat} {a : Act} {w : World} (D : Nat → Nat) (S : World → Prop) (hm : P.follows .mixedOrders = true) (hS : S w.drew)
    (h : S w.drew → wpD P .any ops Q D S ops.size (Array.replicate ops.size false) a w.drew) : (Code.region id ops true).wp P Q a w :=
  wp_region_any hm (wpAny_of_D _ _ _ _ (h hS))
end
end Go.Tw
