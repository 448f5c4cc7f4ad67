/-
  A region that draws its order, some of its operations taken already: reads, then a tail in one forced order, or one operation and then reads. No program in sight.
-/
import Derived.Test.YthpmclhpagcbiaaMid
namespace Go.Tw
open Go.RowKit

section
variable {P : Program} {ops : Array Oper} {md : Region.Mode} {w : World}

def sinkB2 (md : Region.Mode) (ops : Array Oper) (n : Nat) (l0 : Array Bool) : Bool :=
  (List.range n).all fun i => l0.getD i true || (List.range (n + 1)).any fun j => decide (i < j) && Region.waitsFor md ops j i
def invB (md : Region.Mode) (ops : Array Oper) (n : Nat) (l0 : Array Bool) : Bool :=
  decide (l0.size = ops.size) && ((List.range ops.size).all fun j => match ops[j]? with
    | none => true
    | some o => !l0.getD j false || o.after.all fun e => !Region.binds md e || l0.getD e.on false) && (List.range ops.size).all fun t => decide (t < n) || !l0.getD t true
theorem inv_of {n : Nat} {l0 : Array Bool} (h : invB md ops n l0 = true) : HeadInv md ops n l0 := by
  simp only [invB, Bool.and_eq_true, decide_eq_true_eq, List.all_eq_true, List.mem_range] at h
  obtain ⟨⟨h1, h2⟩, h3⟩ := h
  refine ⟨h1, fun j oj hj hl e he hb => ?_, fun t ht htl => ?_⟩
  · have := h2 j (Array.getElem?_eq_some_iff.1 hj).1
    simp only [hj, hl, Bool.not_true, Bool.false_or, Array.all_eq_true'] at this
    have := this e he
    simpa [hb] using this
  · have := h3 t htl
    simp only [Bool.or_eq_true, decide_eq_true_eq, Bool.not_eq_true'] at this
    rcases this with q | q
    · omega
    · exact q
/-- a later state of the same region -/
structure Later (md : Region.Mode) (ops : Array Oper) (n : Nat) (l0 listed : Array Bool) : Prop where
  inv : HeadInv md ops n listed
  mono : ∀ j, l0.getD j false = true → listed.getD j false = true
theorem Later.set {n i : Nat} {l0 listed : Array Bool} (h : Later md ops n l0 listed) (hi : i ∈ Region.ready md ops listed) (hin : i < n) : Later md ops n l0 (listed.setIfInBounds i true) :=
  ⟨h.inv.set hi hin, fun j hj => getD_set_true (h.mono j hj)⟩
theorem getD_out {listed l0 : Array Bool} {i : Nat} (hm : ∀ j, l0.getD j false = true → listed.getD j false = true) (hs : l0.size = listed.size) (h : listed.getD i true = false) : l0.getD i true = false := by
  cases e : l0.getD i true with
  | false => rfl
  | true =>
    rcases Nat.lt_or_ge i l0.size with q | q
    · have : l0.getD i false = true := by simp [q] at e ⊢; exact e
      have := hm i this
      rw [getD_both h] at this
      cases this
    · have q' : listed.size ≤ i := by omega
      simp [Array.getElem?_eq_none q'] at h
theorem waits2_n {n : Nat} {l0 : Array Bool} (hs : sinkB2 md ops n l0 = true) (h0 : l0.size = ops.size) {listed : Array Bool} (inv : Later md ops n l0 listed) : ∀ (d i : Nat), n - i = d → i < n → listed.getD i true = false → n ∉ Region.ready md ops listed := by
  intro d
  induction d using Nat.strongRecOn with
  | _ d ih =>
    intro i hd hi hun hr
    obtain ⟨_, on, hon, hall⟩ := mem_ready.1 hr
    have hnlt := (Array.getElem?_eq_some_iff.1 hon).1
    have h1 := List.all_eq_true.1 hs i (List.mem_range.2 hi)
    rw [getD_out inv.mono (by rw [h0, inv.inv.size]) hun, Bool.false_or] at h1
    obtain ⟨j, hj, hj2⟩ := List.any_eq_true.1 h1
    simp only [Bool.and_eq_true, decide_eq_true_eq] at hj2
    obtain ⟨oj, hoj, e, he, hb, heq⟩ := Region.waitsFor_spec hj2.2
    have hjle := List.mem_range.1 hj
    by_cases hjn : j = n
    · subst hjn
      obtain rfl : oj = on := Option.some.inj (hoj.symm.trans hon)
      have := hall e he hb
      rw [heq, getD_both hun] at this
      cases this
    · cases hl : listed.getD j false with
      | true =>
        have := inv.inv.closed j oj hoj hl e he hb
        rw [heq, getD_both hun] at this
        cases this
      | false => exact ih (n - j) (by omega) j rfl (by omega) (getD_in (by rw [inv.inv.size]; omega) hl) hr
def Waits2 (md : Region.Mode) (ops : Array Oper) (n : Nat) (l0 : Array Bool) : Prop := ∀ listed, Later md ops n l0 listed → ∀ i, i < n → listed.getD i true = false → ∀ t, n ≤ t → t ∉ Region.ready md ops listed
theorem waits2_of {n : Nat} {l0 : Array Bool} (hs : sinkB2 md ops n l0 = true) (hc : behindB md ops n = true) (h0 : l0.size = ops.size) : Waits2 md ops n l0 := by
  intro listed inv i hi hun t ht hr
  by_cases htn : t = n
  · subst htn
    exact waits2_n hs h0 inv _ i rfl hi hun hr
  · obtain ⟨_, ot, hot, hall⟩ := mem_ready.1 hr
    have htlt := (Array.getElem?_eq_some_iff.1 hot).1
    have h1 := List.all_eq_true.1 hc t (List.mem_range.2 htlt)
    simp only [Bool.or_eq_true, decide_eq_true_eq] at h1
    rcases h1 with h1 | h1
    · omega
    · obtain ⟨j, hj, hj2⟩ := List.any_eq_true.1 h1
      simp only [Bool.and_eq_true, decide_eq_true_eq] at hj2
      obtain ⟨o', ho', e, he, hb, heq⟩ := Region.waitsFor_spec hj2.2
      obtain rfl : o' = ot := Option.some.inj (ho'.symm.trans hot)
      have := hall e he hb
      rw [heq, getD_both (inv.inv.tail j hj2.1 (by have := List.mem_range.1 hj; omega))] at this
      cases this
theorem anyL2_first {n i : Nat} {l0 : Array Bool} {oi : Oper} {v : Value} {L : Array Bool → Act → Prop} (hi : ops[i]? = some oi) (hsel : Region.noSelect ops = true) (hw : Waits2 md ops n l0) (hin : i < n)
    (hdone : ∀ listed a, L listed a → ∀ j ∈ Region.ready md ops listed, n ≤ j) :
    ∀ (f : Nat) (listed : Array Bool) (a : Act), Later md ops n l0 listed →
      (∀ j oj, ops[j]? = some oj → j ≠ i → listed.getD j true = false → (∀ e ∈ oj.after, Region.binds md e = true → e.on ≠ i) → oi.apart ops oj = true) →
      i ∈ Region.ready md ops listed → YieldsAt P ops w oi v a → wpAnyL P md ops w n L f (listed.setIfInBounds i true) (a.put oi.dst v) → wpAnyL P md ops w n L (f + 1) listed a
  | f, listed, a, inv, hfree, hr, hy, H => by
    have hun := (mem_ready.1 hr).1
    refine ⟨fun h => (by rw [h] at hr; cases hr), fun j hj => ?_⟩
    have hjn : j < n := Nat.lt_of_not_le fun h => hw listed inv i hin hun j h hj
    refine ⟨hjn, ?_⟩
    by_cases hji : j = i
    · subst hji; exact hy.stOp hi H
    cases f with
    | zero =>
      have := hdone _ _ H j (ready_mono hj hji)
      omega
    | succ f =>
      obtain ⟨hjun, oj, hoj, hall⟩ := mem_ready.1 hj
      have hnot : ∀ e ∈ oj.after, Region.binds md e = true → e.on ≠ i := fun e he hb heq => by
        have := hall e he hb
        rw [heq, getD_both hun] at this
        cases this
      have h2 := stOp_put hoj (hfree j oj hoj hji hjun hnot) (fun cs b => Region.noSelect_spec hsel i oi cs b hi) (fun cs b => Region.noSelect_spec hsel j oj cs b hoj) hy (H.2 j (ready_mono hj hji)).2
      refine stOp_mono (fun a' h3 => anyL2_first hi hsel hw hin hdone f (listed.setIfInBounds j true) a' (inv.set hj hjn) (fun k ok hk hki hun' hno => ?_) (ready_mono hr (Ne.symm hji)) h3.1 ?_) h2
      · refine hfree k ok hk hki ?_ hno
        by_cases hjk : j = k
        · subst hjk; exact hjun
        · rw [getD_set_ne true hjk] at hun'; exact hun'
      · rw [Array.setIfInBounds_comm _ _ hji]
        exact h3.2
/-- the reads 'is' in this order; then the operations from n on in one forced order -/
def headI (md : Region.Mode) (ops : Array Oper) (n g : Nat) : List Nat → Array Bool → Bool
  | [], listed => Region.seqB md ops g n listed
  | k :: ks, listed => decide (k < n) && (Region.ready md ops listed).contains k && Region.free md ops listed k && headI md ops n g ks (listed.setIfInBounds k true)
theorem anyL2_lex {n g : Nat} {l0 : Array Bool} {Lq : Act → Prop} (hsel : Region.noSelect ops = true) (hw : Waits2 md ops n l0) :
    ∀ (is : List Nat) (l : List Oper) (listed : Array Bool) (a : Act), is.map (ops[·]?) = l.map some → Later md ops n l0 listed → headI md ops n g is listed = true → wpStill P ops w Lq l a →
    wpAnyL P md ops w n (fun listed' a' => Region.seqB md ops g n listed' = true ∧ Lq a') is.length listed a
  | [], [], listed, a, _, _, hB, h => ⟨hB, h⟩
  | k :: ks, o :: l, listed, a, hl, inv, hB, h => by
    simp only [List.map_cons, List.cons.injEq] at hl
    simp only [headI, Bool.and_eq_true, decide_eq_true_eq] at hB
    obtain ⟨⟨⟨hkn, hr⟩, hf⟩, hB'⟩ := hB
    have hr' : k ∈ Region.ready md ops listed := by simpa using hr
    have hst : stOp P ops w k (wpStill P ops w Lq l) a := by unfold stOp; simp only [hl.1]; exact h
    obtain ⟨v, hy, hK⟩ := yieldsAt_of_stOp hl.1 hst
    exact anyL2_first hl.1 hsel hw hkn (fun listed' a' hL => seqB_ready hL.1) ks.length listed a inv (Region.free_spec hl.1 hf) hr' hy
      (anyL2_lex hsel hw ks l _ _ hl.2 (inv.set hr' hkn) hB' hK)
  | [], _ :: _, _, _, hl, _, _, _ => by simp at hl
  | _ :: _, [], _, _, hl, _, _, _ => by simp at hl
/-- THE LAW, from a state in which some operations are taken -/
theorem any_tail {Q : Exit → Act → World → Prop} {a : Act} {lops l : List Oper} (n : Nat) (is : List Nat) (l0 : Array Bool) (hsel : Region.noSelect lops.toArray = true)
    (hB : (invB md lops.toArray n l0 && sinkB2 md lops.toArray n l0 && behindB md lops.toArray n && headI md lops.toArray n (lops.length - n) is l0) = true)
    (hl : is.map (lops.toArray[·]?) = l.map some) (h : wpStill P lops.toArray w (fun a' => wpList P lops.toArray Q (lops.drop n) a' w) l a) : wpAny P md lops.toArray Q (is.length + (lops.length - n)) l0 a w := by
  simp only [Bool.and_eq_true] at hB
  obtain ⟨⟨⟨h1, h2⟩, h3⟩, h4⟩ := hB
  have inv := inv_of h1
  have hw := waits2_of (md := md) h2 h3 inv.size
  have H := anyL2_lex (P := P) (w := w) (g := lops.length - n) hsel hw is l l0 a hl ⟨inv, fun _ h => h⟩ h4 h
  refine wpAny_of_head (g := lops.length - n) (fun listed a' hL => ?_) _ _ _ H
  have hdl : (lops.drop n).length = lops.length - n := by simp
  have := wpAny_of_seq (md := md) (Q' := Q) (lops.drop n) n listed a' w (fun j => by simp [List.getElem?_drop]) (by rw [hdl]; exact hL.1) hL.2
  rwa [hdl] at this
/-- .. the first e of them -/
theorem any_tailE {Q : Exit → Act → World → Prop} {a : Act} {lops : List Oper} (e n : Nat) (l0 : Array Bool) (hsel : Region.noSelect lops.toArray = true)
    (hB : (invB md lops.toArray n l0 && sinkB2 md lops.toArray n l0 && behindB md lops.toArray n && headI md lops.toArray n (lops.length - n) (List.range' e (n - e)) l0) = true)
    (hen : e ≤ n) (hnl : n ≤ lops.length) (h : wpStill P lops.toArray w (fun a' => wpList P lops.toArray Q (lops.drop n) a' w) ((lops.take n).drop e) a) : wpAny P md lops.toArray Q (lops.length - e) l0 a w := by
  have hl : (List.range' e (n - e)).map (lops.toArray[·]?) = ((lops.take n).drop e).map some := by
    apply List.ext_getElem?
    intro j
    simp only [List.getElem?_map, List.getElem?_drop, List.getElem?_take, List.getElem?_toArray]
    by_cases hj : j < n - e
    · rw [List.getElem?_range' (by omega)]
      rw [if_pos (by omega)]
      simp only [Option.map_some, Nat.one_mul]
      rw [List.getElem?_eq_getElem (by omega)]
      rfl
    · rw [List.getElem?_eq_none (by simp; omega), if_neg (by omega)]
      rfl
  have := any_tail (P := P) (w := w) (Q := Q) (a := a) n (List.range' e (n - e)) l0 hsel hB hl h
  rw [List.length_range', show n - e + (lops.length - n) = lops.length - e by omega] at this
  exact this
end
end Go.Tw
