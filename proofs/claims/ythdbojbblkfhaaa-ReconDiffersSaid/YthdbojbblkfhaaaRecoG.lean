/-
  Layer 44 (recon) in plain Lean: insertion gives the keys in their order.
-/
import Derived.Test.YthdbojbblkfhaaaRecoF
namespace Go.Tw.Exc
open Go.RowKit Go.Tw
theorem insK_nil (x : ByteArray) : insK [] x = [x] := rfl
theorem insK_cons (y : ByteArray) (L : List ByteArray) (x : ByteArray) : insK (y :: L) x = if kb y < kb x then y :: insK L x else if y = x then y :: L else x :: y :: L := by
  by_cases h : kb y < kb x
  · have e : posK (y :: L) x = posK L x + 1 := by rw [posK, if_pos h]
    unfold insK
    rw [e, if_pos h, List.getElem?_cons_succ, List.take_succ_cons, List.drop_succ_cons]
    split
    · rfl
    · rfl
  · have e : posK (y :: L) x = 0 := by rw [posK, if_neg h]
    unfold insK
    rw [e, if_neg h, List.getElem?_cons_zero, List.take_zero, List.drop_zero]
    by_cases q : y = x
    · rw [if_pos (by rw [q]), if_pos q]
    · rw [if_neg (by intro w; injection w with w; exact q w), if_neg q]; rfl
theorem insK_mem : ∀ (L : List ByteArray) (x z : ByteArray), z ∈ insK L x ↔ z ∈ L ∨ z = x
  | [], x, z => by rw [insK_nil]; simp
  | y :: L, x, z => by
    rw [insK_cons]
    split
    · rw [List.mem_cons, insK_mem L x z, List.mem_cons]
      constructor
      · rintro (q | q | q)
        · exact .inl (.inl q)
        · exact .inl (.inr q)
        · exact .inr q
      · rintro ((q | q) | q)
        · exact .inl q
        · exact .inr (.inl q)
        · exact .inr (.inr q)
    · split
      · rename_i q
        subst q
        rw [List.mem_cons]
        constructor
        · exact .inl
        · rintro (q | q)
          · exact q
          · exact .inl q
      · simp only [List.mem_cons]
        constructor
        · rintro (q | q | q)
          · exact .inr q
          · exact .inl (.inl q)
          · exact .inl (.inr q)
        · rintro ((q | q) | q)
          · exact .inr (.inl q)
          · exact .inr (.inr q)
          · exact .inl q
def Srt (L : List ByteArray) : Prop := L.Pairwise fun a b => kb a < kb b
theorem kb_gt {a b : ByteArray} (h : ¬ kb a < kb b) (hne : a ≠ b) : kb b < kb a := by
  refine Classical.byContradiction fun q => hne (kb_inj ?_)
  exact List.le_antisymm (q : kb a ≤ kb b) (h : kb b ≤ kb a)
theorem insK_srt : ∀ {L : List ByteArray} (x : ByteArray), Srt L → Srt (insK L x)
  | [], x, _ => by rw [insK_nil]; exact List.pairwise_singleton _ _
  | y :: L, x, h => by
    have h' := List.pairwise_cons.1 h
    rw [insK_cons]
    split
    · rename_i q
      refine List.pairwise_cons.2 ⟨fun z hz => ?_, insK_srt x h'.2⟩
      rcases (insK_mem L x z).1 hz with w | w
      · exact h'.1 z w
      · rw [w]; exact q
    · rename_i q
      split
      · exact h
      · rename_i q2
        have hx := kb_gt q q2
        refine List.pairwise_cons.2 ⟨fun z hz => ?_, h⟩
        rcases List.mem_cons.1 hz with w | w
        · rw [w]; exact hx
        · exact List.lt_trans hx (h'.1 z w)
theorem insAll_spec (l : List Rec) : Srt (insAll l) ∧ ∀ y, y ∈ insAll l ↔ ∃ r ∈ l, r.key = y := by
  refine snocInd (p := fun l => Srt (insAll l) ∧ ∀ y, y ∈ insAll l ↔ ∃ r ∈ l, r.key = y) ⟨List.Pairwise.nil, fun y => by simp [insAll]⟩ ?_ l
  rintro l x ⟨h1, h2⟩
  rw [insAll_snoc]
  refine ⟨insK_srt _ h1, fun y => ?_⟩
  rw [insK_mem, h2]
  constructor
  · rintro (⟨r, hr, e⟩ | e)
    · exact ⟨r, by simp [hr], e⟩
    · exact ⟨x, by simp, e.symm⟩
  · rintro ⟨r, hr, e⟩
    rcases List.mem_append.1 hr with hr | hr
    · exact .inl ⟨r, hr, e⟩
    · rw [List.mem_singleton.1 hr] at e
      exact .inr e.symm
theorem keysU_srt (la lb : List Rec) : Srt (keysU la lb) := by
  have tr : ∀ a b c : List UInt8, leB a b = true → leB b c = true → leB a c = true := fun a b c h1 h2 => by simp only [leB, decide_eq_true_eq] at *; exact List.le_trans h1 h2
  have tot : ∀ a b : List UInt8, (leB a b || leB b a) = true := fun a b => by simp only [leB, Bool.or_eq_true, decide_eq_true_eq]; exact List.le_total a b
  have h1 := List.pairwise_mergeSort tr tot ((fkeys (la ++ lb)).map kb)
  have h2 : (((fkeys (la ++ lb)).map kb).mergeSort leB).Nodup := (List.mergeSort_perm _ _).nodup_iff.2 (by
    rw [List.Nodup, List.pairwise_map]
    exact (fkeys_nodup (la ++ lb)).imp fun hne e => hne (kb_inj e))
  rw [← keysU_kb] at h1 h2
  rw [List.Nodup, List.pairwise_map] at h2
  rw [List.pairwise_map] at h1
  refine (h1.and h2).imp fun {a b} h => ?_
  obtain ⟨q1, q2⟩ := h
  simp only [leB, decide_eq_true_eq] at q1
  refine Classical.byContradiction fun w => q2 ?_
  exact List.le_antisymm q1 (w : kb b ≤ kb a)
theorem keysU_mem_iff (la lb : List Rec) (s : ByteArray) : s ∈ keysU la lb ↔ ∃ r ∈ la ++ lb, r.key = s := by
  rw [← fkeys_mem]
  unfold keysU
  rw [List.mem_map]
  constructor
  · rintro ⟨x, hx, rfl⟩
    rw [List.mem_mergeSort] at hx
    obtain ⟨t, ht, rfl⟩ := List.mem_map.1 hx
    rw [ofB_kb]; exact ht
  · intro h
    exact ⟨kb s, List.mem_mergeSort.2 (List.mem_map.2 ⟨s, h, rfl⟩), ofB_kb s⟩
theorem srt_nodup {L : List ByteArray} (h : Srt L) : L.Nodup := h.imp fun {a b} q e => by rw [e] at q; exact List.lt_irrefl _ q
theorem insAll_keys (la lb : List Rec) : insAll (la ++ lb) = keysU la lb := by
  obtain ⟨h1, h2⟩ := insAll_spec (la ++ lb)
  have hp : (insAll (la ++ lb)).Perm (keysU la lb) := (List.perm_ext_iff_of_nodup (srt_nodup h1) (srt_nodup (keysU_srt la lb))).2 fun y => by rw [h2, keysU_mem_iff]
  refine List.Perm.eq_of_pairwise (le := fun a b => kb a < kb b) (fun a b _ _ q1 q2 => ?_) h1 (keysU_srt la lb) hp
  exact absurd (List.lt_trans q1 q2) (List.lt_irrefl _)
end Go.Tw.Exc
