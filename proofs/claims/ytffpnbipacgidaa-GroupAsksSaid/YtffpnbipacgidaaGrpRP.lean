/-
  Layer 14 (group) in plain Lean: what the reference computes, and the stage's theorem, of the frames. No program in sight.
-/
import Derived.Test.YtffpnbipacgidaaGrpP
namespace Go.Tw.Grp
open Go.RowKit Go.Sort Go.Tw.Ord
theorem sortS_sorted (m : List Seen) : (sortS m).Pairwise fun x y => seenC x y ≤ 0 := sortL_sorted seenC_cmp m
theorem ins_sort {m : List Seen} {x : Seen} {k : Nat} (h1 : ∀ j (hj : j < (sortS m).length), j < k → seenC (sortS m)[j] x ≤ 0) (h2 : ∀ h : k < (sortS m).length, ¬ seenC (sortS m)[k] x ≤ 0) :
    (sortS m).take k ++ [x] ++ (sortS m).drop k = sortS (m ++ [x]) := by
  have hs := sortS_sorted m
  have hp := sortS_perm m
  refine sortL_uniq seenC_cmp (fun _ _ => seenC_zero) ?_ ?_
  · refine List.Perm.trans ?_ (hp.append_right [x])
    conv => rhs; rw [← List.take_append_drop k (sortS m)]
    rw [List.append_assoc, List.append_assoc]
    exact List.Perm.append_left _ List.perm_append_comm
  · generalize sortS m = S at *
    have hs' := hs
    rw [← List.take_append_drop k S, List.pairwise_append] at hs'
    obtain ⟨p1, p2, p3⟩ := hs'
    have ha : ∀ a ∈ S.take k, seenC a x ≤ 0 := fun a ha => by
      obtain ⟨j, hj, rfl⟩ := List.getElem_of_mem ha
      rw [List.getElem_take]
      rw [List.length_take] at hj
      exact h1 j (by omega) (by omega)
    have hb : ∀ b ∈ S.drop k, seenC x b ≤ 0 := fun b hb => by
      obtain ⟨j, hj, rfl⟩ := List.getElem_of_mem hb
      rw [List.length_drop] at hj
      have hk : k < S.length := by omega
      have e := h2 hk
      have an := seenC_cmp.anti S[k] x
      have h0 : seenC x S[k] ≤ 0 := by omega
      rw [List.getElem_drop]
      rcases Nat.eq_zero_or_pos j with rfl | hj0
      · simpa using h0
      · exact seenC_cmp.trans _ _ _ h0 (List.pairwise_iff_getElem.1 hs k (k + j) hk (by omega) (by omega))
    rw [List.pairwise_append, List.pairwise_append]
    refine ⟨⟨p1, List.pairwise_singleton _ _, fun a h b hb' => by simp at hb'; subst hb'; exact ha a h⟩, p2, fun a h b hb' => ?_⟩
    rcases List.mem_append.1 h with h | h
    · exact p3 a h b hb'
    · simp at h; subst h; exact hb b hb'
theorem runF_snoc {g : Int} {l : List Seen} {k : Nat} (h : k < l.length) : runF g [] (l.take (k + 1)) = addF g (runF g [] (l.take k)) l[k] := by
  rw [List.take_succ_eq_append_getElem h]
  unfold runF
  rw [List.foldl_append]
  rfl
theorem runF_finv {g : Int} {S : List Seen} (hS : S.Pairwise fun x y => x.tm ≤ y.tm) : ∀ {k : Nat} (hk : k < S.length), FInv g (runF g [] (S.take k)) S[k].tm
  | 0, _ => FInv.nil g _
  | k + 1, hk => by
    rw [runF_snoc (by omega)]
    exact (runF_finv hS (k := k) (by omega)).step.mono (List.pairwise_iff_getElem.1 hS k (k + 1) (by omega) hk (by omega))
theorem addF_close {g : Int} {out : List (List Seen)} {s : Seen} (h : FInv g out s.tm) {j : Nat} (hj : j < out.length) (hc : closeC g (lastS out[j]) s = true) : addF g out s = out.set j (out[j] ++ [s]) :=
  addF_at hj hc fun i hi => by
    cases q : closeC g (lastS (out[i]'(by omega))) s with
    | false => rfl
    | true => have := h.uniq (by omega) hj q hc; omega
theorem addF_only {g : Int} {out : List (List Seen)} {s : Seen} (h : FInv g out s.tm) {i j : Nat} (hi : i < out.length) (hj : j < out.length) (ci : closeC g (lastS out[i]) s = true) (cj : closeC g (lastS out[j]) s = true) : i = j := h.uniq hi hj ci cj

/-! ### The stage's theorem -/
structure Parts (g : Int) (R : List (List Seen)) : Prop where
  ne : ∀ f ∈ R, f ≠ []
  pt : ∀ f ∈ R, ∀ x ∈ f, ∀ y ∈ f, x.pt = y.pt
  asc : ∀ f ∈ R, ∀ k (h : k + 1 < f.length), f[k].tm ≤ f[k + 1].tm ∧ f[k + 1].tm - f[k].tm ≤ g
  sep : ∀ i j (hi : i < R.length) (hj : j < R.length), j < i → ∀ a ∈ R[i], ∀ b ∈ R[j], a.pt = b.pt → ¬ (max a.tm b.tm - min a.tm b.tm ≤ g)
theorem framesC_parts {g : Int} (hg : 0 ≤ g) (l : List Seen) : Parts g (framesC g l) := by
  obtain ⟨U, h⟩ := framesC_inv g l
  have e : max g 0 = g := by omega
  refine ⟨h.ne, h.pt, fun f hf k hk => ?_, fun i j hi hj hji a ha b hb hp => ?_⟩
  · have := h.asc f hf k hk
    rw [e] at this
    exact this
  · have := h.sep j i hj hi hji b hb a ha hp.symm
    rw [e] at this
    omega
end Go.Tw.Grp
