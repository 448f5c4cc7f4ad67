/-
  Layer 13: slices.SortStableFunc at detections of the call's own.
-/
import Derived.Test.YtelnnjofccldgaaGreatDoorGrpS
namespace Go.Tw.Grp
open Go.RowKit Go.Tw Go.Sort Go.Tw.Ord
open Go.Proofs (sortWorld)
theorem sortWorldK_below (w : World) (blk off m : Nat) (dk : Array Seen) (os : Array Obj) {B : Nat} (hB : B ≤ w.heap.size) (hb : B ≤ blk) : Below B w (Go.Proofs.sortWorldK sCells 11 w blk off m dk os) :=
  ⟨rfl, rfl, rfl, by
    unfold Go.Proofs.sortWorldK Sort.grow putRowK Sort.putRow Sort.mapBlock Sort.ahead
    simp, fun k hk => sortWorld_at id w blk off m _ os (by omega) (by omega)⟩
end Go.Tw.Grp
namespace Go.Proofs.YtelnnjofccldgaaGreatDoor
open Go.RowKit Go.Tw Go.Tw.Ord Go.Tw.Grp Go.Sort
theorem ins_nil (fv : Value) (cap : Nat) (w : World) : Calls Tryz.prog 113 #[.slice none 0 cap, .int .i64 0, .int .i64 0, fv] w fun e w' => e = .returned (.tuple #[]) ∧ w = w' := by
  go_enter Tryz.func113, Tryz.ntmps113
  go_wp2
  refine wp_loop_rounds 1 ?_
  rw [rounds_succ]
  go_wp2
  go_end0
  exact ⟨rfl, rfl⟩
theorem stable_nil (fv : Value) (cap : Nat) (w : World) : Calls Tryz.prog 89 #[.slice none 0 cap, .int .i64 0, fv] w fun e w' => e = .returned (.tuple #[]) ∧ w = w' := by
  go_enter Tryz.func89, Tryz.ntmps89
  go_wp2
  refine wp_loop_rounds 1 ?_
  rw [rounds_succ]
  go_wp2_with (go_at_call 113; refine (ins_nil _ _ _).mono ?_; rintro e w' ⟨rfl, rfl⟩)
  refine wp_loop_rounds 1 ?_
  rw [rounds_succ]
  go_wp2
  go_end0
  exact ⟨rfl, rfl⟩
theorem sortStable_nil (fv : Value) (cap : Nat) (w : World) : Calls Tryz.prog 63 #[.slice none 0 cap, fv] w fun e w' => e = .returned (.tuple #[]) ∧ w = w' := by
  go_enter Tryz.func63, Tryz.ntmps63
  go_wp2_with (go_at_call 89; refine (stable_nil _ _ _).mono ?_; rintro e w' ⟨rfl, rfl⟩)
  go_end0
  exact ⟨rfl, rfl⟩
set_option maxHeartbeats 1000000 in
theorem sortS_any (l : List Seen) (v : Value) (B : Nat) (w : World) (h : OwnSl tSeen 63 B w v l) (hB : B ≤ w.heap.size) (hlen : l.length < 60) :
    Calls Tryz.prog 63 #[v, .func (.func 64) #[] #[]] w fun e w' => e = .returned (.tuple #[]) ∧ SlIs tSeen (fun k => B ≤ k ∧ k < w'.heap.size) w' v (sortS l) ∧ Below B w w' := by
  have hsl := h.sl
  obtain ⟨css, h1, h2⟩ := h
  rcases h1.2 with ⟨q, hz⟩ | ⟨g, cap, cur, q, q1, q2, q3, q4, q5, q6⟩
  · obtain rfl : l = [] := List.eq_nil_of_length_eq_zero hz
    subst q
    refine (sortStable_nil _ _ _).mono ?_
    rintro e w' ⟨rfl, rfl⟩
    have : sortS [] = [] := List.eq_nil_of_length_eq_zero (sortS_len [])
    rw [this]
    exact ⟨rfl, SlIs.nil, Below.refl _ _⟩
  · subst q
    have hokA : ∀ r ∈ l, SeenOk r := fun r hr => by
      obtain ⟨k, hk, rfl⟩ := List.getElem_of_mem hr
      obtain ⟨_, _, _, _, _, _, _, ho⟩ := seen_row hsl
      exact (ho w (SameOn.refl _ _) k hk).2.2.2.1
    have hH : HoldsK sCells 11 w g 0 l.toArray := holdsS q2 (fun k j hk hj => by
      obtain ⟨cs, c1, c2, c3⟩ := h2.at.2 k hk
      obtain ⟨rfl, -⟩ := tSeen_is c2
      rw [List.getD_eq_getElem?_getD, List.getElem?_eq_getElem hk, Option.getD_some, ← c3 j hj, ← q6, List.getElem?_take, if_pos (by show k * 11 + j < l.length * 11; omega), Array.getElem?_toList]
      rfl)
    have R : RowK sCells 11 w g 0 l.toArray := ⟨sCells_len, sCells_one, hH, lt_of_heap q2⟩
    have hcon := sortStable_any stabL sCells seenC seenC_cmp.swo 64 #[] g 0 cap l.toArray w (enters_of Tryz.func64 (by kernel_rfl) rfl) (cmpLaysS _ _ _ _) R (insOkS g 0 cap _ l.toArray w R rfl (by simpa using hlen)) (by simpa using hlen)
    refine hcon.mono ?_
    rintro e w' ⟨rfl, d', hp, hs, hw⟩
    have hds : d'.size = l.toArray.size := hp.1
    have hsrt : d'.toList = sortS l := sortL_of seenC_cmp (fun _ _ => seenC_zero) hp hs
    have hH2 := hw.holds (lt_of_heap q2) hH hds
    have hlt := hw.lt (lt_of_heap q2)
    have hlen' : (sortS l).length = l.length := sortS_len l
    have hbl : Below B w w' := by
      obtain ⟨n, os, rfl⟩ := hw
      exact sortWorldK_below w g 0 n d' os hB q1
    refine ⟨rfl, ?_, hbl⟩
    have := slS_of (S := (fun k => B ≤ k ∧ k < w'.heap.size)) (cap := cap) (l := sortS l) (by rw [← hsrt]; simpa using hH2) hlt ⟨q1, hlt⟩ (by rw [hlen']; exact q3) q4 (fun r hr => hokA r ((sortS_perm l).mem_iff.1 hr))
    rw [hlen'] at this
    exact this
end Go.Proofs.YtelnnjofccldgaaGreatDoor
