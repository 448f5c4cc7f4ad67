/-
  Layer 16 (fuse): the chapter's example: one camera reading; its frames, for the evaluator.
-/
import Derived.Test.YtelnnjofccldgaaGreatDoorEvZ
import Derived.Test.YtelnnjofccldgaaGreatDoorGrpK0
namespace Go.Proofs.YtelnnjofccldgaaGreatDoor
open Go.RowKit Go.Tw Go.Tw.Ord Go.Tw.Grp Go.Sort Go.Ev
/-- the chapter's reading -/
def s0 : Seen := ⟨⟨#[99, 49]⟩, 5, 100, ⟨#[]⟩, ⟨#[65, 66, 49, 50]⟩, 0, 1000, 100, ⟨#[112]⟩, 1, 2⟩
theorem s0_ok : SeenOk s0 := ⟨by decide, by unfold i64ok; decide, by unfold i64ok; decide, by decide, by decide, by unfold i64ok; decide, by unfold i64ok; decide, by unfold i64ok; decide, by decide, by unfold i64ok; decide, by unfold i64ok; decide⟩
theorem s0_frames : framesC 0 [s0] = [[s0]] := by kernel_rfl
def vEq : Value → Value → Bool
  | .string a, .string b => a.data.toList == b.data.toList
  | .int .i64 a, .int .i64 b => a == b
  | _, _ => false
theorem vEq_ok {a b : Value} (h : vEq a b = true) : a = b := by
  unfold vEq at h
  split at h
  · rename_i a b
    obtain ⟨⟨a⟩⟩ := a
    obtain ⟨⟨b⟩⟩ := b
    simp only [beq_iff_eq] at h
    rw [h]
  · simp only [beq_iff_eq] at h; rw [h]
  · cases h
def vsEq : List Value → List Value → Bool
  | [], [] => true
  | a :: l, b :: m => vEq a b && vsEq l m
  | _, _ => false
theorem vsEq_ok : ∀ {l m : List Value}, vsEq l m = true → l = m
  | [], [], _ => rfl
  | a :: l, b :: m, h => by
    simp only [vsEq, Bool.and_eq_true] at h
    rw [vEq_ok h.1, vsEq_ok h.2]
  | [], _ :: _, h => by cases h
  | _ :: _, [], h => by cases h
def oraF : CallT := fun f args h n => bif Nat.beq f 27 then
  match args with
  | [.slice (some ⟨b, 0, none⟩) 1 cap, .int .i64 0] => match hp h b with
    | some (.row cs _ _ true) => bif vsEq (cs.take 11) (sCells s0) && Nat.ble cap 1048576 && (keys h).all (fun b => Nat.blt b n) then
        some (.slice (some ⟨n + 1, 0, none⟩) 1 big, (n + 1, some (.row [.slice (some ⟨n, 0, none⟩) 1 big] 65 1 false)) :: (n, some (.row (sCells s0) 63 11 false)) :: h, n + 2, []) else none
    | _ => none
  | _ => none
  else none
theorem s0_plain {ι : Img} : ∀ {l : List Value}, l = sCells s0 → VRs ι l l := by
  rintro l rfl
  exact .cons (.same rfl) (.cons (.same rfl) (.cons (.same rfl) (.cons (.same rfl) (.cons (.same rfl) (.cons (.same rfl) (.cons (.same rfl) (.cons (.same rfl) (.cons (.same rfl) (.cons (.same rfl) (.cons (.same rfl) .nil))))))))))
theorem plain_list {ι : Img} : ∀ {l l' : List Value}, VRs ι l l' → (∀ v ∈ l, plain v = true) → l' = l
  | _, _, .nil, _ => rfl
  | _, _, .cons a k, h => by rw [a.plain_eq (h _ (by simp)), plain_list k fun v hv => h v (by simp [hv])]
theorem own_one {α : Type} {T : Ty α} {w : World} {x : α} : ∀ {Fs : List (List Nat)} {css : List (List Value)}, AllOwn T w Fs css [x] → ∃ cs F, css = [cs] ∧ Fs = [F] ∧ T.own F w cs x
  | [F], [cs], h => ⟨cs, F, rfl, rfl, h.1⟩
  | [], [], h => h.elim
  | [], _ :: _, h => h.elim
  | _ :: _, [], h => h.elim
  | [_], _ :: _ :: _, h => h.2.elim
  | _ :: _ :: _, _ :: _, h => (by cases ‹List (List Value)› <;> exact h.2.elim)
theorem oraF_ok {G : Nat} : CallOK Tryz.prog G oraF := by
  intro f args h n v h' n' d he
  unfold oraF at he
  cases hf : Nat.beq f 27 with
  | false => rw [hf] at he; cases he
  | true =>
    rw [hf] at he
    simp only [cond_true] at he
    have hf' := Nat.eq_of_beq_eq_true hf
    subst hf'
    split at he
    · rename_i b cap
      split at he
      · rename_i cs e sz hb
        cases hq : (vsEq (cs.take 11) (sCells s0) && Nat.ble cap 1048576 && (keys h).all (fun b => Nat.blt b n)) with
        | false => rw [hq] at he; cases he
        | true =>
          rw [hq] at he
          simp only [cond_true, Option.some.injEq, Prod.mk.injEq] at he
          obtain ⟨rfl, rfl, rfl, rfl⟩ := he
          simp only [Bool.and_eq_true, List.all_eq_true] at hq
          obtain ⟨⟨hq1, hq2⟩, hq3⟩ := hq
          have hcs := vsEq_ok hq1
          have hcap := Nat.le_of_ble_eq_true hq2
          refine ⟨⟨_, Tryz.func27, by kernel_rfl, by kernel_rfl⟩, by omega, by simp, fun ι w args' ha hH hdom hg => ?_⟩
          cases ha with
          | cons a1 a2 =>
            cases a2 with
            | cons a2 a3 =>
              cases a3
              obtain ⟨k, c, cap', rfl, hib, hcp, hle⟩ := a1.slice_inv
              have e2 := a2.plain_eq rfl
              subst e2
              obtain ⟨k2, c2, i1, A, q1, q2, q3, q4, -⟩ := hH.at_ b _ hb
              rw [hib] at i1
              simp only [Option.some.injEq, Prod.mk.injEq] at i1
              obtain ⟨rfl, rfl⟩ := i1
              have hc := (q4 rfl).1
              subst hc
              have hA : A.take 11 = sCells s0 := by
                have h1 : cs.length = 11 ∨ 11 < cs.length := by
                  have : (cs.take 11).length = 11 := by rw [hcs]; rfl
                  rw [List.length_take] at this
                  omega
                have h2 := q3.take 11
                rw [List.take_take, Nat.min_eq_left (by omega)] at h2
                have := plain_list h2 (by rw [hcs]; intro v hv; unfold sCells at hv; simp only [List.mem_cons, List.not_mem_nil, or_false] at hv; rcases hv with rfl | rfl | rfl | rfl | rfl | rfl | rfl | rfl | rfl | rfl | rfl <;> rfl)
                rw [this, hcs]
              have hkl : k < w.heap.size := lt_of_heap q1
              have hsl : SlIs tSeen (· < w.heap.size) w (.slice (some ⟨k, 0, none⟩) 1 cap') [s0] := by
                refine ⟨some ⟨k, 0, none⟩, cap', k, 0, rfl, hle, by unfold maxLen; omega, fun e => (by cases e), fun j hj => ⟨rfl, hkl, hkl, sCells s0, fun i hi => ?_, ?_⟩⟩
                · have hj0 : j = 0 := by simpa using hj
                  subst hj0
                  rw [Nat.zero_mul, Nat.zero_add]
                  have hi' : i < 11 := hi
                  rw [cell_of q1, ← hA, List.getElem?_take_of_lt hi']
                · have hj0 : j = 0 := by simpa using hj
                  subst hj0
                  exact tSeen_mk s0_ok
              refine (Frames_any [s0] 0 _ w hsl (by decide) (by unfold i64ok; decide)).mono fun e w' hr => ?_
              obtain ⟨⟨v', rfl, F, hO, nd, hF⟩, hbel⟩ := hr
              rw [s0_frames] at hO
              obtain ⟨css, Fs, o1, o2, hFs⟩ := hO
              obtain ⟨cs1, F1, rfl, rfl, hh1⟩ := own_one o2
              obtain ⟨v1, rfl, hI⟩ := hh1
              obtain ⟨css2, Fs2, p1, p2, hFs2⟩ := hI
              obtain ⟨cs2, F2, rfl, rfl, hs⟩ := own_one p2
              have hs2 := (tSeen_is (tSeen.own_is hs)).1
              subst hs2
              rcases o1.2 with ⟨_, h0⟩ | ⟨g, cap1, cur1, rfl, -, g1, g2, g3, g4, g5⟩
              · cases h0
              rcases p1.2 with ⟨_, h0⟩ | ⟨r, cap0, cur0, rfl, -, r1, r2, r3, r4, r5⟩
              · cases h0
              have hgF : g ∈ F := by rw [hFs]; simp [Value.ownBlock]
              have hrF1 : r ∈ F1 := by rw [hFs2]; simp [Value.ownBlock]
              have hrF : r ∈ F := by rw [hFs]; simp [hrF1]
              have hgr : g ≠ r := by
                rintro rfl
                rw [hFs] at nd
                simp only [Value.ownBlock, Option.toList_some, List.flatten_cons, List.flatten_nil, List.append_nil, List.singleton_append, List.nodup_cons] at nd
                exact nd.1 hrF1
              have hg0 := hF g hgF
              have hr0 := hF r hrF
              have hn : ι n = none := by
                cases e : ι n with
                | none => rfl
                | some x => have := hdom n (by rw [e]; simp); omega
              have hn1 : ι (n + 1) = none := by
                cases e : ι (n + 1) with
                | none => rfl
                | some x => have := hdom (n + 1) (by rw [e]; simp); omega
              have x1 : Ext1 ι (put1 ι n r cap0) := put1_ext hn
              have hn1' : put1 ι n r cap0 (n + 1) = none := by rw [put1_ne (by omega)]; exact hn1
              have x2 : Ext1 (put1 ι n r cap0) (put1 (put1 ι n r cap0) (n + 1) g cap1) := put1_ext hn1'
              have at0 : put1 (put1 ι n r cap0) (n + 1) g cap1 n = some (r, cap0) := x2 _ _ (put1_at _ _ _ _)
              have at1 : put1 (put1 ι n r cap0) (n + 1) g cap1 (n + 1) = some (g, cap1) := put1_at _ _ _ _
              have hlow : ∀ b B, hp h b = some B → b < n := fun b B hB => by
                have : Ev.look h b ≠ none := fun q => by unfold hp at hB; rw [q] at hB; cases hB
                cases hl : Ev.look h b with
                | none => exact absurd hl this
                | some x => have := hq3 b (look_keys hl); rwa [Nat.blt_eq] at this
              have hcase : ∀ b B, hp ((n + 1, some (.row [.slice (some ⟨n, 0, none⟩) 1 big] 65 1 false)) :: (n, some (.row (sCells s0) 63 11 false)) :: h) b = some B →
                  (b = n + 1 ∧ B = .row [.slice (some ⟨n, 0, none⟩) 1 big] 65 1 false) ∨ (b = n ∧ B = .row (sCells s0) 63 11 false) ∨ hp h b = some B := fun b B hB => by
                unfold hp at hB
                simp only [Ev.look] at hB
                split at hB
                · rename_i q
                  simp only [beq_iff_eq] at q
                  exact .inl ⟨q.symm, by simpa using hB.symm⟩
                · split at hB
                  · rename_i q
                    simp only [beq_iff_eq] at q
                    exact .inr (.inl ⟨q.symm, by simpa using hB.symm⟩)
                  · exact .inr (.inr hB)
              have keep : ∀ b B, hp h b = some B → ∃ k c, put1 (put1 ι n r cap0) (n + 1) g cap1 b = some (k, c) ∧ BR (put1 (put1 ι n r cap0) (n + 1) g cap1) w' k c B ∧ k < w.heap.size ∧ ι b = some (k, c) := fun b B hB => by
                obtain ⟨k, c, e1, e2⟩ := hH.at_ b B hB
                exact ⟨k, c, x2 _ _ (x1 _ _ e1), e2.mono (x1.trans x2) (hbel.block k e2.lt), e2.lt, e1⟩
              refine ⟨_, put1 (put1 ι n r cap0) (n + 1) g cap1, rfl, .slice at1 (Nat.add_comm _ _) g2, ⟨fun b B hB => ?_, fun b b' B B' k k1 k2 hB hB' e e' => ?_⟩, fun b hb => ?_, ⟨x1.trans x2, hbel.size, fun j hj _ => hbel.block j hj, fun b k c e e' => ?_, fun b e e' => ?_, ⟨hbel.os, hbel.tape, hbel.output⟩⟩⟩
              · rcases hcase b B hB with ⟨rfl, rfl⟩ | ⟨rfl, rfl⟩ | hB
                · refine ⟨g, cap1, at1, cur1.toList, g1, ?_, ?_, fun q => (by cases q), fun _ => ⟨by decide, by rw [Array.length_toList]; exact g4⟩⟩
                  · have g4' : cur1.size = cap1 * 1 := g4
                    have g2' : 1 ≤ cap1 := g2
                    simp only [List.length_cons, List.length_nil, Array.length_toList, g4']; omega
                  · have g5' : cur1.toList.take 1 = [.slice (some ⟨r, 0, none⟩) 1 cap0] := g5
                    show VRs _ _ (cur1.toList.take 1)
                    rw [g5']
                    exact .cons (.slice at0 (Nat.add_comm _ _) r2) .nil
                · refine ⟨r, cap0, at0, cur0.toList, r1, ?_, ?_, fun q => (by cases q), fun _ => ⟨by decide, by rw [Array.length_toList]; exact r4⟩⟩
                  · show 11 ≤ _
                    have r4' : cur0.size = cap0 * 11 := r4
                    have r2' : 1 ≤ cap0 := r2
                    rw [Array.length_toList, r4']; omega
                  · have r5' : cur0.toList.take 11 = sCells s0 := r5
                    show VRs _ _ (cur0.toList.take 11)
                    rw [r5']
                    exact s0_plain rfl
                · obtain ⟨k, c, e1, e2, -⟩ := keep b B hB
                  exact ⟨k, c, e1, e2⟩
              · rcases hcase b B hB with ⟨rfl, rfl⟩ | ⟨rfl, rfl⟩ | hC <;> rcases hcase b' B' hB' with ⟨rfl, rfl⟩ | ⟨rfl, rfl⟩ | hC'
                · rfl
                · rw [at1] at e; rw [at0] at e'
                  simp only [Option.some.injEq, Prod.mk.injEq] at e e'
                  exact absurd (e.1.trans e'.1.symm) hgr
                · obtain ⟨k3, c3, f1, -, f3, -⟩ := keep b' B' hC'
                  rw [at1] at e; rw [f1] at e'
                  simp only [Option.some.injEq, Prod.mk.injEq] at e e'
                  omega
                · rw [at0] at e; rw [at1] at e'
                  simp only [Option.some.injEq, Prod.mk.injEq] at e e'
                  exact absurd (e'.1.trans e.1.symm) hgr
                · rfl
                · obtain ⟨k3, c3, f1, -, f3, -⟩ := keep b' B' hC'
                  rw [at0] at e; rw [f1] at e'
                  simp only [Option.some.injEq, Prod.mk.injEq] at e e'
                  omega
                · obtain ⟨k3, c3, f1, -, f3, -⟩ := keep b B hC
                  rw [at1] at e'; rw [f1] at e
                  simp only [Option.some.injEq, Prod.mk.injEq] at e e'
                  omega
                · obtain ⟨k3, c3, f1, -, f3, -⟩ := keep b B hC
                  rw [at0] at e'; rw [f1] at e
                  simp only [Option.some.injEq, Prod.mk.injEq] at e e'
                  omega
                · obtain ⟨k3, c3, f1, -, -, f4⟩ := keep b B hC
                  obtain ⟨k4, c4, d1, -, -, d4⟩ := keep b' B' hC'
                  rw [f1] at e; rw [d1] at e'
                  simp only [Option.some.injEq, Prod.mk.injEq] at e e'
                  obtain ⟨rfl, rfl⟩ := e
                  obtain ⟨rfl, rfl⟩ := e'
                  exact hH.inj b b' B B' _ _ _ hC hC' f4 d4
              · by_cases z1 : b = n + 1
                · omega
                · rw [put1_ne z1] at hb
                  by_cases z2 : b = n
                  · omega
                  · rw [put1_ne z2] at hb
                    have := hdom b hb; omega
              · by_cases z1 : b = n + 1
                · subst z1
                  rw [at1] at e'
                  simp only [Option.some.injEq, Prod.mk.injEq] at e'
                  exact .inl (by omega)
                · rw [put1_ne z1] at e'
                  by_cases z2 : b = n
                  · subst z2
                    rw [put1_at] at e'
                    simp only [Option.some.injEq, Prod.mk.injEq] at e'
                    exact .inl (by omega)
                  · rw [put1_ne z2, e] at e'; cases e'
              · by_cases z1 : b = n + 1
                · omega
                · rw [put1_ne z1] at e'
                  by_cases z2 : b = n
                  · omega
                  · rw [put1_ne z2] at e'; exact absurd e e'
      · cases he
    · cases he
end Go.Proofs.YtelnnjofccldgaaGreatDoor
