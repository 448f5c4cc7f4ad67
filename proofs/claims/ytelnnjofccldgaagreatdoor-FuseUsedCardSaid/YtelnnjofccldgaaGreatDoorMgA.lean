/-
  Slices of the call's own with all that they look at: the blocks, each for one thing. Append, a change in one element. No program in sight.
-/
import Derived.Test.YtelnnjofccldgaaGreatDoorOwn2
namespace Go.Tw
open Go.RowKit

variable {α : Type} {T : Ty α} {e : TypeId} {F : List Nat} {w w' : World} {v : Value} {l : List α}

theorem OwnL.nil : OwnL T e [] w (.slice none 0 0) ([] : List α) := ⟨[], [], World.ownsRow_nil _ _ _ _, trivial, rfl⟩
theorem OwnL.form (h : OwnL T e F w v l) : ∃ ao cap, v = .slice ao l.length cap ∧ l.length ≤ cap ∧ cap ≤ maxLen := by
  obtain ⟨css, Fs, h1, _⟩ := h
  rcases h1.2 with ⟨h, h'⟩ | ⟨g, cap, cur, h, _, _, h3, h4, _⟩
  · exact ⟨none, 0, by rw [h, h'], by omega, Nat.zero_le _⟩
  · exact ⟨_, cap, h, h3, h4⟩
theorem OwnL.blk (h : OwnL T e F w v l) : ∀ k, v.ownBlock = some k → k ∈ F := by
  obtain ⟨css, Fs, h1, h2, rfl⟩ := h
  intro k hk
  rw [hk]; simp

theorem AllOwn.append : ∀ {Fs Fs' : List (List Nat)} {css css' : List (List Value)} {l l' : List α}, AllOwn T w Fs css l → AllOwn T w Fs' css' l' → AllOwn T w (Fs ++ Fs') (css ++ css') (l ++ l')
  | [], _, [], _, [], _, _, h' => h'
  | _ :: _, _, _ :: _, _, _ :: _, _, h, h' => ⟨h.1, AllOwn.append h.2 h'⟩
  | [], _, [], _, _ :: _, _, h, _ => h.elim
  | [], _, _ :: _, _, _, _, h, _ => h.elim
  | _ :: _, _, [], _, _, _, h, _ => h.elim
  | _ :: _, _, _ :: _, _, [], _, h, _ => h.elim
/-- one element out of the middle -/
theorem AllOwn.split : ∀ {Fs : List (List Nat)} {css : List (List Value)} {l : List α} (i : Nat), AllOwn T w Fs css l → (hi : i < l.length) →
    ∃ Fa Fi Fb ca ci cb, Fs = Fa ++ Fi :: Fb ∧ css = ca ++ ci :: cb ∧ AllOwn T w Fa ca (l.take i) ∧ T.own Fi w ci l[i] ∧ AllOwn T w Fb cb (l.drop (i + 1))
  | F :: Fs, c :: css, x :: l, 0, h, _ => ⟨[], F, Fs, [], c, css, rfl, rfl, trivial, h.1, h.2⟩
  | F :: Fs, c :: css, x :: l, i + 1, h, hi => by
    obtain ⟨Fa, Fi, Fb, ca, ci, cb, rfl, rfl, h1, h2, h3⟩ := AllOwn.split i h.2 (by simpa using hi)
    exact ⟨F :: Fa, Fi, Fb, c :: ca, ci, cb, rfl, rfl, ⟨h.1, h1⟩, h2, h3⟩
  | [], [], _ :: _, _, h, _ => h.elim
  | [], _ :: _, _, _, h, _ => h.elim
  | _ :: _, [], _, _, h, _ => h.elim
  | _, _, [], _, _, hi => absurd hi (Nat.not_lt_zero _)

/-- what is known of an element that may be changed -/
structure Elem (T : Ty α) (e : TypeId) (F : List Nat) (w : World) (l : List α) (i : Nat) (x : α) (g : Nat) (cs : List Value) (Fi : List Nat) : Prop where
  cell : ∀ j, j < T.sz → w.cell? ⟨g, i * T.sz + j, none⟩ = cs[j]?
  len : cs.length = T.sz
  free : ∀ o, w.frozen? ⟨g, o, none⟩ = false
  own : T.own Fi w cs x
  nodup : Fi.Nodup
  out : g ∉ Fi
  sub : ∀ b ∈ Fi, b ∈ F
  mem : g ∈ F
theorem nodup_mid {g : List Nat} {A B C D : List Nat} (h : (g ++ (A ++ (B ++ C))).Nodup) (hD : D.Nodup) (hd : ∀ b ∈ D, b ∈ B ∨ b ∉ g ++ (A ++ (B ++ C))) : (g ++ (A ++ (D ++ C))).Nodup := by
  simp only [List.nodup_append, List.mem_append] at h ⊢
  obtain ⟨h1, ⟨h2, ⟨h3, h4, h5⟩, h6⟩, h7⟩ := h
  refine ⟨h1, ⟨h2, ⟨hD, h4, fun a ha b hb => ?_⟩, fun a ha b hb => ?_⟩, fun a ha b hb => ?_⟩
  · rcases hd a ha with q | q
    · exact h5 a q b hb
    · rintro rfl; exact q (by simp [hb])
  · rcases hb with hb | hb
    · rcases hd b hb with q | q
      · exact h6 a ha b (.inl q)
      · rintro rfl; exact q (by simp [ha])
    · exact h6 a ha b (.inr hb)
  · rcases hb with hb | hb | hb
    · exact h7 a ha b (.inl hb)
    · rcases hd b hb with q | q
      · exact h7 a ha b (.inr (.inl q))
      · rintro rfl; exact q (by simp [ha])
    · exact h7 a ha b (.inr (.inr hb))

theorem cells_set_flatten {ca cb : List (List Value)} {ci : List Value} {j : Nat} {u : Value} (hj : j < ci.length) : (ca ++ ci :: cb).flatten.set (ca.flatten.length + j) u = (ca ++ ci.set j u :: cb).flatten := by
  simp only [List.flatten_append, List.flatten_cons]
  rw [List.set_append_right _ _ (by omega), Nat.add_sub_cancel_left, List.set_append_left _ _ hj]

theorem flat_len {ca cb : List (List Value)} {ci : List Value} : (ca ++ ci :: cb).flatten.length = ca.flatten.length + (ci.length + cb.flatten.length) := by
  rw [List.flatten_append, List.flatten_cons, List.length_append, List.length_append]
/-- an element of a slice of the call's own, and what becomes of the slice when that element is changed: in blocks of its own (inner), or by a store into one of its cells -/
theorem OwnL.upd (h : OwnL T e F w v l) (nd : F.Nodup) (i : Nat) (hi : i < l.length) :
    ∃ g cap cs Fi, v = .slice (some ⟨g, 0, none⟩) l.length cap ∧ l.length ≤ cap ∧ cap ≤ maxLen ∧ Elem T e F w l i l[i] g cs Fi ∧
      (∀ w1 Fi' x', (∀ b ∈ F, b ∉ Fi → w1.heap[b]? = w.heap[b]?) → T.own Fi' w1 cs x' → Fi'.Nodup → (∀ b ∈ Fi', b ∈ Fi ∨ b ∉ F) → ∃ F', OwnL T e F' w1 v (l.set i x') ∧ F'.Nodup ∧ ∀ b ∈ F', b ∈ F ∨ b ∈ Fi') ∧
      (∀ w1 Fi' x' j u, (∀ b ∈ F, b ∉ Fi → w1.heap[b]? = w.heap[b]?) → j < T.sz → T.own Fi' w1 (cs.set j u) x' → Fi'.Nodup → (∀ b ∈ Fi', b ∈ Fi ∨ b ∉ F) →
        ∃ F', OwnL T e F' (w1.setCell ⟨g, i * T.sz + j, none⟩ u) v (l.set i x') ∧ F'.Nodup ∧ ∀ b ∈ F', b ∈ F ∨ b ∈ Fi') := by
  obtain ⟨css, Fs, h1, h2, rfl⟩ := h
  obtain ⟨Fa, Fi, Fb, ca, ci, cb, rfl, rfl, q1, q2, q3⟩ := h2.split i hi
  have hla : ca.flatten.length = i * T.sz := by
    rw [q1.is.flatten_len, List.length_take, Nat.min_eq_left (by omega)]
  have hci := T.len (T.own_is q2)
  rcases h1.2 with ⟨_, h'⟩ | ⟨g, cap, cur, rfl, hB, hg, h3, h4, h5, h6⟩
  · omega
  simp only [Value.ownBlock, Option.toList_some, List.flatten_append, List.flatten_cons] at nd ⊢
  have ndg := nd
  simp only [List.singleton_append, List.nodup_cons, List.mem_append, not_or] at ndg
  have hcur : ∀ j, j < T.sz → cur[i * T.sz + j]? = ci[j]? := fun j hj => by
    have e1 : (ca ++ ci :: cb).flatten[i * T.sz + j]? = ci[j]? := by
      rw [List.flatten_append, List.getElem?_append_right (by omega), hla, Nat.add_sub_cancel_left, List.flatten_cons, List.getElem?_append_left (by omega)]
    have hlt : i * T.sz + j < l.length * T.sz := by
      have : (i + 1) * T.sz ≤ l.length * T.sz := Nat.mul_le_mul_right _ hi
      rw [Nat.succ_mul] at this; omega
    rw [← e1, ← h6, List.getElem?_take_of_lt hlt]; simp
  have rest : ∀ w1 Fi' ci' cur' x', w1.heap[g]? = some (.cells cur' e (0, 0)) → cur'.size = cur.size → cur'.toList.take (l.length * T.sz) = (ca ++ ci' :: cb).flatten → ci'.length = T.sz →
      (∀ b ∈ Fa.flatten, w1.heap[b]? = w.heap[b]?) → (∀ b ∈ Fb.flatten, w1.heap[b]? = w.heap[b]?) → T.own Fi' w1 ci' x' → Fi'.Nodup → (∀ b ∈ Fi', b ∈ Fi ∨ b ∉ [g] ++ (Fa.flatten ++ (Fi ++ Fb.flatten))) →
      ∃ F', OwnL T e F' w1 (.slice (some ⟨g, 0, none⟩) l.length cap) (l.set i x') ∧ F'.Nodup ∧ ∀ b ∈ F', b ∈ [g] ++ (Fa.flatten ++ (Fi ++ Fb.flatten)) ∨ b ∈ Fi' := by
    intro w1 Fi' ci' cur' x' r1 r2 r3 r4 ra rb ro rn rd
    refine ⟨[g] ++ (Fa.flatten ++ (Fi' ++ Fb.flatten)), ⟨ca ++ ci' :: cb, Fa ++ Fi' :: Fb, ⟨?_, .inr ⟨g, cap, cur', by simp, hB, r1, by simpa using h3, h4, by omega, by simpa using r3⟩⟩, ?_, by simp [Value.ownBlock]⟩, nodup_mid nd rn rd, fun b hb => ?_⟩
    · have := h1.1
      rw [flat_len] at this ⊢
      rw [List.length_set]; omega
    · rw [List.set_eq_take_append_cons_drop, if_pos hi]
      exact (q1.keep ra).append ⟨ro, q3.keep rb⟩
    · simp only [List.mem_append] at hb ⊢
      rcases hb with hb | hb | hb | hb
      · exact .inl (.inl hb)
      · exact .inl (.inr (.inl hb))
      · exact .inr hb
      · exact .inl (.inr (.inr (.inr hb)))
  have nda : ∀ b ∈ Fa.flatten, b ∉ Fi := fun b hb hb' => by
    simp only [List.nodup_append, List.mem_append] at nd
    exact nd.2.1.2.2 b hb b (.inl hb') rfl
  have ndb : ∀ b ∈ Fb.flatten, b ∉ Fi := fun b hb hb' => by
    simp only [List.nodup_append, List.mem_append] at nd
    exact nd.2.1.2.1.2.2 b hb' b hb rfl
  refine ⟨g, cap, ci, Fi, rfl, h3, h4, ⟨fun j hj => ?_, hci, fun o => frozen_of_row _ _ o _ _ hg, q2, ?_, ndg.1.2.1, fun b hb => ?_, by simp⟩, fun w1 Fi' x' hw1 ho hn hd => ?_, fun w1 Fi' x' j u hw1 hj ho hn hd => ?_⟩
  · simp only [World.cell?, hg]
    exact hcur j hj
  · simp only [List.nodup_append] at nd
    exact nd.2.1.2.1.1
  · simp [hb]
  · exact rest w1 Fi' ci cur x' ((hw1 g (by simp) ndg.1.2.1).trans hg) rfl h6 hci (fun b hb => hw1 b (by simp [hb]) (nda b hb)) (fun b hb => hw1 b (by simp [hb]) (ndb b hb)) ho hn hd
  · have hg1 := (hw1 g (by simp) ndg.1.2.1).trans hg
    have hne : ∀ b, b ∈ Fa.flatten ∨ b ∈ Fb.flatten → (w1.setCell ⟨g, i * T.sz + j, none⟩ u).heap[b]? = w1.heap[b]? := fun b hb => Below.heap_setCell _ _ _ _ (fun e => by
      simp only at e
      subst e
      rcases hb with hb | hb
      · exact ndg.1.1 hb
      · exact ndg.1.2.2 hb)
    have hgi : g ∉ Fi' := fun hb => by
      rcases hd g hb with q | q
      · exact ndg.1.2.1 q
      · exact q (by simp)
    refine rest _ Fi' (ci.set j u) (cur.setIfInBounds (i * T.sz + j) u) x' (heap_setCell_same _ _ _ _ _ _ hg1) (by simp) ?_ (by simpa using hci) (fun b hb => (hne b (.inl hb)).trans (hw1 b (by simp [hb]) (nda b hb))) (fun b hb => (hne b (.inr hb)).trans (hw1 b (by simp [hb]) (ndb b hb))) ?_ hn hd
    · rw [Array.toList_setIfInBounds, List.take_set, h6, ← hla]
      exact cells_set_flatten (by omega)
    · exact T.own_keep ho fun b hb => Below.heap_setCell _ _ _ _ (fun e => by simp only at e; subst e; exact hgi hb)

theorem nodup_snoc {ob ob' : List Nat} {A F1 : List Nat} (h : (ob ++ A).Nodup) (h1 : F1.Nodup) (hd : ∀ b ∈ F1, b ∉ ob ++ A) (ho : ob'.Nodup) (ho' : ∀ b ∈ ob', b ∈ ob ∨ (b ∉ A ∧ b ∉ F1)) : (ob' ++ (A ++ F1)).Nodup := by
  simp only [List.nodup_append, List.mem_append] at h ⊢
  refine ⟨ho, ⟨h.2.1, h1, fun a ha b hb e => ?_⟩, fun a ha b hb e => ?_⟩
  · subst e; exact hd a hb (by simp [ha])
  · subst e
    rcases ho' a ha with q | q
    · rcases hb with hb | hb
      · exact h.2.2 a q a hb rfl
      · exact hd a hb (by simp [q])
    · rcases hb with hb | hb
      · exact q.1 hb
      · exact q.2 hb

section
variable {P : Program}
/-- one more element, made by the call: its cells lie in the block of the literal -/
theorem run_append_L {t ty e' : TypeId} {bytes : Nat} (hT : SlT P t e T.sz bytes) {cs : Array Value} {F1 : List Nat} {x : α} (hown : OwnL T e F w v l) (nd : F.Nodup) (hx : T.own F1 w cs.toList x) (nd1 : F1.Nodup) (hd : ∀ b ∈ F1, b ∉ F)
    (hbytes : (l.length + 1) * bytes ≤ 140737488355328) (h63 : l.length + 1 ≤ maxLen) :
    ∃ v' w' F', (Builtin.append_ #[t, t] ty #[v, .slice (some ⟨w.heap.size, 0, none⟩) 1 1]).run P (w.alloc (.cells cs e')) = .ok v' w' ∧ OwnL T e F' w' v' (l ++ [x]) ∧ F'.Nodup ∧ (∀ b ∈ F', b ∈ F ∨ b ∈ F1 ∨ w.heap.size < b) ∧ (w.alloc (.cells cs e')).grownBy w' v.ownBlock := by
  obtain ⟨und, ⟨i, z, hi, hz, hsize, hby, hzs⟩, hpos⟩ := hT
  have hF := hown.lt
  have hF1 := T.own_lt hx
  have hx' : T.own F1 (w.alloc (.cells cs e')) cs.toList x := T.own_keep hx fun b hb => Below.heap_alloc _ _ _ (hF1 b hb)
  have hown' : OwnL T e F (w.alloc (.cells cs e')) v l := hown.keep fun b hb => Below.heap_alloc _ _ _ (hF b hb)
  obtain ⟨css, Fs, o1, o2, rfl⟩ := hown'
  have hlen := T.len (T.own_is hx)
  obtain ⟨g, cap', w', hr, r1, r2, r3, r4⟩ := Go.run_append_lies (P := P) (w.alloc (.cells cs e')) t ty 0 e i z T.sz bytes und hi hz hsize hby hzs hpos v l.length css.flatten o1 ⟨w.heap.size, 0, none⟩ 1 1 cs.toList (by omega)
    (fun j u hu => by
      have ea : (⟨w.heap.size, 0, none⟩ : Addr).add j = ⟨w.heap.size, j, none⟩ := by unfold Addr.add; split <;> simp_all
      rw [ea]
      simp only [World.cell?, heap_alloc_new]
      simpa using hu)
    (T.one (T.own_is hx)) (by decide) h63 hbytes (Nat.zero_le _) _ rfl
  have hob : ∀ b ∈ Fs.flatten ++ F1, w'.heap[b]? = (w.alloc (.cells cs e')).heap[b]? := fun b hb => by
    refine r2.block b ?_ ?_
    · rcases List.mem_append.1 hb with hb | hb
      · have := hF b (List.mem_append_right _ hb); simp; omega
      · have := hF1 b hb; simp; omega
    · rintro q
      rcases List.mem_append.1 hb with hb | hb
      · rw [List.nodup_append] at nd
        exact nd.2.2 b (by rw [← q]; simp) b hb rfl
      · exact hd b hb (List.mem_append_left _ (by rw [← q]; simp))
  refine ⟨_, w', [g] ++ (Fs.flatten ++ F1), hr, ⟨css ++ [cs.toList], Fs ++ [F1], by simpa using r1, (o2.keep (fun b hb => hob b (List.mem_append_left _ hb))).append ⟨T.own_keep hx' (fun b hb => hob b (List.mem_append_right _ hb)), trivial⟩, by simp [Value.ownBlock]⟩, ?_, fun b hb => ?_, r2⟩
  · refine nodup_snoc nd nd1 hd (by simp) (fun b hb => ?_)
    simp only [List.mem_singleton] at hb
    subst hb
    rcases r3 with r3 | r3
    · left; rw [r3]; simp
    · right
      refine ⟨fun hb => ?_, fun hb => ?_⟩
      · have := hF _ (List.mem_append_right _ hb); simp at r3; omega
      · have := hF1 _ hb; simp at r3; omega
  · simp only [List.mem_append, List.mem_singleton] at hb ⊢
    rcases hb with rfl | hb | hb
    · rcases r3 with r3 | r3
      · left; left; rw [r3]; simp
      · right; right; rw [r3]; simp
    · exact .inl (.inr hb)
    · exact .inr (.inl hb)
theorem wpList_append_L {ops : Array Oper} {rest : List Oper} {o : Oper} {a : Act} {Q : Exit → Act → World → Prop} (s y : Operand) (hgd : o.guard = none) (t : TypeId)
    (ho : o.op = .call { callee := .builtin .append, args := #[s, y], argTypes := #[t, t] }) {e' : TypeId} {bytes : Nat} (hT : SlT P t e T.sz bytes) {cs : Array Value} {F1 : List Nat} {x : α} (hs : a.eval s = v) (hown : OwnL T e F w v l) (nd : F.Nodup)
    (hy : a.eval y = .slice (some ⟨w.heap.size, 0, none⟩) 1 1) (hx : T.own F1 w cs.toList x) (nd1 : F1.Nodup) (hd : ∀ b ∈ F1, b ∉ F)
    (hbytes : (l.length + 1) * bytes ≤ 140737488355328) (h63 : l.length + 1 ≤ maxLen)
    (h : ∀ v' w' F', OwnL T e F' w' v' (l ++ [x]) → F'.Nodup → (∀ b ∈ F', b ∈ F ∨ b ∈ F1 ∨ w.heap.size < b) → (w.alloc (.cells cs e')).grownBy w' v.ownBlock → wpList P ops Q rest (a.put o.dst v') w') : wpList P ops Q (o :: rest) a (w.alloc (.cells cs e')) :=
  wpList_plain hgd fun _ hK => by
    obtain ⟨v', w', F', hr, h2, h3, h4, h5⟩ := run_append_L (P := P) (ty := o.type) (e' := e') hT hown nd hx nd1 hd hbytes h63
    unfold Oper.wp execOp
    simp only [ho, resolve, invoke, builtin, Sem.run_bind, Sem.run_pure, Result.andThen_ok, List.map_toArray, List.map_cons, List.map_nil, hs, hy, hr]
    exact hK _ _ (h v' w' F' h2 h3 h4 h5)
end

/-- flat elements: an own slice is its block alone -/
theorem OwnL.ofOwn {B : Nat} (hF : ∀ {w w' : World} {cs : List Value} {x : α} {S : Nat → Prop}, T.is S w cs x → T.own [] w' cs x) (h : OwnSl T e B w v l) : OwnL T e v.ownBlock.toList w v l ∧ v.ownBlock.toList.Nodup ∧ ∀ b ∈ v.ownBlock.toList, B ≤ b := by
  have hlt := h.own_lt
  obtain ⟨css, h1, h2⟩ := h
  have key : ∀ (css : List (List Value)) (l : List α), AllIs T (fun k => k < w.heap.size ∧ some k ≠ v.ownBlock) w css l → ∃ Fs, AllOwn T w Fs css l ∧ Fs.flatten = [] := by
    intro css
    induction css with
    | nil => intro l h; match l, h with | [], _ => exact ⟨[], trivial, rfl⟩
    | cons c css ih =>
      intro l h
      match l, h with
      | x :: l, h =>
        obtain ⟨Fs, g1, g2⟩ := ih l h.2
        exact ⟨[] :: Fs, ⟨hF h.1, g1⟩, by simpa using g2⟩
  obtain ⟨Fs, g1, g2⟩ := key _ _ h2
  refine ⟨⟨css, Fs, ⟨h1.1, ?_⟩, g1, by rw [g2, List.append_nil]⟩, by cases v.ownBlock <;> simp, fun b hb => (hlt b (by simpa using hb)).1⟩
  rcases h1.2 with h | ⟨g, cap, cur, hv, hb, rest⟩
  · exact .inl h
  · exact .inr ⟨g, cap, cur, hv, Nat.zero_le _, rest⟩
/-- .. and back -/
theorem OwnL.to (h : OwnL T e F w v l) (nd : F.Nodup) {B : Nat} (hB : ∀ b ∈ F, B ≤ b) : OwnSl T e B w v l := by
  have hlt := h.lt
  obtain ⟨css, Fs, h1, h2, rfl⟩ := h
  refine ⟨css, ⟨h1.1, ?_⟩, AllIs.widen h2.is (fun k hk => ⟨hlt k (List.mem_append_right _ hk), fun e => ?_⟩)⟩
  · rcases h1.2 with h | ⟨g, cap, cur, rfl, hb, rest⟩
    · exact .inl h
    · exact .inr ⟨g, cap, cur, rfl, hB g (by simp [Value.ownBlock]), rest⟩
  · rw [List.nodup_append] at nd
    exact nd.2.2 k (by rw [← e]; simp) k hk rfl
/-- made from block B on: a slice, cells -/
def NewL (T : Ty α) (e : TypeId) (B : Nat) (w : World) (v : Value) (l : List α) : Prop := ∃ F, OwnL T e F w v l ∧ F.Nodup ∧ ∀ b ∈ F, B ≤ b
def New (T : Ty α) (B : Nat) (w : World) (cs : List Value) (x : α) : Prop := ∃ F, T.own F w cs x ∧ F.Nodup ∧ ∀ b ∈ F, B ≤ b
theorem NewL.sl {B : Nat} (h : NewL T e B w v l) : SlIs T (fun k => B ≤ k ∧ k < w.heap.size) w v l := by
  obtain ⟨F, h1, h2, h3⟩ := h
  exact h1.sl.keep (fun k hk => ⟨h3 k hk, h1.lt k hk⟩) (SameOn.refl _ _)
theorem NewL.sl' {B : Nat} (h : NewL T e B w v l) : SlIs T (· < w.heap.size) w v l := h.sl.keep (fun _ hk => hk.2) (SameOn.refl _ _)
theorem NewL.form {B : Nat} (h : NewL T e B w v l) : ∃ ao cap, v = .slice ao l.length cap ∧ l.length ≤ cap ∧ cap ≤ maxLen := by
  obtain ⟨F, h1, _⟩ := h
  exact h1.form
theorem NewL.mono {B B1 : Nat} (h : NewL T e B1 w v l) (hb : B ≤ B1) : NewL T e B w v l := by
  obtain ⟨F, h1, h2, h3⟩ := h
  exact ⟨F, h1, h2, fun b hb' => Nat.le_trans hb (h3 b hb')⟩
theorem NewL.below {B : Nat} (h : NewL T e B w v l) (hb : Below w.heap.size w w') : NewL T e B w' v l := by
  obtain ⟨F, h1, h2, h3⟩ := h
  exact ⟨F, h1.keep (fun b hb' => hb.block b (h1.lt b hb')), h2, h3⟩
theorem NewL.nil {B : Nat} : NewL T e B w (.slice none 0 0) ([] : List α) := ⟨[], OwnL.nil, List.nodup_nil, fun _ h => absurd h (List.not_mem_nil)⟩
theorem ownStr {w w' : World} {cs : List Value} {x : ByteArray} {S : Nat → Prop} (h : tStr.is S w cs x) : tStr.own [] w' cs x := ⟨rfl, h⟩
theorem ownInt {w w' : World} {cs : List Value} {x : Int} {S : Nat → Prop} (h : tInt.is S w cs x) : tInt.own [] w' cs x := ⟨rfl, h⟩
theorem ownBool {w w' : World} {cs : List Value} {x : Bool} {S : Nat → Prop} (h : tBool.is S w cs x) : tBool.own [] w' cs x := ⟨rfl, h⟩
theorem NewL.ofOwn {B B1 : Nat} (hF : ∀ {w w' : World} {cs : List Value} {x : α} {S : Nat → Prop}, T.is S w cs x → T.own [] w' cs x) (h : OwnSl T e B1 w v l) (hB : B ≤ B1) : NewL T e B w v l := by
  obtain ⟨h1, h2, h3⟩ := OwnL.ofOwn hF h
  exact ⟨_, h1, h2, fun b hb => Nat.le_trans hB (h3 b hb)⟩
/-- behind what only made memory and then wrote into blocks that are not looked at -/
theorem NewL.same {B : Nat} (h : NewL T e B w v l) (hw : SameOn (fun b => B ≤ b ∧ b < w.heap.size) w w') : NewL T e B w' v l := by
  obtain ⟨F, h1, h2, h3⟩ := h
  exact ⟨F, h1.keep (fun b hb' => hw b ⟨h3 b hb', h1.lt b hb'⟩), h2, h3⟩
theorem New.len {B : Nat} {cs : List Value} {x : α} (h : New T B w cs x) : cs.length = T.sz := by
  obtain ⟨F, h1, _⟩ := h
  exact T.len (T.own_is h1)
/-- 'out = append(out, x)': x made since world w1 -/
theorem wpList_append_new {P : Program} {ops : Array Oper} {rest : List Oper} {o : Oper} {a : Act} {Q : Exit → Act → World → Prop} (s y : Operand) (hgd : o.guard = none) (t : TypeId)
    (ho : o.op = .call { callee := .builtin .append, args := #[s, y], argTypes := #[t, t] }) {e' : TypeId} {bytes B : Nat} {w1 : World} (hT : SlT P t e T.sz bytes) {cs : Array Value} {x : α} (hs : a.eval s = v) (hown : NewL T e B w1 v l) (hb : Below w1.heap.size w1 w)
    (hy : a.eval y = .slice (some ⟨w.heap.size, 0, none⟩) 1 1) (hx : New T w1.heap.size w cs.toList x) (hbytes : (l.length + 1) * bytes ≤ 140737488355328) (h63 : l.length + 1 ≤ maxLen) (hB : B ≤ w1.heap.size)
    (h : ∀ v' w', NewL T e B w' v' (l ++ [x]) → Below B w w' → wpList P ops Q rest (a.put o.dst v') w') : wpList P ops Q (o :: rest) a (w.alloc (.cells cs e')) := by
  obtain ⟨F, h0, h2, h3⟩ := hown
  have hF := h0.lt
  have h1 : OwnL T e F w v l := h0.keep (fun b hb' => hb.block b (hF b hb'))
  obtain ⟨F1, x1, x2, x3⟩ := hx
  have hsz := hb.size
  refine wpList_append_L s y hgd t ho hT hs h1 h2 hy x1 x2 (fun b hb hb' => by have := x3 b hb; have := hF b hb'; omega) hbytes h63 fun v' w' F' g1 g2 g3 g4 => h v' w' ⟨F', g1, g2, fun b hb => ?_⟩ ?_
  · rcases g3 b hb with q | q | q
    · exact h3 b q
    · have := x3 b q; omega
    · omega
  · exact ((Below.refl _ _).alloc (by omega) _).trans (Below.of_grown g4 (by simp; omega) (fun k hk => h3 k (h1.blk k hk)))
end Go.Tw
/-
  Slices of the call's own: cut short. No program in sight.
-/
namespace Go.Tw
open Go.RowKit
variable {α : Type} {T : Ty α} {e : TypeId} {F : List Nat} {w w' : World} {v : Value} {l : List α}
theorem OwnL.formS (h : OwnL T e F w v l) (hl : 0 < l.length) : ∃ g cap, v = .slice (some ⟨g, 0, none⟩) l.length cap ∧ g ∈ F ∧ l.length ≤ cap ∧ cap ≤ maxLen := by
  obtain ⟨css, Fs, h1, h2, rfl⟩ := h
  rcases h1.2 with ⟨h, h'⟩ | ⟨g, cap, cur, rfl, _, _, h3, h4, _⟩
  · omega
  · exact ⟨g, cap, rfl, by simp [Value.ownBlock], h3, h4⟩
/-- s[:k] of a slice of the call's own -/
theorem OwnSl.take {B : Nat} {ao : Option Addr} {n cap k : Nat} (h : OwnSl T e B w (.slice ao n cap) l) (hk : k ≤ l.length) : OwnSl T e B w (.slice ao k cap) (l.take k) := by
  obtain ⟨css, h1, h2⟩ := h
  have key : ∀ (S : Nat → Prop) (k : Nat) (css : List (List Value)) (l : List α), AllIs T S w css l → k ≤ l.length → ∃ cst, AllIs T S w cst (l.take k) ∧ cst.flatten = css.flatten.take (k * T.sz) := by
    intro S k
    induction k with
    | zero => exact fun css l h hk => ⟨[], by rw [List.take_zero]; trivial, by simp⟩
    | succ k ih =>
      intro css l h hk
      match css, l, h with
      | c :: css, x :: l, h =>
        obtain ⟨cst, g1, g2⟩ := ih css l h.2 (by simpa using hk)
        refine ⟨c :: cst, ⟨h.1, g1⟩, ?_⟩
        have hc := T.len h.1
        rw [List.flatten_cons, List.flatten_cons, g2, Nat.succ_mul, Nat.add_comm, ← hc, List.take_length_add_append]
      | [], [], _ => simp at hk
  obtain ⟨cst, g1, g2⟩ := key _ _ _ _ h2 hk
  have hle : k * T.sz ≤ l.length * T.sz := Nat.mul_le_mul_right _ hk
  have hkl : (l.take k).length = k := by rw [List.length_take, Nat.min_eq_left hk]
  refine ⟨cst, ⟨by rw [g2, List.length_take, h1.1, hkl, Nat.min_eq_left hle], ?_⟩, ?_⟩
  · rcases h1.2 with ⟨h, h'⟩ | ⟨g, cap', cur, h, q1, q2, q3, q4, q5, q6⟩
    · simp only [Value.slice.injEq] at h
      obtain ⟨rfl, rfl, rfl⟩ := h
      exact .inl ⟨by rw [show k = 0 by omega], by omega⟩
    · simp only [Value.slice.injEq] at h
      obtain ⟨rfl, rfl, rfl⟩ := h
      refine .inr ⟨g, cap, cur, by rw [hkl], q1, q2, by omega, q4, q5, ?_⟩
      rw [hkl, g2, ← q6, List.take_take, Nat.min_eq_left hle]
  · rw [show (Value.slice ao k cap).ownBlock = (Value.slice ao n cap).ownBlock by cases ao <;> rfl]
    exact g1
end Go.Tw
