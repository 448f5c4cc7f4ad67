/-
  Layer 44 (recon) in plain Lean: deliveries, rounds, reconciliations; how large a partner may be.
-/
import Derived.Test.YtmjbbpappigngaaGreatMgJ
namespace Go.Tw.Exc
open Go.RowKit Go.Tw
noncomputable def delivC : Par → List Fil → List Bool → Par × Int
  | p, [], _ => (p, 0)
  | p, f :: fs, bs =>
    if bs.head? = some true then delivC p fs bs.tail
    else if (recvC p f).2 = 0 then delivC (recvC p f).1 fs bs.tail
    else if (recvC p f).2 = 31 then delivC p fs bs.tail
    else (p, (recvC p f).2)
theorem deliv_end {p : Par} {fs : List Fil} {bs : List Bool} {k : Nat} (h : fs.length ≤ k) : delivC p (fs.drop k) (bs.drop k) = (p, 0) := by
  rw [List.drop_eq_nil_of_le h]; unfold delivC; rfl
theorem deliv_lost {p : Par} {fs : List Fil} {bs : List Bool} {k : Nat} (hf : k < fs.length) (hk : k < bs.length) (hb : bs[k] = true) : delivC p (fs.drop k) (bs.drop k) = delivC p (fs.drop (k + 1)) (bs.drop (k + 1)) := by
  rw [List.drop_eq_getElem_cons hf, delivC, if_pos (by rw [List.drop_eq_getElem_cons hk, hb]; rfl), List.tail_drop]
theorem deliv_come {p : Par} {fs : List Fil} {bs : List Bool} {k : Nat} (hf : k < fs.length) (hb : ∀ h : k < bs.length, bs[k] = false) : delivC p (fs.drop k) (bs.drop k) =
    if (recvC p fs[k]).2 = 0 then delivC (recvC p fs[k]).1 (fs.drop (k + 1)) (bs.drop (k + 1)) else if (recvC p fs[k]).2 = 31 then delivC p (fs.drop (k + 1)) (bs.drop (k + 1)) else (p, (recvC p fs[k]).2) := by
  rw [List.drop_eq_getElem_cons hf, delivC, if_neg (fun e => by
    by_cases hk : k < bs.length
    · rw [List.drop_eq_getElem_cons hk, hb hk] at e; simp at e
    · rw [List.drop_eq_nil_of_le (by omega)] at e; simp at e), List.tail_drop]
theorem recv_ways (p : Par) (f : Fil) : (recvC p f).1 = p ∨ (recvC p f = ({ p with inn := p.inn + 1, thr := p.thr ++ f.rs }, 0) ∧ p.thr.length + f.rs.length ≤ 1024 ∧ checkC f = 0 ∧ f.sq = p.inn) := by
  unfold recvC
  by_cases h0 : checkC f ≠ 0
  · rw [if_pos h0]; exact .inl rfl
  rw [if_neg h0]
  by_cases h1 : f.fr ≠ p.nm
  · rw [if_pos h1]; exact .inl rfl
  rw [if_neg h1]
  by_cases h2 : p.inn < f.sq
  · rw [if_pos h2]; exact .inl rfl
  rw [if_neg h2]
  by_cases h3 : f.sq ≠ p.inn
  · rw [if_pos h3]; exact .inl rfl
  rw [if_neg h3]
  by_cases h4 : 1024 < p.thr.length + f.rs.length
  · rw [if_pos h4]; exact .inl rfl
  rw [if_neg h4]
  exact .inr ⟨rfl, by omega, by simpa using h0, by simpa using h3⟩
/-- a Go error number, refused or received: the partner is the old one wherever the number is not 0 -/
theorem recv_err {p : Par} {f : Fil} (h : (recvC p f).2 ≠ 0) : (recvC p f).1 = p := by
  rcases recv_ways p f with e | ⟨e, -⟩
  · exact e
  · rw [e] at h; exact absurd rfl h
def recsOf (fs : List Fil) : List Rec := fs.flatMap (·.rs)
theorem recsOf_cons (f : Fil) (fs : List Fil) : recsOf (f :: fs) = f.rs ++ recsOf fs := by unfold recsOf; rw [List.flatMap_cons]
theorem recsOf_append (a b : List Fil) : recsOf (a ++ b) = recsOf a ++ recsOf b := by unfold recsOf; rw [List.flatMap_append]
theorem deliv_keeps : ∀ (fs : List Fil) (p : Par) (bs : List Bool), (delivC p fs bs).1.nm = p.nm ∧ (delivC p fs bs).1.out = p.out ∧ (delivC p fs bs).1.ours = p.ours ∧ (delivC p fs bs).1.wt = p.wt ∧ p.inn ≤ (delivC p fs bs).1.inn ∧
    (delivC p fs bs).1.thr.length ≤ p.thr.length + (recsOf fs).length ∧ ∀ r ∈ (delivC p fs bs).1.thr, r ∈ p.thr ∨ r ∈ recsOf fs
  | [], p, bs => by unfold delivC; exact ⟨rfl, rfl, rfl, rfl, Int.le_refl _, Nat.le_add_right _ _, fun r h => .inl h⟩
  | f :: fs, p, bs => by
    rw [delivC, recsOf_cons]
    have up : ∀ {q : Par}, (q.nm = p.nm ∧ q.out = p.out ∧ q.ours = p.ours ∧ q.wt = p.wt ∧ p.inn ≤ q.inn ∧ q.thr.length ≤ p.thr.length + (recsOf fs).length ∧ ∀ r ∈ q.thr, r ∈ p.thr ∨ r ∈ recsOf fs) → q.nm = p.nm ∧ q.out = p.out ∧ q.ours = p.ours ∧ q.wt = p.wt ∧ p.inn ≤ q.inn ∧ q.thr.length ≤ p.thr.length + (f.rs ++ recsOf fs).length ∧ ∀ r ∈ q.thr, r ∈ p.thr ∨ r ∈ f.rs ++ recsOf fs := fun ⟨h1, h2, h3, h4, h5, h6, h7⟩ =>
      ⟨h1, h2, h3, h4, h5, by rw [List.length_append]; omega, fun r hr => by
        rcases h7 r hr with h | h
        · exact .inl h
        · exact .inr (List.mem_append_right _ h)⟩
    by_cases c1 : bs.head? = some true
    · rw [if_pos c1]; exact up (deliv_keeps fs p bs.tail)
    rw [if_neg c1]
    by_cases c2 : (recvC p f).2 = 0
    · rw [if_pos c2]
      rcases recv_ways p f with e | ⟨e, -⟩
      · rw [e]; exact up (deliv_keeps fs p bs.tail)
      · rw [e]
        obtain ⟨h1, h2, h3, h4, h5, h6, h7⟩ := deliv_keeps fs { p with inn := p.inn + 1, thr := p.thr ++ f.rs } bs.tail
        refine ⟨h1, h2, h3, h4, Int.le_trans (by show p.inn ≤ p.inn + 1; omega) h5, ?_, fun r hr => ?_⟩
        · have : (p.thr ++ f.rs).length = p.thr.length + f.rs.length := List.length_append
          have h6' : (delivC { p with inn := p.inn + 1, thr := p.thr ++ f.rs } fs bs.tail).1.thr.length ≤ (p.thr ++ f.rs).length + (recsOf fs).length := h6
          have e2 : (f.rs ++ recsOf fs).length = f.rs.length + (recsOf fs).length := List.length_append
          exact Nat.le_trans h6' (by omega)
        · rcases h7 r hr with h | h
          · rcases List.mem_append.1 h with h | h
            · exact .inl h
            · exact .inr (List.mem_append_left _ h)
          · exact .inr (List.mem_append_right _ h)
    rw [if_neg c2]
    by_cases c3 : (recvC p f).2 = 31
    · rw [if_pos c3]; exact up (deliv_keeps fs p bs.tail)
    · rw [if_neg c3]; exact ⟨rfl, rfl, rfl, rfl, Int.le_refl _, Nat.le_add_right _ _, fun r h => .inl h⟩
noncomputable def roundC (a b : Par) (bs : List Bool) : Par × Par × Int :=
  if (delivC b a.wt bs).2 ≠ 0 then (a, b, (delivC b a.wt bs).2)
  else if (delivC a b.wt (bs.drop a.wt.length)).2 ≠ 0 then (a, b, (delivC a b.wt (bs.drop a.wt.length)).2)
  else ((ackC (delivC a b.wt (bs.drop a.wt.length)).1 ((delivC b a.wt bs).1.inn - 1)).1, (ackC (delivC b a.wt bs).1 ((delivC a b.wt (bs.drop a.wt.length)).1.inn - 1)).1, 0)
theorem ack_keeps (p : Par) (s : Int) : (ackC p s).1.nm = p.nm ∧ (ackC p s).1.out = p.out ∧ (ackC p s).1.inn = p.inn ∧ (ackC p s).1.ours = p.ours ∧ (ackC p s).1.thr = p.thr ∧ ((ackC p s).1.wt = p.wt ∨ (ackC p s).1.wt = p.wt.filter fun f => decide (s < f.sq)) := by
  unfold ackC
  split
  · exact ⟨rfl, rfl, rfl, rfl, rfl, .inl rfl⟩
  · exact ⟨rfl, rfl, rfl, rfl, rfl, .inr rfl⟩
theorem recsOf_sub {l m : List Fil} (h : l.Sublist m) : (recsOf l).length ≤ (recsOf m).length ∧ ∀ r ∈ recsOf l, r ∈ recsOf m := by
  unfold recsOf
  induction h with
  | slnil => exact ⟨Nat.le_refl _, fun r h => h⟩
  | cons a h ih =>
    rw [List.flatMap_cons, List.length_append]
    exact ⟨by omega, fun r hr => List.mem_append_right _ (ih.2 r hr)⟩
  | cons_cons a h ih =>
    rw [List.flatMap_cons, List.flatMap_cons, List.length_append, List.length_append]
    exact ⟨by omega, fun r hr => by
      rcases List.mem_append.1 hr with h | h
      · exact List.mem_append_left _ h
      · exact List.mem_append_right _ (ih.2 r h)⟩
theorem ack_sub (p : Par) (s : Int) : (ackC p s).1.wt.Sublist p.wt := by
  rcases (ack_keeps p s).2.2.2.2.2 with h | h
  · rw [h]; exact List.Sublist.refl _
  · rw [h]; exact List.filter_sublist
end Go.Tw.Exc
namespace Go.Proofs.YtmjbbpappigngaaGreat
open Go.RowKit Go.Tw Go.Tw.Exc
theorem SmallP.recv {p : Par} (h : SmallP p) (f : Fil) : SmallP (recvC p f).1 := by
  rcases recv_ways p f with e | ⟨e, h2, -⟩
  · rw [e]; exact h
  · rw [e]; exact ⟨h.wt, h.rs, h.ours, by show (p.thr ++ f.rs).length ≤ _; rw [List.length_append]; omega⟩
theorem SmallP.deliv : ∀ {fs : List Fil} {p : Par} {bs : List Bool}, SmallP p → SmallP (delivC p fs bs).1
  | [], p, bs, h => by unfold delivC; exact h
  | f :: fs, p, bs, h => by
    rw [delivC]
    split
    · exact SmallP.deliv h
    · split
      · exact SmallP.deliv (h.recv f)
      · split
        · exact SmallP.deliv h
        · exact h
theorem SmallP.ack {p : Par} (h : SmallP p) (s : Int) : SmallP (ackC p s).1 := by
  obtain ⟨-, -, -, h4, h5, -⟩ := ack_keeps p s
  have hs := ack_sub p s
  exact ⟨Nat.le_trans hs.length_le h.wt, fun f hf => h.rs f (hs.subset hf), by rw [h4]; exact h.ours, by rw [h5]; exact h.thr⟩
theorem SmallP.send {p : Par} (h : SmallP p) (fr : ByteArray) (l : List Rec) : SmallP (sendC p fr l).1 := by
  rcases send_ways p fr l with ⟨e, -⟩ | e
  · rw [e]; exact h
  · have hc : checkC ⟨fr, p.nm, p.out, l⟩ = 0 ∧ ¬ (1024 ≤ p.wt.length ∨ 1024 < p.ours.length + l.length) := by
      unfold sendC at e
      split at e
      · rename_i q; have := congrArg (·.2.2) e; exact absurd this q
      · rename_i q
        split at e
        · have := congrArg (·.2.2) e; simp at this
        · rename_i q2; exact ⟨by simpa using q, q2⟩
    have h3 := (check_sq hc.1).2.2
    have h3' : l.length ≤ 1024 := h3
    rw [e]
    refine ⟨by show (p.wt ++ _).length ≤ _; rw [List.length_append, List.length_singleton]; omega, fun f hf => ?_, by show (p.ours ++ l).length ≤ _; rw [List.length_append]; omega, h.thr⟩
    rcases List.mem_append.1 hf with h' | h'
    · exact h.rs f h'
    · rw [List.mem_singleton.1 h']; show l.length ≤ _; omega
end Go.Proofs.YtmjbbpappigngaaGreat
/-
  Layer 44 (recon) in plain Lean: reconciliations; what is true of two partners after deeds.
-/
namespace Go.Tw.Exc
open Go.RowKit Go.Tw Go.Proofs.YtmjbbpappigngaaGreat
noncomputable def fixC (x : Par) (fr : ByteArray) (L : List Dif) : Par × Int := if L.length = 0 then (x, 0) else ((sendC x fr (correctC L)).1, (sendC x fr (correctC L)).2.2)
noncomputable def rec3 (a b : Par) (n : Int) (r : Par × Par × Int) : Par × Par × Int × Int :=
  if r.2.2 ≠ 0 then (a, b, 0, r.2.2) else if agreeC r.1 r.2.1 = false then (a, b, 0, 31) else (r.1, r.2.1, n, 0)
noncomputable def rec2 (a b : Par) (n : Int) (s t : Par × Int) : Par × Par × Int × Int :=
  if s.2 ≠ 0 then (a, b, 0, s.2) else if t.2 ≠ 0 then (a, b, 0, t.2) else rec3 a b n (roundC s.1 t.1 [])
noncomputable def rec1 (a b : Par) (r : Par × Par × Int) : Par × Par × Int × Int :=
  if r.2.2 ≠ 0 then (a, b, 0, r.2.2)
  else rec2 a b (((differC r.1.ours r.2.1.thr).length : Int) + ((differC r.2.1.ours r.1.thr).length : Int)) (fixC r.1 b.nm (differC r.1.ours r.2.1.thr)) (fixC r.2.1 a.nm (differC r.2.1.ours r.1.thr))
noncomputable def reconC (a b : Par) : Par × Par × Int × Int := rec1 a b (roundC a b [])

/-! ### Sizes -/
def FitR (r : Rec) : Prop := -1125899906842624 ≤ r.c ∧ r.c ≤ 1125899906842624
theorem right_fitR {r : Rec} (h : rightC r = 0) : FitR r := by
  unfold FitR
  unfold rightC at h
  split at h
  · cases h
  split at h
  · cases h
  split at h
  · cases h
  split at h
  · cases h
  split at h
  · split at h
    · cases h
    · omega
  split at h
  · cases h
  · rename_i q
    unfold fits at q
    simp only [Bool.and_eq_false_iff, decide_eq_false_iff_not] at q
    omega
theorem check_rights {f : Fil} (h : checkC f = 0) : rightsC f.rs = 0 := by
  unfold checkC at h
  split at h
  · rename_i q; exact absurd h q
  split at h
  · cases h
  split at h
  · rename_i q; exact absurd h q
  · rename_i q; simpa using q
theorem check_fit {f : Fil} (h : checkC f = 0) : ∀ r ∈ f.rs, FitR r := fun r hr => right_fitR (rights_ok (check_rights h) r hr)
theorem deliv_fit : ∀ (fs : List Fil) (p : Par) (bs : List Bool), (∀ r ∈ p.thr, FitR r) → ∀ r ∈ (delivC p fs bs).1.thr, FitR r
  | [], p, bs, h => by unfold delivC; exact h
  | f :: fs, p, bs, h => by
    rw [delivC]
    split
    · exact deliv_fit fs p bs.tail h
    split
    · refine deliv_fit fs _ bs.tail ?_
      rcases recv_ways p f with e | ⟨e, -, hc, -⟩
      · rw [e]; exact h
      · rw [e]
        intro r hr
        rcases List.mem_append.1 hr with hr | hr
        · exact h r hr
        · exact check_fit hc r hr
    split
    · exact deliv_fit fs p bs.tail h
    · exact h
/-- how large a partner is: at most k files wait, with at most k records; n records on our side, m on theirs; all in range -/
structure SzP (k n m : Nat) (p : Par) : Prop where
  wt : p.wt.length ≤ k
  rw : (recsOf p.wt).length ≤ k
  ours : p.ours.length ≤ n
  thr : p.thr.length ≤ m
  fo : ∀ r ∈ p.ours, FitR r
  ft : ∀ r ∈ p.thr, FitR r
  i0 : 0 ≤ p.inn
  i1 : p.inn ≤ m
  o0 : 0 ≤ p.out
  o1 : p.out ≤ n
theorem recsOf_mem {fs : List Fil} {f : Fil} (h : f ∈ fs) : f.rs.length ≤ (recsOf fs).length := by
  induction fs with
  | nil => cases h
  | cons g fs ih =>
    rw [recsOf_cons, List.length_append]
    rcases List.mem_cons.1 h with rfl | h
    · omega
    · have := ih h; omega
theorem SzP.small {k n m : Nat} {p : Par} (h : SzP k n m p) (hk : k ≤ 1000) (hn : n ≤ 1000) (hm : m ≤ 1000) : SmallP p :=
  ⟨Nat.le_trans h.wt (by omega), fun f hf => Nat.le_trans (recsOf_mem hf) (Nat.le_trans h.rw (by omega)), Nat.le_trans h.ours (by omega), Nat.le_trans h.thr (by omega)⟩
theorem SzP.so {k n m : Nat} {p : Par} (h : SzP k n m p) (hn : n ≤ 1000) : Small44 p.ours := ⟨Nat.le_trans h.ours hn, h.fo⟩
theorem SzP.st {k n m : Nat} {p : Par} (h : SzP k n m p) (hm : m ≤ 1000) : Small44 p.thr := ⟨Nat.le_trans h.thr hm, h.ft⟩
theorem SzP.up {k n m k' n' m' : Nat} {p : Par} (h : SzP k n m p) (hk : k ≤ k') (hn : n ≤ n') (hm : m ≤ m') : SzP k' n' m' p := ⟨Nat.le_trans h.wt hk, Nat.le_trans h.rw hk, Nat.le_trans h.ours hn, Nat.le_trans h.thr hm, h.fo, h.ft, h.i0, by have := h.i1; omega, h.o0, by have := h.o1; omega⟩
theorem SzP.i64 {k n m : Nat} {p : Par} (h : SzP k n m p) (hm : m ≤ 1000000) : i64ok (p.inn - 1) := by
  have h1 := h.i0
  have h2 := h.i1
  unfold i64ok
  omega
theorem deliv_inn : ∀ (fs : List Fil) (p : Par) (bs : List Bool), (delivC p fs bs).1.inn ≤ p.inn + fs.length
  | [], p, bs => by unfold delivC; simp
  | f :: fs, p, bs => by
    rw [delivC, List.length_cons]
    split
    · have := deliv_inn fs p bs.tail; omega
    split
    · rcases recv_ways p f with e | ⟨e, -⟩
      · rw [e]; have := deliv_inn fs p bs.tail; omega
      · rw [e]
        have := deliv_inn fs { p with inn := p.inn + 1, thr := p.thr ++ f.rs } bs.tail
        have h2 : (delivC { p with inn := p.inn + 1, thr := p.thr ++ f.rs } fs bs.tail).1.inn ≤ p.inn + 1 + fs.length := this
        show (delivC { p with inn := p.inn + 1, thr := p.thr ++ f.rs } fs bs.tail).1.inn ≤ _
        omega
    split
    · have := deliv_inn fs p bs.tail; omega
    · show p.inn ≤ _; omega
theorem SzP.deliv {k n m j : Nat} {p : Par} (h : SzP k n m p) {fs : List Fil} (hf : (recsOf fs).length ≤ j) (hl : fs.length ≤ j) (bs : List Bool) : SzP k n (m + j) (delivC p fs bs).1 := by
  obtain ⟨-, k2, k3, k4, k5, k6, -⟩ := deliv_keeps fs p bs
  have k7 := deliv_inn fs p bs
  have q1 := h.wt; have q2 := h.rw; have q3 := h.ours; have q4 := h.thr; have q5 := h.i0; have q6 := h.i1; have q7 := h.o0; have q8 := h.o1
  exact ⟨by rw [k4]; omega, by rw [k4]; omega, by rw [k3]; omega, by omega, by rw [k3]; exact h.fo, deliv_fit fs p bs h.ft, by omega, by omega, by rw [k2]; omega, by rw [k2]; omega⟩
theorem SzP.ack {k n m : Nat} {p : Par} (h : SzP k n m p) (s : Int) : SzP k n m (ackC p s).1 := by
  obtain ⟨-, k2, k3, k4, k5, -⟩ := ack_keeps p s
  have hs := ack_sub p s
  exact ⟨Nat.le_trans hs.length_le h.wt, Nat.le_trans (recsOf_sub hs).1 h.rw, by rw [k4]; exact h.ours, by rw [k5]; exact h.thr, by rw [k4]; exact h.fo, by rw [k5]; exact h.ft, by rw [k3]; exact h.i0, by rw [k3]; exact h.i1, by rw [k2]; exact h.o0, by rw [k2]; exact h.o1⟩
theorem SzP.round {k n m : Nat} {a b : Par} (ha : SzP k n m a) (hb : SzP k n m b) (bs : List Bool) : SzP k n (m + k) (roundC a b bs).1 ∧ SzP k n (m + k) (roundC a b bs).2.1 := by
  unfold roundC
  split
  · exact ⟨ha.up (by omega) (by omega) (by omega), hb.up (by omega) (by omega) (by omega)⟩
  split
  · exact ⟨ha.up (by omega) (by omega) (by omega), hb.up (by omega) (by omega) (by omega)⟩
  · exact ⟨(ha.deliv hb.rw hb.wt _).ack _, (hb.deliv ha.rw ha.wt _).ack _⟩
theorem recsOf_single (f : Fil) : recsOf [f] = f.rs := by unfold recsOf; simp
theorem SzP.send {k n m r : Nat} {p : Par} (h : SzP k n m p) (fr : ByteArray) {l : List Rec} (hl : l.length ≤ r) (h1 : 1 ≤ r) : SzP (k + r) (n + r) m (sendC p fr l).1 := by
  have q1 := h.wt; have q2 := h.rw; have q3 := h.ours; have q7 := h.o0; have q8 := h.o1
  by_cases hc : checkC ⟨fr, p.nm, p.out, l⟩ = 0
  · rcases send_ways p fr l with ⟨e, -⟩ | e
    · rw [e]; exact h.up (by omega) (by omega) (by omega)
    · rw [e]
      refine ⟨?_, ?_, ?_, h.thr, fun r hr => ?_, h.ft, h.i0, h.i1, by show 0 ≤ p.out + 1; omega, by show p.out + 1 ≤ _; omega⟩
      · show (p.wt ++ _).length ≤ _
        rw [List.length_append, List.length_singleton]; omega
      · show (recsOf (p.wt ++ _)).length ≤ _
        rw [recsOf_append, recsOf_single, List.length_append]
        show _ + l.length ≤ _
        omega
      · show (p.ours ++ l).length ≤ _
        rw [List.length_append]; omega
      · rcases List.mem_append.1 hr with hr | hr
        · exact h.fo r hr
        · exact check_fit hc r hr
  · have e : (sendC p fr l).1 = p := by unfold sendC; rw [if_pos hc]
    rw [e]; exact h.up (by omega) (by omega) (by omega)
theorem fkeys_length (l : List Rec) : (fkeys l).length ≤ l.length := by
  refine snocInd (p := fun l => (fkeys l).length ≤ l.length) (by simp [fkeys]) ?_ l
  intro l x ih
  rw [fkeys_snoc]
  split
  · rw [List.length_append]; omega
  · rw [List.length_append, List.length_append]; simp; omega
theorem differ_length (la lb : List Rec) : (differC la lb).length ≤ la.length + lb.length := by
  have h1 : (differC la lb).length ≤ (keysU la lb).length := List.length_filterMap_le _ _
  have h2 : (keysU la lb).length = (fkeys (la ++ lb)).length := by
    unfold keysU
    rw [List.length_map, List.length_mergeSort, List.length_map]
  have h3 := fkeys_length (la ++ lb)
  rw [List.length_append] at h3
  omega
theorem SzP.fix {k n m d : Nat} {p : Par} (h : SzP k n m p) (fr : ByteArray) {L : List Dif} (hl : L.length ≤ d) : SzP (k + 2 * d) (n + 2 * d) m (fixC p fr L).1 := by
  unfold fixC
  split
  · exact h.up (by omega) (by omega) (by omega)
  · have := correct_len L
    exact h.send fr (by omega) (by omega)

/-! ### Names -/
theorem round_nm (a b : Par) (bs : List Bool) : (roundC a b bs).1.nm = a.nm ∧ (roundC a b bs).2.1.nm = b.nm := by
  unfold roundC
  split
  · exact ⟨rfl, rfl⟩
  split
  · exact ⟨rfl, rfl⟩
  · exact ⟨(ack_keeps _ _).1.trans (deliv_keeps _ _ _).1, (ack_keeps _ _).1.trans (deliv_keeps _ _ _).1⟩
theorem fix_nm (x : Par) (fr : ByteArray) (L : List Dif) : (fixC x fr L).1.nm = x.nm := by
  unfold fixC
  split
  · rfl
  · rcases send_ways x fr (correctC L) with ⟨e, -⟩ | e
    · rw [e]
    · rw [e]

/-! ### Amounts -/
theorem mem_keysU (la lb : List Rec) (s : ByteArray) : s ∈ keysU la lb ↔ ∃ x ∈ la ++ lb, x.key = s := by
  rw [← fkeys_mem]
  unfold keysU
  rw [List.mem_map]
  constructor
  · rintro ⟨x, hx, rfl⟩
    have hx' := (List.mergeSort_perm _ _).mem_iff.1 hx
    obtain ⟨y, hy, rfl⟩ := List.mem_map.1 hx'
    rw [ofB_kb]; exact hy
  · intro h
    exact ⟨kb s, (List.mergeSort_perm _ _).mem_iff.2 (List.mem_map_of_mem h), ofB_kb s⟩
theorem amount_none {l : List Rec} {s : ByteArray} (h : ¬ ∃ x ∈ l, x.key = s) : amountC l s = 0 := by
  unfold amountC
  rw [List.filter_eq_nil_iff.2 (fun x hx => by simpa using fun e => h ⟨x, hx, e⟩)]
  rfl
theorem differ_none {la lb : List Rec} (h : (differC la lb).length = 0) (s : ByteArray) : amountC la s = amountC lb s := by
  by_cases hk : ∃ x ∈ la ++ lb, x.key = s
  · have hm := (mem_keysU la lb s).2 hk
    have h0 := List.eq_nil_of_length_eq_zero h
    unfold differC at h0
    rw [List.filterMap_eq_nil_iff] at h0
    have := h0 s hm
    by_cases e : amountC la s = amountC lb s
    · exact e
    · rw [if_neg e] at this; cases this
  · rw [amount_none (fun ⟨x, hx, e⟩ => hk ⟨x, List.mem_append_left _ hx, e⟩), amount_none (fun ⟨x, hx, e⟩ => hk ⟨x, List.mem_append_right _ hx, e⟩)]
theorem differ_self (l : List Rec) : differC l l = [] := by
  unfold differC
  rw [List.filterMap_eq_nil_iff]
  intro s _
  rw [if_pos rfl]
theorem agree_amounts {x y : Par} (h : agreeC x y = true) : (∀ s, amountC x.ours s = amountC y.thr s) ∧ ∀ s, amountC y.ours s = amountC x.thr s := by
  unfold agreeC at h
  simp only [Bool.and_eq_true, decide_eq_true_eq] at h
  exact ⟨differ_none h.1, differ_none h.2⟩
/-- a correction sets a key's amount to what we claim -/
theorem amount_corr (l : List Rec) (d : Dif) (s : ByteArray) : amountC (l ++ corr1 d) s = if d.key = s then d.o else amountC l s := by
  unfold corr1
  by_cases hz : d.o = 0
  · rw [if_pos hz, amount_snoc]
    by_cases e : d.key = s
    · rw [if_pos e, if_pos e, hz]; rfl
    · rw [if_neg e, if_neg e]
  · rw [if_neg hz]
    have : l ++ [(⟨3, d.key, 0, 0, 0⟩ : Rec), ⟨1, d.key, 0, d.o, 0⟩] = (l ++ [(⟨3, d.key, 0, 0, 0⟩ : Rec)]) ++ [⟨1, d.key, 0, d.o, 0⟩] := by simp
    rw [this, amount_snoc, amount_snoc]
    by_cases e : d.key = s
    · simp only [e, if_true]
      show (0 : Int) + d.o = d.o
      omega
    · simp only [e, if_false]
theorem amount_correct : ∀ (L : List Dif) (l : List Rec) (s : ByteArray), (∀ d ∈ L, d.o = amountC l d.key) → amountC (l ++ correctC L) s = amountC l s
  | [], l, s, _ => by unfold correctC; simp
  | d :: L, l, s, h => by
    have hd := h d (by simp)
    have e : l ++ correctC (d :: L) = (l ++ corr1 d) ++ correctC L := by unfold correctC; rw [List.flatMap_cons, List.append_assoc]
    have key : ∀ t, amountC (l ++ corr1 d) t = amountC l t := fun t => by
      rw [amount_corr]
      split
      · rename_i q; rw [hd, q]
      · rfl
    rw [e, amount_correct L (l ++ corr1 d) s (fun d' hd' => by rw [key]; exact h d' (by simp [hd'])), key]
theorem differ_ours {la lb : List Rec} {d : Dif} (h : d ∈ differC la lb) : d.o = amountC la d.key := by
  unfold differC at h
  obtain ⟨s, -, hs⟩ := List.mem_filterMap.1 h
  split at hs
  · cases hs
  · cases hs; rfl
theorem fix_ours (x : Par) (fr : ByteArray) (lb : List Rec) (s : ByteArray) : amountC (fixC x fr (differC x.ours lb)).1.ours s = amountC x.ours s := by
  unfold fixC
  split
  · rfl
  · rcases send_ways x fr (correctC (differC x.ours lb)) with ⟨e, -⟩ | e
    · rw [e]
    · rw [e]
      exact amount_correct _ _ _ fun d hd => differ_ours hd
theorem round_ours (a b : Par) (bs : List Bool) : (roundC a b bs).1.ours = a.ours ∧ (roundC a b bs).2.1.ours = b.ours := by
  unfold roundC
  split
  · exact ⟨rfl, rfl⟩
  split
  · exact ⟨rfl, rfl⟩
  · exact ⟨(ack_keeps _ _).2.2.2.1.trans (deliv_keeps _ _ _).2.2.1, (ack_keeps _ _).2.2.2.1.trans (deliv_keeps _ _ _).2.2.1⟩
/-- after a reconciliation without error both sides agree on what each side claimed -/
theorem recon_amounts {a b : Par} (h : (reconC a b).2.2.2 = 0) : agreeC (reconC a b).1 (reconC a b).2.1 = true ∧ (∀ s, amountC (reconC a b).2.1.thr s = amountC a.ours s) ∧ ∀ s, amountC (reconC a b).1.thr s = amountC b.ours s := by
  unfold reconC rec1 at h ⊢
  by_cases h1 : (roundC a b []).2.2 ≠ 0
  · rw [if_pos h1] at h; exact absurd h h1
  rw [if_neg h1] at h ⊢
  obtain ⟨r1, r2⟩ := round_ours a b []
  revert h r1 r2
  generalize roundC a b [] = r
  intro h r1 r2
  have f1 := fix_ours r.1 b.nm r.2.1.thr
  have f2 := fix_ours r.2.1 a.nm r.1.thr
  revert h f1 f2
  generalize fixC r.1 b.nm (differC r.1.ours r.2.1.thr) = s
  generalize fixC r.2.1 a.nm (differC r.2.1.ours r.1.thr) = t
  intro h f1 f2
  unfold rec2 at h ⊢
  by_cases h2 : s.2 ≠ 0
  · rw [if_pos h2] at h; exact absurd h h2
  rw [if_neg h2] at h ⊢
  by_cases h3 : t.2 ≠ 0
  · rw [if_pos h3] at h; exact absurd h h3
  rw [if_neg h3] at h ⊢
  obtain ⟨q1, q2⟩ := round_ours s.1 t.1 []
  revert h q1 q2
  generalize roundC s.1 t.1 [] = u
  intro h q1 q2
  unfold rec3 at h ⊢
  by_cases h4 : u.2.2 ≠ 0
  · rw [if_pos h4] at h; exact absurd h h4
  rw [if_neg h4] at h ⊢
  by_cases h5 : agreeC u.1 u.2.1 = false
  · rw [if_pos h5] at h; exact absurd h (by show (31 : Int) ≠ 0; decide)
  rw [if_neg h5] at h ⊢
  have ha : agreeC u.1 u.2.1 = true := by simpa using h5
  obtain ⟨a1, a2⟩ := agree_amounts ha
  refine ⟨ha, fun x => ?_, fun x => ?_⟩
  · show amountC u.2.1.thr x = _
    rw [← a1, q1, f1, r1]
  · show amountC u.1.thr x = _
    rw [← a2, q2, f2, r2]
theorem sumZ_append (a b : List Int) : sumZ (a ++ b) = sumZ a + sumZ b := by
  refine snocInd (p := fun b => sumZ (a ++ b) = sumZ a + sumZ b) ?_ ?_ b
  · rw [List.append_nil]; show _ = sumZ a + 0; omega
  · intro b x ih
    rw [← List.append_assoc, sumZ_snoc, sumZ_snoc, ih]; omega
theorem sumZ_zeros (l : List Int) (h : ∀ x ∈ l, x = 0) : sumZ l = 0 := by
  revert h
  refine snocInd (p := fun l => (∀ x ∈ l, x = 0) → sumZ l = 0) (fun _ => rfl) (fun l x ih hh => ?_) l
  rw [sumZ_snoc, ih (fun y hy => hh y (by simp [hy])), hh x (by simp)]
  rfl
theorem claim_wide (l m : List Rec) : claimC l = sumZ ((fkeys (l ++ m)).map (amountC l)) := by
  rw [claim_fkeys]
  obtain ⟨c, hc⟩ := fkeys_prefix l m
  have hn := fkeys_nodup (l ++ m)
  rw [hc] at hn ⊢
  rw [List.map_append, sumZ_append, sumZ_zeros (c.map (amountC l)) (fun x hx => ?_)]
  · omega
  · obtain ⟨y, hy, rfl⟩ := List.mem_map.1 hx
    refine amount_none fun q => ?_
    exact (List.nodup_append.1 hn).2.2 _ ((fkeys_mem l y).2 q) _ hy rfl
theorem claim_same {l m : List Rec} (h : ∀ s, amountC l s = amountC m s) : claimC l = claimC m := by
  rw [claim_wide l m, claim_wide m l]
  refine sumZ_perm ?_
  have e : amountC l = amountC m := funext h
  rw [e]
  refine List.Perm.map _ ((List.perm_ext_iff_of_nodup (fkeys_nodup _) (fkeys_nodup _)).2 fun y => ?_)
  rw [fkeys_mem, fkeys_mem]
  constructor
  · rintro ⟨x, hx, e⟩; exact ⟨x, by simpa [or_comm] using hx, e⟩
  · rintro ⟨x, hx, e⟩; exact ⟨x, by simpa [or_comm] using hx, e⟩
end Go.Tw.Exc
/-
  Layer 44 (recon) in plain Lean: two partners after deeds.
-/
namespace Go.Tw.Exc
open Go.RowKit Go.Tw Go.Proofs.YtmjbbpappigngaaGreat
/-- one direction: the files F that s has sent; r has them up to k, those from j on wait -/
structure Dir (n : Nat) (F : List Fil) (sn : ByteArray) (s r : Par) : Prop where
  out : s.out = (F.length : Int) + 1
  sq : ∀ i (h : i < F.length), F[i].sq = (i : Int) + 1
  fr : ∀ f ∈ F, f.fr = sn
  ck : ∀ f ∈ F, checkC f = 0
  rs : ∀ f ∈ F, f.rs.length ≤ 6
  len : F.length ≤ n
  ours : s.ours = recsOf F
  got : ∃ k j : Nat, r.inn = (k : Int) + 1 ∧ k ≤ F.length ∧ r.thr = recsOf (F.take k) ∧ j ≤ k ∧ s.wt = F.drop j
theorem Dir.same {n : Nat} {F : List Fil} {sn : ByteArray} {s r s' r' : Par} (h : Dir n F sn s r) (h1 : s'.out = s.out) (h2 : s'.ours = s.ours) (h3 : s'.wt = s.wt) (h4 : r'.inn = r.inn) (h5 : r'.thr = r.thr) : Dir n F sn s' r' :=
  ⟨h1.trans h.out, h.sq, h.fr, h.ck, h.rs, h.len, h2.trans h.ours, by obtain ⟨k, j, g1, g2, g3, g4, g5⟩ := h.got; exact ⟨k, j, h4.trans g1, g2, h5.trans g3, g4, h3.trans g5⟩⟩
theorem Dir.up {n m : Nat} {F : List Fil} {sn : ByteArray} {s r : Par} (h : Dir n F sn s r) (hm : n ≤ m) : Dir m F sn s r := ⟨h.out, h.sq, h.fr, h.ck, h.rs, Nat.le_trans h.len hm, h.ours, h.got⟩
theorem recsOf_le6 : ∀ (F : List Fil), (∀ f ∈ F, f.rs.length ≤ 6) → (recsOf F).length ≤ 6 * F.length
  | [], _ => by simp [recsOf]
  | f :: F, h => by
    have ih := recsOf_le6 F (fun g hg => h g (by simp [hg]))
    have := h f (by simp)
    rw [recsOf_cons, List.length_append, List.length_cons]
    omega
theorem recsOf_fit {F : List Fil} (h : ∀ f ∈ F, checkC f = 0) : ∀ r ∈ recsOf F, FitR r := fun r hr => by
  unfold recsOf at hr
  obtain ⟨f, hf, hr⟩ := List.mem_flatMap.1 hr
  exact check_fit (h f hf) r hr
theorem Dir.rl {n : Nat} {F : List Fil} {sn : ByteArray} {s r : Par} (h : Dir n F sn s r) : (recsOf F).length ≤ 6 * n := Nat.le_trans (recsOf_le6 F h.rs) (by have := h.len; omega)
/-- deliveries: nothing is refused; without losses all comes -/
theorem deliv_dir {n : Nat} {F : List Fil} {sn : ByteArray} {s r0 : Par} (h : Dir n F sn s r0) (hn : n ≤ 100) : ∀ (d i k : Nat) (r : Par) (bs : List Bool), i + d = F.length → k ≤ F.length → r.nm = sn → r.inn = (k : Int) + 1 → r.thr = recsOf (F.take k) →
    ∃ k', k ≤ k' ∧ k' ≤ F.length ∧ (bs = [] → i ≤ k → k' = F.length) ∧ (delivC r (F.drop i) bs).2 = 0 ∧ (delivC r (F.drop i) bs).1.inn = (k' : Int) + 1 ∧ (delivC r (F.drop i) bs).1.thr = recsOf (F.take k')
  | 0, i, k, r, bs, hi, hk, hnm, h1, h2 => by
    rw [List.drop_eq_nil_of_le (by omega), delivC]
    exact ⟨k, Nat.le_refl _, hk, fun _ hik => by omega, rfl, h1, h2⟩
  | d + 1, i, k, r, bs, hi, hk, hnm, h1, h2 => by
    have hlt : i < F.length := by omega
    have hc := h.ck _ (List.getElem_mem hlt)
    have hf := h.fr _ (List.getElem_mem hlt)
    have hs := h.sq i hlt
    rw [List.drop_eq_getElem_cons hlt, delivC]
    by_cases c1 : bs.head? = some true
    · rw [if_pos c1]
      obtain ⟨k', g1, g2, g3, g4, g5, g6⟩ := deliv_dir h hn d (i + 1) k r bs.tail (by omega) hk hnm h1 h2
      exact ⟨k', g1, g2, (fun e => by rw [e] at c1; cases c1), g4, g5, g6⟩
    rw [if_neg c1]
    have e0 : recvC r F[i] = if r.inn < F[i].sq then (r, 31) else if F[i].sq ≠ r.inn then (r, 0) else if 1024 < r.thr.length + F[i].rs.length then (r, 3) else ({ r with inn := r.inn + 1, thr := r.thr ++ F[i].rs }, 0) := by
      unfold recvC
      rw [if_neg (by simp [hc]), if_neg (by rw [hf, hnm]; simp)]
    rcases Nat.lt_trichotomy i k with q | q | q
    · have e1 : recvC r F[i] = (r, 0) := by rw [e0, if_neg (by omega), if_pos (by omega)]
      rw [e1, if_pos rfl]
      obtain ⟨k', g1, g2, g3, g4, g5, g6⟩ := deliv_dir h hn d (i + 1) k r bs.tail (by omega) hk hnm h1 h2
      exact ⟨k', g1, g2, fun e _ => g3 (by rw [e]; rfl) (by omega), g4, g5, g6⟩
    · subst q
      have ht : recsOf (F.take i) ++ F[i].rs = recsOf (F.take (i + 1)) := by rw [List.take_succ_eq_append_getElem hlt, recsOf_append, recsOf_single]
      have hsz : ¬ 1024 < r.thr.length + F[i].rs.length := by
        have h3 := (recsOf_sub (List.take_sublist (i + 1) F)).1
        rw [← ht, List.length_append, ← h2] at h3
        have h4 := h.rl
        omega
      have e1 : recvC r F[i] = ({ r with inn := r.inn + 1, thr := r.thr ++ F[i].rs }, 0) := by rw [e0, if_neg (by omega), if_neg (by omega), if_neg hsz]
      rw [e1, if_pos rfl]
      obtain ⟨k', g1, g2, g3, g4, g5, g6⟩ := deliv_dir h hn d (i + 1) (i + 1) { r with inn := r.inn + 1, thr := r.thr ++ F[i].rs } bs.tail (by omega) (by omega) hnm (by show r.inn + 1 = _; rw [h1]; simp) (by show r.thr ++ F[i].rs = _; rw [h2, ht])
      exact ⟨k', by omega, g2, fun e _ => g3 (by rw [e]; rfl) (Nat.le_refl _), g4, g5, g6⟩
    · have e1 : recvC r F[i] = (r, 31) := by rw [e0, if_pos (by omega)]
      rw [e1, if_neg (show ¬ (31 : Int) = 0 by decide), if_pos rfl]
      obtain ⟨k', g1, g2, g3, g4, g5, g6⟩ := deliv_dir h hn d (i + 1) k r bs.tail (by omega) hk hnm h1 h2
      exact ⟨k', g1, g2, fun _ hik => by omega, g4, g5, g6⟩
theorem Dir.deliv {n : Nat} {F : List Fil} {sn : ByteArray} {s r : Par} (h : Dir n F sn s r) (hn : n ≤ 100) (hnm : r.nm = sn) (bs : List Bool) :
    (delivC r s.wt bs).2 = 0 ∧ Dir n F sn s (delivC r s.wt bs).1 ∧ (bs = [] → (delivC r s.wt bs).1.thr = s.ours) := by
  obtain ⟨k, j, g1, g2, g3, g4, g5⟩ := h.got
  obtain ⟨k', q1, q2, q3, q4, q5, q6⟩ := deliv_dir h hn (F.length - j) j k r bs (by omega) g2 hnm g1 g3
  rw [g5]
  refine ⟨q4, ⟨h.out, h.sq, h.fr, h.ck, h.rs, h.len, h.ours, k', j, q5, q2, q6, by omega, g5⟩, fun e => ?_⟩
  rw [q6, h.ours, q3 e g4, List.take_length]
theorem Dir.ack {n : Nat} {F : List Fil} {sn : ByteArray} {s r : Par} (h : Dir n F sn s r) : Dir n F sn (ackC s (r.inn - 1)).1 r := by
  obtain ⟨k, j, g1, g2, g3, g4, g5⟩ := h.got
  have ho := h.out
  have e : ackC s (r.inn - 1) = ({ s with wt := s.wt.filter fun f => decide (r.inn - 1 < f.sq) }, 0) := by unfold ackC; rw [if_neg (by omega)]
  have hs : ∀ i (hi : i < (F.drop j).length), (F.drop j)[i].sq = ((j : Int) + 1) + i := fun i hi => by
    rw [List.getElem_drop, h.sq]; omega
  rw [e]
  refine ⟨h.out, h.sq, h.fr, h.ck, h.rs, h.len, h.ours, k, k, g1, g2, g3, Nat.le_refl _, ?_⟩
  show s.wt.filter _ = _
  rw [g5, filter_seq (F.drop j) ((j : Int) + 1) (r.inn - 1) hs, List.drop_drop]
  congr 1
  omega
theorem Dir.send {n : Nat} {F : List Fil} {sn : ByteArray} {s r : Par} (h : Dir n F sn s r) {l : List Rec} (hl : l.length ≤ 6) : ∃ F', Dir (n + 1) F' sn (sendC s sn l).1 r := by
  by_cases hc : checkC ⟨sn, s.nm, s.out, l⟩ = 0
  · rcases send_ways s sn l with ⟨e, -⟩ | e
    · rw [e]; exact ⟨F, h.up (by omega)⟩
    · rw [e]
      have ho := h.out
      obtain ⟨k, j, g1, g2, g3, g4, g5⟩ := h.got
      refine ⟨F ++ [⟨sn, s.nm, s.out, l⟩], ?_, fun i hi => ?_, fun f hf => ?_, fun f hf => ?_, fun f hf => ?_, ?_, ?_, k, j, g1, ?_, ?_, g4, ?_⟩
      · show s.out + 1 = _
        rw [List.length_append]; simp; omega
      · by_cases q : i < F.length
        · rw [List.getElem_append_left q]; exact h.sq i q
        · have hi' : i < F.length + 1 := by simpa using hi
          obtain rfl : i = F.length := by omega
          rw [List.getElem_append_right (Nat.le_refl _)]
          simp
          exact ho
      · rcases List.mem_append.1 hf with hf | hf
        · exact h.fr f hf
        · rw [List.mem_singleton.1 hf]
      · rcases List.mem_append.1 hf with hf | hf
        · exact h.ck f hf
        · rw [List.mem_singleton.1 hf]; exact hc
      · rcases List.mem_append.1 hf with hf | hf
        · exact h.rs f hf
        · rw [List.mem_singleton.1 hf]; exact hl
      · rw [List.length_append]; have := h.len; simp; omega
      · show s.ours ++ l = _
        rw [h.ours, recsOf_append, recsOf_single]
      · rw [List.length_append]; omega
      · rw [List.take_append_of_le_length g2]; exact g3
      · show s.wt ++ _ = _
        rw [g5, List.drop_append_of_le_length (by omega)]
  · have e : (sendC s sn l).1 = s := by unfold sendC; rw [if_pos hc]
    rw [e]; exact ⟨F, h.up (by omega)⟩
def sAAA : ByteArray := ⟨#[97, 97, 97]⟩
def sBBB : ByteArray := ⟨#[98, 98, 98]⟩
structure St (n : Nat) (a b : Par) : Prop where
  na : a.nm = sBBB
  nb : b.nm = sAAA
  ab : ∃ F, Dir n F sAAA a b
  ba : ∃ F, Dir n F sBBB b a
theorem dir_zero {sn x y : ByteArray} : Dir 0 [] sn ⟨x, 1, 1, [], [], []⟩ ⟨y, 1, 1, [], [], []⟩ :=
  ⟨rfl, fun i h => by simp at h, fun f h => by simp at h, fun f h => by simp at h, fun f h => by simp at h, Nat.le_refl _, rfl, 0, 0, rfl, Nat.le_refl _, rfl, Nat.le_refl _, rfl⟩
theorem st_zero : St 0 ⟨sBBB, 1, 1, [], [], []⟩ ⟨sAAA, 1, 1, [], [], []⟩ := ⟨rfl, rfl, ⟨[], dir_zero⟩, ⟨[], dir_zero⟩⟩
theorem St.round {n : Nat} {a b : Par} (h : St n a b) (hn : n ≤ 100) (bs : List Bool) : (roundC a b bs).2.2 = 0 ∧ St n (roundC a b bs).1 (roundC a b bs).2.1 ∧ (bs = [] → (roundC a b bs).2.1.thr = a.ours ∧ (roundC a b bs).1.thr = b.ours) := by
  obtain ⟨F, hF⟩ := h.ab
  obtain ⟨G, hG⟩ := h.ba
  obtain ⟨d1, d2, d3⟩ := hF.deliv hn h.nb bs
  obtain ⟨e1, e2, e3⟩ := hG.deliv hn h.na (bs.drop a.wt.length)
  obtain ⟨k1, k2, k3, k4, -⟩ := deliv_keeps a.wt b bs
  obtain ⟨m1, m2, m3, m4, -⟩ := deliv_keeps b.wt a (bs.drop a.wt.length)
  unfold roundC
  rw [if_neg (by simp [d1]), if_neg (by simp [e1])]
  revert d2 d3 e2 e3 k1 k2 k3 k4 m1 m2 m3 m4
  generalize (delivC b a.wt bs).1 = y
  generalize (delivC a b.wt (bs.drop a.wt.length)).1 = x
  intro d2 d3 e2 e3 k1 k2 k3 k4 m1 m2 m3 m4
  obtain ⟨p1, p2, p3, p4, p5, -⟩ := ack_keeps x (y.inn - 1)
  obtain ⟨q1, q2, q3, q4, q5, -⟩ := ack_keeps y (x.inn - 1)
  have hx : Dir n F sAAA x y := d2.same m2 m3 m4 rfl rfl
  have hy : Dir n G sBBB y x := e2.same k2 k3 k4 rfl rfl
  refine ⟨rfl, ⟨p1.trans (m1.trans h.na), q1.trans (k1.trans h.nb), ⟨F, (hx.ack).same rfl rfl rfl q3 q5⟩, ⟨G, (hy.ack).same rfl rfl rfl p3 p5⟩⟩, fun e => ⟨?_, ?_⟩⟩
  · show (ackC y (x.inn - 1)).1.thr = _
    rw [q5, d3 e]
  · show (ackC x (y.inn - 1)).1.thr = _
    rw [p5, e3 (by rw [e]; simp)]
theorem St.recon {n : Nat} {a b : Par} (h : St n a b) (hn : n ≤ 100) : (reconC a b).2.2.1 = 0 ∧ (reconC a b).2.2.2 = 0 ∧ agreeC (reconC a b).1 (reconC a b).2.1 = true := by
  obtain ⟨h1, h2, h3⟩ := h.round hn []
  obtain ⟨o1, o2⟩ := round_ours a b []
  obtain ⟨t1, t2⟩ := h3 rfl
  unfold reconC rec1
  rw [if_neg (by simp [h1])]
  revert h2 o1 o2 t1 t2
  generalize roundC a b [] = r
  intro h2 o1 o2 t1 t2
  have d1 : differC r.1.ours r.2.1.thr = [] := by rw [o1, t1]; exact differ_self _
  have d2 : differC r.2.1.ours r.1.thr = [] := by rw [o2, t2]; exact differ_self _
  have f1 : fixC r.1 b.nm [] = (r.1, 0) := by unfold fixC; rw [if_pos List.length_nil]
  have f2 : fixC r.2.1 a.nm [] = (r.2.1, 0) := by unfold fixC; rw [if_pos List.length_nil]
  rw [d1, d2, f1, f2]
  unfold rec2
  rw [if_neg (by simp), if_neg (by simp)]
  obtain ⟨u1, u2, u3⟩ := h2.round hn []
  obtain ⟨v1, v2⟩ := round_ours r.1 r.2.1 []
  obtain ⟨w1, w2⟩ := u3 rfl
  show (rec3 a b 0 (roundC r.1 r.2.1 [])).2.2.1 = 0 ∧ (rec3 a b 0 (roundC r.1 r.2.1 [])).2.2.2 = 0 ∧ agreeC (rec3 a b 0 (roundC r.1 r.2.1 [])).1 (rec3 a b 0 (roundC r.1 r.2.1 [])).2.1 = true
  unfold rec3
  rw [if_neg (by simp [u1])]
  revert v1 v2 w1 w2
  generalize roundC r.1 r.2.1 [] = u
  intro v1 v2 w1 w2
  have ha : agreeC u.1 u.2.1 = true := by
    unfold agreeC
    rw [v1, w1, v2, w2, differ_self, differ_self]
    rfl
  rw [if_neg (by simp [ha])]
  exact ⟨rfl, rfl, ha⟩
structure Deed where
  side : Int
  rs : List Rec
  lost : List Bool
noncomputable def stepC (s : Par × Par) (d : Deed) : Par × Par :=
  if d.side = 0 then (if (sendC s.1 sAAA d.rs).2.2 = 0 then ((sendC s.1 sAAA d.rs).1, s.2) else s)
  else if d.side = 1 then (if (sendC s.2 sBBB d.rs).2.2 = 0 then (s.1, (sendC s.2 sBBB d.rs).1) else s)
  else if (roundC s.1 s.2 d.lost).2.2 = 0 then ((roundC s.1 s.2 d.lost).1, (roundC s.1 s.2 d.lost).2.1) else s
noncomputable def runC (l : List Deed) : Par × Par := l.foldl stepC (⟨sBBB, 1, 1, [], [], []⟩, ⟨sAAA, 1, 1, [], [], []⟩)
noncomputable def freshC (l : List Deed) : Par × Par := runC (l.take 8)
theorem run_snoc {l : List Deed} {k : Nat} (h : k < l.length) : runC (l.take (k + 1)) = stepC (runC (l.take k)) l[k] := by
  rw [List.take_succ_eq_append_getElem h]
  unfold runC
  rw [List.foldl_append]
  rfl
theorem St.up {n m : Nat} {a b : Par} (h : St n a b) (hm : n ≤ m) : St m a b := by
  obtain ⟨F, hF⟩ := h.ab
  obtain ⟨G, hG⟩ := h.ba
  exact ⟨h.na, h.nb, ⟨F, hF.up hm⟩, ⟨G, hG.up hm⟩⟩
theorem send_keep (p : Par) (fr : ByteArray) (l : List Rec) : (sendC p fr l).1.nm = p.nm ∧ (sendC p fr l).1.inn = p.inn ∧ (sendC p fr l).1.thr = p.thr := by
  rcases send_ways p fr l with ⟨e, -⟩ | e
  · rw [e]; exact ⟨rfl, rfl, rfl⟩
  · rw [e]; exact ⟨rfl, rfl, rfl⟩
theorem St.step {n : Nat} {s : Par × Par} (h : St n s.1 s.2) (hn : n ≤ 100) (d : Deed) (hd : d.rs.length ≤ 6) : St (n + 1) (stepC s d).1 (stepC s d).2 := by
  obtain ⟨F, hF⟩ := h.ab
  obtain ⟨G, hG⟩ := h.ba
  unfold stepC
  split
  · split
    · obtain ⟨F', hF'⟩ := hF.send hd
      obtain ⟨k1, k2, k3⟩ := send_keep s.1 sAAA d.rs
      exact ⟨k1.trans h.na, h.nb, ⟨F', hF'⟩, ⟨G, (hG.up (by omega)).same rfl rfl rfl k2 k3⟩⟩
    · exact h.up (by omega)
  split
  · split
    · obtain ⟨G', hG'⟩ := hG.send hd
      obtain ⟨k1, k2, k3⟩ := send_keep s.2 sBBB d.rs
      exact ⟨h.na, k1.trans h.nb, ⟨F, (hF.up (by omega)).same rfl rfl rfl k2 k3⟩, ⟨G', hG'⟩⟩
    · exact h.up (by omega)
  · split
    · exact ((h.round hn d.lost).2.1).up (by omega)
    · exact h.up (by omega)
theorem run_st {l : List Deed} (hl : ∀ d ∈ l, d.rs.length ≤ 6) : ∀ k, k ≤ 100 → k ≤ l.length → St k (runC (l.take k)).1 (runC (l.take k)).2
  | 0, _, _ => st_zero
  | k + 1, h1, h2 => by
    rw [run_snoc (by omega)]
    exact (run_st hl k (by omega) (by omega)).step (by omega) _ (hl _ (List.getElem_mem _))
theorem fresh_st {l : List Deed} (hl : ∀ d ∈ l, d.rs.length ≤ 6) : St 8 (freshC l).1 (freshC l).2 := by
  unfold freshC
  rcases Nat.lt_or_ge l.length 8 with q | q
  · have h := run_st hl l.length (by omega) (Nat.le_refl _)
    rw [List.take_length] at h
    rw [List.take_of_length_le (by omega)]
    exact h.up (by omega)
  · exact run_st hl 8 (by omega) q
theorem St.sz {n : Nat} {a b : Par} (h : St n a b) (hn : n ≤ 8) : SzP 48 48 48 a ∧ SzP 48 48 48 b := by
  have one : ∀ {F G : List Fil} {x y : ByteArray} {s r : Par}, Dir n F x s r → Dir n G y r s → SzP 48 48 48 s := fun {F G x y s r} hF hG => by
    obtain ⟨k, j, g1, g2, g3, g4, g5⟩ := hF.got
    obtain ⟨k', j', g1', g2', g3', g4', g5'⟩ := hG.got
    have l1 := hF.len
    have l2 := hG.len
    have r1 := hF.rl
    have r2 := hG.rl
    have o1 := hF.out
    refine ⟨?_, ?_, ?_, ?_, ?_, ?_, by omega, by omega, by omega, by omega⟩
    · rw [g5, List.length_drop]; omega
    · rw [g5]; have := (recsOf_sub (List.drop_sublist j F)).1; omega
    · rw [hF.ours]; omega
    · rw [g3']; have := (recsOf_sub (List.take_sublist k' G)).1; omega
    · rw [hF.ours]; exact recsOf_fit hF.ck
    · rw [g3']; exact recsOf_fit (fun f hf => hG.ck f (List.mem_of_mem_take hf))
  obtain ⟨F, hF⟩ := h.ab
  obtain ⟨G, hG⟩ := h.ba
  exact ⟨one hF hG, one hG hF⟩
end Go.Tw.Exc
/-
  Layer 44 (recon) in plain Lean: how large what Reconcile hands back may be.
-/
namespace Go.Tw.Exc
open Go.RowKit Go.Tw Go.Proofs.YtmjbbpappigngaaGreat
theorem SzP.recon {a b : Par} (ha : SzP 48 58 58 a) (hb : SzP 48 58 58 b) : SzP 376 386 482 (reconC a b).1 ∧ SzP 376 386 482 (reconC a b).2.1 := by
  have h0 : SzP 376 386 482 a ∧ SzP 376 386 482 b := ⟨ha.up (by omega) (by omega) (by omega), hb.up (by omega) (by omega) (by omega)⟩
  unfold reconC
  obtain ⟨hx, hy⟩ := ha.round hb []
  revert hx hy
  generalize roundC a b [] = r
  intro hx hy
  unfold rec1
  by_cases h1 : r.2.2 ≠ 0
  · rw [if_pos h1]; exact h0
  rw [if_neg h1]
  have l1 := differ_length r.1.ours r.2.1.thr
  have l2 := differ_length r.2.1.ours r.1.thr
  have q1 := hx.ours
  have q2 := hx.thr
  have q3 := hy.ours
  have q4 := hy.thr
  have hs := hx.fix b.nm (L := differC r.1.ours r.2.1.thr) (d := 164) (by omega)
  have ht := hy.fix a.nm (L := differC r.2.1.ours r.1.thr) (d := 164) (by omega)
  revert hs ht
  generalize fixC r.1 b.nm (differC r.1.ours r.2.1.thr) = s
  generalize fixC r.2.1 a.nm (differC r.2.1.ours r.1.thr) = t
  intro hs ht
  unfold rec2
  by_cases h2 : s.2 ≠ 0
  · rw [if_pos h2]; exact h0
  rw [if_neg h2]
  by_cases h3 : t.2 ≠ 0
  · rw [if_pos h3]; exact h0
  rw [if_neg h3]
  obtain ⟨hu, hv⟩ := hs.round ht []
  revert hu hv
  generalize roundC s.1 t.1 [] = u
  intro hu hv
  unfold rec3
  by_cases h4 : u.2.2 ≠ 0
  · rw [if_pos h4]; exact h0
  rw [if_neg h4]
  by_cases h5 : agreeC u.1 u.2.1 = false
  · rw [if_pos h5]; exact h0
  rw [if_neg h5]
  exact ⟨hu.up (by omega) (by omega) (by omega), hv.up (by omega) (by omega) (by omega)⟩
end Go.Tw.Exc
