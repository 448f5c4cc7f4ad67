/-
  Layer 43 (exchange) in plain Lean: which files wait.
-/
import Derived.Test.YtmjbbpappigngaaGreatExcPure
namespace Go.Tw.Exc
open Go.RowKit Go.Tw
/-- after at most n sends, with the files up to most acknowledged -/
structure Kept (n : Nat) (most : Int) (p : Par) : Prop where
  sz : p.wt.length ≤ n
  out : p.out = most + 1 + p.wt.length
  m0 : 0 ≤ most
  mo : p.out ≤ n + 1
  sq : ∀ i (h : i < p.wt.length), p.wt[i].sq = most + 1 + i
  rs : ∀ f ∈ p.wt, f.rs.length ≤ 20
  ours : p.ours.length ≤ 20 * n
  thr : p.thr = []
theorem kept_zero (nm : ByteArray) : Kept 0 0 ⟨nm, 1, 1, [], [], []⟩ := ⟨by simp, by simp, by omega, by simp, fun i h => by simp at h, fun f h => by simp at h, by simp, rfl⟩
theorem Kept.up {n m : Nat} {most : Int} {p : Par} (h : Kept n most p) (hm : n ≤ m) : Kept m most p := ⟨Nat.le_trans h.sz hm, h.out, h.m0, by have := h.mo; omega, h.sq, h.rs, by have := h.ours; omega, h.thr⟩
theorem send_ways (p : Par) (fr : ByteArray) (l : List Rec) : (sendC p fr l).1 = p ∧ (sendC p fr l).2.2 ≠ 0 ∨ sendC p fr l = ({ p with out := p.out + 1, wt := p.wt ++ [⟨fr, p.nm, p.out, l⟩], ours := p.ours ++ l }, ⟨fr, p.nm, p.out, l⟩, 0) := by
  unfold sendC
  by_cases h : checkC ⟨fr, p.nm, p.out, l⟩ = 0
  · rw [if_neg (by simp [h])]
    by_cases h2 : 1024 ≤ p.wt.length ∨ 1024 < p.ours.length + l.length
    · rw [if_pos h2]; exact .inl ⟨rfl, by show (3 : Int) ≠ 0; decide⟩
    · rw [if_neg h2]; exact .inr rfl
  · rw [if_pos h]; exact .inl ⟨rfl, h⟩
theorem Kept.send {n : Nat} {p : Par} (h : Kept n 0 p) (fr : ByteArray) {l : List Rec} (hl : l.length ≤ 20) : Kept (n + 1) 0 (sendC p fr l).1 := by
  rcases send_ways p fr l with ⟨e, -⟩ | e
  · rw [e]; exact h.up (by omega)
  · rw [e]
    have h1 := h.sz
    have h2 := h.out
    have h3 := h.mo
    have h4 := h.ours
    refine ⟨by simp; omega, by simp; omega, by omega, by simp; omega, fun i hi => ?_, fun f hf => ?_, by simp; omega, h.thr⟩
    · show (p.wt ++ [⟨fr, p.nm, p.out, l⟩])[i].sq = _
      by_cases q : i < p.wt.length
      · rw [List.getElem_append_left q]; exact h.sq i q
      · have hi' : i < p.wt.length + 1 := by simpa using hi
        obtain rfl : i = p.wt.length := by omega
        rw [List.getElem_append_right (Nat.le_refl _)]
        simp
        omega
    · rcases List.mem_append.1 hf with hf | hf
      · exact h.rs f hf
      · rw [List.mem_singleton.1 hf]; exact hl
theorem filter_seq : ∀ (l : List Fil) (m n : Int), (∀ i (h : i < l.length), l[i].sq = m + i) → l.filter (fun f => decide (n < f.sq)) = l.drop (n + 1 - m).toNat
  | [], _, _, _ => by simp
  | x :: l, m, n, h => by
    have h0 : x.sq = m := by have := h 0 (by simp); simpa using this
    have ih := filter_seq l (m + 1) n (fun i hi => by have := h (i + 1) (by simpa using hi); simp at this; rw [this]; omega)
    by_cases q : n < m
    · have e1 : (n + 1 - m).toNat = 0 := by omega
      have e2 : (n + 1 - (m + 1)).toNat = 0 := by omega
      rw [List.filter_cons_of_pos (by simp [h0, q]), ih, e1, e2]
      simp
    · have e1 : (n + 1 - m).toNat = (n + 1 - (m + 1)).toNat + 1 := by omega
      rw [List.filter_cons_of_neg (by simp [h0]; omega), ih, e1]
      simp
theorem Kept.ack {n : Nat} {most : Int} {p : Par} (h : Kept n most p) {a : Int} (h0 : 0 ≤ a) (h1 : a < p.out) : (ackC p a).2 = 0 ∧ (ackC p a).1.out = p.out ∧ (ackC p a).1.ours = p.ours ∧ Kept n (max most a) (ackC p a).1 := by
  have e : ackC p a = ({ p with wt := p.wt.filter fun f => decide (a < f.sq) }, 0) := by unfold ackC; rw [if_neg (by omega)]
  rw [e]
  refine ⟨rfl, rfl, rfl, ?_⟩
  rw [filter_seq p.wt (most + 1) a h.sq]
  have q1 := h.sz
  have q2 := h.out
  have q3 := h.mo
  have q4 := h.m0
  obtain ⟨d, hd⟩ : ∃ d, (a + 1 - (most + 1)).toNat = d := ⟨_, rfl⟩
  rw [hd]
  have hmax : max most a = most + d := by omega
  have hdl : d ≤ p.wt.length := by omega
  rw [hmax]
  have hlen : ((p.wt.drop d).length : Int) = p.wt.length - d := by simp; omega
  refine ⟨by simp; omega, by rw [hlen]; simp only; omega, by omega, q3, fun i hi => ?_, fun f hf => h.rs f (List.mem_of_mem_drop hf), h.ours, h.thr⟩
  show (p.wt.drop d)[i].sq = _
  rw [List.getElem_drop, h.sq]
  omega
theorem ack_refused {p : Par} {a : Int} (h : a < 0 ∨ p.out ≤ a) : ackC p a = (p, 31) := by unfold ackC; rw [if_pos h]
theorem Kept.last {n : Nat} {most : Int} {p : Par} (h : Kept n most p) : (ackC p (p.out - 1)).2 = 0 ∧ (ackC p (p.out - 1)).1.wt.length = 0 := by
  have q2 := h.out
  have q4 := h.m0
  obtain ⟨a, -, -, k⟩ := h.ack (a := p.out - 1) (by omega) (by omega)
  refine ⟨a, ?_⟩
  have := k.out
  have e : (ackC p (p.out - 1)).1.out = p.out := by unfold ackC; rw [if_neg (by omega)]
  rw [e] at this
  omega
theorem recv_keeps (p : Par) (f : Fil) : (recvC p f).1.out = p.out ∧ (recvC p f).1.ours = p.ours ∧ (recvC p f).1.wt = p.wt := by
  unfold recvC
  repeat (first | exact ⟨rfl, rfl, rfl⟩ | split)
end Go.Tw.Exc
