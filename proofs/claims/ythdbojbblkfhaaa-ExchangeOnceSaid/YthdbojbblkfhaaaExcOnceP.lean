/-
  Layer 43 (exchange) in plain Lean: files arrive once and in order.
-/
import Derived.Test.YthdbojbblkfhaaaExcKeepP
import Derived.Test.YthdbojbblkfhaaaExcEx
namespace Go.Tw.Exc
open Go.RowKit Go.Tw
/-- the files that a sender has sent -/
structure FilesOk (F : List Fil) : Prop where
  sq : ∀ i (h : i < F.length), F[i].sq = (i : Int) + 1
  fr : ∀ f ∈ F, f.fr = sSouth
  ck : ∀ f ∈ F, checkC f = 0
  rs : ∀ f ∈ F, f.rs.length ≤ 20
def recsOf (F : List Fil) : List Rec := F.flatMap (·.rs)
theorem recsOf_snoc (F : List Fil) (f : Fil) : recsOf (F ++ [f]) = recsOf F ++ f.rs := by unfold recsOf; simp
theorem recsOf_len : ∀ (F : List Fil), (∀ f ∈ F, f.rs.length ≤ 20) → (recsOf F).length ≤ 20 * F.length
  | [], _ => by simp [recsOf]
  | f :: F, h => by
    have ih := recsOf_len F (fun g hg => h g (by simp [hg]))
    have := h f (by simp)
    unfold recsOf at ih ⊢
    rw [List.flatMap_cons, List.length_append, List.length_cons]
    omega
/-- the sender -/
structure Sent (n : Nat) (a : Par) (F : List Fil) : Prop where
  nm : a.nm = sNorth
  out : a.out = (F.length : Int) + 1
  wt : a.wt = F
  ours : a.ours = recsOf F
  thr : a.thr = []
  len : F.length ≤ n
  fs : FilesOk F
theorem sent_zero : Sent 0 exP [] := ⟨rfl, rfl, rfl, rfl, rfl, Nat.le_refl _, ⟨fun i h => by simp at h, fun f h => by simp at h, fun f h => by simp at h, fun f h => by simp at h⟩⟩
theorem Sent.up {n : Nat} {a : Par} {F : List Fil} (h : Sent n a F) : Sent (n + 1) a F := ⟨h.nm, h.out, h.wt, h.ours, h.thr, Nat.le_succ_of_le h.len, h.fs⟩
theorem Sent.send {n : Nat} {a : Par} {F : List Fil} (h : Sent n a F) {l : List Rec} (hl : l.length ≤ 20) :
    ((sendC a sSouth l).2.2 ≠ 0 ∧ Sent (n + 1) (sendC a sSouth l).1 F) ∨ ((sendC a sSouth l).2.2 = 0 ∧ Sent (n + 1) (sendC a sSouth l).1 (F ++ [(sendC a sSouth l).2.1])) := by
  by_cases hc : checkC ⟨sSouth, a.nm, a.out, l⟩ = 0
  · rcases send_ways a sSouth l with ⟨e, he⟩ | e
    · refine .inl ⟨he, ?_⟩
      rw [e]; exact h.up
    · refine .inr ?_
      rw [e]
      refine ⟨rfl, h.nm, ?_, ?_, ?_, h.thr, ?_, ⟨fun i hi => ?_, fun f hf => ?_, fun f hf => ?_, fun f hf => ?_⟩⟩
      · show a.out + 1 = _
        rw [h.out, List.length_append]; simp
      · show a.wt ++ _ = _
        rw [h.wt]
      · show a.ours ++ l = _
        rw [h.ours, recsOf_snoc]
      · rw [List.length_append]; have := h.len; simp; omega
      · by_cases q : i < F.length
        · rw [List.getElem_append_left q]; exact h.fs.sq i q
        · have hi' : i < F.length + 1 := by simpa using hi
          obtain rfl : i = F.length := by omega
          rw [List.getElem_append_right (Nat.le_refl _)]
          simp
          exact h.out
      · rcases List.mem_append.1 hf with hf | hf
        · exact h.fs.fr f hf
        · rw [List.mem_singleton.1 hf]
      · rcases List.mem_append.1 hf with hf | hf
        · exact h.fs.ck f hf
        · rw [List.mem_singleton.1 hf]; exact hc
      · rcases List.mem_append.1 hf with hf | hf
        · exact h.fs.rs f hf
        · rw [List.mem_singleton.1 hf]; exact hl
  · refine .inl ?_
    have e : sendC a sSouth l = (a, zeroF, checkC ⟨sSouth, a.nm, a.out, l⟩) := by unfold sendC; rw [if_pos hc]
    rw [e]
    exact ⟨hc, h.up⟩
theorem Sent.sizes {n : Nat} {a : Par} {F : List Fil} (h : Sent n a F) (hn : n ≤ 10) : a.wt.length ≤ 10 ∧ (∀ f ∈ a.wt, f.rs.length ≤ 20) ∧ a.ours.length ≤ 200 ∧ a.thr.length = 0 := by
  have h1 := h.len
  have h2 := recsOf_len F h.fs.rs
  refine ⟨by rw [h.wt]; omega, by rw [h.wt]; exact h.fs.rs, by rw [h.ours]; omega, by rw [h.thr]; rfl⟩
/-- the receiver: k files have come -/
structure Got (F : List Fil) (k : Nat) (b : Par) : Prop where
  inn : b.inn = (k : Int) + 1
  thr : b.thr = recsOf (F.take k)
  le : k ≤ F.length
  wt : b.wt = []
  ours : b.ours = []
  out : b.out = 1
theorem got_zero (F : List Fil) (nm : ByteArray) : Got F 0 ⟨nm, 1, 1, [], [], []⟩ := ⟨rfl, by rw [List.take_zero]; rfl, Nat.zero_le _, rfl, rfl, rfl⟩
theorem Got.nm {F : List Fil} {k : Nat} {b : Par} (h : Got F k b) (nm : ByteArray) : Got F k { b with nm := nm } := ⟨h.inn, h.thr, h.le, h.wt, h.ours, h.out⟩
theorem Got.sizes {F : List Fil} {k : Nat} {b : Par} (h : Got F k b) (hf : FilesOk F) (hn : F.length ≤ 10) : b.wt.length = 0 ∧ b.ours.length = 0 ∧ b.thr.length ≤ 200 := by
  have h2 := recsOf_len (F.take k) (fun f hx => hf.rs f (List.mem_of_mem_take hx))
  have h3 : (F.take k).length ≤ F.length := by rw [List.length_take]; omega
  exact ⟨by rw [h.wt]; rfl, by rw [h.ours]; rfl, by rw [h.thr]; omega⟩
theorem got_recv {F : List Fil} {k : Nat} {b : Par} (h : Got F k b) (hf : FilesOk F) (hn : F.length ≤ 10) (hnm : b.nm = sSouth) {i : Nat} (hi : i < F.length) :
    (k < i ∧ recvC b F[i] = (b, 31)) ∨ (k = i ∧ ∃ c, recvC b F[i] = (c, 0) ∧ c.inn = (i : Int) + 2 ∧ Got F (i + 1) c) ∨ (i < k ∧ recvC b F[i] = (b, 0)) := by
  have hc := hf.ck _ (List.getElem_mem hi)
  have hr := hf.fr _ (List.getElem_mem hi)
  have hs := hf.sq i hi
  have hrl := hf.rs _ (List.getElem_mem hi)
  have hin := h.inn
  have ht := (h.sizes hf hn).2.2
  have e0 : recvC b F[i] = if b.inn < F[i].sq then (b, 31) else if F[i].sq ≠ b.inn then (b, 0) else if 1024 < b.thr.length + F[i].rs.length then (b, 3) else ({ b with inn := b.inn + 1, thr := b.thr ++ F[i].rs }, 0) := by
    unfold recvC
    rw [if_neg (by simp [hc]), if_neg (by rw [hr, hnm]; simp)]
  rcases Nat.lt_trichotomy k i with q | q | q
  · refine .inl ⟨q, ?_⟩
    rw [e0, if_pos (by omega)]
  · refine .inr (.inl ⟨q, { b with inn := b.inn + 1, thr := b.thr ++ F[i].rs }, ?_, ?_, ?_, ?_, ?_, h.wt, h.ours, h.out⟩)
    · rw [e0, if_neg (by omega), if_neg (by omega), if_neg (by omega)]
    · show b.inn + 1 = _
      omega
    · show b.inn + 1 = _
      omega
    · show b.thr ++ F[i].rs = _
      rw [h.thr, q, List.take_succ_eq_append_getElem hi, recsOf_snoc]
    · omega
  · refine .inr (.inr ⟨q, ?_⟩)
    rw [e0, if_neg (by omega), if_pos (by omega)]
end Go.Tw.Exc
