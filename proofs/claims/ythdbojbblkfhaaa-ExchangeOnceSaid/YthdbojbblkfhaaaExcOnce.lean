/-
  Layer 43 (exchange): the closure of the law ExchangeOnce.
-/
import Derived.Test.YthdbojbblkfhaaaExcKeep
import Derived.Test.YthdbojbblkfhaaaExcOnceP
import Derived.Test.YthdbojbblkfhaaaExcAckR
namespace Go.Tw
open Go.RowKit
theorem OwnS.heap {α : Type} {T : Ty α} {e : TypeId} {B : Nat} {S : Nat → Prop} {w w' : World} {v : Value} {l : List α} (h : OwnS T e B S w v l) (hb : ∀ k, v.ownBlock = some k → w'.heap[k]? = w.heap[k]?) (hS : ∀ k, S k → w'.heap[k]? = w.heap[k]?) : OwnS T e B S w' v l := by
  obtain ⟨css, h1, h2⟩ := h
  refine ⟨css, ⟨h1.1, ?_⟩, h2.keep (fun _ h => h) (fun k hk => hS k hk)⟩
  rcases h1.2 with q | ⟨g, cap, cur, rfl, b, c, d⟩
  · exact .inl q
  · exact .inr ⟨g, cap, cur, rfl, b, (hb g rfl).trans c, d⟩
end Go.Tw
namespace Go.Proofs.Ythdbojbblkfhaaa
open Go.RowKit Go.Tw Go.Tw.Exc
set_option maxHeartbeats 1000000 in
theorem partnerL_any (p : Par) (x1 x2 x3 : Option Addr) (n1 n2 n3 y1 y2 y3 : Nat) (nm : ByteArray) (w : World) :
    Calls Try.prog 29 #[.agg #[.string p.nm, .int .i64 p.out, .int .i64 p.inn, .slice x1 n1 y1, .slice x2 n2 y2, .slice x3 n3 y3], .string nm] w
      fun e w' => e = .returned (.agg #[.string nm, .int .i64 p.out, .int .i64 p.inn, .slice x1 n1 y1, .slice x2 n2 y2, .slice x3 n3 y3]) ∧ Below w.heap.size w w' := by
  go_enter Try.func29, Try.ntmps29
  go_wp2_with (fail)
  refine bodyPost_ret (v := .agg #[.string nm, .int .i64 p.out, .int .i64 p.inn, .slice x1 n1 y1, .slice x2 n2 y2, .slice x3 n3 y3]) (by simp [results, Try.results29, go_sem]) rfl ⟨rfl, ?_⟩
  (repeat (first | (with_reducible exact Below.refl _ _) | (with_reducible apply bl_drewN) | (with_reducible apply bl_alloc) | ((with_reducible refine bl_set ?_ _ ?_); rotate_left; focus (first | exact Nat.le_refl _ | (simp; done) | (simp; omega)))))
/-- blocks that are neither a box of the law nor the list of files itself -/
def SO (b5 b7 b9 : Nat) (vf : Value) (w : World) (k : Nat) : Prop := k < w.heap.size ∧ k ≠ b5 ∧ k ≠ b7 ∧ k ≠ b9 ∧ some k ≠ vf.ownBlock
/-- the law's three boxes: the sender, the receiver, the files -/
structure OB (W : World) (b5 b7 b9 : Nat) (a b : Par) (F : List Fil) (a1 a2 a3 b1 b2 b3 vf : Value) (w : World) : Prop where
  bel : Below W.heap.size W w
  o5 : W.heap.size ≤ b5
  o7 : b5 < b7
  o9 : b7 < b9
  pa : w.heap[b5]? = some (.cells #[.string a.nm, .int .i64 a.out, .int .i64 a.inn, a1, a2, a3] 25 (0, 0))
  pb : w.heap[b7]? = some (.cells #[.string b.nm, .int .i64 b.out, .int .i64 b.inn, b1, b2, b3] 25 (0, 0))
  pf : w.heap[b9]? = some (.cells #[vf] 22 (0, 0))
  oka : ParOk (SO b5 b7 b9 vf w) w a a1 a2 a3
  okb : ParOk (SO b5 b7 b9 vf w) w b b1 b2 b3
  own : OwnS tFil 30 (b9 + 1) (SO b5 b7 b9 vf w) w vf F
section
variable {W w w' : World} {b5 b7 b9 : Nat} {a b c : Par} {F : List Fil} {a1 a2 a3 b1 b2 b3 u1 u2 u3 vf : Value}
theorem SO.up (hz : w.heap.size ≤ w'.heap.size) {k : Nat} (h : SO b5 b7 b9 vf w k) : SO b5 b7 b9 vf w' k := ⟨Nat.lt_of_lt_of_le h.1 hz, h.2⟩
theorem OB.step (h : OB W b5 b7 b9 a b F a1 a2 a3 b1 b2 b3 vf w) (hb : Below w.heap.size w w') : OB W b5 b7 b9 a b F a1 a2 a3 b1 b2 b3 vf w' :=
  ⟨bl_trans h.bel hb, h.o5, h.o7, h.o9, Go.Tw.Below.at_old hb h.pa, Go.Tw.Below.at_old hb h.pb, Go.Tw.Below.at_old hb h.pf, h.oka.keep (fun _ q => SO.up hb.size q) (fun k q => hb.block k q.1), h.okb.keep (fun _ q => SO.up hb.size q) (fun k q => hb.block k q.1),
   (h.own.heap (fun k q => hb.block k (h.own.own_lt k q).2) (fun k q => hb.block k q.1)).mono (fun _ q => SO.up hb.size q)⟩
/-- the sender is another -/
theorem OB.reA (h : OB W b5 b7 b9 a b F a1 a2 a3 b1 b2 b3 vf w) (hz : w.heap.size ≤ w'.heap.size) (hbel : Below W.heap.size W w') (hk : ∀ k, k < w.heap.size → k ≠ b5 → w'.heap[k]? = w.heap[k]?)
    (hpa : w'.heap[b5]? = some (.cells #[.string c.nm, .int .i64 c.out, .int .i64 c.inn, u1, u2, u3] 25 (0, 0))) (hq : ParOk (SO b5 b7 b9 vf w') w' c u1 u2 u3) : OB W b5 b7 b9 c b F u1 u2 u3 b1 b2 b3 vf w' := by
  have h7 := lt_of_heap h.pb
  have h9 := lt_of_heap h.pf
  have ha := h.o7
  have hb := h.o9
  refine ⟨hbel, h.o5, h.o7, h.o9, hpa, (hk _ h7 (by omega)).trans h.pb, (hk _ h9 (by omega)).trans h.pf, hq, h.okb.keep (fun _ q => SO.up hz q) (fun k q => hk k q.1 q.2.1), (h.own.heap (fun k q => hk k (h.own.own_lt k q).2 ?_) (fun k q => hk k q.1 q.2.1)).mono (fun _ q => SO.up hz q)⟩
  have := (h.own.own_lt k q).1
  omega
/-- the receiver is another -/
theorem OB.reB (h : OB W b5 b7 b9 a b F a1 a2 a3 b1 b2 b3 vf w) (hz : w.heap.size ≤ w'.heap.size) (hbel : Below W.heap.size W w') (hk : ∀ k, k < w.heap.size → k ≠ b7 → w'.heap[k]? = w.heap[k]?)
    (hpb : w'.heap[b7]? = some (.cells #[.string c.nm, .int .i64 c.out, .int .i64 c.inn, u1, u2, u3] 25 (0, 0))) (hq : ParOk (SO b5 b7 b9 vf w') w' c u1 u2 u3) : OB W b5 b7 b9 a c F a1 a2 a3 u1 u2 u3 vf w' := by
  have h7 := lt_of_heap h.pb
  have h9 := lt_of_heap h.pf
  have ha := h.o7
  have hb := h.o9
  refine ⟨hbel, h.o5, h.o7, h.o9, (hk _ (by omega) (by omega)).trans h.pa, hpb, (hk _ h9 (by omega)).trans h.pf, h.oka.keep (fun _ q => SO.up hz q) (fun k q => hk k q.1 q.2.2.1), hq, (h.own.heap (fun k q => hk k (h.own.own_lt k q).2 ?_) (fun k q => hk k q.1 q.2.2.1)).mono (fun _ q => SO.up hz q)⟩
  have := (h.own.own_lt k q).1
  omega
theorem OB.setB (h : OB W b5 b7 b9 a b F a1 a2 a3 b1 b2 b3 vf w) (hb : Below w.heap.size w w') (hq : ParOk (fun k => SO b5 b7 b9 vf w k ∨ (w.heap.size ≤ k ∧ k < w'.heap.size)) w' c u1 u2 u3) :
    OB W b5 b7 b9 a c F a1 a2 a3 u1 u2 u3 vf ((((((w'.setCell ⟨b7, 0, none⟩ (.string c.nm)).setCell ⟨b7, 1, none⟩ (.int .i64 c.out)).setCell ⟨b7, 2, none⟩ (.int .i64 c.inn)).setCell ⟨b7, 3, none⟩ u1).setCell ⟨b7, 4, none⟩ u2).setCell ⟨b7, 5, none⟩ u3) := by
  have hle : W.heap.size ≤ b7 := by have := h.o5; have := h.o7; omega
  have h9 := lt_of_heap h.pf
  have h79 := h.o9
  have h57 := h.o7
  have hz := hb.size
  have hs : SO b5 b7 b9 vf w b7 → False := fun q => q.2.2.1 rfl
  refine h.reB (by simpa using hb.size) (bl_set (bl_set (bl_set (bl_set (bl_set (bl_set (bl_trans h.bel hb) _ hle) _ hle) _ hle) _ hle) _ hle) _ hle) (fun k q1 q2 => (set6_ne q2).trans (hb.block k q1)) (set6_same (Go.Tw.Below.at_old hb h.pb)) (hq.keep (fun k hk => ?_) (fun k hk => set6_ne ?_))
  · rcases hk with q | q
    · exact ⟨by simpa using Nat.lt_of_lt_of_le q.1 hz, q.2⟩
    · exact ⟨by simpa using q.2, by omega, by omega, by omega, fun e => by have := (h.own.own_lt k e.symm).2; omega⟩
  · rcases hk with q | q
    · exact q.2.2.1
    · omega
end
end Go.Proofs.Ythdbojbblkfhaaa
