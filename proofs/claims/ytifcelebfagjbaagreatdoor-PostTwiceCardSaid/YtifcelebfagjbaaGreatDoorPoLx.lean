import Derived.Test.YtifcelebfagjbaaGreatDoorMgT
import Derived.Test.YtifcelebfagjbaaGreatDoorMgT
import Derived.Test.YtifcelebfagjbaaGreatDoorMgS
namespace Go.Tw
open Go.RowKit Go.ChangeShapes Go.WideShapes
theorem wf_u16 {n : Int} (h : (Lit.int .u16 n).wf = true) : 0 ≤ n ∧ n ≤ 65535 := by simpa [Lit.wf, IntKind.min, IntKind.max, IntKind.signed, IntKind.bits] using h
theorem arg_u16 {H : Type} {enc : TypeId × Value → H} {P : Program} {w : World} {r : Reach} {b0 : Nat} {t : TypeId} {v : Value} {d : DataW H} {ps : List MemPlace} (ht : P.underlying t = some (.int .u16)) (hval : Value.okWide P w r b0 t v) (hd : DataW.Trod enc P w 0 (fun _ => true) true t v d ps) : ∃ n, v = .int .u16 n ∧ 0 ≤ n ∧ n ≤ 65535 := by
 obtain ⟨n, h1, _, _, h2⟩ := open_int ht hval hd; exact ⟨n, h1, wf_u16 h2⟩
end Go.Tw
namespace Go.Proofs.YtifcelebfagjbaaGreatDoor
open Go.RowKit Go.Tw Go.Tw.Ord Go.Tw.Po Go.Sort Go.ChangeShapes Go.WideShapes
structure CB (W : World) (A : Array Value) (l : List Chg) (g : Nat) (ve vd : Value) (b : Bk) (N : Nat) (wr : World) : Prop where
 c : wr.heap[W.heap.size]? = some (.cells A 46 (0, 0))
 g : BB g ve vd wr
 e : SlIs (tEnt 101) (· < wr.heap.size) wr ve b.es
 d : SlIs (tChg eL) (· < wr.heap.size) wr vd b.ds
 k : BOk l N b
 b : Below W.heap.size W wr
theorem CB.step {W wr w' : World} {A : Array Value} {l : List Chg} {g : Nat} {ve vd : Value} {b : Bk} {N : Nat} (h : CB W A l g ve vd b N wr) (hb : Below wr.heap.size wr w') : CB W A l g ve vd b N w' :=
 ⟨(hb.block _ (lt_of_heap h.c)).trans h.c, (hb.block _ (lt_of_heap h.g)).trans h.g, h.e.step hb, h.d.step hb, h.k, bl_trans h.b hb⟩
theorem CB.mk' {W wq : World} {A : Array Value} {l : List Chg} {ve vd : Value} {b : Bk} {N : Nat} (hc : wq.heap[W.heap.size]? = some (.cells A 46 (0, 0))) (he : SlIs (tEnt 101) (· < wq.heap.size) wq ve b.es) (hd : SlIs (tChg eL) (· < wq.heap.size) wq vd b.ds) (hk : BOk l N b) (hb : Below W.heap.size W wq) :
  CB W A l wq.heap.size ve vd b N (wq.alloc (.cells #[ve, vd] 70)) :=
 have h1 := bl_alloc (Below.refl wq.heap.size wq) (.cells #[ve, vd] 70)
 ⟨(h1.block _ (lt_of_heap hc)).trans hc, heap_alloc_new _ _, he.step h1, hd.step h1, hk, bl_trans hb h1⟩
theorem plays_bok {c : List Acc} {l : List Chg} {dl : List Deed} (h8 : l.length ≤ 8) (hc : ∀ x ∈ l, COk x) : BOk l 256 (playsP c l ⟨[], []⟩ (dl.take 16)) := by
 have hl : (dl.take 16).length ≤ 16 := List.length_take_le _ _; exact (BOk.plays (c := c) (D := dl.take 16) (BOk.empty h8 hc) (by omega)).mono (by omega)
end Go.Proofs.YtifcelebfagjbaaGreatDoor
