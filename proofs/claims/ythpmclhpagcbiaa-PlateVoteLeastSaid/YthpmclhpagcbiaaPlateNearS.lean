/-
  Layer 10 (plate): Near's order as the sorting wants it: what a sorting's worlds keep.
-/
import Derived.Test.YthpmclhpagcbiaaPlateNearC
namespace Go.Proofs.Ythpmclhpagcbiaa
open Go.RowKit Go.Tw Go.Tw.Plate Go.Proofs

theorem sortWorld_at {α : Type} [Inhabited α] (enc : α → Value) (w : World) (blk off m : Nat) (dk : Array α) (os : Array Obj) {k : Nat} (hk : k < w.heap.size) (hne : k ≠ blk) :
    (sortWorld enc w blk off m dk os).heap[k]? = w.heap[k]? := by
  have h1 : (Sort.putRow enc (Sort.ahead w m) blk off dk).heap[k]? = w.heap[k]? := by
    unfold Sort.putRow Sort.mapBlock
    rw [show ∀ (h : Array Obj) (f : Obj → Obj), (h.modify blk f)[k]? = h[k]? from fun h f => by
      rw [Array.getElem?_modify, if_neg (fun e => hne e.symm)]]
    rfl
  have h2 : k < (Sort.putRow enc (Sort.ahead w m) blk off dk).heap.size := by
    unfold Sort.putRow Sort.mapBlock
    simp
    exact hk
  unfold sortWorld
  rw [Sort.heap_grow_old _ _ h2, h1]
theorem cell_of_heap {w w' : World} {a : Addr} (h : w'.heap[a.block]? = w.heap[a.block]?) : w'.cell? a = w.cell? a := by
  simp only [World.cell?, h]
/-- the closure, in every world of the sorting -/
theorem near_lays (fm : ByteArray → Option Value) (fi : ByteArray → Int) (hf : Reads fm fi) (w : World) (box mb n blk off size : Nat) (hb : w.cell? ⟨box, 0, none⟩ = some (.map (some mb))) (hbs : box < w.heap.size) (hm : MapIs kStr w mb fm n) (h1 : box ≠ blk) (h2 : mb ≠ blk) :
    CmpLays1 Try.prog 33 #[.pointer (some ⟨box, 0, none⟩)] Value.string (nearC fi) blk off size w := fun m os dk hs x y => by
  have hm' : MapIs kStr (sortWorld Value.string w blk off m dk os) mb fm n := hm.kept (sortWorld_at _ _ _ _ _ _ _ hm.lt h2)
  have hb' : (sortWorld Value.string w blk off m dk os).cell? ⟨box, 0, none⟩ = some (.map (some mb)) := (cell_of_heap (sortWorld_at _ _ _ _ _ _ _ hbs h1)).trans hb
  refine (near_cmp_any fm fi hf _ box mb n hb' hm' x y).mono ?_
  rintro e w' ⟨rfl, o, rfl⟩
  exact ⟨rfl, 0, #[o], rfl⟩
end Go.Proofs.Ythpmclhpagcbiaa
