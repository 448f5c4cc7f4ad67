/-
  Layer 14 (group): the walk of Of.
-/
import Derived.Test.YtelnnjofccldgaaGreatDoorGrpF0
import Derived.Test.YtelnnjofccldgaaGreatDoorAgg
import Derived.Deep.CutBlock
import Derived.Deep.DeepCutAuto
namespace Go.Proofs.YtelnnjofccldgaaGreatDoor
open Go.RowKit Go.Tw Go.Tw.Ord Go.Tw.Grp Go.Sort
/-- a detection is loaded whole -/
theorem load_seen {w : World} {b o : Nat} {x : Seen} (P : Program) (h : ∀ j, j < 11 → w.cell? ⟨b, o + j, none⟩ = (sCells x)[j]?) : Sem.run P (loadCellsFrom ⟨b, o, none⟩ 0 11 #[]) w = .ok (sCells x).toArray w :=
  run_loadCellsFrom_list P w ⟨b, o, none⟩ (sCells x) 11 (sCells_len x) fun j v hv => by
    have hj : j < 11 := by
      have := (List.getElem?_eq_some_iff.1 hv).1
      rwa [sCells_len] at this
    rw [Addr.add_lit, h j hj, hv]
theorem oneA {x : Seen} {A : Array Value} (h : (sCells x).toArray = A) : ∀ v ∈ A.toList, v.oneCell' = true := by subst h; simpa using sCells_one x
theorem SBox.load {w : World} {b : Nat} {x : Seen} (h : SBox w b x) : Sem.run Tryz.prog (loadCellsFrom ⟨b, 0, none⟩ 0 11 #[]) w = .ok (sCells x).toArray w :=
  load_seen _ fun j hj => by
    rw [Nat.zero_add, cell_of_row _ _ _ _ _ _ h]
    simp
theorem SBox.step {w w' : World} {b : Nat} {x : Seen} (h : SBox w b x) (hb : Below w.heap.size w w') : SBox w' b x := Go.Tw.Below.at_old hb h
end Go.Proofs.YtelnnjofccldgaaGreatDoor
