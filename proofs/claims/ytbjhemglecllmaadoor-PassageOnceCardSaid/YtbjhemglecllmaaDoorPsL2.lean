/-
  Layer 17 (passage): rows of passages, loaded whole in later worlds; counts.
-/
import Derived.Test.YtbjhemglecllmaaDoorPsL1
namespace Go.Tw.Ps
open Go.RowKit Go.Tw Go.Sort Go.Tw.Ord
/-- how often a passage is in a list -/
def cnt (x : Pas) (l : List Pas) : Int := ((l.countP fun y => decide (x = y) : Nat) : Int)
theorem cnt_nil (x : Pas) : cnt x [] = 0 := rfl
theorem cnt_snoc (x y : Pas) (l : List Pas) : cnt x (l ++ [y]) = if x = y then cnt x l + 1 else cnt x l := by
  unfold cnt
  rw [List.countP_append, List.countP_singleton]
  by_cases h : x = y
  · simp [h]
  · simp [h]
theorem cnt_perm {l m : List Pas} (h : l.Perm m) (x : Pas) : cnt x l = cnt x m := by unfold cnt; rw [h.countP_eq]
theorem cnt_le (x : Pas) (l : List Pas) : 0 ≤ cnt x l ∧ cnt x l ≤ l.length := by
  unfold cnt
  have := List.countP_le_length (p := fun y => decide (x = y)) (l := l)
  omega
end Go.Tw.Ps
namespace Go.Proofs.YtbjhemglecllmaaDoor
open Go.RowKit Go.Tw Go.Tw.Ord Go.Tw.Ps Go.Sort
/-- an element of a row, wherever it is loaded from later on -/
def AtP (w : World) (g o i : Nat) (x : Pas) (A : Array Value) (v : Value) : Prop :=
  (pCells x v).toArray = A ∧ PasOk x ∧ ∀ w', Below w.heap.size w w' → Sem.run Tryd.prog (loadCellsFrom ⟨g, o + i * 8, none⟩ 0 8 #[]) w' = .ok A w' ∧ w'.cell? ⟨g, o + i * 8 + 3, none⟩ = some (.string x.tag) ∧ w'.cell? ⟨g, o + i * 8 + 4, none⟩ = some (.string x.plt) ∧ SlIs tSrc (· < w'.heap.size) w' v x.src
theorem pas_rowA {w : World} {v : Value} {l : List Pas} (h : SlIs (tPas eS) (· < w.heap.size) w v l) :
    ∃ ao cap b off, v = .slice ao l.length cap ∧ l.length ≤ cap ∧ cap ≤ maxLen ∧ ∀ k (_ : k < l.length), ao = some ⟨b, off, none⟩ ∧ b < w.heap.size ∧ ∃ A vx, AtP w b off k l[k] A vx := by
  obtain ⟨ao, cp, b, o, rfl, q1, q2, ho⟩ := pas_row h
  refine ⟨ao, cp, b, o, rfl, q1, q2, fun k hk => ?_⟩
  obtain ⟨e, hb, _, hok, a, n, c, hsl, hc⟩ := ho w (SameOn.refl _ _) k hk
  refine ⟨e, hb, _, _, rfl, hok, fun w' hw => ⟨load_pas _ fun j hj => (hw.cell (p := ⟨b, o + k * 8 + j, none⟩) hb).trans (hc j hj), (hw.cell (p := ⟨b, o + k * 8 + 3, none⟩) hb).trans (hc 3 (by decide)), (hw.cell (p := ⟨b, o + k * 8 + 4, none⟩) hb).trans (hc 4 (by decide)), hsl.step hw⟩⟩
theorem AtP.ld {w W : World} {g o i : Nat} {x : Pas} {A : Array Value} {v : Value} (h : AtP w g o i x A v) (hb : Below w.heap.size w W) : ∀ n os, Sem.run Tryd.prog (loadCellsFrom ⟨g, o + i * 8, none⟩ 0 8 #[]) (grow (W.drewN n) os) = .ok A (grow (W.drewN n) os) := fun n os => (h.2.2 _ (bl_trans hb (GrB.below ⟨n, os, rfl⟩))).1
theorem AtP.c3 {w W : World} {g o i : Nat} {x : Pas} {A : Array Value} {v : Value} (h : AtP w g o i x A v) (hb : Below w.heap.size w W) : ∀ n os, (grow (W.drewN n) os).cell? ⟨g, o + i * 8 + 3, none⟩ = some (.string x.tag) := fun n os => (h.2.2 _ (bl_trans hb (GrB.below ⟨n, os, rfl⟩))).2.1
theorem AtP.c4 {w W : World} {g o i : Nat} {x : Pas} {A : Array Value} {v : Value} (h : AtP w g o i x A v) (hb : Below w.heap.size w W) : ∀ n os, (grow (W.drewN n) os).cell? ⟨g, o + i * 8 + 4, none⟩ = some (.string x.plt) := fun n os => (h.2.2 _ (bl_trans hb (GrB.below ⟨n, os, rfl⟩))).2.2.1
/-- One, Has, Compare of elements, in a quiet region -/
theorem AtP.one {w W w2 : World} {g o i g2 o2 i2 : Nat} {x y : Pas} {A B : Array Value} {v v2 : Value} (h : AtP w g o i x A v) (hb : Below w.heap.size w W) (h2 : AtP w2 g2 o2 i2 y B v2) (hb2 : Below w2.heap.size w2 W) {c : Bool} (hc : decide (x = y) = c) :
    ∀ n os, Calls Tryd.prog 30 #[.agg A, .agg B] (grow (W.drewN n) os) fun e w' => e = .returned (.bool c) ∧ ∃ q os', w' = grow ((grow (W.drewN n) os).drewN q) os' := fun n os => by
  rw [← h.1, ← h2.1, ← hc]
  exact oneR_any x y _ _ _ (h.2.2 _ (bl_trans hb (GrB.below ⟨n, os, rfl⟩))).2.2.2 (h2.2.2 _ (bl_trans hb2 (GrB.below ⟨n, os, rfl⟩))).2.2.2 h.2.1 h2.2.1
theorem AtP.cmp {w W w2 : World} {g o i g2 o2 i2 : Nat} {x y : Pas} {A B : Array Value} {v v2 : Value} (h : AtP w g o i x A v) (hb : Below w.heap.size w W) (h2 : AtP w2 g2 o2 i2 y B v2) (hb2 : Below w2.heap.size w2 W) {c : Int} (hc : pasC x y = c) :
    ∀ n os, Calls Tryd.prog 31 #[.agg A, .agg B] (grow (W.drewN n) os) fun e w' => e = .returned (.int .i64 c) ∧ ∃ q os', w' = grow ((grow (W.drewN n) os).drewN q) os' := fun n os => by
  rw [← h.1, ← h2.1, ← hc]
  exact compareR_any x y _ _ _ (h.2.2 _ (bl_trans hb (GrB.below ⟨n, os, rfl⟩))).2.2.2 (h2.2.2 _ (bl_trans hb2 (GrB.below ⟨n, os, rfl⟩))).2.2.2 h.2.1 h2.2.1
theorem AtP.has {w W : World} {g o i : Nat} {x : Pas} {A : Array Value} {v vl : Value} {l : List Pas} (h : AtP w g o i x A v) (hb : Below w.heap.size w W) (hl : SlIs (tPas eS) (· < W.heap.size) W vl l) {c : Bool} (hc : decide (x ∈ l) = c) :
    ∀ n os, Calls Tryd.prog 33 #[vl, .agg A] (grow (W.drewN n) os) fun e w' => e = .returned (.bool c) ∧ ∃ q os', w' = grow ((grow (W.drewN n) os).drewN q) os' := fun n os => by
  rw [← h.1, ← hc]
  exact has_any l x _ _ _ (hl.step (GrB.below ⟨n, os, rfl⟩)) (h.2.2 _ (bl_trans hb (GrB.below ⟨n, os, rfl⟩))).2.2.2 h.2.1
end Go.Proofs.YtbjhemglecllmaaDoor
