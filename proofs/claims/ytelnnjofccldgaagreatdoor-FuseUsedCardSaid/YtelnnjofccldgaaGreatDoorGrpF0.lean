/-
  Layer 14 (group): the walks of near, close.
-/
import Derived.Test.YtelnnjofccldgaaGreatDoorGrpS2
import Derived.Test.YtelnnjofccldgaaGreatDoorHeldD
namespace Go.Proofs.YtelnnjofccldgaaGreatDoor
open Go.RowKit Go.Tw Go.Tw.Ord Go.Tw.Grp Go.Sort
theorem u64_diff {x y : Int} (h1 : -9223372036854775808 ≤ y) (h2 : y ≤ x) (h3 : x ≤ 9223372036854775807) : IntKind.u64.wrap (IntKind.u64.wrap x - IntKind.u64.wrap y) = x - y := by
  simp only [IntKind.wrap, IntKind.bits, IntKind.signed]
  simp
  omega
set_option maxHeartbeats 1000000 in
theorem near_any (a b g : Int) (w : World) (ha : i64ok a) (hb : i64ok b) (hg : i64ok g) :
    Calls Tryz.prog 108 #[.int .i64 a, .int .i64 b, .int .i64 g] w fun e w' => e = .returned (.bool (decide (max a b - min a b ≤ max g 0))) ∧ w' = w := by
  have HD := Lib.hid (u64_diff (x := max a b) (y := min a b) (by unfold i64ok at ha hb; omega) (by omega) (by unfold i64ok at ha hb; omega))
  unfold i64ok at ha hb hg
  go_enter Tryz.func108, Tryz.ntmps108
  go_wp2
  go_ret
  exact ⟨ret_bool (by rw [HD.out]), rfl⟩
/-- a block holds a detection -/
def SBox (w : World) (b : Nat) (x : Seen) : Prop := w.heap[b]? = some (.cells (sCells x).toArray 63 (0, 0))
theorem SBox.cell {w : World} {b : Nat} {x : Seen} (h : SBox w b x) (j : Nat) {v : Value} (hv : (sCells x)[j]? = some v) : w.cell? ⟨b, j, none⟩ = some v := by
  rw [cell_of_row _ _ _ _ _ _ h]
  simpa using hv
set_option maxHeartbeats 2000000 in
theorem close_any (x y : Seen) (g : Int) (w : World) (hx : SeenOk x) (hy : SeenOk y) (hg : i64ok g) :
    Calls Tryz.prog 80 #[.agg (sCells x).toArray, .agg (sCells y).toArray, .int .i64 g] w fun e w' => e = .returned (.bool (closeC g x y)) ∧ GrB w w' := by
  have n0 : SBox ((w.alloc (.cells (sCells x).toArray 63)).alloc (.cells (sCells y).toArray 63)) w.heap.size x := alloc2_0 w _ _
  have n1 : SBox ((w.alloc (.cells (sCells x).toArray 63)).alloc (.cells (sCells y).toArray 63)) (w.heap.size + 1) y := alloc2_1 w _ _
  have hb : GrB w ((w.alloc (.cells (sCells x).toArray 63)).alloc (.cells (sCells y).toArray 63)) := ((GrB.refl w).alloc _).alloc _
  have hq := eq_str x.pt y.pt
  have HN := Lib.hid (fun W => near_any x.tm y.tm g W hx.tm hy.tm hg)
  have HC := Lib.hid (show closeC g x y = (decide (x.pt = y.pt) && decide (max x.tm y.tm - min x.tm y.tm ≤ max g 0)) from rfl)
  obtain ⟨A, hA⟩ : ∃ A, (sCells x).toArray = A := ⟨_, rfl⟩
  obtain ⟨B, hB⟩ : ∃ A, (sCells y).toArray = A := ⟨_, rfl⟩
  rw [hA, hB] at n0 n1 hb ⊢
  have HB := Lib.hid hb
  clear hA hB hb hx hy hg
  have a7 := n0.cell 7 (v := .int .i64 x.tm) rfl
  have a8 := n0.cell 8 (v := .string x.pt) rfl
  have b7 := n1.cell 7 (v := .int .i64 y.tm) rfl
  have b8 := n1.cell 8 (v := .string y.pt) rfl
  clear n0 n1
  by_cases hp : x.pt = y.pt
  · have hz : (x.pt.toList == y.pt.toList) = true := by rw [hq]; simpa using hp
    have HP := Lib.hid hp
    clear hp hq
    go_enter Tryz.func80, Tryz.ntmps80
    go_wp2_with (go_at_call 108; refine (HN.out _).mono ?_; rintro e w' ⟨rfl, rfl⟩)
    go_ret
    exact ⟨ret_bool (by rw [HC.out, HP.out]; simp), HB.out⟩
  · have hz : (x.pt.toList == y.pt.toList) = false := by rw [hq]; simpa using hp
    have HP := Lib.hid hp
    clear hp hq
    go_enter Tryz.func80, Tryz.ntmps80
    go_wp2_with (fail)
    go_ret
    exact ⟨ret_bool (by rw [HC.out, decide_eq_false HP.out]; simp), HB.out⟩
end Go.Proofs.YtelnnjofccldgaaGreatDoor
