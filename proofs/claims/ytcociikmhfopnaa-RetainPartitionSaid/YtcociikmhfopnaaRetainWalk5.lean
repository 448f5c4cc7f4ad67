/-
  Layer 40 (retain): the walks: copied, Next.
-/
import Derived.Test.YtcociikmhfopnaaRetainWalk3
import Derived.Test.YtcociikmhfopnaaRetainWalk4
import Derived.Test.YtcociikmhfopnaaOwn2
namespace Go.Proofs.Ytcociikmhfopnaa
open Go.RowKit Go.Tw Go.Tw.Retain

set_option maxHeartbeats 400000 in
theorem copied_new (im : Img) (h : Value) (w : World) (hi : ImgOk (· < w.heap.size) w im h) (hlen : im.hold.length ≤ 1000000) :
    Calls Try.prog 30 #[.agg #[.string im.id, .int .i64 im.t, .int .i64 im.p, h, .int .u64 im.dg]] w
      fun e w' => ∃ h', e = .returned (.agg #[.string im.id, .int .i64 im.t, .int .i64 im.p, h', .int .u64 im.dg]) ∧ NewL tStr 9 w.heap.size w' h' im.hold ∧ Below w.heap.size w w' := by
  obtain ⟨ha, hcp, bb, boff, rfl, hn1, hn2, -⟩ := strs_open hi.hold
  have HH := Lib.hid hi.hold
  have HL := Lib.hid hlen
  have HI := Lib.hid (show im.id.size ≤ maxLen ∧ i64ok im.t ∧ i64ok im.p ∧ 0 ≤ im.dg ∧ im.dg ≤ 18446744073709551615 from ⟨hi.id, hi.t, hi.p, hi.dg⟩)
  clear hn1 hn2 hi hlen
  go_enter Try.func30, Try.ntmps30
  go_wp2_with (
    at_builtin
    refine wpList_append_old (.tmp 7) (.tmp 9) rfl 23 rfl slStr rfl (OwnSl.nil _ _ (w.heap.size + 3) _) rfl (SlIs.keep HH.out (fun k (h : k < w.heap.size) => (show k < w.heap.size + 3 by omega)) (SameOn.of_below (by (repeat (first | (with_reducible exact Below.refl _ _) | (with_reducible apply bl_drewN) | (with_reducible apply bl_alloc) | ((with_reducible refine bl_set ?_ _ ?_); rotate_left; focus (first | exact Nat.le_refl _ | (simp; done) | (simp; omega)))))))) (small_bytes (k := 1000000) (by simpa using HL.out) (by decide)) (Nat.le_trans (by simpa using HL.out) (show 1000000 ≤ maxLen by decide)) (by simp) ?_
    intro v' w1 ho1 hg1 hb1
    obtain ⟨ao', cp', rfl, hz1, hz2⟩ := ho1.form
    obtain ⟨c0, c1, c2, c3, c4, cf⟩ := blk5 (grown_at (row := none) hg1 (alloc3_1 w _ _ _) (by simp))
    obtain ⟨d0, d1, d2, d3, d4, df⟩ := blk5 (grown_at (row := none) hg1 (alloc3_2 w _ _ _) (by simp))
    have l1 : w.heap.size + 1 < w1.heap.size := lt_of_cell c0
    have l2 : w.heap.size + 1 + 1 < w1.heap.size := lt_of_cell d0
    have hb2 := (bl_alloc (bl_alloc (bl_alloc (Below.refl _ _) _) _) _).trans (hb1.mono (Nat.le_add_right _ 3))
    clear hg1 hb1)
  refine bodyPost_ret (v := .agg #[.string im.id, .int .i64 im.t, .int .i64 im.p, .slice ao' im.hold.length cp', .int .u64 im.dg]) (by simp [results, Try.results30, go_sem, c0, c1, c2, c3, c4]) rfl ⟨_, rfl, ?_, ?_⟩

  · refine ((NewL.ofOwn ownStr ho1 (Nat.le_refl _)).same ?_).mono (by omega)
    (repeat (first | (with_reducible exact SameOn.refl _ _) | (with_reducible exact SameOn.refl _ _) | ((with_reducible refine SameOn.set ?_ ?_ _); rotate_left; focus (first | (simp; done) | (simp; omega))) | (with_reducible apply SameOn.drewN)))
  · (repeat (first | (with_reducible exact hb2) | (with_reducible apply bl_drewN) | (with_reducible apply bl_alloc) | ((with_reducible refine bl_set ?_ _ ?_); rotate_left; focus (first | exact Nat.le_refl _ | (simp; done) | (simp; omega)))))
theorem copied_any (im : Img) (h : Value) (w : World) (hi : ImgOk (· < w.heap.size) w im h) (hlen : im.hold.length ≤ 1000000) :
    Calls Try.prog 30 #[.agg #[.string im.id, .int .i64 im.t, .int .i64 im.p, h, .int .u64 im.dg]] w
      fun e w' => ∃ h', e = .returned (.agg #[.string im.id, .int .i64 im.t, .int .i64 im.p, h', .int .u64 im.dg]) ∧ ImgOk (fun k => w.heap.size ≤ k ∧ k < w'.heap.size) w' im h' ∧ Below w.heap.size w w' :=
  (copied_new im h w hi hlen).mono fun _ _ ⟨h', h1, h2, h3⟩ => ⟨h', h1, imgOk_of hi h2, h3⟩
end Go.Proofs.Ytcociikmhfopnaa
