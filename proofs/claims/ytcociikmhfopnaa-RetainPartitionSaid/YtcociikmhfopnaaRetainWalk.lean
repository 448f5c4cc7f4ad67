/-
  Layer 40 (retain): the walks: times, Check, the map of rules, until, Until.
-/
import Derived.Test.YtcociikmhfopnaaProg
import Derived.Test.YtcociikmhfopnaaRetainPure
import Derived.Deep.RegionWith
namespace Go.Proofs.Ytcociikmhfopnaa
open Go.RowKit Go.Tw Go.Tw.Retain

theorem isTime_any (n : Int) (w : World) :
    Calls Try.prog 28 #[.int .i64 n] w fun e w' => e = .returned (.bool (isT n)) ∧ w = w' := by
  go_enter Try.func28, Try.ntmps28
  go_wp2
  all_goals go_ret
  all_goals exact ⟨by simp [isT, *] <;> omega, rfl⟩
theorem isTimeR_any (n : Int) (w : World) :
    Calls Try.prog 27 #[.int .i64 n] w fun e w' => e = .returned (.bool (isT n)) ∧ w = w' := by
  go_enter Try.func27, Try.ntmps27
  go_wp2
  all_goals go_ret
  all_goals exact ⟨by simp [isT, *] <;> omega, rfl⟩

def seenF (l : List Keep) : Int → Option Value := fun p => if l.any (fun q => q.p == p) then some (.bool true) else none
theorem seenF_snoc (l : List Keep) (r : Keep) (y : Int) : (if y = r.p then some (.bool true) else seenF l y) = seenF (l ++ [r]) y := by
  unfold seenF
  rw [List.any_append]
  by_cases h : y = r.p
  · subst h; simp
  · have : (r.p == y) = false := by simp; omega
    simp [h, this]
theorem seenF_get (l : List Keep) (p : Int) : (seenF l p).getD (.bool false) = .bool (l.any fun q => q.p == p) := by
  unfold seenF; cases l.any fun q => q.p == p <;> rfl

set_option maxRecDepth 100000 in
set_option maxHeartbeats 1000000 in
theorem check_any (l : List Keep) (v : Value) (w : World) (h : SlIs tKeep (· < w.heap.size) w v l) :
    Calls Try.prog 12 #[v] w fun e w' => e = .returned (.int .i64 (kchkAll l)) ∧ Below w.heap.size w w' := by
  obtain ⟨ao, cap, b, off, rfl, hl, hm, ho⟩ := keep_open h
  unfold maxLen at hm
  clear h
  by_cases h4 : 4 < l.length
  · go_enter Try.func12, Try.ntmps12
    go_wp2
    go_ret
    exact ⟨ret_int (by simp [kchkAll, h4]), Below.refl _ _⟩
  have hmm := @run_makeMap Try.prog
  go_enter Try.func12, Try.ntmps12
  go_wp2
  clear hmm
  go_loopg [12] l.length (fun g i wr => ∃ k : Nat, k + g = l.length ∧ i = .int .i64 k ∧ kchkAll l = kchk (l.take k) (l.drop k) ∧ MapIs kInt wr w.heap.size (seenF (l.take k)) k ∧ Below w.heap.size w wr)
  case atStart => exact ⟨0, by omega, rfl, by rw [kchkAll, if_neg h4]; rfl, MapIs.made _, bl_alloc (Below.refl _ _) _⟩
  case round =>
    obtain ⟨k, hk, rfl, he, hs, hb1⟩ := hrel
    have HE := Lib.hid he; clear he
    by_cases hlt : k < l.length
    · obtain ⟨rfl, hb, c0, c1, c2, -⟩ := ho wr hb1 k hlt
      have hS := hs.lt
      clear ho
      have hlk : ∀ o, (Instr.lookup 62 (.map (some w.heap.size)) (.int .i64 l[k].p) false).run Try.prog (wr.alloc o) = .ok (.bool ((l.take k).any fun q => q.p == l[k].p)) (wr.alloc o) := fun o => by
        have := (hs.alloc o).look Try.underlying62 Try.underlying3 (z := .bool false) (by kernel_rfl) l[k].p false
        rw [seenF_get] at this
        exact this
      have hne : some w.heap.size ≠ some wr.heap.size := by simp; omega
      go_wp2_with (at_mapUpdate; refine wpList_put (.tmp 28) (.tmp 30) (.const (.bool true)) rfl 62 rfl Try.underlying62 Try.underlying3 (hs.alloc _) rfl l[k].p (.int .i64 l[k].p) (.bool true) rfl rfl rfl ?_; intro w1 hs1 hg1; obtain ⟨d0, d1, d2, -⟩ := blk3 (grown_new hg1 hne))
      all_goals first
        | (go_ret; refine ⟨ret_int (b := 1) (HE.out.trans (kchk_1 hlt ?_)), ?_⟩; omega; (repeat (first | (with_reducible exact hb1) | (with_reducible apply bl_drewN) | (with_reducible apply bl_alloc) | ((with_reducible refine bl_set ?_ _ ?_); rotate_left; focus (first | exact Nat.le_refl _ | (simp; done) | (simp; omega))))))
        | (go_ret; refine ⟨ret_int (b := 9) (HE.out.trans (kchk_9 hlt ?_ ?_ ‹_›)), ?_⟩; omega; omega; (repeat (first | (with_reducible exact hb1) | (with_reducible apply bl_drewN) | (with_reducible apply bl_alloc) | ((with_reducible refine bl_set ?_ _ ?_); rotate_left; focus (first | exact Nat.le_refl _ | (simp; done) | (simp; omega))))))
        | (go_ret
           refine ⟨ret_int (b := 12) (HE.out.trans (kchk_12 hlt ?_ ?_ ‹_› ?_)), (bl_alloc hb1 _).trans (Below.of_grown ‹_› (by simp; omega) (fun k hk => by simp at hk; omega))⟩ <;> omega)
        | (go_roundg (l.length - (k + 1))
           case measure => omega
           case rel =>
             refine ⟨k + 1, by omega, by go_num, HE.out.trans (kchk_on hlt ?_ ?_ ‹_› ?_), ?_, (bl_alloc hb1 _).trans (Below.of_grown ‹_› (by simp; omega) (fun k hk => by simp at hk; omega))⟩
             · omega
             · omega
             · omega
             · rw [List.take_succ_eq_append_getElem hlt]
               exact MapIs.ext ‹_› (seenF_snoc _ _))
    · clear ho
      go_wp2
      go_ret
      refine ⟨?_, hb1⟩
      rw [HE.out, kchk_end (by omega)]; rfl
end Go.Proofs.Ytcociikmhfopnaa
