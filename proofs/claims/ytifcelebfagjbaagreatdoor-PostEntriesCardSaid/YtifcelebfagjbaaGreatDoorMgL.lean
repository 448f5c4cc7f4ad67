/-
  Layer 37 (post): Entry.
-/
import Derived.Test.YtifcelebfagjbaaGreatDoorMgJ
import Derived.Test.YtifcelebfagjbaaGreatDoorMgK
import Derived.Lib.SliceRun
import Derived.Test.YtifcelebfagjbaaGreatDoorMgI
import Derived.Test.YtifcelebfagjbaaGreatDoorMgE
import Derived.Maps.RangeWalk
import Derived.Maps.Ext
import Derived.Sort.KeysCollected
namespace Go.Tw.Po
open Go.RowKit Go.Tw Go.Proofs.YtifcelebfagjbaaGreatDoor
noncomputable def entryP (c : List Acc) (x : Chg) (old v : Int) : Ent × Int :=
  if chkC x ≠ 0 then (zeroE, chkC x) else if old < 0 ∨ 1125899906842624 < old then (zeroE, 13) else if v < 0 ∨ 2147483648 < v then (zeroE, 1) else if old = x.c then (zeroE, 10) else (⟨keyC x.key v, x.tm, moveP c [] x (x.c - old)⟩, 0)
theorem ey_chk {c : List Acc} {x : Chg} {old v : Int} (h : chkC x ≠ 0) : entryP c x old v = (zeroE, chkC x) := by unfold entryP; rw [if_pos h]
theorem ey_s {c : List Acc} {x : Chg} {old v : Int} (h : chkC x = 0) : entryP c x old v = if old < 0 ∨ 1125899906842624 < old then (zeroE, 13) else if v < 0 ∨ 2147483648 < v then (zeroE, 1) else if old = x.c then (zeroE, 10) else (⟨keyC x.key v, x.tm, moveP c [] x (x.c - old)⟩, 0) := by unfold entryP; rw [if_neg (by simp [h])]
end Go.Tw.Po
namespace Go.Proofs.YtifcelebfagjbaaGreatDoor
open Go.RowKit Go.Tw Go.Tw.Ord Go.Tw.Po Go.Sort
/-- numerals everywhere -/
def FmtAll (w : World) : Prop := ∀ n, i64ok n → FmtOk n w
theorem FmtAll.step {w w' : World} (h : FmtAll w) (hb : Below w.heap.size w w') : FmtAll w' := fun n hn => (h n hn).step hb
structure YW (n : Nat) (A : Array Value) (x : Chg) (v : Value) (wr : World) : Prop where
  b0 : wr.heap[n]? = some (.cells A 46 (0, 0))
  b1 : wr.heap[n + 1]? = some (.cells #[.string x.key, .string x.veh, .string x.sys, .int .i64 x.cls, .int .i64 x.tm, v, .int .i64 x.c] 49 (0, 0))
  b2 : wr.heap[n + 2]? = some (.cells #[.string ⟨#[]⟩, .int .i64 0, .slice none 0 0] 56 (0, 0))
theorem YW.step {n B : Nat} {A : Array Value} {x : Chg} {v : Value} {w w' : World} (h : YW n A x v w) (hb : Below B w w') (hB : n + 2 < B) : YW n A x v w' :=
  ⟨(hb.block _ (by omega)).trans h.b0, (hb.block _ (by omega)).trans h.b1, (hb.block _ (by omega)).trans h.b2⟩
/-- a charge in block n -/
def XB (n : Nat) (x : Chg) (v : Value) (wr : World) : Prop := wr.heap[n]? = some (.cells #[.string x.key, .string x.veh, .string x.sys, .int .i64 x.cls, .int .i64 x.tm, v, .int .i64 x.c] 49 (0, 0))
set_option maxRecDepth 100000 in
set_option maxHeartbeats 4000000 in
theorem entry_any (c : List Acc) (A : Array Value) (va : Value) (x : Chg) (vx : Value) (old v : Int) (w : World) (hA : CfgA A va) (hc : SlIs (tAcc 138) (· < w.heap.size) w va c) (hk : CfOk c) (hx : ChgOk x) (hxc : COk x) (hv : SlIs tSI (· < w.heap.size) w vx x.ls) (ho : i64ok old) (hvv : i64ok v) (hf : FmtAll w) :
    Calls Tryz.prog 12 #[.agg A, .agg #[.string x.key, .string x.veh, .string x.sys, .int .i64 x.cls, .int .i64 x.tm, vx, .int .i64 x.c], .int .i64 old, .int .i64 v] w fun r w' => (∃ vp, r = .returned (.tuple #[.agg #[.string (entryP c x old v).1.key, .int .i64 (entryP c x old v).1.tm, vp], .int .i64 (entryP c x old v).2]) ∧ SlIs tSI (· < w'.heap.size) w' vp (entryP c x old v).1.ps) ∧ Below w.heap.size w w' := by
  have h0 := alloc3 w (.cells A 46) (.cells #[.string x.key, .string x.veh, .string x.sys, .int .i64 x.cls, .int .i64 x.tm, vx, .int .i64 x.c] 49) (.cells #[.string ⟨#[]⟩, .int .i64 0, .slice none 0 0] 56)
  have HY := Lib.hid (show YW w.heap.size A x vx _ from ⟨h0.1, h0.2.1, h0.2.2⟩)
  have HB0 := Lib.hid (bl_alloc (bl_alloc (bl_alloc (Below.refl w.heap.size w) (.cells A 46)) (.cells #[.string x.key, .string x.veh, .string x.sys, .int .i64 x.cls, .int .i64 x.tm, vx, .int .i64 x.c] 49)) (.cells #[.string ⟨#[]⟩, .int .i64 0, .slice none 0 0] 56))
  have HCK := Lib.hid (pcheck_any x vx _ hx (hv.step HB0.out) (by have := hxc.ls; omega))
  obtain ⟨xa, xc, _, _, rfl, -⟩ := id hv
  have HA := Lib.hid hA
  have HC := Lib.hid hc
  have HK := Lib.hid hk
  have HX := Lib.hid hx
  have HXC := Lib.hid hxc
  have HV := Lib.hid hv
  have HF := Lib.hid hf
  unfold i64ok at ho hvv
  clear hA hc hk hx hxc hv hf h0
  obtain ⟨z, hz⟩ : ∃ z, chkC x = z := ⟨_, rfl⟩
  rw [hz] at HCK
  by_cases hz0 : z = 0
  case neg =>
    have HR := Lib.hid (ey_chk (c := c) (x := x) (old := old) (v := v) (by rw [hz]; exact hz0))
    rw [hz] at HR
    have hz1 : (z != 0) = true := by simpa using hz0
    clear hz hz0
    go_enter Tryz.func12, Tryz.ntmps12
    go_wp2_with (fail)
    with_reducible refine HCK.out.mono ?_
    rintro r w2 ⟨rfl, hb⟩
    have HY2 := Lib.hid (HY.out.step hb (by simp))
    have HB2 := Lib.hid (bl_trans HB0.out hb)
    obtain ⟨e0, e1, e2, ef⟩ := blk3 HY2.out.b2
    have hlt := lt_of_heap HY2.out.b2
    clear hb HCK HY
    go_wp2
    refine bodyPost_ret (v := .tuple #[.agg #[.string ⟨#[]⟩, .int .i64 0, .slice none 0 0], .int .i64 z]) (by simp [results, Tryz.results12, go_sem, e0, e1, e2]) rfl ⟨⟨.slice none 0 0, by (rw [HR.out]; try rfl), by rw [HR.out]; exact SlIs.nil⟩, ?_⟩
    have hbw := HB2.out
    (repeat (first | (with_reducible exact hbw) | (with_reducible apply bl_drewN) | (with_reducible apply bl_alloc) | ((with_reducible refine bl_set ?_ _ ?_); rotate_left; focus (first | exact Nat.le_refl _ | (simp; done) | (simp; omega)))))
  subst hz0
  have HS := Lib.hid (ey_s (c := c) (old := old) (v := v) hz)
  have hz1 : ((0 : Int) != 0) = false := rfl
  have HCF := Lib.hid (chk_facts hz)
  clear hz
  go_enter Tryz.func12, Tryz.ntmps12
  go_wp2_with (fail)
  with_reducible refine HCK.out.mono ?_
  rintro r w2 ⟨rfl, hb⟩
  have HY2 := Lib.hid (HY.out.step hb (by simp))
  have HB2 := Lib.hid (bl_trans HB0.out hb)
  obtain ⟨e0, e1, e2, ef⟩ := blk3 HY2.out.b2
  obtain ⟨-, -, -, -, -, -, x6, -⟩ := blk7 HY2.out.b1
  have hlt := lt_of_heap HY2.out.b2
  clear hb HCK HY
  have ho3 : old < 0 ∨ (0 ≤ old ∧ 1125899906842624 < old) ∨ (0 ≤ old ∧ old ≤ 1125899906842624) := by omega
  rcases ho3 with t1 | ⟨t1, t2⟩ | ⟨t1, t2⟩
  · have HR := Lib.hid (HS.out.trans (if_pos (.inl t1)))
    go_wp2_with (fail)
    go_wp2
    refine bodyPost_ret (v := .tuple #[.agg #[.string ⟨#[]⟩, .int .i64 0, .slice none 0 0], .int .i64 13]) (by simp [results, Tryz.results12, go_sem, e0, e1, e2]) rfl ⟨⟨.slice none 0 0, by (rw [HR.out]; try rfl), by rw [HR.out]; exact SlIs.nil⟩, ?_⟩
    have hbw := HB2.out
    (repeat (first | (with_reducible exact hbw) | (with_reducible apply bl_drewN) | (with_reducible apply bl_alloc) | ((with_reducible refine bl_set ?_ _ ?_); rotate_left; focus (first | exact Nat.le_refl _ | (simp; done) | (simp; omega)))))
  · have HR := Lib.hid (HS.out.trans (if_pos (.inr t2)))
    have HX1 := Lib.hid (show ∀ W, Calls Tryz.prog 33 #[.int .i64 old] W fun e w' => e = .returned (.bool false) ∧ W = w' from fun W => by rw [← fitsM_no (n := old) (.inr t2)]; exact mFits_any _ W)
    go_wp2_with (go_at_call 33; with_reducible refine (HX1.out _).mono ?_; rintro e w1 ⟨rfl, rfl⟩)
    go_wp2
    refine bodyPost_ret (v := .tuple #[.agg #[.string ⟨#[]⟩, .int .i64 0, .slice none 0 0], .int .i64 13]) (by simp [results, Tryz.results12, go_sem, e0, e1, e2]) rfl ⟨⟨.slice none 0 0, by (rw [HR.out]; try rfl), by rw [HR.out]; exact SlIs.nil⟩, ?_⟩
    have hbw := HB2.out
    (repeat (first | (with_reducible exact hbw) | (with_reducible apply bl_drewN) | (with_reducible apply bl_alloc) | ((with_reducible refine bl_set ?_ _ ?_); rotate_left; focus (first | exact Nat.le_refl _ | (simp; done) | (simp; omega)))))
  have HS := Lib.hid (HS.out.trans (if_neg (by omega)))
  have HX1 := Lib.hid (show ∀ W, Calls Tryz.prog 33 #[.int .i64 old] W fun e w' => e = .returned (.bool true) ∧ W = w' from fun W => by rw [← fitsM_yes (n := old) (by omega) t2]; exact mFits_any _ W)
  have hv3 : v < 0 ∨ (0 ≤ v ∧ 2147483648 < v) ∨ (0 ≤ v ∧ v ≤ 2147483648) := by omega
  rcases hv3 with t3 | ⟨t3, t4⟩ | ⟨t3, t4⟩
  · have HR := Lib.hid (HS.out.trans (if_pos (.inl t3)))
    go_wp2_with (go_at_call 33; with_reducible refine (HX1.out _).mono ?_; rintro e w1 ⟨rfl, rfl⟩)
    go_wp2
    refine bodyPost_ret (v := .tuple #[.agg #[.string ⟨#[]⟩, .int .i64 0, .slice none 0 0], .int .i64 1]) (by simp [results, Tryz.results12, go_sem, e0, e1, e2]) rfl ⟨⟨.slice none 0 0, by (rw [HR.out]; try rfl), by rw [HR.out]; exact SlIs.nil⟩, ?_⟩
    have hbw := HB2.out
    (repeat (first | (with_reducible exact hbw) | (with_reducible apply bl_drewN) | (with_reducible apply bl_alloc) | ((with_reducible refine bl_set ?_ _ ?_); rotate_left; focus (first | exact Nat.le_refl _ | (simp; done) | (simp; omega)))))
  · have HR := Lib.hid (HS.out.trans (if_pos (.inr t4)))
    go_wp2_with (go_at_call 33; with_reducible refine (HX1.out _).mono ?_; rintro e w1 ⟨rfl, rfl⟩)
    go_wp2
    refine bodyPost_ret (v := .tuple #[.agg #[.string ⟨#[]⟩, .int .i64 0, .slice none 0 0], .int .i64 1]) (by simp [results, Tryz.results12, go_sem, e0, e1, e2]) rfl ⟨⟨.slice none 0 0, by (rw [HR.out]; try rfl), by rw [HR.out]; exact SlIs.nil⟩, ?_⟩
    have hbw := HB2.out
    (repeat (first | (with_reducible exact hbw) | (with_reducible apply bl_drewN) | (with_reducible apply bl_alloc) | ((with_reducible refine bl_set ?_ _ ?_); rotate_left; focus (first | exact Nat.le_refl _ | (simp; done) | (simp; omega)))))
  have HS := Lib.hid (HS.out.trans (if_neg (by omega)))
  by_cases t5 : old = x.c
  · have HR := Lib.hid (HS.out.trans (if_pos t5))
    have t6 : (old == x.c) = true := by simpa using t5
    clear t5
    go_wp2_with (go_at_call 33; with_reducible refine (HX1.out _).mono ?_; rintro e w1 ⟨rfl, rfl⟩)
    go_wp2
    refine bodyPost_ret (v := .tuple #[.agg #[.string ⟨#[]⟩, .int .i64 0, .slice none 0 0], .int .i64 10]) (by simp [results, Tryz.results12, go_sem, e0, e1, e2]) rfl ⟨⟨.slice none 0 0, by (rw [HR.out]; try rfl), by rw [HR.out]; exact SlIs.nil⟩, ?_⟩
    have hbw := HB2.out
    (repeat (first | (with_reducible exact hbw) | (with_reducible apply bl_drewN) | (with_reducible apply bl_alloc) | ((with_reducible refine bl_set ?_ _ ?_); rotate_left; focus (first | exact Nat.le_refl _ | (simp; done) | (simp; omega)))))
  have HR := Lib.hid (HS.out.trans (if_neg t5))
  have t6 : (old == x.c) = false := by simpa using t5
  clear t5 HS
  go_upto_region 11 with (go_at_call 33; with_reducible refine (HX1.out _).mono ?_; rintro e w1 ⟨rfl, rfl⟩)
  have hA3 := bl_alloc (Below.refl w2.heap.size w2) (.cells #[.string ⟨#[]⟩, .int .i64 0, .slice none 0 0] 105)
  have g3 := heap_alloc_new w2 (.cells #[.string ⟨#[]⟩, .int .i64 0, .slice none 0 0] 105)
  generalize w2.alloc (.cells #[.string ⟨#[]⟩, .int .i64 0, .slice none 0 0] 105) = wb at hA3 g3 ⊢
  have HY3 := Lib.hid (HY2.out.step hA3 hlt)
  have HB3 := Lib.hid (bl_trans HB2.out hA3)
  have HG3 := Lib.hid g3
  have hxb : XB (w.heap.size + 1) x (.slice xa x.ls.length xc) wb := HY3.out.b1
  have HL0 := Lib.hid (show ∀ w', XB (w.heap.size + 1) x (.slice xa x.ls.length xc) w' → w'.cell? ⟨w.heap.size + 1, 0, none⟩ = some (.string x.key) from fun w' h => (blk7 h).1)
  have HL4 := Lib.hid (show ∀ w', XB (w.heap.size + 1) x (.slice xa x.ls.length xc) w' → w'.cell? ⟨w.heap.size + 1, 4, none⟩ = some (.int .i64 x.tm) from fun w' h => (blk7 h).2.2.2.2.1)
  have HKY := Lib.hid (show ∀ W, Below w.heap.size w W → Calls Tryz.prog 34 #[.string x.key, .int .i64 v] W fun e w' => e = .returned (.string (keyC x.key v)) ∧ Below W.heap.size W w' from fun W hW => key_any x.key v W (by have := HXC.out.key; omega) (by unfold i64ok; omega) ((HF.out v (by unfold i64ok; omega)).step hW))
  clear hA3 g3 e0 e1 e2 ef x6
  refine wp_region_D (fun j => if j < 12 then 0 else if j < 12 then 1 else 2) (XB (w.heap.size + 1) x (.slice xa x.ls.length xc)) (by kernel_rfl) (hxb) (fun hHeld => ?_)
  refine wpD_take (i := 0) (v := ?_) rfl (by kernel_rfl) (fun _ _ _ h => h) (Or.inl ⟨by kernel_rfl, ?_⟩) (by assumption) ?_
  rotate_left
  focus (intro w9 hS9; clear hS9; go_simp; (try with_reducible rfl))
  (try simp only [List.getElem_toArray, List.getElem_cons_zero])
  (try simp only [Act.put])
  (try simp only [List.setIfInBounds_toArray])
  (repeat (first | simp only [List.set_cons_succ] | simp only [List.set_cons_zero]))
  refine wpD_take (i := 1) (v := ?_) rfl (by kernel_rfl) (fun _ _ _ h => h) (Or.inl ⟨by kernel_rfl, ?_⟩) (by assumption) ?_
  rotate_left
  focus (intro w9 hS9; have z0 := HL0.out w9 hS9; clear hS9; go_simp; (try with_reducible rfl))
  (try simp only [List.getElem_toArray, List.getElem_cons_succ, List.getElem_cons_zero])
  (try simp only [Act.put])
  (try simp only [List.setIfInBounds_toArray])
  (repeat (first | simp only [List.set_cons_succ] | simp only [List.set_cons_zero]))
  refine wpD_take (i := 2) (v := ?_) rfl (by kernel_rfl) (fun _ _ _ h => h) (Or.inl ⟨by kernel_rfl, ?_⟩) (by assumption) ?_
  rotate_left
  focus (intro w9 hS9; clear hS9; go_simp; (try with_reducible rfl))
  (try simp only [List.getElem_toArray, List.getElem_cons_succ, List.getElem_cons_zero])
  (try simp only [Act.put])
  (try simp only [List.setIfInBounds_toArray])
  (repeat (first | simp only [List.set_cons_succ] | simp only [List.set_cons_zero]))
  refine wpD_take (i := 4) (v := ?_) rfl (by kernel_rfl) (fun _ _ _ h => h) (Or.inl ⟨by kernel_rfl, ?_⟩) (by assumption) ?_
  rotate_left
  focus (intro w9 hS9; clear hS9; go_simp; (try with_reducible rfl))
  (try simp only [List.getElem_toArray, List.getElem_cons_succ, List.getElem_cons_zero])
  (try simp only [Act.put])
  (try simp only [List.setIfInBounds_toArray])
  (repeat (first | simp only [List.set_cons_succ] | simp only [List.set_cons_zero]))
  refine wpD_take (i := 5) (v := ?_) rfl (by kernel_rfl) (fun _ _ _ h => h) (Or.inl ⟨by kernel_rfl, ?_⟩) (by assumption) ?_
  rotate_left
  focus (intro w9 hS9; have z0 := HL4.out w9 hS9; clear hS9; go_simp; (try with_reducible rfl))
  (try simp only [List.getElem_toArray, List.getElem_cons_succ, List.getElem_cons_zero])
  (try simp only [Act.put])
  (try simp only [List.setIfInBounds_toArray])
  (repeat (first | simp only [List.set_cons_succ] | simp only [List.set_cons_zero]))
  refine wpD_ready (rs := [3]) (by kernel_rfl) (by kernel_rfl) ?_
  refine AllReadyD.cons rfl (fun K hK => ?_) AllReadyD.nil
  go_simp
  with_reducible refine (HKY.out _ (Below.drew HB3.out)).mono ?_
  rintro r w5 ⟨rfl, hb5⟩
  have HB35 := Lib.hid (show Below wb.heap.size wb w5 from bl_trans (Below.drew (Below.refl _ _)) hb5)
  clear hb5
  clear hHeld
  refine hK.out _ _ ⟨fun _ => (HB35.out.block _ (lt_of_heap HY3.out.b1)).trans HY3.out.b1, fun h => absurd h (by decide)⟩ (fun hHeld0 => ?_)
  have hHeld := hHeld0.1 rfl
  clear hHeld0 hK K
  have g5 := (HB35.out.block _ (lt_of_heap HG3.out)).trans HG3.out
  obtain ⟨q0, q1, q2, qf⟩ := blk3 g5
  have hl5 : w2.heap.size < w5.heap.size := lt_of_heap g5
  have HG5 := Lib.hid g5
  have hne : w.heap.size + 1 ≠ w2.heap.size := by omega
  clear g5
  refine wpD_take (i := 6) (v := ?_) rfl (by kernel_rfl) (fun _ _ _ h => h) (Or.inl ⟨by kernel_rfl, ?_⟩) (by assumption) ?_
  rotate_left
  focus (intro w9 hS9; clear hS9; go_simp; (try with_reducible rfl))
  (try simp only [List.getElem_toArray, List.getElem_cons_succ, List.getElem_cons_zero])
  (try simp only [Act.put])
  (try simp only [List.setIfInBounds_toArray])
  (repeat (first | simp only [List.set_cons_succ] | simp only [List.set_cons_zero]))
  refine wpD_take (i := 7) (v := ?_) rfl (by kernel_rfl) (fun _ _ _ h => h) (Or.inl ⟨by kernel_rfl, ?_⟩) (by assumption) ?_
  rotate_left
  focus (intro w9 hS9; clear hS9; go_simp; (try with_reducible rfl))
  (try simp only [List.getElem_toArray, List.getElem_cons_succ, List.getElem_cons_zero])
  (try simp only [Act.put])
  (try simp only [List.setIfInBounds_toArray])
  (repeat (first | simp only [List.set_cons_succ] | simp only [List.set_cons_zero]))
  refine wpD_ready (rs := [8]) (by kernel_rfl) (by kernel_rfl) ?_
  refine AllReadyD.cons rfl (fun K hK => ?_) AllReadyD.nil
  rw [if_pos (show _ = true by kernel_rfl)]
  go_simp
  have HXB5 := Lib.hid (show XB (w.heap.size + 1) x (.slice xa x.ls.length xc) w5 from hHeld)
  clear hHeld
  refine hK.out _ _ ⟨fun _ => (Below.heap_setCell _ _ _ _ hne).trans HXB5.out, fun h => absurd h (by decide)⟩ (fun hHeld0 => ?_)
  have hHeld := hHeld0.1 rfl
  clear hHeld0 hK K
  refine wpD_take (i := 9) (v := ?_) rfl (by kernel_rfl) (fun _ _ _ h => h) (Or.inl ⟨by kernel_rfl, ?_⟩) (by assumption) ?_
  rotate_left
  focus (intro w9 hS9; clear hS9; go_simp; (try with_reducible rfl))
  (try simp only [List.getElem_toArray, List.getElem_cons_succ, List.getElem_cons_zero])
  (try simp only [Act.put])
  (try simp only [List.setIfInBounds_toArray])
  (repeat (first | simp only [List.set_cons_succ] | simp only [List.set_cons_zero]))
  refine wpD_take (i := 10) (v := ?_) rfl (by kernel_rfl) (fun _ _ _ h => h) (Or.inl ⟨by kernel_rfl, ?_⟩) (by assumption) ?_
  rotate_left
  focus (intro w9 hS9; clear hS9; go_simp; (try with_reducible rfl))
  (try simp only [List.getElem_toArray, List.getElem_cons_succ, List.getElem_cons_zero])
  (try simp only [Act.put])
  (try simp only [List.setIfInBounds_toArray])
  (repeat (first | simp only [List.set_cons_succ] | simp only [List.set_cons_zero]))
  refine wpD_ready (rs := [11]) (by kernel_rfl) (by kernel_rfl) ?_
  refine AllReadyD.cons rfl (fun K hK => ?_) AllReadyD.nil
  rw [if_pos (show _ = true by kernel_rfl)]
  go_simp
  clear hHeld
  refine hK.out _ _ ⟨fun _ => (Below.heap_setCell _ _ _ _ hne).trans ((Below.heap_setCell _ _ _ _ hne).trans HXB5.out), fun h => absurd h (by decide)⟩ (fun hHeld0 => ?_)
  have hHeld := hHeld0.1 rfl
  clear hHeld0 hK K
  refine wpD_done (by kernel_rfl) ?_
  have g6 : ((w5.setCell ⟨w2.heap.size, 0, none⟩ (.string (keyC x.key v))).setCell ⟨w2.heap.size, 1, none⟩ (.int .i64 x.tm)).heap[w2.heap.size]? = some (.cells #[.string (keyC x.key v), .int .i64 x.tm, .slice none 0 0] 105 (0, 0)) := heap_setCell_same _ _ _ _ _ _ (heap_setCell_same _ _ _ _ _ _ HG5.out)
  have b6 : Below w.heap.size w ((w5.setCell ⟨w2.heap.size, 0, none⟩ (.string (keyC x.key v))).setCell ⟨w2.heap.size, 1, none⟩ (.int .i64 x.tm)) := bl_set (bl_set (bl_trans HB3.out HB35.out) _ HB2.out.size) _ HB2.out.size
  have y6 := (HY3.out.step HB35.out (by have := lt_of_heap HY3.out.b2; omega))
  have hne0 : w.heap.size ≠ w2.heap.size := by omega
  have hne2 : w.heap.size + 2 ≠ w2.heap.size := by omega
  have y7 : YW w.heap.size A x (.slice xa x.ls.length xc) ((w5.setCell ⟨w2.heap.size, 0, none⟩ (.string (keyC x.key v))).setCell ⟨w2.heap.size, 1, none⟩ (.int .i64 x.tm)) :=
    ⟨(Below.heap_setCell _ _ _ _ hne0).trans ((Below.heap_setCell _ _ _ _ hne0).trans y6.b0), (Below.heap_setCell _ _ _ _ hne).trans ((Below.heap_setCell _ _ _ _ hne).trans y6.b1), (Below.heap_setCell _ _ _ _ hne2).trans ((Below.heap_setCell _ _ _ _ hne2).trans y6.b2)⟩
  generalize (w5.setCell ⟨w2.heap.size, 0, none⟩ (.string (keyC x.key v))).setCell ⟨w2.heap.size, 1, none⟩ (.int .i64 x.tm) = w6 at g6 b6 y7 ⊢
  have HY6 := Lib.hid y7
  have HB6 := Lib.hid b6
  have HG6 := Lib.hid g6
  have hl6 : w2.heap.size < w6.heap.size := lt_of_heap g6
  have hcf := HCF.out
  have hws : IntKind.i64.wrap (x.c - old) = x.c - old := wrap_in (by omega) (by omega)
  have HMV := Lib.hid (move_any c A va x xa x.ls.length xc w6.heap.size w2.heap.size (keyC x.key v) x.tm [] (.slice none 0 0) (x.c - old) 0 w6 ⟨g6, NewL.nil, hl6⟩ (Nat.le_refl _) (by simp) (nil_amt 0) (by omega) (by omega) (by omega) HA.out (HC.out.step b6) HK.out HXC.out.veh HXC.out.sys)
  have hld := load_blk y7.b0 HA.out.size Tryz.prog
  obtain ⟨x0, x1, x2, x3, x4, x5, x6, -⟩ := blk7 y7.b1
  clear g6 b6 y6 y7 q0 q1 q2 qf hl5 HG5 HXB5 hHeld HY3 HB3 HG3 HL0 HL4 HKY HB35 hxb hcf HY2 HB2
  have hl0 : w.heap.size < w6.heap.size := by omega
  have hl1 : w.heap.size + 1 < w6.heap.size := by omega
  go_wp2_with (first | (refine wpList_loadA _ rfl 46 rfl Tryz.isAgg46 Tryz.sizeOf46 rfl (by with_reducible assumption) ?_) | fail)
  with_reducible refine HMV.out.mono ?_
  rintro r w7 ⟨rfl, ⟨v7, hd7⟩, hk7⟩
  obtain ⟨a7, c7, rfl, -⟩ := hd7.own.form
  have HD7 := Lib.hid hd7
  have HK7 := Lib.hid hk7
  have e2 := (hk7.same (w.heap.size + 2) ⟨by omega, hne2⟩).trans HY6.out.b2
  have HE2 := Lib.hid e2
  obtain ⟨f0, f1, f2, ff⟩ := blk3 e2
  obtain ⟨k0, k1, k2, kf⟩ := blk3 hd7.box
  have f0' : w7.cell? ⟨w.heap.size + 1 + 1, 0, none⟩ = some (.string ⟨#[]⟩) := f0
  have f1' : w7.cell? ⟨w.heap.size + 1 + 1, 1, none⟩ = some (.int .i64 0) := f1
  have f2' : w7.cell? ⟨w.heap.size + 1 + 1, 2, none⟩ = some (.slice none 0 0) := f2
  have ff' : ∀ j, w7.frozen? ⟨w.heap.size + 1 + 1, j, none⟩ = false := ff
  have hl7 : w.heap.size + 1 + 1 < w7.heap.size := lt_of_heap e2
  clear hd7 hk7 e2 f0 f1 f2 ff HMV hld x0 x1 x2 x3 x4 x5 x6
  go_wp2
  generalize (moveP c [] x (x.c - old)).length = len at *
  have g9 : (((w7.setCell ⟨w.heap.size + 1 + 1, 0, none⟩ (.string (keyC x.key v))).setCell ⟨w.heap.size + 1 + 1, 1, none⟩ (.int .i64 x.tm)).setCell ⟨w.heap.size + 1 + 1, 2, none⟩ (.slice a7 len c7)).heap[w.heap.size + 1 + 1]? = some (.cells #[.string (keyC x.key v), .int .i64 x.tm, .slice a7 len c7] 56 (0, 0)) :=
    heap_setCell_same _ _ _ _ _ _ (heap_setCell_same _ _ _ _ _ _ (heap_setCell_same _ _ _ _ _ _ HE2.out))
  have b9 : Below w.heap.size w (((w7.setCell ⟨w.heap.size + 1 + 1, 0, none⟩ (.string (keyC x.key v))).setCell ⟨w.heap.size + 1 + 1, 1, none⟩ (.int .i64 x.tm)).setCell ⟨w.heap.size + 1 + 1, 2, none⟩ (.slice a7 len c7)) :=
    bl_set (bl_set (bl_set (HB6.out.trans (HK7.out.bel.mono (by omega))) _ (by simp only; omega)) _ (by simp only; omega)) _ (by simp only; omega)
  have s9 : SlIs tSI (fun k => w6.heap.size ≤ k ∧ k < w7.heap.size) (((w7.setCell ⟨w.heap.size + 1 + 1, 0, none⟩ (.string (keyC x.key v))).setCell ⟨w.heap.size + 1 + 1, 1, none⟩ (.int .i64 x.tm)).setCell ⟨w.heap.size + 1 + 1, 2, none⟩ (.slice a7 len c7)) (.slice a7 len c7) (moveP c [] x (x.c - old)) :=
    HD7.out.own.sl.keep (fun _ h => h) (fun k hk => by
      have hk1 : k ≠ w.heap.size + 1 + 1 := by have := hk.1; omega
      exact (Below.heap_setCell _ _ _ _ hk1).trans ((Below.heap_setCell _ _ _ _ hk1).trans (Below.heap_setCell _ _ _ _ hk1)))
  obtain ⟨m0, m1, m2, -⟩ := blk3 g9
  have hz9 : w7.heap.size = (((w7.setCell ⟨w.heap.size + 1 + 1, 0, none⟩ (.string (keyC x.key v))).setCell ⟨w.heap.size + 1 + 1, 1, none⟩ (.int .i64 x.tm)).setCell ⟨w.heap.size + 1 + 1, 2, none⟩ (.slice a7 len c7)).heap.size := by simp
  generalize ((w7.setCell ⟨w.heap.size + 1 + 1, 0, none⟩ (.string (keyC x.key v))).setCell ⟨w.heap.size + 1 + 1, 1, none⟩ (.int .i64 x.tm)).setCell ⟨w.heap.size + 1 + 1, 2, none⟩ (.slice a7 len c7) = w9 at *
  refine bodyPost_ret (v := .tuple #[.agg #[.string (keyC x.key v), .int .i64 x.tm, .slice a7 len c7], .int .i64 0]) (by simp [results, Tryz.results12, go_sem, m0, m1, m2]) rfl ⟨⟨_, by rw [HR.out], ?_⟩, b9⟩
  rw [HR.out]
  exact s9.keep (fun k hk => by have := hk.2; omega) (SameOn.refl _ _)
end Go.Proofs.YtifcelebfagjbaaGreatDoor
/-
  Layer 37 (post): slices.DeleteFunc of posts, in a slice of the call's own; clean.
-/
namespace Go.Tw.Po
open Go.RowKit Go.Tw
/-- clear of elements of whatever size -/
theorem run_clear_wide {P : Program} (w : World) (t e ty : TypeId) (z : Value) (ht : P.underlying t = some (.slice e)) (hv : ∀ w, (zeroValue e).run P w = .ok z w) (b o n c : Nat) (hn : 0 < n)
    (hc : ∀ j, j < (Builtin.zeroCells z.cells n).toList.length → (w.cell? ⟨b, o + j, none⟩).isSome = true) (hf : ∀ j, j < (Builtin.zeroCells z.cells n).toList.length → w.frozen? ⟨b, o + j, none⟩ = false) (h1' : ∀ v ∈ (Builtin.zeroCells z.cells n).toList, v.oneCell' = true) :
    (Builtin.clear_ #[t] ty #[.slice (some ⟨b, o, none⟩) n c]).run P w = .ok (.tuple #[]) (w.setCells b o (Builtin.zeroCells z.cells n).toList) := by
  have hst := run_storeCells_cells (P := P) b o (Builtin.zeroCells z.cells n).toList 0 w (by simpa using hc) (by simpa using hf) h1'
  simp only [Nat.add_zero] at hst
  obtain ⟨m, rfl⟩ : ∃ m, n = m + 1 := ⟨n - 1, by omega⟩
  simp [Builtin.clear_, run_underlying ht, hv, hst]
/-- a row of posts: block g's cells -/
def RowS (w : World) (g : Nat) (t : TypeId) (sz : Nat) (L : List SI) : Prop := ∃ A : Array Value, w.heap[g]? = some (.cells A t (0, 0)) ∧ A.size = sz ∧
  ∀ k (h : k < L.length), A[k * 2]? = some (.string L[k].s) ∧ A[k * 2 + 1]? = some (.int .i64 L[k].n)
theorem RowS.cells {w : World} {g : Nat} {t : TypeId} {sz : Nat} {L : List SI} (h : RowS w g t sz L) {k : Nat} (hk : k < L.length) : w.cell? ⟨g, k * 2, none⟩ = some (.string L[k].s) ∧ w.cell? ⟨g, k * 2 + 1, none⟩ = some (.int .i64 L[k].n) ∧ ∀ j, w.frozen? ⟨g, j, none⟩ = false := by
  obtain ⟨A, h1, h2, h3⟩ := h
  obtain ⟨a, b⟩ := h3 k hk
  exact ⟨(cell_of_row _ _ _ _ _ _ h1).trans a, (cell_of_row _ _ _ _ _ _ h1).trans b, fun j => frozen_of_row _ _ j _ _ h1⟩
theorem RowS.lt {w : World} {g : Nat} {t : TypeId} {sz : Nat} {L : List SI} (h : RowS w g t sz L) : g < w.heap.size := by obtain ⟨A, h1, -⟩ := h; exact lt_of_heap h1
theorem RowS.block {w w' : World} {g : Nat} {t : TypeId} {sz : Nat} {L : List SI} (h : RowS w g t sz L) (he : w'.heap[g]? = w.heap[g]?) : RowS w' g t sz L := by
  obtain ⟨A, h1, h2⟩ := h
  exact ⟨A, he.trans h1, h2⟩
theorem RowS.set {w : World} {g : Nat} {t : TypeId} {sz i : Nat} {L : List SI} (h : RowS w g t sz L) (hi : i < L.length) (s : ByteArray) (n : Int) :
    RowS ((w.setCell ⟨g, i * 2, none⟩ (.string s)).setCell ⟨g, i * 2 + 1, none⟩ (.int .i64 n)) g t sz (L.set i ⟨s, n⟩) := by
  obtain ⟨A, h1, h2, h3⟩ := h
  refine ⟨_, heap_setCell_same _ _ (i * 2 + 1) _ _ (.int .i64 n) (heap_setCell_same _ _ (i * 2) _ _ (.string s) h1), by simpa using h2, fun k hk => ?_⟩
  have hk' : k < L.length := by simpa using hk
  obtain ⟨a, b⟩ := h3 k hk'
  obtain ⟨-, d'⟩ := h3 i hi
  have hlt : i * 2 + 1 < A.size := (Array.getElem?_eq_some_iff.1 d').1
  simp only [Array.getElem?_setIfInBounds, Array.size_setIfInBounds]
  by_cases e : i = k
  · subst e
    simp [hlt, show i * 2 < A.size by omega]
  · rw [List.getElem_set_ne e]
    refine ⟨?_, ?_⟩
    · rw [if_neg (by omega), if_neg (by omega)]; exact a
    · rw [if_neg (by omega), if_neg (by omega)]; exact b
/-- .. of an own slice -/
theorem RowS.of {e : TypeId} {B : Nat} {w : World} {v : Value} {l : List SI} (h : NewL tSI e B w v l) (hl : 0 < l.length) : ∃ g cap, v = .slice (some ⟨g, 0, none⟩) l.length cap ∧ B ≤ g ∧ RowS w g e (cap * 2) l ∧ l.length ≤ cap ∧ cap ≤ maxLen ∧ ∀ x ∈ l, SIOk x := by
  obtain ⟨F, ⟨css, Fs, h1, h2, rfl⟩, hn, hB⟩ := h
  have hat := h2.is.at.2
  rcases h1.2 with ⟨q, q2⟩ | ⟨g, cap, cur, q, q1, q2, q3, q4, q5, q6⟩
  · omega
  refine ⟨g, cap, q, hB g (by rw [q]; simp [Value.ownBlock]), ⟨cur, q2, q5, fun k hk => ?_⟩, q3, q4, fun x hx => ?_⟩
  · obtain ⟨cs, c1, c2, c3⟩ := hat k hk
    obtain ⟨rfl, -⟩ := tSI_is c2
    have key : ∀ j, j < 2 → cur[k * 2 + j]? = (siCells l[k])[j]? := fun j hj => by
      rw [← c3 j hj, ← q6, List.getElem?_take, if_pos (by show k * 2 + j < l.length * 2; omega), Array.getElem?_toList]
      rfl
    exact ⟨key 0 (by decide), key 1 (by decide)⟩
  · obtain ⟨k, hk, rfl⟩ := List.getElem_of_mem hx
    obtain ⟨cs, c1, c2, c3⟩ := hat k hk
    exact (tSI_is c2).2
theorem RowS.sl {w : World} {g cap : Nat} {e : TypeId} {L : List SI} {S : Nat → Prop} (h : RowS w g e (cap * 2) L) (hg : S g) (hc : L.length ≤ cap) (hm : cap ≤ maxLen) (hL : ∀ x ∈ L, SIOk x) : SlIs tSI S w (.slice (some ⟨g, 0, none⟩) L.length cap) L := by
  refine ⟨some ⟨g, 0, none⟩, cap, g, 0, rfl, hc, hm, fun e => (by cases e), fun k hk => ?_⟩
  refine ⟨rfl, hg, h.lt, siCells L[k], fun j hj => ?_, tSI_mk (hL _ (List.getElem_mem hk))⟩
  obtain ⟨a, b, -⟩ := h.cells hk
  have hj4 : j < 2 := hj
  rw [show 0 + k * tSI.sz + j = k * 2 + j from by show 0 + k * 2 + j = _; omega]
  match j, hj4 with
  | 0, _ => exact a
  | 1, _ => exact b
theorem setCells_low {g : Nat} {e : TypeId} : ∀ (vs : List Value) (o : Nat) (w : World) (cur : Array Value), w.heap[g]? = some (.cells cur e (0, 0)) → ∃ cur', (w.setCells g o vs).heap[g]? = some (.cells cur' e (0, 0)) ∧ cur'.size = cur.size ∧ ∀ k, k < o → cur'[k]? = cur[k]?
  | [], _, w, cur, h => ⟨cur, h, rfl, fun _ _ => rfl⟩
  | v :: r, o, w, cur, h => by
    obtain ⟨cur', h1, h2, h3⟩ := setCells_low r (o + 1) (w.setCell ⟨g, o, none⟩ v) _ (heap_setCell_same _ _ _ _ _ _ h)
    refine ⟨cur', h1, by simpa using h2, fun k hk => ?_⟩
    rw [h3 k (by omega), Array.getElem?_setIfInBounds, if_neg (by omega)]
theorem RowS.clear {w : World} {g : Nat} {t : TypeId} {sz : Nat} {K D : List SI} (h : RowS w g t sz (K ++ D)) (vs : List Value) : RowS (w.setCells g (K.length * 2) vs) g t sz K := by
  obtain ⟨A, h1, h2, h3⟩ := h
  obtain ⟨A', g1, g2, g3⟩ := setCells_low vs (K.length * 2) w A h1
  refine ⟨A', g1, g2.trans h2, fun k hk => ?_⟩
  obtain ⟨a, b⟩ := h3 k (by rw [List.length_append]; omega)
  rw [List.getElem_append_left hk] at a b
  rw [g3 _ (by omega), g3 _ (by omega)]
  exact ⟨a, b⟩
theorem row_set {α : Type} {K L : List α} {i : Nat} (hi : K.length = i) (hl : i < L.length) (x : α) : (K ++ L.drop i).set i x = (K ++ [x]) ++ L.drop (i + 1) := by
  subst hi
  rw [List.set_append_right _ _ (Nat.le_refl _), Nat.sub_self, List.drop_eq_getElem_cons hl, List.set_cons_zero, List.append_assoc]
  rfl
theorem row_get {α : Type} {K L : List α} {i j : Nat} (hi : K.length = i) (hij : i ≤ j) (hj : j < L.length) (h : j < (K ++ L.drop i).length) : (K ++ L.drop i)[j] = L[j] := by
  subst hi
  rw [List.getElem_append_right hij, List.getElem_drop]
  congr 1
  omega
/-- what is kept -/
def kept (x : SI) : Bool := !decide (x.n = 0)
theorem kept_clean (l : List SI) : l.filter kept = cleanP l := rfl
theorem kept_take {L : List SI} {k : Nat} (h : k < L.length) : (L.take (k + 1)).filter kept = if kept L[k] then (L.take k).filter kept ++ [L[k]] else (L.take k).filter kept := by
  rw [List.take_succ_eq_append_getElem h, List.filter_append]
  by_cases q : kept L[k] <;> simp [q]
theorem zero2 (n : Nat) : ∀ v ∈ (Builtin.zeroCells (Value.agg #[.string ByteArray.empty, .int .i64 0]).cells n).toList, v.oneCell' = true := by
  intro v hv
  unfold Builtin.zeroCells at hv
  simp only [Array.toList_map, List.mem_map] at hv
  obtain ⟨i, -, rfl⟩ := hv
  have e : (Value.agg #[.string ByteArray.empty, .int .i64 0]).cells = #[.string ByteArray.empty, .int .i64 0] := by rfl
  rw [e]
  have : i % 2 = 0 ∨ i % 2 = 1 := by omega
  show (#[Value.string ByteArray.empty, .int .i64 0][i % 2]!).oneCell' = true
  rcases this with q | q <;> rw [q] <;> rfl
/-- what is elsewhere is as it was -/
structure Off (g : Nat) (w wr : World) : Prop where
  bel : Below g w wr
  sz : w.heap.size ≤ wr.heap.size
  oth : ∀ k, k < w.heap.size → k ≠ g → wr.heap[k]? = w.heap[k]?
theorem Off.refl (g : Nat) (w : World) : Off g w w := ⟨Below.refl _ _, Nat.le_refl _, fun _ _ _ => rfl⟩
theorem Off.below {g : Nat} {w wr w' : World} (h : Off g w wr) (hg : g < w.heap.size) (hb : Below wr.heap.size wr w') : Off g w w' :=
  ⟨h.bel.trans (hb.mono (by have := h.sz; omega)), Nat.le_trans h.sz hb.size, fun k h1 h2 => (hb.block k (Nat.lt_of_lt_of_le h1 h.sz)).trans (h.oth k h1 h2)⟩
theorem Off.set {g o : Nat} {v : Value} {w wr : World} (h : Off g w wr) : Off g w (wr.setCell ⟨g, o, none⟩ v) :=
  ⟨h.bel.setCell (Nat.le_refl _) v, by simpa using h.sz, fun k h1 h2 => (Below.heap_setCell _ _ _ _ h2).trans (h.oth k h1 h2)⟩
theorem Off.setCells {g : Nat} {w : World} : ∀ (vs : List Value) (o : Nat) (wr : World), Off g w wr → Off g w (wr.setCells g o vs)
  | [], _, _, h => h
  | _ :: r, o, _, h => Off.setCells r (o + 1) _ h.set
end Go.Tw.Po
namespace Go.Proofs.YtifcelebfagjbaaGreatDoor
open Go.RowKit Go.Tw Go.Tw.Ord Go.Tw.Po Go.Sort
theorem pred_any (f : SI) (w : World) : Calls Tryz.prog 115 #[.agg #[.string f.s, .int .i64 f.n]] w fun e w' => e = .returned (.bool (!kept f)) ∧ Below w.heap.size w w' := by
  have HK := Lib.hid (show (!kept f) = (f.n == 0) by unfold kept; rw [Bool.not_not]; rfl)
  go_enter Tryz.func115, Tryz.ntmps115
  go_wp2
  go_ret
  exact ⟨ret_bool HK.out, bl_alloc (Below.refl _ _) _⟩
set_option maxRecDepth 100000 in
set_option maxHeartbeats 2000000 in
theorem indexP_any (L : List SI) (g cap : Nat) (t : TypeId) (sz : Nat) (w : World) (hr : RowS w g t sz L) (hcap : L.length ≤ cap) (hm : cap ≤ maxLen) :
    Calls Tryz.prog 139 #[.slice (some ⟨g, 0, none⟩) L.length cap, .func (.func 115) #[] #[]] w
      fun e w' => ((e = .returned (.int .i64 (-1)) ∧ L.filter kept = L) ∨ ∃ i, ∃ h : i < L.length, e = .returned (.int .i64 i) ∧ kept L[i] = false ∧ (L.take i).filter kept = L.take i) ∧ Below w.heap.size w w' := by
  have HR := Lib.hid hr
  have hgl := hr.lt
  unfold maxLen at hm
  clear hr
  go_enter Tryz.func139, Tryz.ntmps139
  go_wp2
  go_loopg [8] L.length (fun g' i wr => ∃ k : Nat, k + g' = L.length ∧ i = .int .i64 k ∧ Hid ((L.take k).filter kept = L.take k) ∧ Below w.heap.size w wr)
  case atStart => exact ⟨0, by omega, rfl, Lib.hid rfl, Below.refl _ _⟩
  case round =>
    obtain ⟨k, hk, rfl, HK, hb1⟩ := hrel
    have HB := Lib.hid hb1
    by_cases hk2 : k < L.length
    · have HRw := Lib.hid (HR.out.block (hb1.block g hgl))
      obtain ⟨x, hx⟩ : ∃ x, L[k] = x := ⟨_, rfl⟩
      obtain ⟨y0, y1, yf⟩ := HRw.out.cells hk2
      rw [hx] at y0 y1
      have HKT := Lib.hid (kept_take hk2)
      have HKX := Lib.hid (show kept L[k] = kept x by rw [hx])
      have HTS := Lib.hid (List.take_succ_eq_append_getElem hk2)
      obtain ⟨xs, xn⟩ := x
      simp only at y0 y1
      have HP := Lib.hid (pred_any ⟨xs, xn⟩ wr)
      have k0 : (0 : Int) ≤ (k : Int) := by omega
      have k1 : (k : Int) < (L.length : Int) := by omega
      clear hb1
      cases hq : kept ⟨xs, xn⟩
      · rw [hq] at HP
        have HQ := Lib.hid (HKX.out.trans hq)
        clear hq hx
        go_wp2_with (go_at_call 115; with_reducible refine HP.out.mono ?_; rintro e w2 ⟨rfl, hb3⟩; have HB3 := Lib.hid (bl_trans HB.out hb3); clear hb3)
        go_ret
        exact ⟨.inr ⟨k, hk2, rfl, HQ.out, HK.out⟩, HB3.out⟩
      · rw [hq] at HP
        have HQ := Lib.hid (HKX.out.trans hq)
        clear hq hx
        go_wp2_with (go_at_call 115; with_reducible refine HP.out.mono ?_; rintro e w2 ⟨rfl, hb3⟩; have HB3 := Lib.hid (bl_trans HB.out hb3); clear hb3)
        go_roundg (L.length - (k + 1))
        case measure => omega
        case rel => exact ⟨k + 1, by omega, by go_num, Lib.hid (by rw [HKT.out, if_pos HQ.out, HK.out, HTS.out]), HB3.out⟩
    · obtain rfl : k = L.length := by omega
      have hkd : decide ((L.length : Int) < (L.length : Int)) = false := by simp
      have HK2 := Lib.hid (show L.filter kept = L by have := HK.out; rwa [List.take_length] at this)
      clear hk2
      go_wp2
      go_ret
      exact ⟨.inl ⟨rfl, HK2.out⟩, HB.out⟩
/-- what DeleteFunc leaves -/
def DelE (w : World) (g : Nat) (S : Nat → Prop) (l : List SI) (e : Ending) (w' : World) : Prop := ∃ v', e = .returned v' ∧ SlIs tSI S w' v' l ∧ Off g w w'
set_option maxRecDepth 100000 in
set_option maxHeartbeats 4000000 in
theorem delP_any (L : List SI) (g cap : Nat) (w : World) (S : Nat → Prop) (hS : S g) (hL : ∀ x ∈ L, SIOk x) (hr : RowS w g 101 (cap * 2) L) (hcap : L.length ≤ cap) (hm : cap ≤ maxLen) :
    Calls Tryz.prog 114 #[.slice (some ⟨g, 0, none⟩) L.length cap, .func (.func 115) #[] #[]] w
      (DelE w g S (cleanP L)) := by
  have HR := Lib.hid hr
  have HL := Lib.hid hL
  have hgl := hr.lt
  have HI := Lib.hid (indexP_any L g cap _ _ w hr hcap hm)
  have HMX := Lib.hid hm
  unfold maxLen at hm
  clear hr hL
  go_enter Tryz.func114, Tryz.ntmps114
  go_wp2_with (fail)
  with_reducible refine HI.out.mono ?_
  rintro e w1 ⟨he, hb1⟩
  have HOF := Lib.hid ((Off.refl g w).below hgl hb1)
  have HR1 := Lib.hid (HR.out.block (hb1.block g hgl))
  rcases he with ⟨rfl, hk⟩ | ⟨i, hi, rfl, hki, hkt⟩
  · have HK := Lib.hid hk
    clear hk hb1
    go_wp2_with (fail)
    go_ret
    refine ⟨_, rfl, ?_, HOF.out⟩
    rw [← kept_clean, HK.out]
    exact HR1.out.sl hS hcap HMX.out HL.out
  have HK0 := Lib.hid (show (L.take (i + 1)).filter kept = L.take i by rw [kept_take hi, if_neg (by simp [hki]), hkt])
  have hi2 : IntKind.i64.wrap ((i : Int) + 1) = ((i + 1 : Nat) : Int) := by rw [wrap_in (by omega) (by omega)]; rfl
  have hi3 : ((i : Int) == -1) = false := by first | (simp; done) | (simp; omega)
  clear hki hkt hb1
  go_wp2_with (fail)
  go_loopg [6, 5] (L.length - (i + 1)) (fun g' j' i' wr => ∃ j i : Nat, j + g' = L.length ∧ j' = .int .i64 j ∧ i' = .int .i64 i ∧ i < j ∧ Hid (((L.take j).filter kept).length = i) ∧ RowS wr g 101 (cap * 2) ((L.take j).filter kept ++ L.drop i) ∧ Off g w wr)
  case atStart => exact ⟨i + 1, i, by omega, by go_num, rfl, by omega, Lib.hid (by rw [HK0.out, List.length_take]; omega), by rw [HK0.out, List.take_append_drop]; exact HR1.out, HOF.out⟩
  case round =>
    clear HK0 HR1 HOF hi2 hi3
    obtain ⟨j, i, hj, rfl, rfl, hij, HK, hrow, hoff⟩ := hrel
    have HROW := Lib.hid hrow
    have HOFF := Lib.hid hoff
    clear hrow hoff
    obtain ⟨K, hKK⟩ : ∃ K, (L.take j).filter kept = K := ⟨_, rfl⟩
    rw [hKK] at HK HROW
    have HKK := Lib.hid hKK
    clear hKK
    by_cases hjl : j < L.length
    · have hjr : j < (K ++ L.drop i).length := by rw [List.length_append, HK.out, List.length_drop]; omega
      have hir : i < (K ++ L.drop i).length := by omega
      obtain ⟨y0, y1, yf⟩ := HROW.out.cells hjr
      have e := row_get HK.out (by omega) hjl hjr
      rw [e] at y0 y1
      have HKT := Lib.hid (kept_take hjl)
      obtain ⟨x, hx⟩ : ∃ x, L[j] = x := ⟨_, rfl⟩
      rw [hx] at y0 y1 HKT
      obtain ⟨xs, xn⟩ := x
      simp only at y0 y1
      have hglr := HROW.out.lt
      have hszr := HOFF.out.sz
      have HP := Lib.hid (show ∀ o, Calls Tryz.prog 115 #[.agg #[.string xs, .int .i64 xn]] (wr.alloc o) fun e w' => e = .returned (.bool (!kept ⟨xs, xn⟩)) ∧ Below (wr.alloc o).heap.size (wr.alloc o) w' from fun o => pred_any ⟨xs, xn⟩ (wr.alloc o))
      have j0 : (0 : Int) ≤ (j : Int) := by omega
      have j1 : (j : Int) < (L.length : Int) := by omega
      have i0 : (0 : Int) ≤ (i : Int) := by omega
      have i1 : (i : Int) < (L.length : Int) := by omega
      clear e hx hjr
      cases hq : kept ⟨xs, xn⟩
      · rw [hq] at HP
        have HT := Lib.hid (HKT.out.trans (if_neg (by simp [hq])))
        clear hq
        go_wp2_with (go_at_call 115; with_reducible refine (HP.out _).mono ?_; rintro e w2 ⟨rfl, hb3⟩; have HB3 := Lib.hid (show Below wr.heap.size wr w2 from (bl_alloc (Below.refl _ _) _).trans (hb3.mono (by simp))); clear hb3)
        go_roundg (L.length - (j + 1))
        case measure => omega
        case rel => exact ⟨j + 1, i, by omega, by go_num, rfl, by omega, Lib.hid (by rw [HT.out, HKK.out]; exact HK.out), by rw [HT.out, HKK.out]; exact HROW.out.block (HB3.out.block g hglr), HOFF.out.below hgl HB3.out⟩
      · rw [hq] at HP
        have HT := Lib.hid (HKT.out.trans (if_pos hq))
        clear hq
        go_wp2_with (
          go_at_call 115
          with_reducible refine (HP.out _).mono ?_
          rintro e w2 ⟨rfl, hb3⟩
          have HB3 := Lib.hid (show Below wr.heap.size wr w2 from (bl_alloc (Below.refl _ _) _).trans (hb3.mono (by simp)))
          have HR2 := Lib.hid (HROW.out.block (HB3.out.block g hglr))
          obtain ⟨u0, u1, u4⟩ := blk2 (below_new hb3 (by simp))
          obtain ⟨z0, z1, zf⟩ := HR2.out.cells hir
          clear hb3)
        have HR3 := Lib.hid (HR2.out.set hir xs xn)
        rw [row_set HK.out (by omega)] at HR3
        go_roundg (L.length - (j + 1))
        case measure => omega
        case rel => exact ⟨j + 1, i + 1, by omega, by go_num, by go_num, by omega, Lib.hid (by rw [HT.out, HKK.out, List.length_append, HK.out]; rfl), by rw [HT.out, HKK.out]; exact HR3.out, (HOFF.out.below hgl HB3.out).set.set⟩
    · obtain rfl : j = L.length := by omega
      have hkd : decide ((L.length : Int) < (L.length : Int)) = false := by simp
      have HKF := Lib.hid (show L.filter kept = K by have := HKK.out; rwa [List.take_length] at this)
      have i0 : (0 : Int) ≤ (i : Int) := by omega
      have i1 : (i : Int) ≤ (L.length : Int) := by omega
      have i2 : (i : Int) ≤ (cap : Int) := by omega
      have hrl := HROW.out
      obtain ⟨A, a1, a2, a3⟩ := hrl
      have hzl : (Builtin.zeroCells (Value.agg #[.string ByteArray.empty, .int .i64 0]).cells (L.length - i)).toList.length = (L.length - i) * 2 := by
        unfold Builtin.zeroCells
        simp
        rfl
      have hasz : L.length * 2 ≤ A.size := by rw [a2]; omega
      have hcl : ∀ ty, (Builtin.clear_ #[54] ty #[.slice (some ⟨g, i * 2, none⟩) (L.length - i) (cap - i)]).run Tryz.prog wr = .ok (.tuple #[]) (wr.setCells g (i * 2) (Builtin.zeroCells (Value.agg #[.string ByteArray.empty, .int .i64 0]).cells (L.length - i)).toList) :=
        fun ty => Po.run_clear_wide wr _ 101 ty _ Tryz.underlying54 (fun _ => by kernel_rfl) g (i * 2) _ _ (by omega) (fun t ht => by
          rw [hzl] at ht
          rw [cell_of_row _ _ _ _ _ _ a1, Array.getElem?_eq_getElem (by omega)]; rfl) (fun t _ => frozen_of_row _ _ _ _ _ a1) (zero2 _)
      have HRC := Lib.hid (show RowS (wr.setCells g (i * 2) (Builtin.zeroCells (Value.agg #[.string ByteArray.empty, .int .i64 0]).cells (L.length - i)).toList) g 101 (cap * 2) K by
        have := HROW.out.clear (Builtin.zeroCells (Value.agg #[.string ByteArray.empty, .int .i64 0]).cells (L.length - i)).toList
        rwa [HK.out] at this)
      have HOC := Lib.hid (HOFF.out.setCells (Builtin.zeroCells (Value.agg #[.string ByteArray.empty, .int .i64 0]).cells (L.length - i)).toList (i * 2))
      clear a1 a2 a3 hzl hasz hjl
      go_wp2_with (fail)
      go_ret
      refine ⟨_, rfl, ?_, HOC.out⟩
      have hfin := HRC.out.sl hS (by rw [HK.out]; omega) HMX.out (fun x hx => by
        have hxL : x ∈ L := by rw [← HKF.out] at hx; exact (List.mem_filter.1 hx).1
        exact HL.out x hxL)
      rw [HK.out] at hfin
      rw [← kept_clean, HKF.out]
      exact hfin
/-- clean -/
theorem clean_any (B g : Nat) (key : ByteArray) (tm : Int) (l : List SI) (v : Value) (w : World) (hbx : w.heap[g]? = some (.cells #[.string key, .int .i64 tm, v] 105 (0, 0))) (ho : NewL tSI 101 B w v l) (hne : some g ≠ v.ownBlock) (hl : 0 < l.length) (hBg : B ≤ g) :
    Calls Tryz.prog 87 #[.pointer (some ⟨g, 0, none⟩)] w fun e w' => e = .returned (.tuple #[]) ∧ (∃ v', w'.heap[g]? = some (.cells #[.string key, .int .i64 tm, v'] 105 (0, 0)) ∧ SlIs tSI (fun k => B ≤ k ∧ k ≠ g ∧ k < w'.heap.size) w' v' (cleanP l)) ∧ Below B w w' ∧ ∀ k, k < w.heap.size → k ≠ g → some k ≠ v.ownBlock → w'.heap[k]? = w.heap[k]? := by
  obtain ⟨g2, cap, rfl, hB, hrow, h1, h2, hok⟩ := RowS.of ho hl
  obtain ⟨c0, c1, c2, cf⟩ := blk3 hbx
  have hgg : g ≠ g2 := fun e => hne (by rw [e]; rfl)
  have HDEL := Lib.hid (delP_any l g2 cap w (fun k => B ≤ k ∧ k ≠ g ∧ k < w.heap.size) ⟨hB, fun e => hgg e.symm, hrow.lt⟩ hok hrow h1 h2)
  have HBX := Lib.hid hbx
  have hg := lt_of_heap hbx
  clear hbx ho hrow hok hne
  go_enter Tryz.func87, Tryz.ntmps87
  go_wp2_with (fail)
  with_reducible refine HDEL.out.mono ?_
  rintro e w2 ⟨v', rfl, hs, hoff⟩
  have hbx := (hoff.oth g hg hgg).trans HBX.out
  obtain ⟨ao, cp, _, _, rfl, -⟩ := id hs
  obtain ⟨r0, r1, r2, rf⟩ := blk3 hbx
  have hg2 := lt_of_heap hbx
  have HS := Lib.hid hs
  have HOF := Lib.hid hoff
  have HB2 := Lib.hid hbx
  clear hs hoff hbx c0 c1 c2 cf HDEL HBX
  go_wp2
  go_end0
  refine ⟨rfl, ⟨_, heap_setCell_same _ _ _ _ _ _ HB2.out, ?_⟩, ?_, fun k h1 h2 h3 => ?_⟩
  · refine HS.out.keep (fun k hk => ⟨hk.1, hk.2.1, ?_⟩) (fun k hk => Below.heap_setCell _ _ _ _ (fun e => hk.2.1 e))
    have h1 := HOF.out.sz
    have h2 := hk.2.2
    simp only [World.size_setCell]
    omega
  · exact (HOF.out.bel.mono hB).setCell hBg _
  · exact (Below.heap_setCell _ _ _ _ h2).trans (HOF.out.oth k h1 (fun e => h3 (by rw [e]; rfl)))
end Go.Proofs.YtifcelebfagjbaaGreatDoor
/-
  Layer 32 (ledger): balances: a map of accounts.
-/
namespace Go.Tw.Po
open Go.RowKit Go.Tw Go.Sort Go.Tw.Ord
theorem isKey (x : List UInt8) : WideAt.IsKeyLit (.string x) := trivial
/-- a map's datum holds the amounts A -/
structure Holds (D : DataW Unit) (A : ByteArray → Option Int) : Prop where
  has : ∀ s, Maps.has D (.string (kb s)) = (A s).isSome
  val : ∀ s c, A s = some c → ∀ zd, D.atKey (.string (kb s)) zd = .lit (.int .i64 c)
theorem Holds.nil : Holds (.map []) (fun _ => none) := ⟨fun _ => rfl, fun _ _ h => by cases h⟩
theorem Holds.put {D : DataW Unit} {A : ByteArray → Option Int} (h : Holds D A) (hm : Maps.IsMap D) (s : ByteArray) (c : Int) : Holds (D.put (.string (kb s)) (.lit (.int .i64 c))) (fun y => if y = s then some c else A y) := by
  refine ⟨fun y => ?_, fun y d hy zd => ?_⟩
  · by_cases e : y = s
    · subst e; rw [if_pos rfl, Maps.has_put_same hm (isKey _)]; rfl
    · rw [if_neg e, Maps.has_put_other (by intro q; injection q with q; exact e (kb_inj q)), h.has]
  · by_cases e : y = s
    · subst e; rw [if_pos rfl] at hy; injection hy with hy; subst hy; rw [Maps.atKey_put_same hm (isKey _)]
    · rw [if_neg e] at hy; rw [Maps.atKey_put_other (by intro q; injection q with q; exact e (kb_inj q)), h.val y d hy]
theorem Holds.ext {D : DataW Unit} {A B : ByteArray → Option Int} (h : Holds D A) (he : ∀ s, A s = B s) : Holds D B := by
  have : A = B := funext he
  subst this; exact h
theorem Holds.get {D : DataW Unit} {A : ByteArray → Option Int} (h : Holds D A) (s : ByteArray) : D.atKey (.string (kb s)) (.lit (.int .i64 0)) = .lit (.int .i64 ((A s).getD 0)) := by
  cases e : A s with
  | none => rw [Maps.atKey_of_not_has (by rw [h.has, e]; rfl)]; rfl
  | some c => rw [h.val s c e]; rfl
/-- all posts -/
def posL (l : List Ent) : List SI := l.flatMap Ent.ps
/-- what the map of balances holds -/
def bm (ps : List SI) (a : ByteArray) : Option Int := if (ps.any fun p => decide (p.s = a)) = true then some (sumL (ps.filter fun p => decide (p.s = a))) else none
theorem bm_get (ps : List SI) (a : ByteArray) : (bm ps a).getD 0 = sumL (ps.filter fun p => decide (p.s = a)) := by
  unfold bm
  split
  · rfl
  · rename_i h
    rw [List.filter_eq_nil_iff.2]
    · rfl
    · intro p hp hq
      exact h (List.any_eq_true.2 ⟨p, hp, hq⟩)
theorem bm_snoc (ps : List SI) (p : SI) (a : ByteArray) : bm (ps ++ [p]) a = if a = p.s then some ((bm ps p.s).getD 0 + p.n) else bm ps a := by
  by_cases h : a = p.s
  · subst h
    rw [if_pos rfl, bm_get]
    unfold bm
    rw [if_pos (by simp), List.filter_append, List.filter_cons, if_pos (by simp), List.filter_nil, sumL_snoc]
  · rw [if_neg h]
    unfold bm
    have h' : ¬ p.s = a := fun e => h e.symm
    have e1 : (ps ++ [p]).filter (fun p => decide (p.s = a)) = ps.filter fun p => decide (p.s = a) := by
      rw [List.filter_append, List.filter_cons, if_neg (by simp [h']), List.filter_nil, List.append_nil]
    have e2 : (ps ++ [p]).any (fun p => decide (p.s = a)) = ps.any fun p => decide (p.s = a) := by
      rw [List.any_append]; simp [h']
    rw [e1, e2]
theorem bm_nil (a : ByteArray) : bm [] a = none := rfl
theorem sumL_app (a b : List SI) : sumL (a ++ b) = sumL a + sumL b := by unfold sumL; simp
theorem bal_flat (a : ByteArray) (l : List Ent) : balL a l = sumL ((posL l).filter fun p => decide (p.s = a)) := by
  unfold balL posL
  induction l with
  | nil => rfl
  | cons e l ih =>
    rw [List.map_cons, List.sum_cons, ih, List.flatMap_cons, List.filter_append, sumL_app]
    rfl
theorem bal_bound {l : List SI} (h : Fit l) (a : ByteArray) : -1125899906842624 * (l.length : Int) ≤ sumL (l.filter fun p => decide (p.s = a)) ∧ sumL (l.filter fun p => decide (p.s = a)) ≤ 1125899906842624 * (l.length : Int) := by
  have hf : Fit (l.filter fun p => decide (p.s = a)) := fun x hx => h x (List.mem_filter.1 hx).1
  have := fit_sum hf
  have hl := List.length_filter_le (fun p : SI => decide (p.s = a)) l
  omega
/-- ledgers that balances adds up without overflow -/
structure LOk (N : Nat) (l : List Ent) : Prop where
  len : (posL l).length ≤ N
  fit : Fit (posL l)
theorem pos_len {l : List Ent} (h : ∀ e ∈ l, e.ps.length ≤ 4) : (posL l).length ≤ 4 * l.length := by
  unfold posL
  induction l with
  | nil => simp
  | cons e l ih =>
    rw [List.flatMap_cons, List.length_append, List.length_cons]
    have h1 := h e List.mem_cons_self
    have h2 := ih fun x hx => h x (List.mem_cons_of_mem _ hx)
    omega
theorem LOk.of {l : List Ent} {N : Nat} (h : ∀ e ∈ l, EOk e) (hl : l.length ≤ N) : LOk (4 * N) l := by
  refine ⟨?_, fun p hp => ?_⟩
  · have := pos_len fun e he => (h e he).ps
    omega
  · obtain ⟨e, he, hq⟩ := List.mem_flatMap.1 hp
    exact (h e he).fit p hq
theorem pos_take {l : List Ent} {k : Nat} (h : k < l.length) : posL (l.take (k + 1)) = posL (l.take k) ++ l[k].ps := by
  unfold posL
  rw [List.take_succ_eq_append_getElem h, List.flatMap_append]
  simp
theorem pos_split {l : List Ent} {k : Nat} (h : k < l.length) : posL l = posL (l.take k) ++ (l[k].ps ++ posL (l.drop (k + 1))) := by
  conv => lhs; rw [← List.take_append_drop k l, List.drop_eq_getElem_cons h]
  unfold posL
  rw [List.flatMap_append, List.flatMap_cons]
end Go.Tw.Po
namespace Go.Proofs.YtifcelebfagjbaaGreatDoor
open Go.RowKit Go.Tw Go.Tw.Ord Go.Tw.Po Go.Sort Go.Maps
theorem i64_wf {n : Int} (h : i64ok n) : (Lit.int .i64 n).wf = true := by
  unfold i64ok at h
  simpa [Lit.wf, IntKind.min, IntKind.max, IntKind.signed, IntKind.bits] using h
def AmtMap (w : World) (m n : Nat) (D : DataW Unit) : Prop := w.ownsMap Tryz.prog 9 (plainElem Tryz.prog 3) m n D
theorem keyedS : Keyed Tryz.prog 9 := string_keyed Tryz.underlying9
theorem own_below {H : Type} {P : Program} {k : TypeId} {R : Value → Option (DataW H × List MemPlace)} {w w' : World} {b n : Nat} {D : DataW H} (h : w.ownsMap P k R b n D) (hb : Below w.heap.size w w') : w'.ownsMap P k R b n D := by
  obtain ⟨es, clock, h1, h2⟩ := h
  exact ⟨es, clock, Go.Tw.Below.at_old hb h1, h2⟩
set_option maxRecDepth 100000 in
set_option maxHeartbeats 4000000 in
theorem balances_any (l : List Ent) (v : Value) (w : World) (h : SlIs (tEnt 101) (· < w.heap.size) w v l) (hk : LOk 4004 l) :
    Calls Tryz.prog 105 #[v] w fun e w' => (∃ m D, e = .returned (.map (some m)) ∧ AmtMap w' m 4004 D ∧ Holds D (bm (posL l)) ∧ w.heap.size ≤ m) ∧ Below w.heap.size w w' := by
  obtain ⟨ao, cap, bi, off, rfl, hl, hm, ho⟩ := ent_open h
  unfold maxLen at hm
  have HO := Lib.hid ho
  have HF := Lib.hid hk
  have hm0 : AmtMap (w.alloc (.map #[] 0)) w.heap.size 0 (.map []) := World.ownsMap_made (H := Unit) w Tryz.prog 9 (plainElem Tryz.prog 3)
  have HM0 := Lib.hid hm0
  clear h ho hk hm0
  have hmm := @run_makeMap Tryz.prog
  go_enter Tryz.func105, Tryz.ntmps105
  go_wp2
  clear hmm
  go_loopg [11] l.length (fun g i wr => ∃ (k : Nat) (D : DataW Unit), k + g = l.length ∧ i = .int .i64 k ∧ AmtMap wr w.heap.size (posL (l.take k)).length D ∧ Hid (Holds D (bm (posL (l.take k)))) ∧ Below w.heap.size w wr)
  case atStart => exact ⟨0, .map [], by omega, rfl, HM0.out, Lib.hid Holds.nil, bl_alloc (Below.refl _ _) _⟩
  case round =>
    obtain ⟨k, D, hk, rfl, hmp, HD, hbl⟩ := hrel
    have HBO := Lib.hid hbl
    by_cases hlt : k < l.length
    · obtain ⟨rfl, -, hbi, hok, hv, hsl, d0, d1, d2⟩ := HO.out wr (.of_below hbl) k hlt
      have k0 : (0 : Int) ≤ (k : Int) := by omega
      have k1 : (k : Int) < (l.length : Int) := by omega
      have HPT := Lib.hid (pos_take hlt)
      have HPS := Lib.hid (pos_split hlt)
      generalize l[k] = y at *
      have HSL := Lib.hid (si_open hsl)
      obtain ⟨a2, c2, b2, o2, hv2, h21, h22, ho2⟩ := HSL.out
      subst hv2
      unfold maxLen at h22
      have HO2 := Lib.hid ho2
      have HMA := Lib.hid (World.ownsMap.alloc hmp (.cells #[.string y.key, .int .i64 y.tm, .slice a2 y.ps.length c2] 56))
      have HBA := Lib.hid (bl_alloc hbl (.cells #[.string y.key, .int .i64 y.tm, .slice a2 y.ps.length c2] 56))
      have hmw : w.heap.size < wr.heap.size := hmp.lt
      obtain ⟨q, hq⟩ : ∃ q, posL (l.take k) = q := ⟨_, rfl⟩
      rw [hq] at HMA HD HPT HPS
      have HL := Lib.hid (show q.length + y.ps.length ≤ 4004 ∧ Fit (q ++ y.ps) from by
        have h1 := HF.out.len
        have h2 := HF.out.fit
        rw [HPS.out] at h1 h2
        rw [List.length_append, List.length_append] at h1
        exact ⟨by omega, fun x hx => h2 x (by
          rw [← List.append_assoc]; exact List.mem_append_left _ hx)⟩)
      clear hbl hmp hq HSL ho2
      obtain ⟨wo, rfl⟩ : ∃ wo : World, wo = wr := ⟨_, rfl⟩
      go_wp2
      go_loopg [18] y.ps.length (fun g i wr => ∃ (j : Nat) (D : DataW Unit), j + g = y.ps.length ∧ i = .int .i64 j ∧ AmtMap wr w.heap.size (q.length + j) D ∧ Hid (Holds D (bm (q ++ y.ps.take j))) ∧ Below w.heap.size w wr)
      case atStart => exact ⟨0, D, by omega, rfl, HMA.out, by rw [List.take_zero, List.append_nil]; exact HD, HBA.out⟩
      case round =>
        obtain ⟨j, D, hj, rfl, hmp, HD, hbl⟩ := hrel
        have HB := Lib.hid hbl
        by_cases hlt2 : j < y.ps.length
        · have hsame : SameOn (· < w.heap.size) wo wr := fun b hb => (hbl.block b hb).trans (HBO.out.block b hb).symm
          obtain ⟨rfl, -, hb2, hop, e0, e1⟩ := HO2.out wr hsame j hlt2
          have j0 : (0 : Int) ≤ (j : Int) := by omega
          have j1 : (j : Int) < (y.ps.length : Int) := by omega
          have HPJ := Lib.hid (show q ++ y.ps.take (j + 1) = (q ++ y.ps.take j) ++ [y.ps[j]] by rw [List.take_succ_eq_append_getElem hlt2, List.append_assoc])
          have hb0 := bal_bound (l := q ++ y.ps.take j) (fun x hx => HL.out.2 x (by
            rcases List.mem_append.1 hx with hx | hx
            · exact List.mem_append_left _ hx
            · exact List.mem_append_right _ (List.mem_of_mem_take hx))) y.ps[j].s
          have hbl2 : (q ++ y.ps.take j).length ≤ 4004 := by rw [List.length_append, List.length_take]; have := HL.out.1; omega
          have hfp := fitsM_iff.1 (HL.out.2 y.ps[j] (List.mem_append_right _ (List.getElem_mem hlt2)))
          have HG := Lib.hid (HD.out.get y.ps[j].s)
          rw [bm_get] at HG
          have HST := Lib.hid (fun a => (congrArg (bm · a) HPJ.out).trans (bm_snoc (q ++ y.ps.take j) y.ps[j] a))
          have hqj : q.length + j < maxLen := by have := HL.out.1; unfold maxLen; omega
          obtain ⟨c, hr1, hat1, hw1⟩ := World.ownsMap.lookup_int (World.ownsMap.alloc hmp (.cells #[.string y.ps[j].s, .int .i64 y.ps[j].n] 101)) keyedS Tryz.underlying175 Tryz.underlying3 (by kernel_rfl) (Go.WideMaps.keyOf_string_mk Tryz.underlying9 hop.s)
          have hcv : c = sumL ((q ++ y.ps.take j).filter fun p => decide (p.s = y.ps[j].s)) := by
            have := hat1.symm.trans HG.out
            injection this with this
            injection this
          have HBM := Lib.hid (bm_get (q ++ y.ps.take j) y.ps[j].s)
          rw [← hcv] at HBM hb0
          have HOP := Lib.hid hop.s
          have HMP := Lib.hid hmp
          generalize y.ps[j] = p at *
          obtain ⟨xs, xn⟩ := p
          simp only at *
          have hwr : IntKind.i64.wrap (c + xn) = c + xn := wrap_in (by omega) (by omega)
          have hci : i64ok (c + xn) := by unfold i64ok; omega
          have hmw2 : w.heap.size < wr.heap.size := hmp.lt
          clear hb0 hat1 hw1 hcv HG hmp hop
          go_wp2_with (
            at_mapUpdate
            refine wpList_mapUpdate_own _ rfl _ _ _ 175 rfl 9 3 keyedS Tryz.underlying175 _ w.heap.size _ _ rfl (HMP.out.alloc _) hqj _ _ (.string (kb xs)) rfl rfl (Go.WideMaps.keyOf_string_mk Tryz.underlying9 HOP.out) (.lit (.int .i64 (c + xn))) [] (plainElem_int Tryz.underlying3 (i64_wf hci)) ?_
            intro w3 hown3 hg3
            go_frame)
          go_roundg (y.ps.length - (j + 1))
          case measure => omega
          case rel =>
            refine ⟨j + 1, _, by omega, by go_num, hown3, Lib.hid ((HD.out.put HMP.out.isMap xs (c + xn)).ext fun s => ?_), ?_⟩
            · rw [HST.out s, HBM.out]
            · exact (bl_alloc HB.out _).grown hg3 (by have := HB.out.size; simp; omega) (fun j e => by injection e with e; omega)
        · obtain rfl : j = y.ps.length := by omega
          have hjd : decide ((y.ps.length : Int) < (y.ps.length : Int)) = false := by simp
          rw [List.take_length] at HD
          have HMP := Lib.hid hmp
          clear hmp hbl
          go_wp2
          go_roundg (l.length - (k + 1))
          case measure => omega
          case rel => exact ⟨k + 1, D, by omega, by go_num, by rw [HPT.out, List.length_append]; exact HMP.out, by rw [HPT.out]; exact HD, HB.out⟩
    · obtain rfl : k = l.length := by omega
      have hkd : decide ((l.length : Int) < (l.length : Int)) = false := by simp
      rw [List.take_length] at hmp HD
      have HMP := Lib.hid hmp
      clear hmp hbl hlt hk
      go_wp2
      go_ret
      exact ⟨⟨_, D, rfl, HMP.out.mono HF.out.len, HD.out, Nat.le_refl _⟩, HBO.out⟩
end Go.Proofs.YtifcelebfagjbaaGreatDoor
/-
  Layer 32 (ledger): Post.
-/
namespace Go.Proofs.YtifcelebfagjbaaGreatDoor
open Go.RowKit Go.Tw Go.Tw.Ord Go.Tw.Po Go.Sort Go.Maps
/-- the boxes of Post: the ledger, the entry, the result -/
structure PW (n : Nat) (a : Value) (e : Ent) (p : Value) (wr : World) : Prop where
  b0 : wr.heap[n]? = some (.cells #[a] 68 (0, 0))
  b1 : wr.heap[n + 1]? = some (.cells #[.string e.key, .int .i64 e.tm, p] 56 (0, 0))
  b2 : wr.heap[n + 2]? = some (.cells #[.slice none 0 0] 68 (0, 0))
theorem PW.step {n B : Nat} {a p : Value} {e : Ent} {w w' : World} (h : PW n a e p w) (hb : Below B w w') (hB : n + 2 < B) : PW n a e p w' :=
  ⟨(hb.block _ (by omega)).trans h.b0, (hb.block _ (by omega)).trans h.b1, (hb.block _ (by omega)).trans h.b2⟩
theorem PW.put {n : Nat} {a p : Value} {e : Ent} {w : World} (h : PW n a e p w) {q : Addr} (hq : n + 2 < q.block) (u : Value) : PW n a e p (w.setCell q u) :=
  ⟨(Below.heap_setCell _ _ _ _ (by omega)).trans h.b0, (Below.heap_setCell _ _ _ _ (by omega)).trans h.b1, (Below.heap_setCell _ _ _ _ (by omega)).trans h.b2⟩
theorem PW.grown {n r : Nat} {a p : Value} {e : Ent} {w w' : World} (h : PW n a e p w) (hg : w.grownBy w' (some r)) (hr : n + 2 < r) : PW n a e p w' :=
  ⟨grown_at hg h.b0 (by intro q; injection q with q; omega), grown_at hg h.b1 (by intro q; injection q with q; omega), grown_at hg h.b2 (by intro q; injection q with q; omega)⟩
theorem sameK (s t : ByteArray) : (Lit.string (kb s)).sameKey (.string (kb t)) = decide (s = t) := by
  by_cases e : s = t
  · subst e; rw [WideAt.sameKey_self (isKey _)]; simp
  · rw [Maps.sameKey_ne (by intro q; injection q with q; exact e (kb_inj q)), decide_eq_false e]
theorem enc_kb (s : ByteArray) : encStr (kb s) = .string s := by
  unfold encStr kb
  simp
theorem bm_some {ps : List SI} {s : ByteArray} {c : Int} (h : bm ps s = some c) : c = sumL (ps.filter fun p => decide (p.s = s)) ∧ ∃ p ∈ ps, p.s = s := by
  unfold bm at h
  split at h
  · rename_i ha
    obtain ⟨p, hp, hq⟩ := List.any_eq_true.1 ha
    exact ⟨(Option.some.inj h).symm, p, hp, by simpa using hq⟩
  · cases h
theorem bm_is {ps : List SI} {p : SI} (h : p ∈ ps) : (bm ps p.s).isSome = true := by
  unfold bm
  rw [if_pos (List.any_eq_true.2 ⟨p, h, by simp⟩)]
  rfl
theorem post_chk {es : List Ent} {e : Ent} (h : entC e ≠ 0) : postL es e = (es, entC e) := by unfold postL; rw [if_pos h]
theorem post_key {es : List Ent} {e : Ent} (h : entC e = 0) (h2 : (es.any fun x => decide (x.key = e.key)) = true) : postL es e = (es, 9) := by unfold postL; rw [if_neg (by simp [h]), if_pos h2]
theorem post_bad {es : List Ent} {e : Ent} (h : entC e = 0) (h2 : (es.any fun x => decide (x.key = e.key)) = false) (h3 : (e.ps.all fun p => fitsM (balL p.s es + balE p.s e)) = false) : postL es e = (es, 13) := by unfold postL; rw [if_neg (by simp [h]), if_neg (by simp [h2]), if_neg (by simp [h3])]
theorem post_ok {es : List Ent} {e : Ent} (h : entC e = 0) (h2 : (es.any fun x => decide (x.key = e.key)) = false) (h3 : (e.ps.all fun p => fitsM (balL p.s es + balE p.s e)) = true) : postL es e = (es ++ [e], 0) := by unfold postL; rw [if_neg (by simp [h]), if_neg (by simp [h2]), if_pos h3]
theorem fndE_is {es : List Ent} {s : ByteArray} : (fndE es s).isSome = es.any fun x => decide (x.key = s) := by
  unfold fndE
  rw [Bool.eq_iff_iff, List.find?_isSome]
  simp
theorem invKs {key : Value} {kl : Lit} (h : keyOf Tryz.prog 9 key = some kl) : ∃ x, key = encStr x := by
  obtain ⟨x, hx, -⟩ := Maps.keyOf_str Tryz.underlying9 h
  exact ⟨x, hx⟩
theorem invVi {v : Value} {y : DataW Unit × List MemPlace} (h : plainElem Tryz.prog 3 v = some y) : ∃ c, v = Value.int .i64 c := by
  obtain ⟨c, rfl, -⟩ := plainElem_int_inv Tryz.underlying3 h
  exact ⟨c, rfl⟩
set_option maxRecDepth 100000 in
set_option maxHeartbeats 4000000 in
theorem post_any (B : Nat) (es : List Ent) (ve : Value) (e : Ent) (pe : Value) (w : World) (hB : B ≤ w.heap.size) (hs : SlIs (tEnt 101) (· < B) w ve es) (hp : SlIs tSI (· < w.heap.size) w pe e.ps) (he : EntOk e) (hes : ∀ x ∈ es, EOk x) (hl : es.length ≤ 1000) (hep : e.ps.length ≤ 4) :
    Calls Tryz.prog 66 #[.agg #[ve], .agg #[.string e.key, .int .i64 e.tm, pe]] w fun r w' => (∃ ve', r = .returned (.tuple #[.agg #[ve'], .int .i64 (postL es e).2]) ∧ SlIs (tEnt 101) (fun k => (k < B ∨ w.heap.size ≤ k) ∧ k < w'.heap.size) w' ve' (postL es e).1) ∧ Below w.heap.size w w' := by
  have h : SlIs (tEnt 101) (· < w.heap.size) w ve es := hs.keep (fun k (hk : k < B) => Nat.lt_of_lt_of_le hk hB) (SameOn.refl _ _)
  have HEB := Lib.hid hs
  clear hs
  have h0 := alloc3 w (.cells #[ve] 68) (.cells #[.string e.key, .int .i64 e.tm, pe] 56) (.cells #[.slice none 0 0] 68)
  have HP := Lib.hid (show PW w.heap.size ve e pe (((w.alloc (.cells #[ve] 68)).alloc (.cells #[.string e.key, .int .i64 e.tm, pe] 56)).alloc (.cells #[.slice none 0 0] 68)) from ⟨h0.1, h0.2.1, h0.2.2⟩)
  have HB0 := Lib.hid (bl_alloc (bl_alloc (bl_alloc (Below.refl w.heap.size w) (.cells #[ve] 68)) (.cells #[.string e.key, .int .i64 e.tm, pe] 56)) (.cells #[.slice none 0 0] 68))
  have HE := Lib.hid h
  have HPS := Lib.hid hp
  have HES := Lib.hid hes
  have hs0 : w.heap.size + 2 < (((w.alloc (.cells #[ve] 68)).alloc (.cells #[.string e.key, .int .i64 e.tm, pe] 56)).alloc (.cells #[.slice none 0 0] 68)).heap.size := by simp
  have HCK := Lib.hid (lcheck_any e pe _ he (hp.step HB0.out))
  obtain ⟨ao, cap, bi, off, rfl, hl1, hm1, heo⟩ := ent_open h
  have HEO := Lib.hid heo
  unfold maxLen at hm1
  obtain ⟨ao2, cap2, bi2, off2, rfl, hl2, hm2, -⟩ := si_open hp
  have HOK := Lib.hid he
  clear h hp hes h0 he heo
  obtain ⟨z, hz⟩ : ∃ z, entC e = z := ⟨_, rfl⟩
  rw [hz] at HCK
  by_cases hz0 : z = 0
  case neg =>
    have HR := Lib.hid (post_chk (es := es) (by rw [hz]; exact hz0))
    rw [hz] at HR
    have hz1 : (z != 0) = true := by simpa using hz0
    clear hz hz0
    go_enter Tryz.func66, Tryz.ntmps66
    go_wp2_with (fail)
    with_reducible refine HCK.out.mono ?_
    rintro r w2 ⟨rfl, hb⟩
    have HP2 := Lib.hid (HP.out.step hb hs0)
    have HB2 := Lib.hid (bl_trans HB0.out hb)
    have c0 := (blk1 HP2.out.b0).1
    obtain ⟨c2, cf⟩ := blk1 HP2.out.b2
    have hlt := lt_of_heap HP2.out.b2
    clear hb HCK HP hs0
    go_wp2
    have g5 : (w2.setCell ⟨w.heap.size + 1 + 1, 0, none⟩ (.slice ao es.length cap)).heap[w.heap.size + 1 + 1]? = some (.cells #[.slice ao es.length cap] 68 (0, 0)) := heap_setCell_same _ _ _ _ _ _ HP2.out.b2
    have k5 := (blk1 g5).1
    have b5 : Below w.heap.size w (w2.setCell ⟨w.heap.size + 1 + 1, 0, none⟩ (.slice ao es.length cap)) := bl_set HB2.out _ (by simp only; omega)
    refine bodyPost_ret (v := .tuple #[.agg #[.slice ao es.length cap], .int .i64 z]) (by simp [results, Tryz.results66, go_sem, k5]) rfl ⟨⟨_, by rw [HR.out], ?_⟩, b5⟩
    rw [HR.out]
    exact HEB.out.keep (fun k (hk : k < B) => ⟨.inl hk, Nat.lt_of_lt_of_le hk (Nat.le_trans hB b5.size)⟩) (.of_below (b5.mono hB))
  subst hz0
  have hz1 : ((0 : Int) != 0) = false := rfl
  go_enter Tryz.func66, Tryz.ntmps66
  go_wp2_with (fail)
  with_reducible refine HCK.out.mono ?_
  rintro r w2 ⟨rfl, hb⟩
  have HP2 := Lib.hid (HP.out.step hb hs0)
  have HB2 := Lib.hid (bl_trans HB0.out hb)
  have c0 := (blk1 HP2.out.b0).1
  obtain ⟨d0, d1, d2, -⟩ := blk3 HP2.out.b1
  obtain ⟨c2, cf⟩ := blk1 HP2.out.b2
  have hlt := lt_of_heap HP2.out.b2
  clear hb HCK HP hs0
  have HFI := Lib.hid (lfind_any es (.slice ao es.length cap) e.key w2 (HE.out.step HB2.out) (fun x hx => by have := (HES.out x hx).ps; omega))
  rw [fndE_is] at HFI
  obtain ⟨q, hq⟩ : ∃ q, (es.any fun x => decide (x.key = e.key)) = q := ⟨_, rfl⟩
  rw [hq] at HFI
  go_wp2_with (fail)
  with_reducible refine HFI.out.mono ?_
  rintro r w3 ⟨⟨xa, xn, xc, rfl⟩, hb⟩
  generalize ((fndE es e.key).getD zeroE).key = fk at *
  generalize ((fndE es e.key).getD zeroE).tm = ft at *
  have HP3 := Lib.hid (HP2.out.step hb hlt)
  have HB3 := Lib.hid (bl_trans HB2.out hb)
  have hlt3 := lt_of_heap HP3.out.b2
  have l0 : w.heap.size < w3.heap.size := by omega
  have l1 : w.heap.size + 1 < w3.heap.size := by omega
  have l2 : w.heap.size + 1 + 1 < w3.heap.size := by omega
  clear hb c0 d0 d1 d2 c2 cf HFI HP2 HB2 hlt
  have c0 := (blk1 HP3.out.b0).1
  obtain ⟨d0, d1, d2, -⟩ := blk3 HP3.out.b1
  obtain ⟨c2, cf⟩ := blk1 HP3.out.b2
  cases q with
  | true =>
    have HR := Lib.hid (post_key hz hq)
    clear hz hq
    go_wp2
    have g5 := alloc1_old (.cells #[.string fk, .int .i64 ft, .slice xa xn xc] 56) (show (w3.setCell ⟨w.heap.size + 1 + 1, 0, none⟩ (.slice ao es.length cap)).heap[w.heap.size + 1 + 1]? = some (.cells #[.slice ao es.length cap] 68 (0, 0)) from heap_setCell_same _ _ _ _ _ _ HP3.out.b2)
    have k5 := (blk1 g5).1
    have b5 : Below w.heap.size w ((w3.setCell ⟨w.heap.size + 1 + 1, 0, none⟩ (.slice ao es.length cap)).alloc (.cells #[.string fk, .int .i64 ft, .slice xa xn xc] 56)) := bl_alloc (bl_set HB3.out _ (by simp only; omega)) _
    refine bodyPost_ret (v := .tuple #[.agg #[.slice ao es.length cap], .int .i64 9]) (by simp [results, Tryz.results66, go_sem, k5]) rfl ⟨⟨_, by rw [HR.out], ?_⟩, b5⟩
    rw [HR.out]
    exact HEB.out.keep (fun k (hk : k < B) => ⟨.inl hk, Nat.lt_of_lt_of_le hk (Nat.le_trans hB b5.size)⟩) (.of_below (b5.mono hB))
  | false =>
    have hA := bl_alloc (Below.refl w3.heap.size w3) (.cells #[.string fk, .int .i64 ft, .slice xa xn xc] 56)
    have HBA := Lib.hid (bl_trans HB3.out hA)
    have HPA := Lib.hid (HP3.out.step hA hlt3)
    have hltA := lt_of_heap HPA.out.b2
    have HM1 := Lib.hid (balances_any es (.slice ao es.length cap) (w3.alloc (.cells #[.string fk, .int .i64 ft, .slice xa xn xc] 56)) (HE.out.keep (fun k (hk : k < w.heap.size) => Nat.lt_of_lt_of_le hk HBA.out.size) (.of_below HBA.out)) ⟨by have := (LOk.of HES.out hl).len; omega, (LOk.of HES.out hl).fit⟩)
    go_wp2_with (fail)
    with_reducible refine HM1.out.mono ?_
    rintro r w4 ⟨⟨M1, D1, rfl, hm1, hd1, hM1⟩, hb⟩
    have HP4 := Lib.hid (HPA.out.step hb hltA)
    have HB4 := Lib.hid (bl_trans HBA.out hb)
    have hlt4 := lt_of_heap HP4.out.b2
    have HMM := Lib.hid hm1
    have HDD := Lib.hid hd1
    have hM1' : w.heap.size + 3 ≤ M1 := by omega
    clear hA hb c0 d0 d1 d2 c2 cf HM1 HP3 HB3 hm1 hd1 HPA HBA
    have l0 : w.heap.size < w4.heap.size := by omega
    have l1 : w.heap.size + 1 < w4.heap.size := by omega
    have l2 : w.heap.size + 1 + 1 < w4.heap.size := by omega
    have c0 := (blk1 HP4.out.b0).1
    obtain ⟨d0, d1, d2, -⟩ := blk3 HP4.out.b1
    obtain ⟨c2, cf⟩ := blk1 HP4.out.b2
    have hfe := ent_facts hz
    have HM2 := Lib.hid (balances_any [e] (.slice (some ⟨w4.heap.size, 0, none⟩) 1 1) (w4.alloc (.cells #[.string e.key, .int .i64 e.tm, .slice ao2 e.ps.length cap2] 56))
      ((SlIs.single (T := tEnt 101) (S := (· < w.heap.size)) (cs := #[.string e.key, .int .i64 e.tm, .slice ao2 e.ps.length cap2]) (tEnt_mk HOK.out (HPS.out.keep (fun _ h => h) (.of_below HB4.out))) (fun k hk => Nat.lt_of_lt_of_le hk HB4.out.size)).keep (fun k hk => by
        have := HB4.out.size
        rcases hk with hk | hk
        · simp; omega
        · simp; omega) (SameOn.refl _ _))
      ⟨by simp [posL]; omega, by have := hfe.2.2.2.1; simpa [posL] using this⟩)
    go_wp2_with (fail)
    with_reducible refine HM2.out.mono ?_
    rintro r w5 ⟨⟨M2, D2, rfl, hm2, hd2, hM2⟩, hb⟩
    have hA := bl_alloc (Below.refl w4.heap.size w4) (.cells #[.string e.key, .int .i64 e.tm, .slice ao2 e.ps.length cap2] 56)
    have hb45 := bl_trans hA hb
    have HP5 := Lib.hid (HP4.out.step hb45 hlt4)
    have HB5 := Lib.hid (bl_trans HB4.out hb45)
    have HM5 := Lib.hid (show AmtMap w5 M1 4004 D1 from own_below HMM.out hb45)
    have HM6 := Lib.hid hm2
    have hpe : posL [e] = e.ps := by simp [posL]
    rw [hpe] at hd2
    have HD2 := Lib.hid (show Po.Holds D2 (bm e.ps) from hd2)
    have h12 : M1 < M2 := by have := HMM.out.lt; simp at hM2; omega
    have h2w : M2 < w5.heap.size := hm2.lt
    have HFE := Lib.hid hfe.2.2.2.1
    have HLE := Lib.hid (LOk.of HES.out hl)
    clear hA hb hb45 hm2 hd2 HM2 HMM c0 d0 d1 d2 c2 cf HP4 HB4 hfe l0 l1 l2
    go_wp2_with (first
      | (at_range; refine wpList_range_own _ rfl _ 175 rfl 9 3 keyedS Tryz.underlying175 _ M2 4004 D2 rfl HM6.out ?_; intro w6 hrg0 hg0 hs0)
      | go_in)
    go_frame
    have hb6 : Below w5.heap.size w5 w6 := (Below.refl _ _).grown hg0 (Nat.le_refl _) (fun j hj => by cases hj)
    obtain ⟨r, hr⟩ : ∃ r, w5.heap.size = r := ⟨_, rfl⟩
    have HP6 := Lib.hid (HP5.out.step hb6 (lt_of_heap HP5.out.b2))
    have HB6 := Lib.hid (bl_trans HB5.out hb6)
    have HM7 := Lib.hid (show AmtMap w6 M1 4004 D1 from own_below HM5.out hb6)
    rw [hr] at hrg0 hs0 h2w ⊢
    have h0r : w.heap.size + 2 < r := by have := lt_of_heap HP5.out.b2; omega
    clear hb6 hr HP5 HB5 HM5 HM6
    go_loopw [10, 11] (fun _ _ wr => ∃ (left : Lit → Bool) (cnt : Nat), wr.ranges Tryz.prog 9 (plainElem Tryz.prog 3) M2 r 4004 D2 left cnt ∧ AmtMap wr M1 4004 D1 ∧ Hid (∀ s, (bm e.ps s).isSome = true → left (.string (kb s)) = false → fitsM (balL s es + balE s e) = true) ∧ PW w.heap.size (.slice ao es.length cap) e (.slice ao2 e.ps.length cap2) wr ∧ Below w.heap.size w wr)
      (fun _ _ wr => wr.rangeLeft M2 r)
    case atStart => exact ⟨_, _, hrg0, HM7.out, Lib.hid (fun s h1 h2 => by rw [HD2.out.has s, h1] at h2; cases h2), HP6.out, HB6.out⟩
    case round =>
      obtain ⟨left, cnt, hrg, hM, HF, hpw, hbl⟩ := hrel
      go_wp2_with (first
        | (at_next; refine wpList_next_ranges _ rfl _ rfl 9 keyedS (plainElem Tryz.prog 3) encStr (Value.int .i64) (fun _ _ h => invKs h) (fun _ _ h => invVi h) M2 r 4004 D2 _ _ rfl hrg ?_ ?_)
        | go_in)
      · intro hc0 hl0
        have HR := Lib.hid (post_ok hz hq (List.all_eq_true.2 fun p hp => HF.out p.s (bm_is hp) (hl0 _)))
        have HPO := Lib.hid hpw
        have HBO := Lib.hid hbl
        have hlo := lt_of_heap hpw.b2
        clear hc0 hl0 hrg hM HF hpw hbl hz hq hrg0 hg0 hs0 HM7 HP6 HB6 HDD HD2 HLE
        obtain ⟨wo, rfl⟩ : ∃ wo : World, wo = wr := ⟨_, rfl⟩
        have l0 : w.heap.size < wo.heap.size := by omega
        have c0 := (blk1 HPO.out.b0).1
        go_wp2
        clear c0
        go_loopg [53] es.length (fun g i wr => ∃ (k : Nat) (v3 : Value), k + g = es.length ∧ i = .int .i64 k ∧ PW w.heap.size (.slice ao es.length cap) e (.slice ao2 e.ps.length cap2) wr ∧ wr.heap[wo.heap.size]? = some (.cells #[v3] 68 (0, 0)) ∧ NewL (tEnt 101) 56 (wo.heap.size + 1) wr v3 (es.take k) ∧ Below w.heap.size w wr ∧ wo.heap.size + 1 ≤ wr.heap.size)
        case atStart => exact ⟨0, _, by omega, rfl, HPO.out.step (bl_alloc (Below.refl wo.heap.size wo) _) (by omega), heap_alloc_new _ _, NewL.nil, bl_alloc HBO.out _, by simp⟩
        case round =>
          obtain ⟨k, v3, hk, rfl, hpw, hob, hn, hbl, hso⟩ := hrel
          have HN2 := Lib.hid hn
          have HPW := Lib.hid hpw
          have HB2 := Lib.hid hbl
          have HOB := Lib.hid hob
          obtain ⟨a4, c4, rfl, -⟩ := hn.form
          have htl2 : (es.take k).length = k := by simp; omega
          rw [htl2] at HN2 HOB hob
          clear hn hpw
          by_cases hlt2 : k < es.length
          · obtain ⟨rfl, -, hbi2, hok, hv, hsl, d0, d1, d2⟩ := HEO.out wr (.of_below hbl) k hlt2
            have hll := (HES.out _ (List.getElem_mem hlt2)).ps
            have HG2 := Lib.hid (show es.take (k + 1) = es.take k ++ [es[k]] from List.take_succ_eq_append_getElem hlt2)
            have k0 : (0 : Int) ≤ (k : Int) := by omega
            have k1 : (k : Int) < (es.length : Int) := by omega
            generalize es[k] = y at *
            obtain ⟨hva, hvn, hvc, hve⟩ : ∃ a n c, hv = .slice a n c := by
              obtain ⟨a, c, _, _, e, -⟩ := hsl
              exact ⟨a, _, c, e⟩
            subst hve
            have hsl1 : SlIs tSI (· < wr.heap.size) wr (.slice hva hvn hvc) y.ps := hsl.keep (fun q (hq : q < w.heap.size) => Nat.lt_of_lt_of_le hq hbl.size) (SameOn.refl _ _)
            have HSL := Lib.hid hsl1
            have HOKY := Lib.hid hok
            clear hsl hsl1 hok hbl
            go_upto_region 17 with (fail)
            have hb3 := bl_alloc (Below.refl wr.heap.size wr) (.cells #[.string y.key, .int .i64 y.tm, .slice hva hvn hvc] 56)
            have n3 := heap_alloc_new wr (.cells #[.string y.key, .int .i64 y.tm, .slice hva hvn hvc] 56)
            generalize wr.alloc (.cells #[.string y.key, .int .i64 y.tm, .slice hva hvn hvc] 56) = wb at hb3 n3 ⊢
            have HB3 := Lib.hid hb3
            have g3 := (hb3.block wo.heap.size (by omega)).trans HOB.out
            have HK1 := Lib.hid (show ∀ w', Below wb.heap.size wb w' → w'.cell? ⟨wo.heap.size, 0, none⟩ = some (.slice a4 k c4) from fun w' hw' => (blk1 ((hw'.block _ (lt_of_heap g3)).trans g3)).1)
            have HK3 := Lib.hid (show ∀ w', Below wb.heap.size wb w' → w'.cell? ⟨wr.heap.size, 0, none⟩ = some (.string y.key) ∧ w'.cell? ⟨wr.heap.size, 1, none⟩ = some (.int .i64 y.tm) ∧ w'.cell? ⟨wr.heap.size, 2, none⟩ = some (.slice hva hvn hvc) from fun w' hw' => by
              obtain ⟨z0, z1, z2, -⟩ := blk3 ((hw'.block _ (lt_of_heap n3)).trans n3)
              exact ⟨z0, z1, z2⟩)
            have HCC := Lib.hid (show ∀ W, Below wb.heap.size wb W → Calls Tryz.prog 106 #[.agg #[.string y.key, .int .i64 y.tm, .slice hva hvn hvc]] W fun e w' => ∃ h', e = .returned (.agg #[.string y.key, .int .i64 y.tm, h']) ∧ NewL tSI 101 W.heap.size w' h' y.ps ∧ Below W.heap.size W w' from fun W hW => cloneE_any y _ W ((HSL.out.step HB3.out).step hW) (by omega))
            clear hb3 g3 n3 d0 d1 d2
            refine wp_region_E 5 (fun w' => Below wb.heap.size wb w') (by kernel_rfl) ((by (repeat (first | (with_reducible exact Below.refl _ _) | (with_reducible apply bl_drewN) | (with_reducible apply bl_alloc) | (with_reducible apply Below.drew))); done)) (fun hHeld => ?_)
            refine wpE_take (i := 0) (v := ?_) rfl (by kernel_rfl) (fun _ _ _ h => h) (Or.inl ⟨by kernel_rfl, ?_⟩) (by assumption) ?_
            rotate_left
            focus (intro w9 hS9; (try dsimp only at hS9); go_simp; (try with_reducible rfl))
            (try simp only [List.getElem_toArray, List.getElem_cons_zero])
            (try simp only [Act.put])
            (try simp only [List.setIfInBounds_toArray])
            (repeat (first | simp only [List.set_cons_succ] | simp only [List.set_cons_zero]))
            refine wpE_take (i := 1) (v := ?_) rfl (by kernel_rfl) (fun _ _ _ h => h) (Or.inl ⟨by kernel_rfl, ?_⟩) (by assumption) ?_
            rotate_left
            focus (intro w9 hS9; have z0 := HK1.out w9 hS9; clear hS9; go_simp; (try with_reducible rfl))
            (try simp only [List.getElem_toArray, List.getElem_cons_succ, List.getElem_cons_zero])
            (try simp only [Act.put])
            (try simp only [List.setIfInBounds_toArray])
            (repeat (first | simp only [List.set_cons_succ] | simp only [List.set_cons_zero]))
            refine wpE_take (i := 2) (v := ?_) rfl (by kernel_rfl) (fun _ _ _ h => h) (Or.inl ⟨by kernel_rfl, ?_⟩) (by assumption) ?_
            rotate_left
            focus (intro w9 hS9; obtain ⟨z0, z1, z2⟩ := HK3.out w9 hS9; clear hS9; go_simp; (try with_reducible rfl))
            (try simp only [List.getElem_toArray, List.getElem_cons_succ, List.getElem_cons_zero])
            (try simp only [Act.put])
            (try simp only [List.setIfInBounds_toArray])
            (repeat (first | simp only [List.set_cons_succ] | simp only [List.set_cons_zero]))
            refine wpE_ready (rs := [3]) (by kernel_rfl) (by kernel_rfl) ?_
            refine AllReadyE.cons rfl (fun K hK => ?_) AllReadyE.nil
            go_simp
            with_reducible refine (HCC.out _ (by (repeat (first | (with_reducible exact Below.refl _ _) | (with_reducible apply bl_drewN) | (with_reducible apply bl_alloc) | (with_reducible apply Below.drew))); done)).mono ?_
            rintro e9 w5 ⟨h', rfl, hn5, hb5⟩
            obtain ⟨a5, c5, rfl, -⟩ := hn5.form
            have HN5 := Lib.hid (show NewL tSI 101 wb.heap.size w5 (.slice a5 y.ps.length c5) y.ps from hn5)
            have HB5 := Lib.hid (show Below wb.heap.size wb w5 from bl_trans (by (repeat (first | (with_reducible exact Below.refl _ _) | (with_reducible apply bl_drewN) | (with_reducible apply bl_alloc) | (with_reducible apply Below.drew))); done) hb5)
            clear hn5 hb5 HCC
            clear hHeld
            refine hK.out _ _ (HB5.out) (fun hHeld => ?_)
            clear hK K
            refine wpE_ready (rs := [4]) (by kernel_rfl) (by kernel_rfl) ?_
            refine AllReadyE.cons rfl (fun K hK => ?_) AllReadyE.nil
            go_simp
            clear hHeld
            refine hK.out _ _ (bl_trans HB5.out (by (repeat (first | (with_reducible exact Below.refl _ _) | (with_reducible apply bl_drewN) | (with_reducible apply bl_alloc) | (with_reducible apply Below.drew))); done)) (fun hHeld => ?_)
            clear hK K
            clear hHeld
            refine wpE_out (by kernel_rfl) ?_
            refine wpAny_ready (rs := [5]) (by kernel_rfl) (by simp) ?_
            refine AllReady.cons rfl (fun K hK => ?_) AllReady.nil
            rw [if_pos (show _ = true by kernel_rfl)]
            have hj6 : (es.take k).length ≤ 1000000 := by omega
            refine wp_append_new (w1 := wr) (.tmp 58) (.tmp 61) 66 rfl slEnt (by go_simp) HN2.out (by first | exact bl_trans HB3.out HB5.out | exact bl_trans HB3.out (bl_trans HB5.out (by (repeat (first | (with_reducible exact Below.refl _ _) | (with_reducible apply bl_drewN) | (with_reducible apply bl_alloc) | (with_reducible apply Below.drew))); done))) (by go_simp) (newEnt HOKY.out (HN5.out.mono HB3.out.size)) (by omega) (by unfold maxLen; omega) hso ?_
            intro v6 w6 hn6 hb6
            have hf6 := hn6.form
            rw [List.length_append, htl2] at hf6
            obtain ⟨a6, c6, rfl, -⟩ := hf6
            have hbx : Below (wo.heap.size + 1) wr w6 := ((bl_trans HB3.out HB5.out).mono (by omega)).trans hb6
            have hpx := HPW.out.step hbx (by omega)
            have g6 := (hbx.block wo.heap.size (by omega)).trans HOB.out
            obtain ⟨r0, rf⟩ := blk1 g6
            have hl6 : wo.heap.size < w6.heap.size := lt_of_heap g6
            have HN6 := Lib.hid hn6
            have HBX := Lib.hid (show Below w.heap.size w w6 from HB2.out.trans (hbx.mono (by omega)))
            have HPX := Lib.hid hpx
            have HG6 := Lib.hid g6
            have HZX := Lib.hid (show wo.heap.size + 1 ≤ w6.heap.size from hl6)
            clear hn6 hb6 hbx hpx g6
            refine hK _ _ ?_
            clear hK K
            (try simp only [List.getElem_toArray, List.getElem_cons_succ, List.getElem_cons_zero])
            (try simp only [Act.put])
            (try simp only [List.setIfInBounds_toArray])
            (repeat (first | simp only [List.set_cons_succ] | simp only [List.set_cons_zero]))
            refine wpAny_ready (rs := [6]) (by kernel_rfl) (by simp) ?_
            refine AllReady.cons rfl (fun K hK => ?_) AllReady.nil
            rw [if_pos (show _ = true by kernel_rfl)]
            go_simp
            refine hK _ _ ?_
            clear hK K
            refine wpAny_ready (rs := [7]) (by kernel_rfl) (by simp) ?_
            refine AllReady.cons rfl (fun K hK => ?_) AllReady.nil
            rw [if_pos (show _ = true by kernel_rfl)]
            go_simp
            refine hK _ _ ?_
            clear hK K
            refine wpAny_done (by kernel_rfl) ?_ _
            go_wp2
            go_roundg (es.length - (k + 1))
            case measure => omega
            case rel => exact ⟨k + 1, _, by omega, by go_num, HPX.out.put (by simp only; omega) _, heap_setCell_same _ _ _ _ _ _ HG6.out, by rw [HG2.out]; exact HN6.out.same (fun q hq => Below.heap_setCell _ _ _ _ (by simp; omega)), bl_set HBX.out _ (by simp; omega), by simpa using HZX.out⟩
          · obtain rfl : k = es.length := by omega
            have hkd2 : decide ((es.length : Int) < (es.length : Int)) = false := by simp
            rw [List.take_length] at HN2
            go_upto_region 19 with (fail)
            have HSL := Lib.hid (show SlIs tSI (· < wr.heap.size) wr (.slice ao2 e.ps.length cap2) e.ps from HPS.out.keep (fun q (hq : q < w.heap.size) => Nat.lt_of_lt_of_le hq HB2.out.size) (.of_below HB2.out))
            have HK1 := Lib.hid (show ∀ w', Below wr.heap.size wr w' → w'.cell? ⟨wo.heap.size, 0, none⟩ = some (.slice a4 es.length c4) from fun w' hw' => (blk1 ((hw'.block _ (lt_of_heap HOB.out)).trans HOB.out)).1)
            have HK3 := Lib.hid (show ∀ w', Below wr.heap.size wr w' → w'.cell? ⟨w.heap.size + 1, 0, none⟩ = some (.string e.key) ∧ w'.cell? ⟨w.heap.size + 1, 1, none⟩ = some (.int .i64 e.tm) ∧ w'.cell? ⟨w.heap.size + 1, 2, none⟩ = some (.slice ao2 e.ps.length cap2) from fun w' hw' => by
              obtain ⟨z0, z1, z2, -⟩ := blk3 ((hw'.block _ (lt_of_heap HPW.out.b1)).trans HPW.out.b1)
              exact ⟨z0, z1, z2⟩)
            have HCC := Lib.hid (show ∀ W, Below wr.heap.size wr W → Calls Tryz.prog 106 #[.agg #[.string e.key, .int .i64 e.tm, .slice ao2 e.ps.length cap2]] W fun r w' => ∃ h', r = .returned (.agg #[.string e.key, .int .i64 e.tm, h']) ∧ NewL tSI 101 W.heap.size w' h' e.ps ∧ Below W.heap.size W w' from fun W hW => cloneE_any e _ W (HSL.out.step hW) (by omega))
            clear hbl hob
            refine wp_region_E 5 (fun w' => Below wr.heap.size wr w') (by kernel_rfl) ((by (repeat (first | (with_reducible exact Below.refl _ _) | (with_reducible apply bl_drewN) | (with_reducible apply bl_alloc) | (with_reducible apply Below.drew))); done)) (fun hHeld => ?_)
            refine wpE_take (i := 0) (v := ?_) rfl (by kernel_rfl) (fun _ _ _ h => h) (Or.inl ⟨by kernel_rfl, ?_⟩) (by assumption) ?_
            rotate_left
            focus (intro w9 hS9; (try dsimp only at hS9); go_simp; (try with_reducible rfl))
            (try simp only [List.getElem_toArray, List.getElem_cons_zero])
            (try simp only [Act.put])
            (try simp only [List.setIfInBounds_toArray])
            (repeat (first | simp only [List.set_cons_succ] | simp only [List.set_cons_zero]))
            refine wpE_take (i := 1) (v := ?_) rfl (by kernel_rfl) (fun _ _ _ h => h) (Or.inl ⟨by kernel_rfl, ?_⟩) (by assumption) ?_
            rotate_left
            focus (intro w9 hS9; have z0 := HK1.out w9 hS9; clear hS9; go_simp; (try with_reducible rfl))
            (try simp only [List.getElem_toArray, List.getElem_cons_succ, List.getElem_cons_zero])
            (try simp only [Act.put])
            (try simp only [List.setIfInBounds_toArray])
            (repeat (first | simp only [List.set_cons_succ] | simp only [List.set_cons_zero]))
            refine wpE_take (i := 2) (v := ?_) rfl (by kernel_rfl) (fun _ _ _ h => h) (Or.inl ⟨by kernel_rfl, ?_⟩) (by assumption) ?_
            rotate_left
            focus (intro w9 hS9; obtain ⟨z0, z1, z2⟩ := HK3.out w9 hS9; clear hS9; go_simp; (try with_reducible rfl))
            (try simp only [List.getElem_toArray, List.getElem_cons_succ, List.getElem_cons_zero])
            (try simp only [Act.put])
            (try simp only [List.setIfInBounds_toArray])
            (repeat (first | simp only [List.set_cons_succ] | simp only [List.set_cons_zero]))
            refine wpE_ready (rs := [3]) (by kernel_rfl) (by kernel_rfl) ?_
            refine AllReadyE.cons rfl (fun K hK => ?_) AllReadyE.nil
            go_simp
            with_reducible refine (HCC.out _ (by (repeat (first | (with_reducible exact Below.refl _ _) | (with_reducible apply bl_drewN) | (with_reducible apply bl_alloc) | (with_reducible apply Below.drew))); done)).mono ?_
            rintro e9 w5 ⟨h', rfl, hn5, hb5⟩
            obtain ⟨a5, c5, rfl, -⟩ := hn5.form
            have HN5 := Lib.hid (show NewL tSI 101 wr.heap.size w5 (.slice a5 e.ps.length c5) e.ps from hn5)
            have HB5 := Lib.hid (show Below wr.heap.size wr w5 from bl_trans (by (repeat (first | (with_reducible exact Below.refl _ _) | (with_reducible apply bl_drewN) | (with_reducible apply bl_alloc) | (with_reducible apply Below.drew))); done) hb5)
            clear hn5 hb5 HCC
            clear hHeld
            refine hK.out _ _ (HB5.out) (fun hHeld => ?_)
            clear hK K
            refine wpE_ready (rs := [4]) (by kernel_rfl) (by kernel_rfl) ?_
            refine AllReadyE.cons rfl (fun K hK => ?_) AllReadyE.nil
            go_simp
            clear hHeld
            refine hK.out _ _ (bl_trans HB5.out (by (repeat (first | (with_reducible exact Below.refl _ _) | (with_reducible apply bl_drewN) | (with_reducible apply bl_alloc) | (with_reducible apply Below.drew))); done)) (fun hHeld => ?_)
            clear hK K
            clear hHeld
            refine wpE_out (by kernel_rfl) ?_
            refine wpAny_ready (rs := [5]) (by kernel_rfl) (by simp) ?_
            refine AllReady.cons rfl (fun K hK => ?_) AllReady.nil
            rw [if_pos (show _ = true by kernel_rfl)]
            refine wp_append_new (w1 := wr) (.tmp 66) (.tmp 69) 66 rfl slEnt (by go_simp) HN2.out (by first | exact HB5.out | exact bl_trans HB5.out (by (repeat (first | (with_reducible exact Below.refl _ _) | (with_reducible apply bl_drewN) | (with_reducible apply bl_alloc) | (with_reducible apply Below.drew))); done)) (by go_simp) (newEnt HOK.out HN5.out) (by omega) (by unfold maxLen; omega) hso ?_
            intro v6 w6 hn6 hb6
            have hf6 := hn6.form
            rw [List.length_append] at hf6
            obtain ⟨a6, c6, rfl, -⟩ := hf6
            have hbx : Below (wo.heap.size + 1) wr w6 := (HB5.out.mono (by omega)).trans hb6
            have hpx := HPW.out.step hbx (by omega)
            have g6 := (hbx.block wo.heap.size (by omega)).trans HOB.out
            obtain ⟨r0, rf⟩ := blk1 g6
            obtain ⟨s0, sf⟩ := blk1 hpx.b2
            have s0' : w6.cell? ⟨w.heap.size + 1 + 1, 0, none⟩ = some (.slice none 0 0) := s0
            have sf' : ∀ j, w6.frozen? ⟨w.heap.size + 1 + 1, j, none⟩ = false := sf
            have hl6 : wo.heap.size < w6.heap.size := lt_of_heap g6
            have hl7 : w.heap.size + 1 + 1 < w6.heap.size := by omega
            have hl8 : w.heap.size + 1 + 1 ≠ wo.heap.size := by omega
            have HN6 := Lib.hid hn6
            have HBX := Lib.hid (show Below w.heap.size w w6 from HB2.out.trans (hbx.mono (by omega)))
            have HPX := Lib.hid hpx
            clear hn6 hb6 hbx hpx g6 s0 sf
            refine hK _ _ ?_
            clear hK K
            (try simp only [List.getElem_toArray, List.getElem_cons_succ, List.getElem_cons_zero])
            (try simp only [Act.put])
            (try simp only [List.setIfInBounds_toArray])
            (repeat (first | simp only [List.set_cons_succ] | simp only [List.set_cons_zero]))
            refine wpAny_ready (rs := [6]) (by kernel_rfl) (by simp) ?_
            refine AllReady.cons rfl (fun K hK => ?_) AllReady.nil
            rw [if_pos (show _ = true by kernel_rfl)]
            go_simp
            refine hK _ _ ?_
            clear hK K
            refine wpAny_ready (rs := [7]) (by kernel_rfl) (by simp) ?_
            refine AllReady.cons rfl (fun K hK => ?_) AllReady.nil
            rw [if_pos (show _ = true by kernel_rfl)]
            go_simp
            refine hK _ _ ?_
            clear hK K
            refine wpAny_done (by kernel_rfl) ?_ _
            go_wp2
            have g7 : ((w6.setCell ⟨wo.heap.size, 0, none⟩ (.slice a6 (es.length + 1) c6)).setCell ⟨w.heap.size + 1 + 1, 0, none⟩ (.slice a6 (es.length + 1) c6)).heap[w.heap.size + 1 + 1]? = some (.cells #[.slice a6 (es.length + 1) c6] 68 (0, 0)) := heap_setCell_same _ _ _ _ _ _ (HPX.out.put (q := ⟨wo.heap.size, 0, none⟩) (by simp only; omega) _).b2
            have k7 := (blk1 g7).1
            have b7 : Below w.heap.size w ((w6.setCell ⟨wo.heap.size, 0, none⟩ (.slice a6 (es.length + 1) c6)).setCell ⟨w.heap.size + 1 + 1, 0, none⟩ (.slice a6 (es.length + 1) c6)) := bl_set (bl_set HBX.out _ (by simp only; omega)) _ (by simp only; omega)
            refine bodyPost_ret (v := .tuple #[.agg #[.slice a6 (es.length + 1) c6], .int .i64 0]) (by simp [results, Tryz.results66, go_sem, k7]) rfl ⟨⟨_, by rw [HR.out], ?_⟩, b7⟩
            rw [HR.out]
            exact HN6.out.sl.keep (fun k hk => ⟨.inr (by have := hk.1; omega), by simpa using hk.2⟩) (fun k hk => ((Below.heap_setCell _ _ _ _ (by have := hk.1; simp only; omega)).trans (Below.heap_setCell _ _ _ _ (by have := hk.1; simp only; omega))))
      · intro x c kl yd yp w7 cnt1 hkey hlk hv hat hrg1 hlt hg1 hs1 hen
        obtain ⟨x', ex, rfl, hxl⟩ := Maps.keyOf_str Tryz.underlying9 hkey
        obtain rfl := encStr_inj ex
        obtain ⟨s, rfl⟩ : ∃ s, x = kb s := ⟨ofB x, (kb_ofB x).symm⟩
        rw [enc_kb] at hen hkey ⊢
        have hhas := (HD2.out.has s).symm.trans (Maps.has_true_of_atKey hat)
        obtain ⟨c', hc'⟩ := Option.isSome_iff_exists.1 hhas
        obtain ⟨c0, hc0, hy0, -⟩ := plainElem_int_inv Tryz.underlying3 hv
        have hcc : c = c' := by
          have h1 := (hat (.lit (.int .i64 0))).symm.trans (HD2.out.val s c' hc' _)
          injection hc0 with _ hc0
          simp only [Prod.mk.injEq] at hy0
          rw [hy0.1] at h1
          injection h1 with h1
          injection h1 with _ h1
          rw [hc0, h1]
        subst hcc
        obtain ⟨hce, p, hpm, hps⟩ := bm_some hc'
        have hM7 := World.ownsMap.kept hM hg1 (by intro e; injection e with e; omega)
        obtain ⟨c1, hr1, hat1, hw1⟩ := World.ownsMap.lookup_int hM7 keyedS Tryz.underlying175 Tryz.underlying3 (by kernel_rfl) hkey
        have hcv : c1 = balL s es := by
          have := hat1.symm.trans (HDD.out.get s)
          rw [bm_get, ← bal_flat] at this
          injection this with this
          injection this
        have hb1 := bal_bound HLE.out.fit s
        rw [← bal_flat, ← hcv] at hb1
        have hb2 := bal_bound HFE.out s
        rw [← hce] at hb2
        have hle := HLE.out.len
        have hwr : IntKind.i64.wrap (c1 + c) = c1 + c := wrap_in (by omega) (by omega)
        have HP7 := Lib.hid (hpw.grown hg1 h0r)
        have HB7 := Lib.hid (hbl.grown hg1 hbl.size (fun j e => by injection e with e; omega))
        have hlt7 := lt_of_heap HP7.out.b2
        have c0 := (blk1 HP7.out.b0).1
        obtain ⟨c2, cf⟩ := blk1 HP7.out.b2
        obtain ⟨q, hqq⟩ : ∃ q, fitsM (c1 + c) = q := ⟨_, rfl⟩
        have HX := Lib.hid (show ∀ W, Calls Tryz.prog 33 #[.int .i64 (c1 + c)] W fun e w' => e = .returned (.bool q) ∧ W = w' from fun W => by rw [← hqq]; exact mFits_any _ W)
        have HQ := Lib.hid (show fitsM (balL s es + balE s e) = q by rw [← hqq, hcv, hce]; rfl)
        have l0 : w.heap.size < w7.heap.size := by omega
        have l2 : w.heap.size + 1 + 1 < w7.heap.size := by omega
        clear hat1 hcv hce hb1 hb2 hle hw1 hqq hy0 hhas hc' hv hat hpw hbl
        cases q with
        | false =>
          have HR := Lib.hid (post_bad hz hq (by rw [List.all_eq_false]; exact ⟨p, hpm, by rw [hps, HQ.out]; decide⟩))
          clear hz hq
          go_wp2_with (go_at_call 33; with_reducible refine (HX.out _).mono ?_; rintro e w1 ⟨rfl, rfl⟩)
          have g5 : (w7.setCell ⟨w.heap.size + 1 + 1, 0, none⟩ (.slice ao es.length cap)).heap[w.heap.size + 1 + 1]? = some (.cells #[.slice ao es.length cap] 68 (0, 0)) := heap_setCell_same _ _ _ _ _ _ HP7.out.b2
          have k5 := (blk1 g5).1
          have b5 : Below w.heap.size w (w7.setCell ⟨w.heap.size + 1 + 1, 0, none⟩ (.slice ao es.length cap)) := bl_set HB7.out _ (by simp only; omega)
          refine bodyPost_ret (v := .tuple #[.agg #[.slice ao es.length cap], .int .i64 13]) (by simp [results, Tryz.results66, go_sem, k5]) rfl ⟨⟨_, by rw [HR.out], ?_⟩, b5⟩
          rw [HR.out]
          exact HEB.out.keep (fun k (hk : k < B) => ⟨.inl hk, Nat.lt_of_lt_of_le hk (Nat.le_trans hB b5.size)⟩) (.of_below (b5.mono hB))
        | true =>
          go_wp2_with (go_at_call 33; with_reducible refine (HX.out _).mono ?_; rintro e w1 ⟨rfl, rfl⟩)
          go_roundw
          case rel => exact ⟨_, cnt1, hrg1, hM7, Lib.hid (fun s' h1 h2 => by
            rw [sameK] at h2
            by_cases e : s' = s
            · subst e; exact HQ.out
            · rw [decide_eq_false e] at h2
              exact HF.out s' h1 (by simpa using h2)), HP7.out, HB7.out⟩
          case measure => rw [hrg1.left_eq, hrg.left_eq]; exact hlt
end Go.Proofs.YtifcelebfagjbaaGreatDoor
