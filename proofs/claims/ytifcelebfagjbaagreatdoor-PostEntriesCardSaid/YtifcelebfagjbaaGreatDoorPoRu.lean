/-
  Layer 37 (post): the reference's Entry, Pay.
-/
import Derived.Test.YtifcelebfagjbaaGreatDoorMgV
import Derived.Test.YtifcelebfagjbaaGreatDoorMgQ
import Derived.Test.YtifcelebfagjbaaGreatDoorMgI
namespace Go.Tw.Po
open Go.RowKit Go.Tw Go.Proofs.YtifcelebfagjbaaGreatDoor
theorem move_one (c : List Acc) (x : Chg) (n : Int) : moveP c [] x n = [⟨debC c x, n⟩, ⟨creC x, -n⟩] := by
  unfold moveP
  rw [addP, addP, if_neg (deb_ne c x), addP]
end Go.Tw.Po
namespace Go.Proofs.YtifcelebfagjbaaGreatDoor
open Go.RowKit Go.Tw Go.Tw.Ord Go.Tw.Po Go.Sort
set_option maxRecDepth 100000 in
set_option maxHeartbeats 4000000 in
theorem entryR_any (c : List Acc) (A : Array Value) (va : Value) (x : Chg) (vx : Value) (old v : Int) (w : World) (hA : CfgA A va) (hc : SlIs (tAcc 138) (· < w.heap.size) w va c) (hk : CfOk c) (hx : ChgOk x) (hxc : COk x) (hv : SlIs tSI (· < w.heap.size) w vx x.ls) (ho : i64ok old) (hvv : i64ok v) :
    Calls Tryz.prog 14 #[.agg A, .agg #[.string x.key, .string x.veh, .string x.sys, .int .i64 x.cls, .int .i64 x.tm, vx, .int .i64 x.c], .int .i64 old, .int .i64 v] w fun r w' => (∃ vp, r = .returned (.tuple #[.agg #[.string (entryP c x old v).1.key, .int .i64 (entryP c x old v).1.tm, vp], .int .i64 (entryP c x old v).2]) ∧ SlIs tSI (· < w'.heap.size) w' vp (entryP c x old v).1.ps) ∧ Below w.heap.size w w' := by
  have h0 := alloc3 w (.cells A 46) (.cells #[.string x.key, .string x.veh, .string x.sys, .int .i64 x.cls, .int .i64 x.tm, vx, .int .i64 x.c] 49) (.cells #[.string ⟨#[]⟩, .int .i64 0, .slice none 0 0] 56)
  have HY := Lib.hid (show YW w.heap.size A x vx _ from ⟨h0.1, h0.2.1, h0.2.2⟩)
  have HB0 := Lib.hid (bl_alloc (bl_alloc (bl_alloc (Below.refl w.heap.size w) (.cells A 46)) (.cells #[.string x.key, .string x.veh, .string x.sys, .int .i64 x.cls, .int .i64 x.tm, vx, .int .i64 x.c] 49)) (.cells #[.string ⟨#[]⟩, .int .i64 0, .slice none 0 0] 56))
  have HCK := Lib.hid (pcheckR_any x vx _ hx (hv.step HB0.out) (by have := hxc.ls; omega))
  obtain ⟨xa, xc, _, _, rfl, -⟩ := id hv
  have HA := Lib.hid hA
  have HC := Lib.hid hc
  have HK := Lib.hid hk
  have HX := Lib.hid hx
  have HXC := Lib.hid hxc
  unfold i64ok at ho hvv
  clear hA hc hk hx hxc hv h0
  obtain ⟨z, hz⟩ : ∃ z, chkC x = z := ⟨_, rfl⟩
  rw [hz] at HCK
  by_cases hz0 : z = 0
  case neg =>
    have HR := Lib.hid (ey_chk (c := c) (x := x) (old := old) (v := v) (by rw [hz]; exact hz0))
    rw [hz] at HR
    have hz1 : (z != 0) = true := by simpa using hz0
    clear hz hz0
    go_enter Tryz.func14, Tryz.ntmps14
    go_wp2_with (fail)
    with_reducible refine HCK.out.mono ?_
    rintro r w2 ⟨rfl, hb⟩
    have HY2 := Lib.hid (HY.out.step hb (by simp))
    have HB2 := Lib.hid (bl_trans HB0.out hb)
    obtain ⟨e0, e1, e2, ef⟩ := blk3 HY2.out.b2
    have hlt := lt_of_heap HY2.out.b2
    clear hb HCK HY
    go_wp2
    refine bodyPost_ret (v := .tuple #[.agg #[.string ⟨#[]⟩, .int .i64 0, .slice none 0 0], .int .i64 z]) (by simp [results, Tryz.results14, go_sem, e0, e1, e2, ef]) rfl ⟨⟨.slice none 0 0, by (rw [HR.out]; try rfl), by rw [HR.out]; exact SlIs.nil⟩, ?_⟩
    have hbw := HB2.out
    (repeat (first | (with_reducible exact hbw) | (with_reducible apply bl_drewN) | (with_reducible apply bl_alloc) | ((with_reducible refine bl_set ?_ _ ?_); rotate_left; focus (first | exact Nat.le_refl _ | (simp; done) | (simp; omega)))))
  subst hz0
  have HS := Lib.hid (ey_s (c := c) (old := old) (v := v) hz)
  have hz1 : ((0 : Int) != 0) = false := rfl
  have HCF := Lib.hid (chk_facts hz)
  clear hz
  go_enter Tryz.func14, Tryz.ntmps14
  go_wp2_with (fail)
  with_reducible refine HCK.out.mono ?_
  rintro r w2 ⟨rfl, hb⟩
  have HY2 := Lib.hid (HY.out.step hb (by simp))
  have HB2 := Lib.hid (bl_trans HB0.out hb)
  obtain ⟨e0, e1, e2, ef⟩ := blk3 HY2.out.b2
  obtain ⟨-, -, -, -, -, -, x6, -⟩ := blk7 HY2.out.b1
  have hlt := lt_of_heap HY2.out.b2
  clear hb HCK HY
  have ho3 : old < 0 ∨ (0 ≤ old ∧ 1125899906842624 < old) ∨ (0 ≤ old ∧ old ≤ 1125899906842624) := by omega
  rcases ho3 with t1 | ⟨t1, t2⟩ | ⟨t1, t2⟩
  · have HR := Lib.hid (HS.out.trans (if_pos (.inl t1)))
    go_wp2
    refine bodyPost_ret (v := .tuple #[.agg #[.string ⟨#[]⟩, .int .i64 0, .slice none 0 0], .int .i64 13]) (by simp [results, Tryz.results14, go_sem, e0, e1, e2, ef]) rfl ⟨⟨.slice none 0 0, by (rw [HR.out]; try rfl), by rw [HR.out]; exact SlIs.nil⟩, ?_⟩
    have hbw := HB2.out
    (repeat (first | (with_reducible exact hbw) | (with_reducible apply bl_drewN) | (with_reducible apply bl_alloc) | ((with_reducible refine bl_set ?_ _ ?_); rotate_left; focus (first | exact Nat.le_refl _ | (simp; done) | (simp; omega)))))
  · have HR := Lib.hid (HS.out.trans (if_pos (.inr t2)))
    go_wp2
    refine bodyPost_ret (v := .tuple #[.agg #[.string ⟨#[]⟩, .int .i64 0, .slice none 0 0], .int .i64 13]) (by simp [results, Tryz.results14, go_sem, e0, e1, e2, ef]) rfl ⟨⟨.slice none 0 0, by (rw [HR.out]; try rfl), by rw [HR.out]; exact SlIs.nil⟩, ?_⟩
    have hbw := HB2.out
    (repeat (first | (with_reducible exact hbw) | (with_reducible apply bl_drewN) | (with_reducible apply bl_alloc) | ((with_reducible refine bl_set ?_ _ ?_); rotate_left; focus (first | exact Nat.le_refl _ | (simp; done) | (simp; omega)))))
  have HS := Lib.hid (HS.out.trans (if_neg (by omega)))
  have hv3 : v < 0 ∨ (0 ≤ v ∧ 2147483648 < v) ∨ (0 ≤ v ∧ v ≤ 2147483648) := by omega
  rcases hv3 with t3 | ⟨t3, t4⟩ | ⟨t3, t4⟩
  · have HR := Lib.hid (HS.out.trans (if_pos (.inl t3)))
    go_wp2
    refine bodyPost_ret (v := .tuple #[.agg #[.string ⟨#[]⟩, .int .i64 0, .slice none 0 0], .int .i64 1]) (by simp [results, Tryz.results14, go_sem, e0, e1, e2, ef]) rfl ⟨⟨.slice none 0 0, by (rw [HR.out]; try rfl), by rw [HR.out]; exact SlIs.nil⟩, ?_⟩
    have hbw := HB2.out
    (repeat (first | (with_reducible exact hbw) | (with_reducible apply bl_drewN) | (with_reducible apply bl_alloc) | ((with_reducible refine bl_set ?_ _ ?_); rotate_left; focus (first | exact Nat.le_refl _ | (simp; done) | (simp; omega)))))
  · have HR := Lib.hid (HS.out.trans (if_pos (.inr t4)))
    go_wp2
    refine bodyPost_ret (v := .tuple #[.agg #[.string ⟨#[]⟩, .int .i64 0, .slice none 0 0], .int .i64 1]) (by simp [results, Tryz.results14, go_sem, e0, e1, e2, ef]) rfl ⟨⟨.slice none 0 0, by (rw [HR.out]; try rfl), by rw [HR.out]; exact SlIs.nil⟩, ?_⟩
    have hbw := HB2.out
    (repeat (first | (with_reducible exact hbw) | (with_reducible apply bl_drewN) | (with_reducible apply bl_alloc) | ((with_reducible refine bl_set ?_ _ ?_); rotate_left; focus (first | exact Nat.le_refl _ | (simp; done) | (simp; omega)))))
  have HS := Lib.hid (HS.out.trans (if_neg (by omega)))
  by_cases t5 : old = x.c
  · have HR := Lib.hid (HS.out.trans (if_pos t5))
    have t6 : (old == x.c) = true := by simpa using t5
    clear t5
    go_wp2
    refine bodyPost_ret (v := .tuple #[.agg #[.string ⟨#[]⟩, .int .i64 0, .slice none 0 0], .int .i64 10]) (by simp [results, Tryz.results14, go_sem, e0, e1, e2, ef]) rfl ⟨⟨.slice none 0 0, by (rw [HR.out]; try rfl), by rw [HR.out]; exact SlIs.nil⟩, ?_⟩
    have hbw := HB2.out
    (repeat (first | (with_reducible exact hbw) | (with_reducible apply bl_drewN) | (with_reducible apply bl_alloc) | ((with_reducible refine bl_set ?_ _ ?_); rotate_left; focus (first | exact Nat.le_refl _ | (simp; done) | (simp; omega)))))
  have HR := Lib.hid (HS.out.trans (if_neg t5))
  have t6 : (old == x.c) = false := by simpa using t5
  have hws : IntKind.i64.wrap (x.c - old) = x.c - old := wrap_in (by have := HCF.out; omega) (by have := HCF.out; omega)
  clear t5 HS
  go_upto_region 11 with (fail)
  obtain ⟨n, hn⟩ : ∃ n, x.c - old = n := ⟨_, rfl⟩
  have hnb : -1125899906842624 ≤ n ∧ n ≤ 1125899906842624 := by have := HCF.out; omega
  rw [hn] at HR ⊢
  rw [move_one] at HR
  have hnw : IntKind.i64.wrap (-n) = -n := wrap_in (by omega) (by omega)
  have hvi : i64ok v := by unfold i64ok; omega
  have HFM := Lib.hid (FormatR_any v hvi)
  have hfz := fmt_size hvi
  have hke := HXC.out.key
  have HKE := Lib.hid (show keyC x.key v = x.key ++ ⟨#[35]⟩ ++ fmtS v from rfl)
  have HKS := Lib.hid (keyC_size hke hvi)
  clear hvi hn hws x6 t6
  rw [HKE.out] at HR HKS
  clear HKE
  generalize fmtS v = fm at *
  have z1 : ¬ (9223372036854775807 < x.key.size + 1) := by omega
  have z2 : ¬ (9223372036854775807 < x.key.size + 1 + fm.size) := by omega
  have HW := Lib.hid (Below.drew (Below.refl w2.heap.size w2))
  have HL0 := Lib.hid (show ∀ w', Below w2.heap.size w2 w' → w'.cell? ⟨w.heap.size + 1, 0, none⟩ = some (.string x.key) from fun w' h => (blk7 (HY2.out.step h hlt).b1).1)
  have HL4 := Lib.hid (show ∀ w', Below w2.heap.size w2 w' → w'.cell? ⟨w.heap.size + 1, 4, none⟩ = some (.int .i64 x.tm) from fun w' h => (blk7 (HY2.out.step h hlt).b1).2.2.2.2.1)
  have HLC := Lib.hid (show ∀ w', Below w2.heap.size w2 w' → Sem.run Tryz.prog (loadCellsFrom ⟨w.heap.size, 0, none⟩ 0 25 #[]) w' = .ok A w' from fun w' h => load_blk (HY2.out.step h hlt).b0 HA.out.size _)
  have HLX := Lib.hid (show ∀ w', Below w2.heap.size w2 w' → w'.cell? ⟨w.heap.size + 1, 0, none⟩ = some (.string x.key) ∧ w'.cell? ⟨w.heap.size + 1, 1, none⟩ = some (.string x.veh) ∧ w'.cell? ⟨w.heap.size + 1, 2, none⟩ = some (.string x.sys) ∧ w'.cell? ⟨w.heap.size + 1, 3, none⟩ = some (.int .i64 x.cls) ∧ w'.cell? ⟨w.heap.size + 1, 4, none⟩ = some (.int .i64 x.tm) ∧ w'.cell? ⟨w.heap.size + 1, 5, none⟩ = some (.slice xa x.ls.length xc) ∧ w'.cell? ⟨w.heap.size + 1, 6, none⟩ = some (.int .i64 x.c) from fun w' h => by
    obtain ⟨q0, q1, q2, q3, q4, q5, q6, -⟩ := blk7 (HY2.out.step h hlt).b1
    exact ⟨q0, q1, q2, q3, q4, q5, q6⟩)
  have HDB := Lib.hid (show ∀ W, Below w2.heap.size w2 W → Calls Tryz.prog 38 #[.agg A, .agg #[.string x.key, .string x.veh, .string x.sys, .int .i64 x.cls, .int .i64 x.tm, .slice xa x.ls.length xc, .int .i64 x.c]] W fun e w' => e = .returned (.string (debC c x)) ∧ Below W.heap.size W w' from fun W hW => debit_any c A va x xa x.ls.length xc W HA.out (HC.out.step (bl_trans HB2.out hW)) HK.out HXC.out.veh)
  have HCB := Lib.hid (show ∀ W, Calls Tryz.prog 39 #[.agg #[.string x.key, .string x.veh, .string x.sys, .int .i64 x.cls, .int .i64 x.tm, .slice xa x.ls.length xc, .int .i64 x.c]] W fun e w' => e = .returned (.string (creC x)) ∧ Below W.heap.size W w' from fun W => credit_any x (.slice xa x.ls.length xc) W HXC.out.sys)
  have hdz := debC_size (x := x) HK.out HXC.out.veh
  have hcz := creC_size HXC.out.sys
  generalize debC c x = da at HDB HR hdz
  generalize creC x = ca at HCB HR hcz
  clear e0 e1 e2 ef
  refine wp_region_D (fun j => if j < 20 then 0 else if j < 20 then 1 else 2) (fun w' => Below w2.heap.size w2 w') (by kernel_rfl) (HW.out) (fun hHeld => ?_)
  refine wpD_take (i := 0) (v := ?_) rfl (by kernel_rfl) (fun _ _ _ h => h) (Or.inl ⟨by kernel_rfl, ?_⟩) (by assumption) ?_
  rotate_left
  focus (intro w9 hS9; clear hS9; go_simp; (try with_reducible rfl))
  (try simp only [List.getElem_toArray, List.getElem_cons_succ, List.getElem_cons_zero])
  (try simp only [Act.put])
  (try simp only [List.setIfInBounds_toArray])
  (repeat (first | simp only [List.set_cons_succ] | simp only [List.set_cons_zero]))
  refine wpD_take (i := 1) (v := ?_) rfl (by kernel_rfl) (fun _ _ _ h => h) (Or.inl ⟨by kernel_rfl, ?_⟩) (by assumption) ?_
  rotate_left
  focus (intro w9 hS9; have z0 := HL0.out w9 hS9; clear hS9; go_simp; (try with_reducible rfl))
  (try simp only [List.getElem_toArray, List.getElem_cons_succ, List.getElem_cons_zero])
  (try simp only [Act.put])
  (try simp only [List.setIfInBounds_toArray])
  (repeat (first | simp only [List.set_cons_succ] | simp only [List.set_cons_zero]))
  refine wpD_take (i := 2) (v := ?_) rfl (by kernel_rfl) (fun _ _ _ h => h) (Or.inl ⟨by kernel_rfl, ?_⟩) (by assumption) ?_
  rotate_left
  focus (intro w9 hS9; clear hS9; go_simp; (try with_reducible rfl))
  (try simp only [List.getElem_toArray, List.getElem_cons_succ, List.getElem_cons_zero])
  (try simp only [Act.put])
  (try simp only [List.setIfInBounds_toArray])
  (repeat (first | simp only [List.set_cons_succ] | simp only [List.set_cons_zero]))
  refine wpD_take (i := 3) (v := ?_) rfl (by kernel_rfl) (fun _ _ _ h => h) (Or.inl ⟨by kernel_rfl, ?_⟩) (by assumption) ?_
  rotate_left
  focus (intro w9 hS9; clear hS9; go_simp; (try with_reducible rfl))
  (try simp only [List.getElem_toArray, List.getElem_cons_succ, List.getElem_cons_zero])
  (try simp only [Act.put])
  (try simp only [List.setIfInBounds_toArray])
  (repeat (first | simp only [List.set_cons_succ] | simp only [List.set_cons_zero]))
  refine wpD_take (i := 6) (v := ?_) rfl (by kernel_rfl) (fun _ _ _ h => h) (Or.inl ⟨by kernel_rfl, ?_⟩) (by assumption) ?_
  rotate_left
  focus (intro w9 hS9; clear hS9; go_simp; (try with_reducible rfl))
  (try simp only [List.getElem_toArray, List.getElem_cons_succ, List.getElem_cons_zero])
  (try simp only [Act.put])
  (try simp only [List.setIfInBounds_toArray])
  (repeat (first | simp only [List.set_cons_succ] | simp only [List.set_cons_zero]))
  refine wpD_take (i := 7) (v := ?_) rfl (by kernel_rfl) (fun _ _ _ h => h) (Or.inl ⟨by kernel_rfl, ?_⟩) (by assumption) ?_
  rotate_left
  focus (intro w9 hS9; have z0 := HL4.out w9 hS9; clear hS9; go_simp; (try with_reducible rfl))
  (try simp only [List.getElem_toArray, List.getElem_cons_succ, List.getElem_cons_zero])
  (try simp only [Act.put])
  (try simp only [List.setIfInBounds_toArray])
  (repeat (first | simp only [List.set_cons_succ] | simp only [List.set_cons_zero]))
  refine wpD_take (i := 8) (v := ?_) rfl (by kernel_rfl) (fun _ _ _ h => h) (Or.inl ⟨by kernel_rfl, ?_⟩) (by assumption) ?_
  rotate_left
  focus (intro w9 hS9; refine exec_loadA (t := 46) (x := Operand.tmp 4) (p := ⟨w.heap.size, 0, none⟩) (A := A) ?_ Tryz.isAgg46 Tryz.sizeOf46 ?_ (HLC.out w9 hS9); rfl; rfl)
  (try simp only [List.getElem_toArray, List.getElem_cons_succ, List.getElem_cons_zero])
  (try simp only [Act.put])
  (try simp only [List.setIfInBounds_toArray])
  (repeat (first | simp only [List.set_cons_succ] | simp only [List.set_cons_zero]))
  refine wpD_take (i := 9) (v := ?_) rfl (by kernel_rfl) (fun _ _ _ h => h) (Or.inl ⟨by kernel_rfl, ?_⟩) (by assumption) ?_
  rotate_left
  focus (intro w9 hS9; obtain ⟨q0, q1, q2, q3, q4, q5, q6⟩ := HLX.out w9 hS9; clear hS9; go_simp; (try with_reducible rfl))
  (try simp only [List.getElem_toArray, List.getElem_cons_succ, List.getElem_cons_zero])
  (try simp only [Act.put])
  (try simp only [List.setIfInBounds_toArray])
  (repeat (first | simp only [List.set_cons_succ] | simp only [List.set_cons_zero]))
  refine wpD_take (i := 11) (v := ?_) rfl (by kernel_rfl) (fun _ _ _ h => h) (Or.inl ⟨by kernel_rfl, ?_⟩) (by assumption) ?_
  rotate_left
  focus (intro w9 hS9; clear hS9; go_simp; (try with_reducible rfl))
  (try simp only [List.getElem_toArray, List.getElem_cons_succ, List.getElem_cons_zero])
  (try simp only [Act.put])
  (try simp only [List.setIfInBounds_toArray])
  (repeat (first | simp only [List.set_cons_succ] | simp only [List.set_cons_zero]))
  refine wpD_take (i := 13) (v := ?_) rfl (by kernel_rfl) (fun _ _ _ h => h) (Or.inl ⟨by kernel_rfl, ?_⟩) (by assumption) ?_
  rotate_left
  focus (intro w9 hS9; obtain ⟨q0, q1, q2, q3, q4, q5, q6⟩ := HLX.out w9 hS9; clear hS9; go_simp; (try with_reducible rfl))
  (try simp only [List.getElem_toArray, List.getElem_cons_succ, List.getElem_cons_zero])
  (try simp only [Act.put])
  (try simp only [List.setIfInBounds_toArray])
  (repeat (first | simp only [List.set_cons_succ] | simp only [List.set_cons_zero]))
  refine wpD_take (i := 15) (v := ?_) rfl (by kernel_rfl) (fun _ _ _ h => h) (Or.inl ⟨by kernel_rfl, ?_⟩) (by assumption) ?_
  rotate_left
  focus (intro w9 hS9; clear hS9; go_simp; (try with_reducible rfl))
  (try simp only [List.getElem_toArray, List.getElem_cons_succ, List.getElem_cons_zero])
  (try simp only [Act.put])
  (try simp only [List.setIfInBounds_toArray])
  (repeat (first | simp only [List.set_cons_succ] | simp only [List.set_cons_zero]))
  refine wpD_take (i := 16) (v := ?_) rfl (by kernel_rfl) (fun _ _ _ h => h) (Or.inl ⟨by kernel_rfl, ?_⟩) (by assumption) ?_
  rotate_left
  focus (intro w9 hS9; clear hS9; go_simp; (try with_reducible rfl))
  (try simp only [List.getElem_toArray, List.getElem_cons_succ, List.getElem_cons_zero])
  (try simp only [Act.put])
  (try simp only [List.setIfInBounds_toArray])
  (repeat (first | simp only [List.set_cons_succ] | simp only [List.set_cons_zero]))
  refine wpD_ready (rs := [4]) (by kernel_rfl) (by kernel_rfl) ?_
  refine AllReadyD.cons rfl (fun K hK => ?_) AllReadyD.nil
  rw [if_pos (show _ = true by kernel_rfl)]
  go_simp
  with_reducible refine (HFM.out _).mono ?_
  rintro r w5 ⟨rfl, rfl⟩
  clear hHeld
  refine hK.out _ _ ⟨fun _ => HW.out, fun h => absurd h (by decide)⟩ (fun hHeld0 => ?_)
  have hHeld := hHeld0.1 rfl
  clear hHeld0 hK K
  refine wpD_take (i := 5) (v := ?_) rfl (by kernel_rfl) (fun _ _ _ h => h) (Or.inl ⟨by kernel_rfl, ?_⟩) (by assumption) ?_
  rotate_left
  focus (intro w9 hS9; clear hS9; go_simp; (try with_reducible rfl))
  (try simp only [List.getElem_toArray, List.getElem_cons_succ, List.getElem_cons_zero])
  (try simp only [Act.put])
  (try simp only [List.setIfInBounds_toArray])
  (repeat (first | simp only [List.set_cons_succ] | simp only [List.set_cons_zero]))
  refine wpD_ready (rs := [10]) (by kernel_rfl) (by kernel_rfl) ?_
  refine AllReadyD.cons rfl (fun K hK => ?_) AllReadyD.nil
  rw [if_pos (show _ = true by kernel_rfl)]
  go_simp
  with_reducible refine (HDB.out _ HW.out).mono ?_
  rintro r w6 ⟨rfl, hb6⟩
  have HW6 := Lib.hid (bl_trans HW.out hb6)
  clear hb6
  clear hHeld
  refine hK.out _ _ ⟨fun _ => HW6.out, fun h => absurd h (by decide)⟩ (fun hHeld0 => ?_)
  have hHeld := hHeld0.1 rfl
  clear hHeld0 hK K
  refine wpD_take (i := 12) (v := ?_) rfl (by kernel_rfl) (fun _ _ _ h => h) (Or.inl ⟨by kernel_rfl, ?_⟩) (by assumption) ?_
  rotate_left
  focus (intro w9 hS9; clear hS9; go_simp; (try with_reducible rfl))
  (try simp only [List.getElem_toArray, List.getElem_cons_succ, List.getElem_cons_zero])
  (try simp only [Act.put])
  (try simp only [List.setIfInBounds_toArray])
  (repeat (first | simp only [List.set_cons_succ] | simp only [List.set_cons_zero]))
  refine wpD_ready (rs := [14]) (by kernel_rfl) (by kernel_rfl) ?_
  refine AllReadyD.cons rfl (fun K hK => ?_) AllReadyD.nil
  rw [if_pos (show _ = true by kernel_rfl)]
  go_simp
  with_reducible refine (HCB.out _).mono ?_
  rintro r w7 ⟨rfl, hb7⟩
  have HW7 := Lib.hid (bl_trans HW6.out hb7)
  clear hb7
  clear hHeld
  refine hK.out _ _ ⟨fun _ => HW7.out, fun h => absurd h (by decide)⟩ (fun hHeld0 => ?_)
  have hHeld := hHeld0.1 rfl
  clear hHeld0 hK K
  refine wpD_take (i := 17) (v := ?_) rfl (by kernel_rfl) (fun _ _ _ h => h) (Or.inl ⟨by kernel_rfl, ?_⟩) (by assumption) ?_
  rotate_left
  focus (intro w9 hS9; clear hS9; go_simp; (try with_reducible rfl))
  (try simp only [List.getElem_toArray, List.getElem_cons_succ, List.getElem_cons_zero])
  (try simp only [Act.put])
  (try simp only [List.setIfInBounds_toArray])
  (repeat (first | simp only [List.set_cons_succ] | simp only [List.set_cons_zero]))
  refine wpD_ready (rs := [18]) (by kernel_rfl) (by kernel_rfl) ?_
  refine AllReadyD.cons rfl (fun K hK => ?_) AllReadyD.nil
  rw [if_pos (show _ = true by kernel_rfl)]
  go_simp
  have o8 : OwnSl tSI 101 w7.heap.size (w7.alloc (.cells #[.string da, .int .i64 n, .string ca, .int .i64 (-n)] 101)) (.slice (some ⟨w7.heap.size, 0, none⟩) 2 2) [⟨da, n⟩, ⟨ca, -n⟩] := OwnSl.lit (css := [siCells ⟨da, n⟩, siCells ⟨ca, -n⟩]) rfl ⟨tSI_mk ⟨hdz, by unfold i64ok; simp only; omega⟩, tSI_mk ⟨hcz, by unfold i64ok; simp only; omega⟩, trivial⟩ (Nat.le_refl _) (show 2 ≤ maxLen by decide)
  have HS8 := Lib.hid (NewL.ofOwn ownSI o8 (Nat.le_refl _)).sl
  have hlt7 : w.heap.size + 2 < w7.heap.size := Nat.lt_of_lt_of_le hlt HW7.out.size
  clear o8
  clear hHeld
  refine hK.out _ _ ⟨fun _ => bl_alloc HW7.out _, fun h => absurd h (by decide)⟩ (fun hHeld0 => ?_)
  have hHeld := hHeld0.1 rfl
  clear hHeld0 hK K
  refine wpD_take (i := 19) (v := ?_) rfl (by kernel_rfl) (fun _ _ _ h => h) (Or.inl ⟨by kernel_rfl, ?_⟩) (by assumption) ?_
  rotate_left
  focus (intro w9 hS9; clear hS9; go_simp; (try with_reducible rfl))
  (try simp only [List.getElem_toArray, List.getElem_cons_succ, List.getElem_cons_zero])
  (try simp only [Act.put])
  (try simp only [List.setIfInBounds_toArray])
  (repeat (first | simp only [List.set_cons_succ] | simp only [List.set_cons_zero]))
  have HY8 := Lib.hid (HY2.out.step (bl_alloc HW7.out (.cells #[.string da, .int .i64 n, .string ca, .int .i64 (-n)] 101)) hlt)
  have HB8 := Lib.hid (bl_trans HB2.out (bl_alloc HW7.out (.cells #[.string da, .int .i64 n, .string ca, .int .i64 (-n)] 101)))
  generalize hw8 : w7.alloc (.cells #[.string da, .int .i64 n, .string ca, .int .i64 (-n)] 101) = w8 at HY8 HB8 HS8 hHeld ⊢
  have hsz8 : w7.heap.size < w8.heap.size := by rw [← hw8]; simp
  clear hw8
  obtain ⟨f0, f1, f2, ff⟩ := blk3 HY8.out.b2
  have f0' : w8.cell? ⟨w.heap.size + 1 + 1, 0, none⟩ = some (.string ⟨#[]⟩) := f0
  have f1' : w8.cell? ⟨w.heap.size + 1 + 1, 1, none⟩ = some (.int .i64 0) := f1
  have f2' : w8.cell? ⟨w.heap.size + 1 + 1, 2, none⟩ = some (.slice none 0 0) := f2
  have ff' : ∀ j, w8.frozen? ⟨w.heap.size + 1 + 1, j, none⟩ = false := ff
  have hl8 : w.heap.size + 1 + 1 < w8.heap.size := lt_of_heap HY8.out.b2
  clear f0 f1 f2 ff
  refine wpD_ready (rs := [20]) (by kernel_rfl) (by kernel_rfl) ?_
  refine AllReadyD.cons rfl (fun K hK => ?_) AllReadyD.nil
  rw [if_pos (show _ = true by kernel_rfl)]
  go_simp
  refine hK.out _ _ ⟨fun h => absurd h (by decide), fun h => absurd h (by decide)⟩ (fun _ => ?_)
  clear hK K
  refine wpD_ready (rs := [21]) (by kernel_rfl) (by kernel_rfl) ?_
  refine AllReadyD.cons rfl (fun K hK => ?_) AllReadyD.nil
  rw [if_pos (show _ = true by kernel_rfl)]
  go_simp
  refine hK.out _ _ ⟨fun h => absurd h (by decide), fun h => absurd h (by decide)⟩ (fun _ => ?_)
  clear hK K
  refine wpD_done (by kernel_rfl) ?_
  go_wp2
  generalize hpv : Value.slice (some ⟨w7.heap.size, 0, none⟩) 2 2 = pv at *
  have g9 : (((w8.setCell ⟨w.heap.size + 1 + 1, 0, none⟩ (.string (x.key ++ ⟨#[35]⟩ ++ fm))).setCell ⟨w.heap.size + 1 + 1, 1, none⟩ (.int .i64 x.tm)).setCell ⟨w.heap.size + 1 + 1, 2, none⟩ pv).heap[w.heap.size + 1 + 1]? = some (.cells #[.string (x.key ++ ⟨#[35]⟩ ++ fm), .int .i64 x.tm, pv] 56 (0, 0)) :=
    heap_setCell_same _ _ _ _ _ _ (heap_setCell_same _ _ _ _ _ _ (heap_setCell_same _ _ _ _ _ _ HY8.out.b2))
  have b9 : Below w.heap.size w (((w8.setCell ⟨w.heap.size + 1 + 1, 0, none⟩ (.string (x.key ++ ⟨#[35]⟩ ++ fm))).setCell ⟨w.heap.size + 1 + 1, 1, none⟩ (.int .i64 x.tm)).setCell ⟨w.heap.size + 1 + 1, 2, none⟩ pv) := bl_set (bl_set (bl_set HB8.out _ (by simp only; omega)) _ (by simp only; omega)) _ (by simp only; omega)
  have hz9 : w8.heap.size = (((w8.setCell ⟨w.heap.size + 1 + 1, 0, none⟩ (.string (x.key ++ ⟨#[35]⟩ ++ fm))).setCell ⟨w.heap.size + 1 + 1, 1, none⟩ (.int .i64 x.tm)).setCell ⟨w.heap.size + 1 + 1, 2, none⟩ pv).heap.size := by simp
  have hoth : ∀ q, q ≠ w.heap.size + 2 → (((w8.setCell ⟨w.heap.size + 1 + 1, 0, none⟩ (.string (x.key ++ ⟨#[35]⟩ ++ fm))).setCell ⟨w.heap.size + 1 + 1, 1, none⟩ (.int .i64 x.tm)).setCell ⟨w.heap.size + 1 + 1, 2, none⟩ pv).heap[q]? = w8.heap[q]? := fun q h => (Below.heap_setCell _ _ _ _ h).trans ((Below.heap_setCell _ _ _ _ h).trans (Below.heap_setCell _ _ _ _ h))
  obtain ⟨m0, m1, m2, -⟩ := blk3 g9
  generalize ((w8.setCell ⟨w.heap.size + 1 + 1, 0, none⟩ (.string (x.key ++ ⟨#[35]⟩ ++ fm))).setCell ⟨w.heap.size + 1 + 1, 1, none⟩ (.int .i64 x.tm)).setCell ⟨w.heap.size + 1 + 1, 2, none⟩ pv = w9 at *
  refine bodyPost_ret (v := .tuple #[.agg #[.string (x.key ++ ⟨#[35]⟩ ++ fm), .int .i64 x.tm, pv], .int .i64 0]) (by simp [results, Tryz.results14, go_sem, m0, m1, m2]) rfl ⟨⟨_, by rw [HR.out], ?_⟩, b9⟩
  rw [HR.out]
  exact HS8.out.keep (fun k hk => by have := hk.2; omega) (fun k hk => hoth k (by have := hk.1; omega))
end Go.Proofs.YtifcelebfagjbaaGreatDoor
