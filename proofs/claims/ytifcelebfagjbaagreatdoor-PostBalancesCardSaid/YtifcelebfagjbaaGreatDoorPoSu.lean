import Derived.Test.YtifcelebfagjbaaGreatDoorMgT
import Derived.Test.YtifcelebfagjbaaGreatDoorMgS
import Derived.Test.YtifcelebfagjbaaGreatDoorMgH
import Derived.Test.YtifcelebfagjbaaGreatDoorMgQ
namespace Go.Tw.Po
open Go.RowKit Go.Tw Go.Sort Go.Tw.Ord Go.Proofs.YtifcelebfagjbaaGreatDoor
theorem conL_take {c : List Acc} {a : ByteArray} {l : List Chg} {k : Nat} (hk : k < l.length) : conL c a (l.take (k + 1)) = conL c a (l.take k) + conC c a l[k] := by
 unfold conL; rw [List.take_succ_eq_append_getElem hk, List.map_append, List.sum_append]; simp
theorem payB_take {a : ByteArray} {l : List Ent} {k : Nat} (hk : k < l.length) : payB isPay a (l.take (k + 1)) = payB isPay a (l.take k) + if isPay l[k].key = true then sumAt a l[k].ps else 0 := by
 rw [List.take_succ_eq_append_getElem hk]
 split
 · rename_i h; rw [payB_yes h]
 · rename_i h; rw [payB_no (by simpa using h)]; omega
theorem sumAt_take {a : ByteArray} {l : List SI} {k : Nat} (hk : k < l.length) : sumAt a (l.take (k + 1)) = sumAt a (l.take k) + if l[k].s = a then l[k].n else 0 := by
 rw [List.take_succ_eq_append_getElem hk]; unfold sumAt; rw [List.filter_append, sumL_app, List.filter_cons, List.filter_nil]
 by_cases h : l[k].s = a
 · rw [if_pos (by simpa using h), if_pos h]; simp [sumL]
 · rw [if_neg (by simpa using h), if_neg h]; simp [sumL]
theorem isPay_short {k : ByteArray} (h : k.size < 4) : isPay k = false := by unfold isPay; rw [decide_eq_false (by omega)]; rfl
theorem sPayH_list : sPayH.toList = [112, 97, 121, 35] := by first | rfl | decide | simp [sPayH]
theorem isPay_long {k : ByteArray} (h : 4 ≤ k.size) : isPay k = ((k.extract 0 4).toList == [112, 97, 121, 35]) := by
 unfold isPay; rw [decide_eq_true h, ← sPayH_list, eq_str]; rfl
end Go.Tw.Po
namespace Go.Proofs.YtifcelebfagjbaaGreatDoor
open Go.RowKit Go.Tw Go.Tw.Ord Go.Tw.Po Go.Sort
structure SuW (w : World) (A : Array Value) (ve vd vn : Value) (b : Bk) (O : List ByteArray) (w0 wr : World) : Prop where
 c : wr.heap[w.heap.size]? = some (.cells A 46 (0, 0))
 g : BB (w.heap.size + 1) ve vd wr
 e : SlIs (tEnt 101) (· < w0.heap.size) wr ve b.es
 d : SlIs (tChg eL) (· < w0.heap.size) wr vd b.ds
 n : SlIs tStr (· < w0.heap.size) wr vn O
 b : Below w.heap.size w wr
 o : Below w0.heap.size w0 wr
theorem SuW.step {w w0 wr w' : World} {A : Array Value} {ve vd vn : Value} {b : Bk} {O : List ByteArray} (h : SuW w A ve vd vn b O w0 wr) (hb : Below wr.heap.size wr w') : SuW w A ve vd vn b O w0 w' :=
 have hz := h.o.size
 ⟨(hb.block _ (lt_of_heap h.c)).trans h.c, (hb.block _ (lt_of_heap h.g)).trans h.g, h.e.keep (fun _ h => h) (fun q hq => hb.block q (Nat.lt_of_lt_of_le hq hz)), h.d.keep (fun _ h => h) (fun q hq => hb.block q (Nat.lt_of_lt_of_le hq hz)), h.n.keep (fun _ h => h) (fun q hq => hb.block q (Nat.lt_of_lt_of_le hq hz)), bl_trans h.b hb, bl_trans h.o hb⟩
theorem SuW.ee {w w0 wr : World} {A : Array Value} {ve vd vn : Value} {b : Bk} {O : List ByteArray} (h : SuW w A ve vd vn b O w0 wr) : SlIs (tEnt 101) (· < wr.heap.size) wr ve b.es := h.e.keep (fun _ hq => Nat.lt_of_lt_of_le hq h.o.size) (SameOn.refl _ _)
set_option maxRecDepth 100000 in
set_option maxHeartbeats 8000000 in
theorem sums_any (L : List Chg) (c : List Acc) (A : Array Value) (va ve vd : Value) (es : List Ent) (ds : List Chg) (w : World) (hA : CfgA A va) (hc : SlIs (tAcc 138) (· < w.heap.size) w va c) (hk : CfOk c) (hb : BOk L 256 ⟨es, ds⟩)
  (he : SlIs (tEnt 101) (· < w.heap.size) w ve es) (hd : SlIs (tChg eL) (· < w.heap.size) w vd ds) (hbal : Bal c isPay ⟨es, ds⟩) :
  Calls Tryz.prog 24 #[.agg A, .agg #[ve, vd]] w fun e w' => e = .returned (.bool true) ∧ Below w.heap.size w w' := by
 have n0 := alloc2_0 w (.cells A 46) (.cells #[ve, vd] 70); have n1 := alloc2_1 w (.cells A 46) (.cells #[ve, vd] 70); have HB0 := Lib.hid (bl_alloc (bl_alloc (Below.refl w.heap.size w) (.cells A 46)) (.cells #[ve, vd] 70)); have hel := hb.len; simp only at hel; have hds8 := hb.ds; simp only at hds8; obtain ⟨ae, ce, be, oe, rfl, he1, he2, heo⟩ := ent_open he; obtain ⟨ad, cd, bd, od, rfl, hd1, hd2, hdo⟩ := chg_open hd; unfold maxLen at he2 hd2; have HEO := Lib.hid heo; have HDO := Lib.hid hdo; have HA := Lib.hid hA; have HC := Lib.hid hc; have HK := Lib.hid hk; have HE := Lib.hid he; have HD := Lib.hid hd; have HBK := Lib.hid hb; have HBL := Lib.hid hbal; have HN0 := Lib.hid n0; have HN1 := Lib.hid (show BB (w.heap.size + 1) (.slice ae es.length ce) (.slice ad ds.length cd) _ from n1); have HAC := Lib.hid (accountsR_any es (.slice ae es.length ce) _ (he.step HB0.out) (by omega) (fun x hx => by have := (hb.es x hx).ps; omega)); clear hA hc hk he hd hb hbal n0 heo hdo
 go_enter Tryz.func24, Tryz.ntmps24
 obtain ⟨c0, c1, -⟩ := blk2 n1; clear n1
 go_wp2_with (fail)
 with_reducible refine HAC.out.mono ?_
 clear HAC c0 c1; rintro r w0 ⟨⟨vn, O, rfl, hO⟩, hb0⟩; have HS0 := Lib.hid (show SuW w A (.slice ae es.length ce) (.slice ad ds.length cd) vn ⟨es, ds⟩ O w0 w0 from ⟨(hb0.block _ (lt_of_heap HN0.out)).trans HN0.out, (hb0.block _ (lt_of_heap HN1.out)).trans HN1.out, HE.out.step (bl_trans HB0.out hb0), HD.out.step (bl_trans HB0.out hb0), hO, bl_trans HB0.out hb0, Below.refl _ _⟩); obtain ⟨an, cn, bn, on, rfl, hn1, hn2, hno⟩ := strs_open hO; unfold maxLen at hn2; have HNO := Lib.hid hno; clear hO hb0 HN0 HN1 HB0 HE HD hno
 go_wp2_with (fail)
 go_loopg [6] O.length (fun g i wr => ∃ k : Nat, k + g = O.length ∧ i = .int .i64 k ∧ Hid (SuW w A (.slice ae es.length ce) (.slice ad ds.length cd) (.slice an O.length cn) ⟨es, ds⟩ O w0 wr))
 case atStart => exact ⟨0, by omega, rfl, HS0⟩
 case round =>
  obtain ⟨k, hk, rfl, HS⟩ := hrel
  by_cases hlt : k < O.length
  · have k0 : (0 : Int) ≤ (k : Int) := by omega
    have k1 : (k : Int) < (O.length : Int) := by omega
    obtain ⟨rfl, -, hbn, c0, -⟩ := HNO.out wr (.of_below HS.out.o) k hlt; have HNM := Lib.hid (show ∀ w', Below wr.heap.size wr w' → w'.cell? ⟨bn, on + k, none⟩ = some (.string O[k]) from fun w' h => (h.cell (Nat.lt_of_lt_of_le hbn HS.out.o.size)).trans c0); clear c0; generalize O[k] = a at *; obtain ⟨wa, hwa⟩ : ∃ wa, wa = wr := ⟨_, rfl⟩; subst hwa
    go_wp2_with (fail)
    go_loopg [7, 8] ds.length (fun g n i wr => ∃ (j : Nat) (N : Int), j + g = ds.length ∧ i = .int .i64 j ∧ n = .int .i64 N ∧ Hid (N = conL c a (ds.take j)) ∧ Hid (-1125899906842624 * (j : Int) ≤ N ∧ N ≤ 1125899906842624 * (j : Int)) ∧ Hid (SuW w A (.slice ae es.length ce) (.slice ad ds.length cd) (.slice (some ⟨bn, on, none⟩) O.length cn) ⟨es, ds⟩ O w0 wr) ∧ Hid (Below wa.heap.size wa wr))
    case atStart => exact ⟨0, 0, by omega, rfl, rfl, Lib.hid rfl, Lib.hid ⟨by decide, by decide⟩, HS, Lib.hid (Below.refl _ _)⟩
    case round =>
     obtain ⟨j, N, hj, rfl, rfl, HN, HNB, HS2, HWA⟩ := hrel
     by_cases hlt2 : j < ds.length
     · have j0 : (0 : Int) ≤ (j : Int) := by omega
       have j1 : (j : Int) < (ds.length : Int) := by omega
       obtain ⟨rfl, -, hbd, -, hv, hsl, d0, d1, d2, d3, d4, d5, d6⟩ := HDO.out wr (.of_below HS2.out.b) j hlt2
       obtain ⟨hva, hvn, hvc, hve⟩ : ∃ a n c, hv = .slice a n c := by
        obtain ⟨a, c, _, _, e, -⟩ := hsl; exact ⟨a, _, c, e⟩
       subst hve; have HCN := Lib.hid (conL_take (c := c) (a := a) hlt2); have HYC := Lib.hid (chk_facts (HBK.out.chk _ (List.getElem_mem hlt2))); have HYK := Lib.hid (HBK.out.cok _ (List.getElem_mem hlt2)); have c0 := HNM.out wr HWA.out; clear hsl; generalize ds[j] = y at *; have hyc := HYC.out.2.2.2.2.2.2.1; have hyd := HYC.out.2.2.2.2.2.2.2.1; obtain ⟨nb1, nb2⟩ := HNB.out; obtain ⟨q1, hq1⟩ : ∃ q, ((debC c y).toList == a.toList) = q := ⟨_, rfl⟩; obtain ⟨q2, hq2⟩ : ∃ q, ((creC y).toList == a.toList) = q := ⟨_, rfl⟩; have HQ1 := Lib.hid (show decide (debC c y = a) = q1 by rw [← hq1, eq_str]); have HQ2 := Lib.hid (show decide (creC y = a) = q2 by rw [← hq2, eq_str])
       have HCC := Lib.hid (show conC c a y = (if q1 = true then y.c else 0) - (if q2 = true then y.c else 0) from by
        rw [← HQ1.out, ← HQ2.out]; unfold conC
        simp only [decide_eq_true_eq])
       have cA := fun d os => Calls.regrown_of (debit_any c A va y hva hvn hvc (grow (redrawn wr d) os) HA.out (HC.out.step (bl_trans HS2.out.b (below_regrown wr d os))) HK.out HYK.out.veh)
       generalize debC c y = dn at *; have LDC := fun d os => ldc_re HS2.out.c HA.out.size d os
       obtain ⟨-, c1, -⟩ := blk2 HS2.out.g; have k0 := cell_regrown c0; have k1 := cell_regrown c1; have e0 := cell_regrown d0; have e1 := cell_regrown d1; have e2 := cell_regrown d2; have e3 := cell_regrown d3; have e4 := cell_regrown d4; have e5 := cell_regrown d5; have e6 := cell_regrown d6
       have HDW := Lib.hid (show ∀ w', Below wr.heap.size wr w' → w'.cell? ⟨bd, od + j * 7, none⟩ = some (.string y.key) ∧ w'.cell? ⟨bd, od + j * 7 + 1, none⟩ = some (.string y.veh) ∧ w'.cell? ⟨bd, od + j * 7 + 2, none⟩ = some (.string y.sys) ∧ w'.cell? ⟨bd, od + j * 7 + 3, none⟩ = some (.int .i64 y.cls) ∧ w'.cell? ⟨bd, od + j * 7 + 4, none⟩ = some (.int .i64 y.tm) ∧ w'.cell? ⟨bd, od + j * 7 + 5, none⟩ = some (.slice hva hvn hvc) ∧ w'.cell? ⟨bd, od + j * 7 + 6, none⟩ = some (.int .i64 y.c) from fun w' h =>
        have hbr := Nat.lt_of_lt_of_le hbd HS2.out.b.size
        ⟨(h.cell hbr).trans d0, (h.cell hbr).trans d1, (h.cell hbr).trans d2, (h.cell hbr).trans d3, (h.cell hbr).trans d4, (h.cell hbr).trans d5, (h.cell hbr).trans d6⟩)
       go_upto_region 9 with (fail)
       clear c0 c1 d0 d1 d2 d3 d4 d5 d6; refine QW.region (by kernel_rfl) (by kernel_rfl) ?_; refine QW.yes (by kernel_rfl) (fun K hK => ?_); refine quiet_loadA (A := A) rfl Tryz.isAgg46 Tryz.sizeOf46 rfl (fun w' hw' => ?_) (hK _ ?_)
       · obtain ⟨⟨nq, osq⟩, rfl⟩ := hw'
         exact LDC nq osq
       clear hK K
       (refine QW.yes (by kernel_rfl) (fun K hK => ?_)
        go_simp
        (with_reducible refine hK _ ?_)
        clear hK K)
       (refine QW.yes (by kernel_rfl) (fun K hK => ?_)
        go_simp
        (with_reducible refine hK _ ?_)
        clear hK K)
       (refine QW.yes (by kernel_rfl) (fun K hK => ?_)
        go_simp
        (with_reducible refine hK _ ?_)
        clear hK K)
       (refine QW.yes (by kernel_rfl) (fun K hK => ?_)
        go_simp
        (with_reducible refine hK _ ?_)
        clear hK K)
       (refine QW.yes (by kernel_rfl) (fun K hK => ?_)
        go_simp
        (with_reducible refine hK _ ?_)
        clear hK K)
       (refine QW.yes (by kernel_rfl) (fun K hK => ?_)
        go_simp
        apply Exists.intro
        refine ⟨fun _ => ?_, hK _ ?_⟩
        (go_at_call 38; with_reducible exact cA _ _)
        clear hK K)
       (refine QW.yes (by kernel_rfl) (fun K hK => ?_)
        go_simp
        (with_reducible refine hK _ ?_)
        clear hK K)
       (refine QW.yes (by kernel_rfl) (fun K hK => ?_)
        go_simp
        (with_reducible refine hK _ ?_)
        clear hK K)
       (refine QW.yes (by kernel_rfl) (fun K hK => ?_)
        go_simp
        (with_reducible refine hK _ ?_)
        clear hK K)
       (refine QW.yes (by kernel_rfl) (fun K hK => ?_)
        go_simp
        (with_reducible refine hK _ ?_)
        clear hK K)
       (refine QW.yes (by kernel_rfl) (fun K hK => ?_)
        go_simp
        (with_reducible refine hK _ ?_)
        clear hK K)
       refine QW.nil ?_; intro _ hw'; obtain ⟨⟨dq, osq⟩, hw''⟩ := hw'; subst hw''; have hbg := below_regrown wr dq osq; have HS3 := Lib.hid (HS2.out.step hbg); have HW3 := Lib.hid (bl_trans HWA.out hbg); have HDW3 := Lib.hid (fun w' (h : Below (grow (redrawn wr dq) osq).heap.size (grow (redrawn wr dq) osq) w') => HDW.out w' (bl_trans hbg h)); clear cA LDC k0 k1 e0 e1 e2 e3 e4 e5 e6 hbg HS2 HWA HDW; generalize grow (redrawn wr dq) osq = w3 at *; obtain ⟨M, hM⟩ : ∃ M, N + (if q1 = true then y.c else 0) = M := ⟨_, rfl⟩
       have hMb : -1125899906842624 * (j : Int) ≤ M ∧ M ≤ 1125899906842624 * (j : Int) + 1125899906842624 := by
        subst hM
        split <;> omega
       obtain ⟨P, hP⟩ : ∃ P, M - (if q2 = true then y.c else 0) = P := ⟨_, rfl⟩
       have HPN := Lib.hid (show P = conL c a (ds.take (j + 1)) from by
        rw [HCN.out, HCC.out, ← HN.out, ← hP, ← hM]
        omega)
       have HPB := Lib.hid (show -1125899906842624 * ((j + 1 : Nat) : Int) ≤ P ∧ P ≤ 1125899906842624 * ((j + 1 : Nat) : Int) from by
        subst hP; subst hM
        split <;> split <;> omega)
       have hjb : (j : Int) < 8 := by omega
       have hw1 : q1 = true → IntKind.i64.wrap (N + y.c) = M := fun h => by
        rw [if_pos h] at hM; rw [hM]; exact wrap_in (by omega) (by omega)
       have hw2 : q2 = true → IntKind.i64.wrap (M - y.c) = P := fun h => by
        rw [if_pos h] at hP; rw [hP]; exact wrap_in (by subst hP; omega) (by subst hP; omega)
       have hw3 : q1 = false → N = M := fun h => by
        rw [h] at hM
        simpa using hM
       have hw4 : q2 = false → M = P := fun h => by
        rw [h] at hP
        simpa using hP
       have HM1 := Lib.hid hw1; have HM2 := Lib.hid hw2; have HM3 := Lib.hid hw3; have HM4 := Lib.hid hw4; clear hw1 hw2 hw3 hw4 hM hP hMb nb1 nb2 hyc hyd hjb HNB HYC
       cases q1 with
       | true =>
        have hw1 := HM1.out rfl; have HS4 := HS3; obtain ⟨-, c1, -⟩ := blk2 HS3.out.g; obtain ⟨d0, d1, d2, d3, d4, d5, d6⟩ := HDW3.out w3 (Below.refl _ _)
        go_upto_region 11 with (fail)
        have cA := fun d os => Calls.regrown_of (credit_any y (.slice hva hvn hvc) (grow (redrawn w3 d) os) HYK.out.sys)
        have c0 := HNM.out w3 HW3.out; have k0 := cell_regrown c0; have k1 := cell_regrown c1; have e0 := cell_regrown d0; have e1 := cell_regrown d1; have e2 := cell_regrown d2; have e3 := cell_regrown d3; have e4 := cell_regrown d4; have e5 := cell_regrown d5; have e6 := cell_regrown d6; clear c0 c1 d0 d1 d2 d3 d4 d5 d6; refine QW.region (by kernel_rfl) (by kernel_rfl) ?_
        (refine QW.yes (by kernel_rfl) (fun K hK => ?_)
         go_simp
         (with_reducible refine hK _ ?_)
         clear hK K)
        (refine QW.yes (by kernel_rfl) (fun K hK => ?_)
         go_simp
         (with_reducible refine hK _ ?_)
         clear hK K)
        (refine QW.yes (by kernel_rfl) (fun K hK => ?_)
         go_simp
         (with_reducible refine hK _ ?_)
         clear hK K)
        (refine QW.yes (by kernel_rfl) (fun K hK => ?_)
         go_simp
         (with_reducible refine hK _ ?_)
         clear hK K)
        (refine QW.yes (by kernel_rfl) (fun K hK => ?_)
         go_simp
         (with_reducible refine hK _ ?_)
         clear hK K)
        (refine QW.yes (by kernel_rfl) (fun K hK => ?_)
         go_simp
         apply Exists.intro
         refine ⟨fun _ => ?_, hK _ ?_⟩
         (go_at_call 39; with_reducible exact cA _ _)
         clear hK K)
        (refine QW.yes (by kernel_rfl) (fun K hK => ?_)
         go_simp
         (with_reducible refine hK _ ?_)
         clear hK K)
        (refine QW.yes (by kernel_rfl) (fun K hK => ?_)
         go_simp
         (with_reducible refine hK _ ?_)
         clear hK K)
        (refine QW.yes (by kernel_rfl) (fun K hK => ?_)
         go_simp
         (with_reducible refine hK _ ?_)
         clear hK K)
        (refine QW.yes (by kernel_rfl) (fun K hK => ?_)
         go_simp
         (with_reducible refine hK _ ?_)
         clear hK K)
        (refine QW.yes (by kernel_rfl) (fun K hK => ?_)
         go_simp
         (with_reducible refine hK _ ?_)
         clear hK K)
        refine QW.nil ?_; intro _ hw'; obtain ⟨⟨dq2, osq2⟩, hw''⟩ := hw'; subst hw''; have hbg := below_regrown w3 dq2 osq2; have HS5 := Lib.hid (HS3.out.step hbg); have HW5 := Lib.hid (bl_trans HW3.out hbg); obtain ⟨d0, d1, d2, d3, d4, d5, d6⟩ := HDW3.out _ hbg; obtain ⟨-, c1, -⟩ := blk2 HS5.out.g; clear cA k0 k1 e0 e1 e2 e3 e4 e5 e6 hbg d0 d1 d2 d3 d4 d5; generalize grow (redrawn w3 dq2) osq2 = w5 at *
        cases q2 with
        | true =>
         have hw2 := HM2.out rfl; go_wp2
         go_roundg (ds.length - (j + 1))
         case measure => omega
         case rel => exact ⟨j + 1, P, by omega, by go_num, rfl, HPN, HPB, HS5, HW5⟩
        | false =>
         obtain rfl := HM4.out rfl; go_wp2
         go_roundg (ds.length - (j + 1))
         case measure => omega
         case rel => exact ⟨j + 1, _, by omega, by go_num, rfl, HPN, HPB, HS5, HW5⟩
       | false =>
        obtain rfl := HM3.out rfl; have HS4 := HS3; obtain ⟨-, c1, -⟩ := blk2 HS3.out.g; obtain ⟨d0, d1, d2, d3, d4, d5, d6⟩ := HDW3.out w3 (Below.refl _ _)
        go_upto_region 11 with (fail)
        have cA := fun d os => Calls.regrown_of (credit_any y (.slice hva hvn hvc) (grow (redrawn w3 d) os) HYK.out.sys)
        have c0 := HNM.out w3 HW3.out; have k0 := cell_regrown c0; have k1 := cell_regrown c1; have e0 := cell_regrown d0; have e1 := cell_regrown d1; have e2 := cell_regrown d2; have e3 := cell_regrown d3; have e4 := cell_regrown d4; have e5 := cell_regrown d5; have e6 := cell_regrown d6; clear c0 c1 d0 d1 d2 d3 d4 d5 d6; refine QW.region (by kernel_rfl) (by kernel_rfl) ?_
        (refine QW.yes (by kernel_rfl) (fun K hK => ?_)
         go_simp
         (with_reducible refine hK _ ?_)
         clear hK K)
        (refine QW.yes (by kernel_rfl) (fun K hK => ?_)
         go_simp
         (with_reducible refine hK _ ?_)
         clear hK K)
        (refine QW.yes (by kernel_rfl) (fun K hK => ?_)
         go_simp
         (with_reducible refine hK _ ?_)
         clear hK K)
        (refine QW.yes (by kernel_rfl) (fun K hK => ?_)
         go_simp
         (with_reducible refine hK _ ?_)
         clear hK K)
        (refine QW.yes (by kernel_rfl) (fun K hK => ?_)
         go_simp
         (with_reducible refine hK _ ?_)
         clear hK K)
        (refine QW.yes (by kernel_rfl) (fun K hK => ?_)
         go_simp
         apply Exists.intro
         refine ⟨fun _ => ?_, hK _ ?_⟩
         (go_at_call 39; with_reducible exact cA _ _)
         clear hK K)
        (refine QW.yes (by kernel_rfl) (fun K hK => ?_)
         go_simp
         (with_reducible refine hK _ ?_)
         clear hK K)
        (refine QW.yes (by kernel_rfl) (fun K hK => ?_)
         go_simp
         (with_reducible refine hK _ ?_)
         clear hK K)
        (refine QW.yes (by kernel_rfl) (fun K hK => ?_)
         go_simp
         (with_reducible refine hK _ ?_)
         clear hK K)
        (refine QW.yes (by kernel_rfl) (fun K hK => ?_)
         go_simp
         (with_reducible refine hK _ ?_)
         clear hK K)
        (refine QW.yes (by kernel_rfl) (fun K hK => ?_)
         go_simp
         (with_reducible refine hK _ ?_)
         clear hK K)
        refine QW.nil ?_; intro _ hw'; obtain ⟨⟨dq2, osq2⟩, hw''⟩ := hw'; subst hw''; have hbg := below_regrown w3 dq2 osq2; have HS5 := Lib.hid (HS3.out.step hbg); have HW5 := Lib.hid (bl_trans HW3.out hbg); obtain ⟨d0, d1, d2, d3, d4, d5, d6⟩ := HDW3.out _ hbg; obtain ⟨-, c1, -⟩ := blk2 HS5.out.g; clear cA k0 k1 e0 e1 e2 e3 e4 e5 e6 hbg d0 d1 d2 d3 d4 d5; generalize grow (redrawn w3 dq2) osq2 = w5 at *
        cases q2 with
        | true =>
         have hw2 := HM2.out rfl; go_wp2
         go_roundg (ds.length - (j + 1))
         case measure => omega
         case rel => exact ⟨j + 1, P, by omega, by go_num, rfl, HPN, HPB, HS5, HW5⟩
        | false =>
         obtain rfl := HM4.out rfl; go_wp2
         go_roundg (ds.length - (j + 1))
         case measure => omega
         case rel => exact ⟨j + 1, _, by omega, by go_num, rfl, HPN, HPB, HS5, HW5⟩
     · have hjd : decide ((j : Int) < (ds.length : Int)) = false := by simp; omega
       rw [show ds.take j = ds from List.take_of_length_le (by omega)] at HN; have HNB2 := Lib.hid (show -9007199254740992 ≤ N ∧ N ≤ 9007199254740992 from by have := HNB.out; omega); clear HNB; obtain ⟨-, c1, -⟩ := blk2 HS2.out.g; obtain ⟨wb, hwb⟩ : ∃ wb, wb = wr := ⟨_, rfl⟩; subst hwb
       go_wp2_with (fail)
       go_loopg [7, 9] es.length (fun g n i wr => ∃ (p : Nat) (M : Int), p + g = es.length ∧ i = .int .i64 p ∧ n = .int .i64 M ∧ Hid (M = N + payB isPay a (es.take p)) ∧ Hid (-9007199254740992 - 4503599627370496 * (p : Int) ≤ M ∧ M ≤ 9007199254740992 + 4503599627370496 * (p : Int)) ∧ Hid (SuW w A (.slice ae es.length ce) (.slice ad ds.length cd) (.slice (some ⟨bn, on, none⟩) O.length cn) ⟨es, ds⟩ O w0 wr) ∧ Hid (Below wa.heap.size wa wr))
       case atStart => exact ⟨0, N, by omega, rfl, rfl, Lib.hid (by simp [payB, balL]), Lib.hid (by have := HNB2.out; omega), HS2, HWA⟩
       case round =>
        obtain ⟨p, M, hp, rfl, rfl, HM, HMB, HS3, HWB⟩ := hrel
        by_cases hlt3 : p < es.length
        · have p0 : (0 : Int) ≤ (p : Int) := by omega
          have p1 : (p : Int) < (es.length : Int) := by omega
          obtain ⟨rfl, -, hbe, hok, hv, hsl, d0, d1, d2⟩ := HEO.out wr (.of_below HS3.out.b) p hlt3; obtain ⟨hva, hvc, hvb, hvo, rfl, hs1, hs2, hso⟩ := si_open hsl; unfold maxLen at hs2; have HPT := Lib.hid (payB_take (a := a) hlt3); have HEK := Lib.hid (HBK.out.es _ (List.getElem_mem hlt3)); have HSO := Lib.hid hso; have hkz := hok.key; unfold maxLen at hkz; obtain ⟨c0, -, -⟩ := blk2 HS3.out.g; clear hsl hso hok; generalize es[p] = y at *; obtain ⟨ky, yt, yp⟩ := y; simp only at *
          go_upto_region 17 with (fail)
          have n3 := heap_alloc_new wr (.cells #[.string ky, .int .i64 yt, .slice hva yp.length hvc] 56); have hb3 := bl_alloc (Below.refl wr.heap.size wr) (.cells #[.string ky, .int .i64 yt, .slice hva yp.length hvc] 56); have HX3 := Lib.hid n3; have HS4 := Lib.hid (HS3.out.step hb3); have HWC := Lib.hid (bl_trans HWB.out hb3); have HB4 := Lib.hid hb3; obtain ⟨wp, hwp⟩ : ∃ wp, wp = wr := ⟨_, rfl⟩; subst hwp; clear d0 d1 d2 c0 n3 hb3; generalize wp.alloc (.cells #[.string ky, .int .i64 yt, .slice hva yp.length hvc] 56) = w4 at *; obtain ⟨x0, x1, x2, -⟩ := blk3 HX3.out
          by_cases h4 : ky.size < 4
          · have q4 : (ky.size : Int) < 4 := by omega
            have HMN := Lib.hid (show M = N + payB isPay a (es.take (p + 1)) from by rw [HM.out, HPT.out, isPay_short h4]; simp); have HMC := Lib.hid (show -9007199254740992 - 4503599627370496 * ((p + 1 : Nat) : Int) ≤ M ∧ M ≤ 9007199254740992 + 4503599627370496 * ((p + 1 : Nat) : Int) from by have := HMB.out; omega); clear h4; go_wp2
            go_roundg (es.length - (p + 1))
            case measure => omega
            case rel => exact ⟨p + 1, M, by omega, by go_num, rfl, HMN, HMC, HS4, HWC⟩
          · have q4 : decide ((ky.size : Int) < 4) = false := by simp; omega
            have q5 : (4 : Int) ≤ (ky.size : Int) := by omega
            have q6 : 4 ≤ ky.size := by omega
            have HIP := Lib.hid (isPay_long q6); obtain ⟨q, hq⟩ : ∃ q, ((ky.extract 0 4).toList == [112, 97, 121, 35]) = q := ⟨_, rfl⟩; rw [hq] at HIP; clear h4 q6
            cases q with
            | false =>
             have HMN := Lib.hid (show M = N + payB isPay a (es.take (p + 1)) from by rw [HM.out, HPT.out, HIP.out]; simp); have HMC := Lib.hid (show -9007199254740992 - 4503599627370496 * ((p + 1 : Nat) : Int) ≤ M ∧ M ≤ 9007199254740992 + 4503599627370496 * ((p + 1 : Nat) : Int) from by have := HMB.out; omega); go_wp2
             go_roundg (es.length - (p + 1))
             case measure => omega
             case rel => exact ⟨p + 1, M, by omega, by go_num, rfl, HMN, HMC, HS4, HWC⟩
            | true =>
             have HPT2 := Lib.hid (show payB isPay a (es.take (p + 1)) = payB isPay a (es.take p) + sumAt a yp from by rw [HPT.out, HIP.out]; simp); have hp4 := HEK.out.ps; simp only at hp4; have HFT := Lib.hid HEK.out.fit; obtain ⟨we, hwe⟩ : ∃ we, we = w4 := ⟨_, rfl⟩; subst hwe
             go_wp2_with (fail)
             go_loopg [7, 11] yp.length (fun g n i wr => ∃ (m : Nat) (R : Int), m + g = yp.length ∧ i = .int .i64 m ∧ n = .int .i64 R ∧ Hid (R = M + sumAt a (yp.take m)) ∧ Hid (M - 1125899906842624 * (m : Int) ≤ R ∧ R ≤ M + 1125899906842624 * (m : Int)) ∧ Hid (SuW w A (.slice (some ⟨be, oe, none⟩) es.length ce) (.slice ad ds.length cd) (.slice (some ⟨bn, on, none⟩) O.length cn) ⟨es, ds⟩ O w0 wr) ∧ Hid (Below we.heap.size we wr))
             case atStart => exact ⟨0, M, by omega, rfl, rfl, Lib.hid (by simp [sumAt, sumL]), Lib.hid (by omega), HS4, Lib.hid (Below.refl _ _)⟩
             case round =>
              obtain ⟨m, R, hm, rfl, rfl, HR, HRB, HS5, HWD⟩ := hrel; have HX5 := Lib.hid ((HWD.out.block _ (lt_of_heap HX3.out)).trans HX3.out); obtain ⟨x0, x1, x2, -⟩ := blk3 HX5.out
              by_cases hlt4 : m < yp.length
              · have m0 : (0 : Int) ≤ (m : Int) := by omega
                have m1 : (m : Int) < (yp.length : Int) := by omega
                have HBx := Lib.hid (bl_trans HB4.out HWD.out); obtain ⟨rfl, -, hbs, hop, d0, d1⟩ := HSO.out wr (fun q hq => HBx.out.block q (Nat.lt_of_lt_of_le hq HS3.out.b.size)) m hlt4; have c0 := HNM.out wr (bl_trans HWC.out HWD.out); have HST := Lib.hid (sumAt_take (a := a) hlt4); have hfp := fitsM_iff.1 (HFT.out _ (List.getElem_mem hlt4)); generalize yp[m] = s at *; obtain ⟨ss, sn⟩ := s; simp only at d0 d1 hfp; obtain ⟨r1, r2⟩ := HRB.out; obtain ⟨r3, r4⟩ := HMB.out; have hw5 : IntKind.i64.wrap (R + sn) = R + sn := wrap_in (by omega) (by omega); have HRC := Lib.hid (show ∀ R', (R' = R ∨ R' = R + sn) → M - 1125899906842624 * ((m + 1 : Nat) : Int) ≤ R' ∧ R' ≤ M + 1125899906842624 * ((m + 1 : Nat) : Int) from fun R' h => by rcases h with rfl | rfl <;> omega); clear r1 r2 r3 r4 hfp hop; obtain ⟨q, hq2⟩ : ∃ q, (ss.toList == a.toList) = q := ⟨_, rfl⟩; have HQ := Lib.hid (show decide (ss = a) = q by rw [← hq2, eq_str])
                cases q with
                | true =>
                 have HRN := Lib.hid (show R + sn = M + sumAt a (yp.take (m + 1)) from by rw [HST.out, if_pos (by simpa using HQ.out), HR.out]; dsimp only; omega)
                 go_upto_region 22 with (go_quiet (fail))
                 have HWE := Lib.hid (bl_drewN HWD.out nq); have HS6 := Lib.hid (HS5.out.step (bl_drewN (Below.refl _ _) nq)); go_wp2
                 go_roundg (yp.length - (m + 1))
                 case measure => omega
                 case rel => exact ⟨m + 1, R + sn, by omega, by go_num, rfl, HRN, Lib.hid (HRC.out _ (.inr rfl)), HS6, HWE⟩
                | false =>
                 have HRN := Lib.hid (show R = M + sumAt a (yp.take (m + 1)) from by rw [HST.out, if_neg (by simpa using HQ.out), HR.out]; omega)
                 go_wp2_with (go_quiet (fail))
                 go_roundg (yp.length - (m + 1))
                 case measure => omega
                 case rel => exact ⟨m + 1, R, by omega, by go_num, rfl, HRN, Lib.hid (HRC.out _ (.inl rfl)), Lib.hid (HS5.out.step (bl_drewN (Below.refl _ _) _)), Lib.hid (bl_drewN HWD.out _)⟩
              · have hmd : decide ((m : Int) < (yp.length : Int)) = false := by simp; omega
                rw [show yp.take m = yp from List.take_of_length_le (by omega)] at HR; have HMN := Lib.hid (show R = N + payB isPay a (es.take (p + 1)) from by rw [HR.out, HM.out, HPT2.out]; omega); have HMC := Lib.hid (show -9007199254740992 - 4503599627370496 * ((p + 1 : Nat) : Int) ≤ R ∧ R ≤ 9007199254740992 + 4503599627370496 * ((p + 1 : Nat) : Int) from by have := HMB.out; have := HRB.out; omega); have HWF := Lib.hid (bl_trans HWC.out HWD.out); go_wp2
                go_roundg (es.length - (p + 1))
                case measure => omega
                case rel => exact ⟨p + 1, R, by omega, by go_num, rfl, HMN, HMC, HS5, HWF⟩
        · have hpd : decide ((p : Int) < (es.length : Int)) = false := by simp; omega
          rw [show es.take p = es from List.take_of_length_le (by omega)] at HM; have hMB : balL a es = M := by rw [HM.out, HN.out]; exact HBL.out a
          have c0 := HNM.out wr HWB.out; obtain ⟨c1, -, -⟩ := blk2 HS3.out.g; have k0 := cell_regrown c0; have k1 := cell_regrown c1
          have HLK := Lib.hid (show LOk 4004 es from by
           have h := LOk.of (l := es) (N := 256) HBK.out.es hel
           exact ⟨Nat.le_trans h.len (by decide), h.fit⟩)
          have cB := fun d os => Calls.regrown_of (balR_any es (.slice ae es.length ce) a (grow (redrawn wr d) os) (HS3.out.step (below_regrown wr d os)).ee HLK.out)
          rw [hMB] at cB
          go_upto_region 23 with (fail)
          clear hMB c0 c1; refine QW.region (by kernel_rfl) (by kernel_rfl) ?_
          (refine QW.yes (by kernel_rfl) (fun K hK => ?_)
           go_simp
           (with_reducible refine hK _ ?_)
           clear hK K)
          (refine QW.yes (by kernel_rfl) (fun K hK => ?_)
           go_simp
           (with_reducible refine hK _ ?_)
           clear hK K)
          (refine QW.yes (by kernel_rfl) (fun K hK => ?_)
           go_simp
           (with_reducible refine hK _ ?_)
           clear hK K)
          (refine QW.yes (by kernel_rfl) (fun K hK => ?_)
           go_simp
           (with_reducible refine hK _ ?_)
           clear hK K)
          (refine QW.yes (by kernel_rfl) (fun K hK => ?_)
           go_simp
           (with_reducible refine hK _ ?_)
           clear hK K)
          (refine QW.yes (by kernel_rfl) (fun K hK => ?_)
           go_simp
           (with_reducible refine hK _ ?_)
           clear hK K)
          (refine QW.yes (by kernel_rfl) (fun K hK => ?_)
           go_simp
           apply Exists.intro
           refine ⟨fun _ => ?_, hK _ ?_⟩
           (go_at_call 26; with_reducible exact cB _ _)
           clear hK K)
          (refine QW.yes (by kernel_rfl) (fun K hK => ?_)
           go_simp
           (with_reducible refine hK _ ?_)
           clear hK K)
          (refine QW.yes (by kernel_rfl) (fun K hK => ?_)
           go_simp
           (with_reducible refine hK _ ?_)
           clear hK K)
          refine QW.nil ?_; intro _ hw'; obtain ⟨⟨dq, osq⟩, hw''⟩ := hw'; subst hw''; have HS5 := Lib.hid (HS3.out.step (below_regrown wr dq osq)); clear cB k0 k1; go_wp2
          go_roundg (O.length - (k + 1))
          case measure => omega
          case rel => exact ⟨k + 1, by omega, by go_num, HS5⟩
  · have hkd : decide ((k : Int) < (O.length : Int)) = false := by simp; omega
    have HBE := Lib.hid HS.out.b; go_wp2; go_ret; exact ⟨rfl, HBE.out⟩
end Go.Proofs.YtifcelebfagjbaaGreatDoor
