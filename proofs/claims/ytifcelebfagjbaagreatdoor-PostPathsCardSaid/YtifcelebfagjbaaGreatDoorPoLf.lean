import Derived.Test.YtifcelebfagjbaaGreatDoorPoLx
import Derived.Test.YtifcelebfagjbaaGreatDoorMgS
import Derived.Test.YtifcelebfagjbaaGreatDoorMgH
namespace Go.Tw
open Go.RowKit Go.ChangeShapes Go.WideShapes
theorem opensW_bytes {P : Program} {α : Type} {T : Ty α} {t e : TypeId} (ht : P.underlying t = some (.slice e)) (hsz : P.cellsOf e = T.sz) (hpos : 0 < T.sz) (he : Opens P e T) {e' : TypeId} : OpensW P t ((T.list e').sub fun l => l.length * P.bytesOf e ≤ reachBytes) := fun H enc w fuel cs x h hw => by
 rcases Go.Deep.open_slice ht h with ⟨rfl, _⟩ | ⟨a, len, cap, m, n, D, Pl, rfl, _, hl, hm, hmm, rfl, hx⟩
 · exact ⟨[], ⟨_, rfl, none, 0, 0, 0, rfl, Nat.le_refl _, Nat.zero_le _, fun _ => rfl, fun k hk => absurd hk (Nat.not_lt_zero _)⟩, by simp⟩
 · simp only [if_true] at hmm
   subst hmm
   have hlen0 : len * P.bytesOf e ≤ reachBytes := by
    have h1 := hw ((len + (m - len)) * P.bytesOf e) (by simp [DataW.weights, ht]); have h2 : len * P.bytesOf e ≤ (len + (m - len)) * P.bytesOf e := Nat.mul_le_mul_right _ (by omega)
    omega
   have key : ∀ i, i < len → ∃ y, ∃ cs' : List Value, w.cells? 0 (a.add (i * T.sz)) T.sz = some cs' ∧ T.is (· < w.heap.size) w cs' y := fun i hi => by
    obtain ⟨cs', h1, h2⟩ := hx i (by omega); obtain ⟨y, hy⟩ := he _ _ _ _ _ _ h2; rw [hsz] at h1; exact ⟨y, cs', h1, hy⟩
   obtain ⟨l, hlen, hget⟩ := list_of_lt key; subst hlen; refine ⟨l, ⟨_, rfl, some a, _, a.block, a.off, rfl, hl, hm, fun h => (by cases h), fun k hk => ?_⟩, hlen0⟩; obtain ⟨cs', h1, h2⟩ := hget k hk; obtain ⟨g1, g2⟩ := cells?_get h1; have h0 := g2 0 hpos; have h0' : ∃ u, w.cell? ((a.add (k * T.sz)).add 0) = some u := ⟨cs'[0]'(by omega), by rw [h0]; exact List.getElem?_eq_getElem _⟩; obtain ⟨u, hu⟩ := h0'
   have hblk : a.block < w.heap.size := by
    have := lt_of_cell hu
    have e : ((a.add (k * T.sz)).add 0).block = a.block := by unfold Addr.add; simp; split <;> rfl
    rwa [e] at this
   have hspot : a.spot = none := by
    obtain ⟨cs0, q1, _⟩ := hget 0 (by omega); obtain ⟨q3, q4⟩ := cells?_get q1; have := q4 0 hpos; simp [Addr.add] at this; rw [List.getElem?_eq_getElem (by omega)] at this; exact World.cell?_spot this
   obtain ⟨ab, ao, sp⟩ := a; simp only at hspot hblk; subst hspot; refine ⟨rfl, hblk, hblk, cs', fun j hj => ?_, h2⟩; rw [← g2 j hj, Go.Deep.add_add]
   congr 1
   unfold Addr.add
   split
   · rename_i h; simp at h; simp only [h, Nat.add_zero]
   · simp
end Go.Tw
namespace Go.Tw.Po
open Go.RowKit Go.Tw Go.Sort Go.Tw.Ord Go.Proofs.YtifcelebfagjbaaGreatDoor
def isCall (d : Deed) : Bool := decide (0 ≤ d.op) && decide (d.op < 3)
theorem call_take {l : List Deed} {k : Nat} (hk : k < l.length) : (l.take (k + 1)).filter isCall = if isCall l[k] = true then (l.take k).filter isCall ++ [l[k]] else (l.take k).filter isCall := by
 rw [List.take_succ_eq_append_getElem hk, List.filter_append, List.filter_cons, List.filter_nil]
 split <;> simp
end Go.Tw.Po
namespace Go.Proofs.YtifcelebfagjbaaGreatDoor
open Go.RowKit Go.Tw Go.Tw.Ord Go.Tw.Po Go.Sort Go.ChangeShapes Go.WideShapes
theorem slDeed : SlT Tryz.prog 65 86 5 48 := SlT.of (z := .agg #[.int .i64 0, .int .i64 0, .int .i64 0, .int .i64 0, .string ByteArray.empty]) Tryz.underlying65 (by kernel_rfl) rfl (by decide)
theorem deed_mk {S : Nat → Prop} {w : World} {r : Deed} (h : DeedOk r) : tDeed.is S w (dCells r) r :=
 ⟨_, _, rfl, ⟨rfl, h.op⟩, _, _, rfl, ⟨rfl, h.at'⟩, _, _, rfl, ⟨rfl, h.t⟩, _, _, rfl, ⟨rfl, h.c⟩, ⟨rfl, h.name⟩⟩
set_option maxRecDepth 100000 in
set_option maxHeartbeats 8000000 in
theorem paths_walk : LawWalkL Tryz.prog laidL 8 Tryz.f8 := by
 intro H enc W base args ds ps hval hA hsz hL; rw [Tryz.params8] at hA hval; obtain ⟨v0, v1, v2, v3, d0, d1, d2, d3, p0, p1, p2, p3, rfl, rfl, rfl, h0, h1, h2, h3⟩ := trodAll_four hA; obtain ⟨A, ao, an, ac, c, e0, hA0, hc0, hplt⟩ := arg_cfg (hval 0 _ _ rfl rfl) h0 hsz (j := 0) rfl rfl; obtain ⟨l, hl0⟩ := arg_slice Tryz.underlying52 (opensChgs (e := 49)) (hval 1 _ _ rfl rfl) h1; obtain ⟨dl, hd0, hdb⟩ := arg_sliceW Tryz.underlying65 (opensW_bytes Tryz.underlying65 (by kernel_rfl) (by decide) opensDeed (e' := 86)) (hval 2 _ _ rfl rfl) h2 hsz (j := 2) rfl rfl; rw [show Tryz.prog.bytesOf 86 = 48 by kernel_rfl] at hdb; unfold reachBytes at hdb; obtain ⟨t, e3, ht0, ht1⟩ := arg_u16 Tryz.underlying78 (hval 3 _ _ rfl rfl) h3; subst e0 e3; have HF := Lib.hid (fmt_all hL); clear hA hval h0 h1 h2 h3 hsz hL; have n0 := alloc1_0 W (.cells A 46); have HB0 := Lib.hid (bl_alloc (Below.refl W.heap.size W) (.cells A 46)); obtain ⟨al, cl, bl, ol, rfl, hl1, hl2, hlop⟩ := chg_open hl0; obtain ⟨ad, cd, bd, od, rfl, hd1, hd2, hdop⟩ := deed_open hd0; unfold maxLen at hl2 hd2; have HLO := Lib.hid hlop; have HDO := Lib.hid hdop; have HA := Lib.hid hA0; have HC := Lib.hid hc0; have HL := Lib.hid hl0; have HD := Lib.hid hd0; have HN0 := Lib.hid n0
 have HXO := Lib.hid (show ∀ x ∈ l, ChgOk x from fun x hx => by
  obtain ⟨k, hk, rfl⟩ := List.getElem_of_mem hx
  exact (hlop W (SameOn.refl _ _) k hk).2.2.2.1)
 have HRT := Lib.hid (right_any c A (.slice ao an ac) (W.alloc (.cells A 46)) hA0 (hc0.step HB0.out) hplt); have hld := load_blk n0 hA0.size Tryz.prog; clear hA0 hc0 hplt hl0 hd0 n0 hlop hdop
 go_enter Tryz.func8, Tryz.ntmps8
 go_wp2_with (first | (refine wpList_loadA _ rfl 46 rfl Tryz.isAgg46 Tryz.sizeOf46 rfl (by with_reducible assumption) ?_) | fail)
 with_reducible refine HRT.out.mono ?_
 clear HRT hld; rintro r w1 ⟨⟨b, rfl, hb⟩, hb1⟩; have HRB := Lib.hid hb; have HB1 := Lib.hid (bl_trans HB0.out hb1); have N0 := Lib.hid ((hb1.block _ (lt_of_heap HN0.out)).trans HN0.out); clear hb hb1 HN0 HB0
 cases b with
 | false =>
  have HAW := Lib.hid (awake_any _ (HF.out.step HB1.out))
  go_wp2_with (fail)
  with_reducible refine HAW.out.mono ?_
  clear HAW; rintro r wz ⟨rfl, hbz⟩; have HBZ := Lib.hid (bl_trans HB1.out hbz); clear hbz; go_wp2; go_ret; exact ⟨rfl, HBZ.out⟩
 | true =>
 have HRK := Lib.hid (HRB.out (by trivial)); have HSH := Lib.hid (short_any l (.slice al l.length cl) w1 (HL.out.step HB1.out)); clear HRB
 go_wp2_with (fail)
 with_reducible refine HSH.out.mono ?_
 clear HSH; rintro r w2 ⟨⟨b, rfl, hb⟩, hb2⟩; have HSB := Lib.hid hb; have HB2 := Lib.hid (bl_trans HB1.out hb2); have M0 := Lib.hid ((hb2.block _ (lt_of_heap N0.out)).trans N0.out); clear hb hb2 HB1 N0
 cases b with
 | false =>
  have HAW := Lib.hid (awake_any _ (HF.out.step HB2.out))
  go_wp2_with (fail)
  with_reducible refine HAW.out.mono ?_
  clear HAW; rintro r wz ⟨rfl, hbz⟩; have HBZ := Lib.hid (bl_trans HB2.out hbz); clear hbz; go_wp2; go_ret; exact ⟨rfl, HBZ.out⟩
 | true =>
 have HXC := Lib.hid ((HSB.out (by trivial)).2); have hl8 := (HSB.out (by trivial)).1; clear HSB
 go_wp2_with (fail)
 have o0 : OwnSl tDeed 86 w2.heap.size (w2.alloc (.cells #[] 86)) (.slice (some ⟨w2.heap.size, 0, none⟩) 0 0) [] := OwnSl.lit (css := []) rfl trivial (Nat.le_refl _) (by decide); have HO0 := Lib.hid o0; have HA0 := Lib.hid (bl_alloc (Below.refl w2.heap.size w2) (.cells #[] 86)); clear o0
 go_loopg [9, 10] dl.length (fun g' v i wr => ∃ (k : Nat) (C : List Deed), k + g' = dl.length ∧ i = .int .i64 k ∧ C.length ≤ k ∧ Hid (C = (dl.take k).filter isCall) ∧ Hid (OwnSl tDeed 86 w2.heap.size wr v C) ∧ Hid (Below w2.heap.size w2 wr))
 case atStart => exact ⟨0, [], by omega, rfl, by simp, Lib.hid rfl, HO0, HA0⟩
 case round =>
  obtain ⟨k, C, hk, rfl, hCk, HCE, HOW, HBW⟩ := hrel; obtain ⟨oa, oc, rfl, ho1, ho2⟩ := HOW.out.form; unfold maxLen at ho2
  by_cases hlt : k < dl.length
  · have j0 : (0 : Int) ≤ (k : Int) := by omega
    have j1 : (k : Int) < (dl.length : Int) := by omega
    obtain ⟨rfl, -, hbi, hdk, q0, q1, q2, q3, q4⟩ := HDO.out wr (.of_below (bl_trans HB2.out HBW.out)) k hlt; have HCT := Lib.hid (call_take hlt); have HDK := Lib.hid hdk; have hsz := HBW.out.size; clear hdk; generalize dl[k] = dd at *; obtain ⟨dop, dat, dt, dc, dn⟩ := dd; simp only at q0 q1 q2 q3 q4
    by_cases h0 : 0 ≤ dop
    · by_cases h3 : dop < 3
      · have HCN := Lib.hid (show C ++ [⟨dop, dat, dt, dc, dn⟩] = (dl.take (k + 1)).filter isCall from by rw [HCT.out, if_pos (by simp [isCall, h0, h3]), ← HCE.out])
        go_upto_region 6 with (first
         | (at_builtin
            refine wpList_append_one (.tmp 49) (.tmp 54) rfl 65 rfl slDeed rfl HOW.out rfl (S := fun _ => False) (deed_mk HDK.out) (fun _ h => h.elim) (by omega) (by unfold maxLen; omega) hsz ?_; intro v5 w5 ho5 hg5 hb5; have HO5 := Lib.hid ho5; have HB5 := Lib.hid (HBW.out.trans hb5)
            clear ho5 hg5 hb5)
         | fail)
        go_wp2
        go_roundg (dl.length - (k + 1))
        case measure => omega
        case rel => exact ⟨k + 1, _, by omega, by go_num, by simp; omega, HCN, HO5, HB5⟩
      · have HCN := Lib.hid (show C = (dl.take (k + 1)).filter isCall from by rw [HCT.out, if_neg (by simp [isCall, h3]), ← HCE.out])
        have h3' : decide (dop < 3) = false := by simpa using h3
        go_wp2
        go_roundg (dl.length - (k + 1))
        case measure => omega
        case rel => exact ⟨k + 1, C, by omega, by go_num, by omega, HCN, HOW, HBW⟩
    · have HCN := Lib.hid (show C = (dl.take (k + 1)).filter isCall from by rw [HCT.out, if_neg (by simp [isCall, h0]), ← HCE.out])
      have h0' : decide (0 ≤ dop) = false := by simpa using h0
      go_wp2
      go_roundg (dl.length - (k + 1))
      case measure => omega
      case rel => exact ⟨k + 1, C, by omega, by go_num, by omega, HCN, HOW, HBW⟩
  · have hkd : decide ((k : Int) < (dl.length : Int)) = false := by simp; omega
    have HCA := Lib.hid (show ∀ d ∈ C, isCall d = true from fun d hd => by
     rw [HCE.out] at hd
     exact (List.mem_filter.1 hd).2)
    have HCD := Lib.hid HOW.out.sl; have HX2 := Lib.hid (bl_trans HB2.out HBW.out); have MX := Lib.hid ((HBW.out.block _ (lt_of_heap M0.out)).trans M0.out); clear HB2 M0 HOW HCE HBW HA0 HO0 HDO; have HB2 := HX2; have M0 := MX; clear HX2 MX; obtain ⟨w2, hw2⟩ : ∃ w2, w2 = wr := ⟨_, rfl⟩; subst hw2; have hldc := load_blk M0.out HA.out.size Tryz.prog; have HCG := Lib.hid (config_any A ao an ac w2 HA.out)
    go_wp2_with (first | (refine wpList_loadA _ rfl 46 rfl Tryz.isAgg46 Tryz.sizeOf46 rfl (by with_reducible assumption) ?_) | fail)
    with_reducible refine HCG.out.mono ?_
    clear HCG hldc; rintro r w3 ⟨rfl, hb3⟩; have HB3 := Lib.hid (bl_trans HB2.out hb3); have M3 := Lib.hid ((hb3.block _ (lt_of_heap M0.out)).trans M0.out); have HPY := Lib.hid (plays_any c (zCfg (.slice ao an ac)) (.slice ao an ac) (.slice al l.length cl) (.slice oa C.length oc) l C w3 (zCfgA _) (HC.out.step HB3.out) HRK.out.2 (HL.out.step HB3.out) hl8 HXC.out HXO.out (HCD.out.step hb3) (HF.out.step HB3.out)); clear hb3 HB2 M0
    go_wp2_with (fail)
    with_reducible refine HPY.out.mono ?_
    clear HPY; rintro r w4 ⟨ve, vd, rfl, he, hd, hb4⟩; obtain ⟨ae, ne, ce, rfl⟩ := ent_sl he; obtain ⟨ac2, nc, cc, rfl⟩ := chg_sl hd; have HB := Lib.hid (CB.mk' ((hb4.block _ (lt_of_heap M3.out)).trans M3.out) he hd (plays_bok (c := c) (dl := C) hl8 HXC.out) (bl_trans HB3.out hb4)); clear he hd hb4 HB3 M3
    go_upto_region 10 with (fail)
    generalize w4.alloc (.cells #[.slice ae ne ce, .slice ac2 nc cc] 70) = wr at HB ⊢; generalize w4.heap.size = g at HB ⊢
    have HBL := Lib.hid (show Bal c (fun _ => false) (playsP c l ⟨[], []⟩ (C.take 16)) from bal_plays (fun _ _ _ => rfl) (bal_empty _ _) (BOk.empty hl8 HXC.out) (by have := List.length_take_le 16 C; omega) fun d hd g0 g1 g2 _ => by
     have h := HCA.out d (List.mem_of_mem_take hd); unfold isCall at h; rw [Bool.and_eq_true, decide_eq_true_eq, decide_eq_true_eq] at h
     omega)
    generalize playsP c l ⟨[], []⟩ (C.take 16) = bk at *; obtain ⟨es, ds⟩ := bk; have hti : i64ok t := by unfold i64ok; omega
    have hw1 : IntKind.i64.wrap t = t := wrap_in (by omega) (by omega); have HPT := Lib.hid (paths (t := t) HB.out.k (by omega) HBL.out); obtain ⟨⟨⟨e9, d9⟩, z⟩, hr⟩ : ∃ r, syncP c ⟨es, ds⟩ l t = r := ⟨_, rfl⟩; obtain ⟨⟨⟨e8, d8⟩, y⟩, hr2⟩ : ∃ r, syncP c ⟨[], []⟩ l t = r := ⟨_, rfl⟩; rw [hr, hr2] at HPT
    have HBY := Lib.hid (show BOk l 272 ⟨e9, d9⟩ from by
     have h := HB.out.k.sync (c := c) (l := l) (t := t) (by omega) hl8 (fun x hx => hx); rw [hr] at h
     exact h)
    have HBY2 := Lib.hid (show BOk l 272 ⟨e8, d8⟩ from by
     have h := (BOk.empty hl8 HXC.out).sync (c := c) (l := l) (t := t) (by omega) hl8 (fun x hx => hx); rw [hr2] at h
     exact h.mono (by omega))
    have HEP := Lib.hid (show ∀ W', Below wr.heap.size wr W' → Calls Tryz.prog 23 #[.agg (zCfg (.slice ao an ac)), .agg #[.slice ae ne ce, .slice ac2 nc cc], .slice al l.length cl, .int .i64 t] W' (BookE W' (.agg #[.slice ae ne ce, .slice ac2 nc cc]) (⟨e9, d9⟩, z)) from fun W' h => by
     rw [← hr]; have hS := HB.out.step h
     exact sync_any l 256 c _ (.slice ao an ac) _ _ _ es ds l t W' (zCfgA _) (HC.out.step hS.b) HRK.out.2 HB.out.k (by omega) hS.e hS.d (HL.out.step hS.b) (fun x hx => hx) hl8 HXO.out hti (HF.out.step hS.b))
    have HEM := Lib.hid (show ∀ W', Below wr.heap.size wr W' → Calls Tryz.prog 23 #[.agg (zCfg (.slice ao an ac)), .agg #[.slice none 0 0, .slice none 0 0], .slice al l.length cl, .int .i64 t] W' (BookE W' (.agg #[.slice none 0 0, .slice none 0 0]) (⟨e8, d8⟩, y)) from fun W' h => by
     rw [← hr2]; have hS := HB.out.step h
     exact sync_any l 0 c _ (.slice ao an ac) _ _ _ [] [] l t W' (zCfgA _) (HC.out.step hS.b) HRK.out.2 (BOk.empty hl8 HXC.out) (by omega) SlIs.nil SlIs.nil (HL.out.step hS.b) (fun x hx => hx) hl8 HXO.out hti (HF.out.step hS.b))
    have HLB := Lib.hid (show ∀ w', Below wr.heap.size wr w' → w'.cell? ⟨g, 0, none⟩ = some (.slice ae ne ce) ∧ w'.cell? ⟨g, 1, none⟩ = some (.slice ac2 nc cc) from fun w' h => ⟨(blk2 (HB.out.step h).g).1, (blk2 (HB.out.step h).g).2.1⟩); have HLC := Lib.hid (show ∀ w', Below wr.heap.size wr w' → Sem.run Tryz.prog (loadCellsFrom ⟨W.heap.size, 0, none⟩ 0 25 #[]) w' = .ok A w' from fun w' h => load_blk (HB.out.step h).c HA.out.size _); have HCG := Lib.hid (fun W' => config_any A ao an ac W' HA.out); clear hr hr2 HBL HCA
    go_upto_region 12 with (fail)
    obtain ⟨wB, hwB⟩ : ∃ wB, wB = wr := ⟨_, rfl⟩; subst hwB; have HW := Lib.hid (Below.drew (Below.refl wB.heap.size wB))
    go_cut [13, 14] (fun yv fv wx => ∃ (gy : Nat) (a1 : Option Addr) (n1 c1 : Nat) (a2 : Option Addr) (n2 c2 : Nat), yv = .pointer (some ⟨gy, 0, none⟩) ∧ fv = .int .i64 z ∧ SR wB gy (.slice a1 n1 c1) (.slice a2 n2 c2) ⟨e9, d9⟩ wx)
    case first =>
     refine wp_region_D (fun j => if j < 13 then 0 else if j < 13 then 1 else 2) (fun w' => Below wB.heap.size wB w') (by kernel_rfl) (HW.out) (fun hHeld => ?_); refine gk1 0 (v := ?_) rfl ?_ ?_
     rotate_left; focus (intro w9 hS9; refine exec_loadA (t := 46) (x := Operand.tmp 4) (p := ⟨W.heap.size, 0, none⟩) (A := A) ?_ Tryz.isAgg46 Tryz.sizeOf46 ?_ (HLC.out w9 hS9); rfl; rfl); (try simp only [gkA, gkB, gkC, Act.put, gkD, gkE, gkF])
     refine gk1 2 (v := ?_) rfl ?_ ?_
     rotate_left; focus (intro w9 hS9; obtain ⟨z0, z1⟩ := HLB.out w9 hS9; clear hS9; go_simp; (try with_reducible rfl)); (try simp only [gkA, gkB, gkC, Act.put, gkD, gkE, gkF])
     refine gk1 3 (v := ?_) rfl ?_ ?_
     rotate_left; focus (intro w9 hS9; clear hS9; go_simp; (try with_reducible rfl)); (try simp only [gkA, gkB, gkC, Act.put, gkD, gkE, gkF])
     refine gk1 4 (v := ?_) rfl ?_ ?_
     rotate_left; focus (intro w9 hS9; clear hS9; go_simp; (try with_reducible rfl)); (try simp only [gkA, gkB, gkC, Act.put, gkD, gkE, gkF])
     refine gk1 5 (v := ?_) rfl ?_ ?_
     rotate_left; focus (intro w9 hS9; clear hS9; go_simp; (try with_reducible rfl)); (try simp only [gkA, gkB, gkC, Act.put, gkD, gkE, gkF])
     refine wpD_ready (rs := [1, 10]) (by kernel_rfl) (by kernel_rfl) ?_; refine AllReadyD.cons rfl (fun K hK => ?_) (AllReadyD.cons rfl (fun K hK => ?_) AllReadyD.nil)
     · rw [if_pos (show _ = true by kernel_rfl)]
       go_simp
       with_reducible refine (HCG.out _).mono ?_
       rintro r w7 ⟨rfl, hbv⟩; have HV := Lib.hid (bl_trans HW.out hbv)
       skip
       clear hbv HW; have HW := HV; clear HV; clear hHeld; refine gk5 hK.out rfl (HW.out) (fun hHeld => ?_); clear hK K; refine wpD_ready (rs := [6, 10]) (by kernel_rfl) (by kernel_rfl) ?_; refine AllReadyD.cons rfl (fun K hK => ?_) (AllReadyD.cons rfl (fun K hK => ?_) AllReadyD.nil)
       · rw [if_pos (show _ = true by kernel_rfl)]
         go_simp
         with_reducible refine (HEP.out _ HW.out).mono ?_
         rintro r w9 ⟨u1, u2, rfl, hu1, hu2, hbe, -⟩; obtain ⟨a1, n1, c1, rfl⟩ := ent_sl hu1; obtain ⟨a2, n2, c2, rfl⟩ := chg_sl hu2; have HU1 := Lib.hid (hu1.keep (S' := (· < w9.heap.size)) (fun _ h => h.2) (SameOn.refl _ _)); have HU2 := Lib.hid (hu2.keep (S' := (· < w9.heap.size)) (fun _ h => h.2) (SameOn.refl _ _)); have HV := Lib.hid (bl_trans HW.out hbe)
         skip
         clear hbe HW hu1 hu2; have HW := HV; clear HV; clear hHeld; refine gk5 hK.out rfl (HW.out) (fun hHeld => ?_); clear hK K; refine gk1 7 (v := ?_) rfl ?_ ?_
         rotate_left; focus (intro w9 hS9; clear hS9; go_simp; (try with_reducible rfl)); (try simp only [gkA, gkB, gkC, Act.put, gkD, gkE, gkF])
         refine gk1 8 (v := ?_) rfl ?_ ?_
         rotate_left; focus (intro w9 hS9; clear hS9; go_simp; (try with_reducible rfl)); (try simp only [gkA, gkB, gkC, Act.put, gkD, gkE, gkF])
         refine gk1 9 (v := ?_) rfl ?_ ?_
         rotate_left; focus (intro w9 hS9; clear hS9; go_simp; (try with_reducible rfl)); (try simp only [gkA, gkB, gkC, Act.put, gkD, gkE, gkF])
         refine gk3 10 rfl (fun K hK => ?_); go_simp; clear hHeld; refine gk5 hK.out rfl (bl_alloc HW.out _) (fun hHeld => ?_); clear hK K; refine gk3 11 rfl (fun K hK => ?_); go_simp; clear hHeld; refine gk5 hK.out rfl (bl_alloc HW.out _) (fun hHeld => ?_); clear hK K; refine gk3 12 rfl (fun K hK => ?_); go_simp; clear hHeld; refine gk5 hK.out rfl (bl_alloc HW.out _) (fun hHeld => ?_); clear hK K; refine wpD_done (by kernel_rfl) ?_
         go_wp2_with (fail)
         go_meet; exact ⟨_, _, _, _, _, _, _, rfl, rfl, SR.mk_alloc HW.out HU1.out HU2.out⟩
       · rw [if_pos (show _ = true by kernel_rfl)]
         go_simp; clear hHeld; refine gk5 hK.out rfl (bl_alloc HW.out _) (fun hHeld => ?_); clear hK K; have HYB := Lib.hid (show BB (w7).heap.size (.slice none 0 0) (.slice none 0 0) _ from heap_alloc_new (w7) (.cells #[.slice none 0 0, .slice none 0 0] 70)); have HV := Lib.hid (bl_alloc HW.out (.cells #[.slice none 0 0, .slice none 0 0] 70)); have hgy : wB.heap.size ≤ (w7).heap.size := HW.out.size; clear HW; have HW := HV; clear HV; generalize (w7).alloc (.cells #[.slice none 0 0, .slice none 0 0] 70) = wy at HYB HW hHeld ⊢; generalize (w7).heap.size = gy at HYB hgy ⊢; refine gk3 6 rfl (fun K hK => ?_); go_simp
         with_reducible refine (HEP.out _ HW.out).mono ?_
         rintro r w9 ⟨u1, u2, rfl, hu1, hu2, hbe, -⟩; obtain ⟨a1, n1, c1, rfl⟩ := ent_sl hu1; obtain ⟨a2, n2, c2, rfl⟩ := chg_sl hu2; have HU1 := Lib.hid (hu1.keep (S' := (· < w9.heap.size)) (fun _ h => h.2) (SameOn.refl _ _)); have HU2 := Lib.hid (hu2.keep (S' := (· < w9.heap.size)) (fun _ h => h.2) (SameOn.refl _ _)); have HV := Lib.hid (bl_trans HW.out hbe); have hgq := lt_of_heap HYB.out; have HYC := Lib.hid ((hbe.block _ hgq).trans HYB.out); clear HYB; have HYB := HYC; clear HYC; clear hbe HW hu1 hu2; have HW := HV; clear HV; clear hHeld; refine gk5 hK.out rfl (HW.out) (fun hHeld => ?_); clear hK K; refine gk1 7 (v := ?_) rfl ?_ ?_
         rotate_left; focus (intro w9 hS9; clear hS9; go_simp; (try with_reducible rfl)); (try simp only [gkA, gkB, gkC, Act.put, gkD, gkE, gkF])
         refine gk1 8 (v := ?_) rfl ?_ ?_
         rotate_left; focus (intro w9 hS9; clear hS9; go_simp; (try with_reducible rfl)); (try simp only [gkA, gkB, gkC, Act.put, gkD, gkE, gkF])
         refine gk1 9 (v := ?_) rfl ?_ ?_
         rotate_left; focus (intro w9 hS9; clear hS9; go_simp; (try with_reducible rfl)); (try simp only [gkA, gkB, gkC, Act.put, gkD, gkE, gkF])
         obtain ⟨y0, y1, yf⟩ := blk2 HYB.out; have hgl := lt_of_heap HYB.out; refine gk3 11 rfl (fun K hK => ?_); go_simp; clear hHeld; refine gk5 hK.out rfl (bl_set (bl_set HW.out _ hgy) _ hgy) (fun hHeld => ?_); clear hK K; refine gk3 12 rfl (fun K hK => ?_); go_simp; clear hHeld; refine gk5 hK.out rfl (bl_set (bl_set HW.out _ hgy) _ hgy) (fun hHeld => ?_); clear hK K; refine wpD_done (by kernel_rfl) ?_
         go_wp2_with (fail)
         go_meet; exact ⟨_, _, _, _, _, _, _, rfl, rfl, SR.mk_set HW.out hgy ⟨_, _, _, rfl⟩ ⟨_, _, _, rfl⟩ HU1.out HU2.out HYB.out⟩
     · rw [if_pos (show _ = true by kernel_rfl)]
       go_simp; clear hHeld; refine gk5 hK.out rfl (bl_alloc HW.out _) (fun hHeld => ?_); clear hK K; have HYB := Lib.hid (show BB wB.heap.size (.slice none 0 0) (.slice none 0 0) (wB.alloc (.cells #[.slice none 0 0, .slice none 0 0] 70)).drew from heap_alloc_new wB (.cells #[.slice none 0 0, .slice none 0 0] 70)); have HV := Lib.hid (Below.drew (bl_alloc (Below.refl wB.heap.size wB) (.cells #[.slice none 0 0, .slice none 0 0] 70))); have hgy : wB.heap.size ≤ wB.heap.size := Nat.le_refl _; clear HW; have HW := HV; clear HV; have hHeld : Below wB.heap.size wB (wB.alloc (.cells #[.slice none 0 0, .slice none 0 0] 70)).drew := HW.out; generalize (wB.alloc (.cells #[.slice none 0 0, .slice none 0 0] 70)).drew = wy at HYB HW hHeld ⊢; refine gk3 1 rfl (fun K hK => ?_); go_simp
       with_reducible refine (HCG.out _).mono ?_
       rintro r w7 ⟨rfl, hbv⟩; have HV := Lib.hid (bl_trans HW.out hbv); have hgq := lt_of_heap HYB.out; have HYC := Lib.hid ((hbv.block _ hgq).trans HYB.out); clear HYB; have HYB := HYC; clear HYC; clear hbv HW; have HW := HV; clear HV; clear hHeld; refine gk5 hK.out rfl (HW.out) (fun hHeld => ?_); clear hK K; refine gk3 6 rfl (fun K hK => ?_); go_simp
       with_reducible refine (HEP.out _ HW.out).mono ?_
       rintro r w9 ⟨u1, u2, rfl, hu1, hu2, hbe, -⟩; obtain ⟨a1, n1, c1, rfl⟩ := ent_sl hu1; obtain ⟨a2, n2, c2, rfl⟩ := chg_sl hu2; have HU1 := Lib.hid (hu1.keep (S' := (· < w9.heap.size)) (fun _ h => h.2) (SameOn.refl _ _)); have HU2 := Lib.hid (hu2.keep (S' := (· < w9.heap.size)) (fun _ h => h.2) (SameOn.refl _ _)); have HV := Lib.hid (bl_trans HW.out hbe); have hgq := lt_of_heap HYB.out; have HYC := Lib.hid ((hbe.block _ hgq).trans HYB.out); clear HYB; have HYB := HYC; clear HYC; clear hbe HW hu1 hu2; have HW := HV; clear HV; clear hHeld; refine gk5 hK.out rfl (HW.out) (fun hHeld => ?_); clear hK K; refine gk1 7 (v := ?_) rfl ?_ ?_
       rotate_left; focus (intro w9 hS9; clear hS9; go_simp; (try with_reducible rfl)); (try simp only [gkA, gkB, gkC, Act.put, gkD, gkE, gkF])
       refine gk1 8 (v := ?_) rfl ?_ ?_
       rotate_left; focus (intro w9 hS9; clear hS9; go_simp; (try with_reducible rfl)); (try simp only [gkA, gkB, gkC, Act.put, gkD, gkE, gkF])
       refine gk1 9 (v := ?_) rfl ?_ ?_
       rotate_left; focus (intro w9 hS9; clear hS9; go_simp; (try with_reducible rfl)); (try simp only [gkA, gkB, gkC, Act.put, gkD, gkE, gkF])
       obtain ⟨y0, y1, yf⟩ := blk2 HYB.out; have hgl := lt_of_heap HYB.out; refine gk3 11 rfl (fun K hK => ?_); go_simp; clear hHeld; refine gk5 hK.out rfl (bl_set (bl_set HW.out _ hgy) _ hgy) (fun hHeld => ?_); clear hK K; refine gk3 12 rfl (fun K hK => ?_); go_simp; clear hHeld; refine gk5 hK.out rfl (bl_set (bl_set HW.out _ hgy) _ hgy) (fun hHeld => ?_); clear hK K; refine wpD_done (by kernel_rfl) ?_
       go_wp2_with (fail)
       go_meet; exact ⟨_, _, _, _, _, _, _, rfl, rfl, SR.mk_set HW.out hgy ⟨_, _, _, rfl⟩ ⟨_, _, _, rfl⟩ HU1.out HU2.out HYB.out⟩
    case rest =>
     obtain ⟨g1, a1, n1, c1, a2, n2, c2, rfl, rfl, hsr⟩ := hcut; have HQ := Lib.hid hsr; have HBc := Lib.hid (HB.out.step hsr.b); have hldc := load_blk HBc.out.c HA.out.size Tryz.prog; have HCH := Lib.hid (config_any A ao an ac wc HA.out); clear hsr HLC HCG HEP HLB HW
     go_wp2_with (first | (refine wpList_loadA _ rfl 46 rfl Tryz.isAgg46 Tryz.sizeOf46 rfl (by with_reducible assumption) ?_) | fail)
     with_reducible refine HCH.out.mono ?_
     clear HCH hldc; rintro r w6 ⟨rfl, hb6⟩; have HY := Lib.hid (HEM.out w6 (bl_trans HQ.out.b hb6)); clear HEM
     go_wp2_with (fail)
     with_reducible refine HY.out.mono ?_
     clear HY; rintro r w7 ⟨u1, u2, rfl, hu1, hu2, hb7, -⟩; obtain ⟨a3, n3, c3, rfl⟩ := ent_sl hu1; obtain ⟨a4, n4, c4, rfl⟩ := chg_sl hu2; have hb8 := bl_alloc (bl_trans hb6 hb7) (.cells #[.slice a3 n3 c3, .slice a4 n4 c4] 70); have hb9 := bl_alloc (Below.refl w7.heap.size w7) (.cells #[.slice a3 n3 c3, .slice a4 n4 c4] 70); have HQ2 := Lib.hid (HQ.out.step hb8); have HBd := Lib.hid (HBc.out.step hb8); have HU1 := Lib.hid ((hu1.keep (S' := (· < w7.heap.size)) (fun _ h => h.2) (SameOn.refl _ _)).step hb9); have HU2 := Lib.hid ((hu2.keep (S' := (· < w7.heap.size)) (fun _ h => h.2) (SameOn.refl _ _)).step hb9); have HGU := Lib.hid (show BB w7.heap.size (.slice a3 n3 c3) (.slice a4 n4 c4) _ from heap_alloc_new w7 (.cells #[.slice a3 n3 c3, .slice a4 n4 c4] 70)); clear hb6 hb7 hb8 hb9 hu1 hu2 HQ HBc
     go_upto_region 14 with (fail)
     generalize w7.alloc (.cells #[.slice a3 n3 c3, .slice a4 n4 c4] 70) = w8 at *; generalize w7.heap.size = g2 at *
     by_cases hz : z = 0
     case neg =>
      have hz1 : (z != 0) = true := by simpa using hz
      clear hz; have HAW := Lib.hid (awake_any _ (HF.out.step HBd.out.b))
      go_wp2_with (fail)
      with_reducible refine HAW.out.mono ?_
      clear HAW; rintro r wz ⟨rfl, hbz⟩; have HBZ := Lib.hid (bl_trans HBd.out.b hbz); clear hbz; go_wp2; go_ret; exact ⟨rfl, HBZ.out⟩
     by_cases hy : y = 0
     case neg =>
      have hz1 : (z != 0) = false := by simpa using hz
      have hy1 : (y != 0) = true := by simpa using hy
      clear hz hy; have HAW := Lib.hid (awake_any _ (HF.out.step HBd.out.b))
      go_wp2_with (fail)
      with_reducible refine HAW.out.mono ?_
      clear HAW; rintro r wz ⟨rfl, hbz⟩; have HBZ := Lib.hid (bl_trans HBd.out.b hbz); clear hbz; go_wp2; go_ret; exact ⟨rfl, HBZ.out⟩
     obtain ⟨hde, hba⟩ := HPT.out hz hy; subst hz hy; have HBA := Lib.hid hba; have HDE := Lib.hid hde; have hel := HBY.out.len; simp only at hel; have HAC := Lib.hid (accountsR_any e9 (.slice a1 n1 c1) w8 HQ2.out.se (by omega) (fun x hx => by have := (HBY.out.es x hx).ps; omega)); obtain ⟨y0, y1, -⟩ := blk2 HQ2.out.g; clear hde hba
     go_wp2_with (fail)
     with_reducible refine HAC.out.mono ?_
     clear HAC y0 y1; rintro r w9 ⟨⟨vn, O, rfl, hO⟩, hb9⟩; obtain ⟨on, cn, bn, fn, rfl, hn1, hn2, hno⟩ := strs_open hO; unfold maxLen at hn2; have HNO := Lib.hid hno; have HQ3 := Lib.hid (HQ2.out.step hb9); have HBe := Lib.hid (HBd.out.step hb9); have HV1 := Lib.hid (HU1.out.step hb9); have HV2 := Lib.hid (HU2.out.step hb9); have HGV := Lib.hid (show BB g2 (.slice a3 n3 c3) (.slice a4 n4 c4) w9 from (hb9.block _ (lt_of_heap HGU.out)).trans HGU.out)
     have HLK := Lib.hid (show LOk 4004 e9 from by
      have h := LOk.of (l := e9) (N := 272) HBY.out.es HBY.out.len
      exact ⟨Nat.le_trans h.len (by decide), h.fit⟩)
     have HLK2 := Lib.hid (show LOk 4004 e8 from by
      have h := LOk.of (l := e8) (N := 272) HBY2.out.es HBY2.out.len
      exact ⟨Nat.le_trans h.len (by decide), h.fit⟩)
     clear hO hno hb9 HU1 HU2 HGU HQ2 HBd
     go_wp2_with (fail)
     go_loopg [18] O.length (fun g' i wr => ∃ k : Nat, k + g' = O.length ∧ i = .int .i64 k ∧ Hid (Below w9.heap.size w9 wr))
     case atStart => exact ⟨0, by omega, rfl, Lib.hid (Below.refl _ _)⟩
     case round =>
      obtain ⟨k, hk, rfl, HBW⟩ := hrel
      by_cases hlt : k < O.length
      · have j0 : (0 : Int) ≤ (k : Int) := by omega
        have j1 : (k : Int) < (O.length : Int) := by omega
        obtain ⟨rfl, -, hbn, q0, -⟩ := HNO.out wr (.of_below HBW.out) k hlt; generalize O[k] = a at *; have HQr := Lib.hid (HQ3.out.step HBW.out); have HVr := Lib.hid (HV1.out.step HBW.out); have HGr := Lib.hid (show BB g2 (.slice a3 n3 c3) (.slice a4 n4 c4) wr from (HBW.out.block _ (lt_of_heap HGV.out)).trans HGV.out); obtain ⟨x0, -, -⟩ := blk2 HQr.out.g; obtain ⟨y0, -, -⟩ := blk2 HGr.out; have k0 := cell_regrown x0; have k1 := cell_regrown y0; have k2 := cell_regrown q0; have cA := fun d os => Calls.regrown_of (balR_any e9 (.slice a1 n1 c1) a (grow (redrawn wr d) os) (HQr.out.se.step (below_regrown wr d os)) HLK.out)
        have cB := fun d os => Calls.regrown_of (balR_any e8 (.slice a3 n3 c3) a (grow (redrawn wr d) os) (HVr.out.step (below_regrown wr d os)) HLK2.out)
        rw [HBA.out a] at cA; generalize balL a e8 = q at cA cB; clear x0 y0 q0
        go_upto_region 20 with (fail)
        refine QW.region (by kernel_rfl) (by kernel_rfl) ?_
        (refine QW.yes (by kernel_rfl) (fun K hK => ?_)
         go_simp
         (with_reducible refine hK _ ?_)
         clear hK K)
        (refine QW.yes (by kernel_rfl) (fun K hK => ?_)
         go_simp
         (with_reducible refine hK _ ?_)
         clear hK K)
        (refine QW.yes (by kernel_rfl) (fun K hK => ?_)
         go_simp
         (with_reducible refine hK _ ?_)
         clear hK K)
        (refine QW.yes (by kernel_rfl) (fun K hK => ?_)
         go_simp
         (with_reducible refine hK _ ?_)
         clear hK K)
        (refine QW.yes (by kernel_rfl) (fun K hK => ?_)
         go_simp
         (with_reducible refine hK _ ?_)
         clear hK K)
        (refine QW.yes (by kernel_rfl) (fun K hK => ?_)
         go_simp
         (with_reducible refine hK _ ?_)
         clear hK K)
        (refine QW.yes (by kernel_rfl) (fun K hK => ?_)
         go_simp
         apply Exists.intro
         refine ⟨fun _ => ?_, hK _ ?_⟩
         (go_at_call 26; with_reducible exact cA _ _)
         clear hK K)
        (refine QW.yes (by kernel_rfl) (fun K hK => ?_)
         go_simp
         (with_reducible refine hK _ ?_)
         clear hK K)
        (refine QW.yes (by kernel_rfl) (fun K hK => ?_)
         go_simp
         (with_reducible refine hK _ ?_)
         clear hK K)
        (refine QW.yes (by kernel_rfl) (fun K hK => ?_)
         go_simp
         (with_reducible refine hK _ ?_)
         clear hK K)
        (refine QW.yes (by kernel_rfl) (fun K hK => ?_)
         go_simp
         (with_reducible refine hK _ ?_)
         clear hK K)
        (refine QW.yes (by kernel_rfl) (fun K hK => ?_)
         go_simp
         (with_reducible refine hK _ ?_)
         clear hK K)
        (refine QW.yes (by kernel_rfl) (fun K hK => ?_)
         go_simp
         (with_reducible refine hK _ ?_)
         clear hK K)
        (refine QW.yes (by kernel_rfl) (fun K hK => ?_)
         go_simp
         apply Exists.intro
         refine ⟨fun _ => ?_, hK _ ?_⟩
         (go_at_call 26; with_reducible exact cB _ _)
         clear hK K)
        (refine QW.yes (by kernel_rfl) (fun K hK => ?_)
         go_simp
         (with_reducible refine hK _ ?_)
         clear hK K)
        refine QW.nil ?_; intro _ hw'; obtain ⟨⟨dq2, osq2⟩, hw''⟩ := hw'; subst hw''; have HBN := Lib.hid (bl_trans HBW.out (below_regrown wr dq2 osq2)); clear cA cB k0 k1 k2; go_wp2
        go_roundg (O.length - (k + 1))
        case measure => omega
        case rel => exact ⟨k + 1, by omega, by go_num, HBN⟩
      · have hkd : decide ((k : Int) < (O.length : Int)) = false := by simp; omega
        have HQr := Lib.hid (HQ3.out.step HBW.out); have HBr := Lib.hid (HBe.out.step HBW.out); have HGr := Lib.hid (show BB g2 (.slice a3 n3 c3) (.slice a4 n4 c4) wr from (HBW.out.block _ (lt_of_heap HGV.out)).trans HGV.out); have HCS := Lib.hid (csame_any d9 (.slice a2 n2 c2) (.slice a4 n4 c4) wr HQr.out.sd (by rw [HDE.out]; exact HV2.out.step HBW.out)); obtain ⟨-, x1, -⟩ := blk2 HQr.out.g; obtain ⟨-, y1, -⟩ := blk2 HGr.out
        go_wp2_with (fail)
        with_reducible refine HCS.out.mono ?_
        clear HCS x1 y1; rintro r wf ⟨rfl, hbf⟩; have HBf := Lib.hid (bl_trans HBr.out.b hbf); clear hbf; have HAW := Lib.hid (awake_any _ (HF.out.step HBf.out))
        go_wp2_with (fail)
        with_reducible refine HAW.out.mono ?_
        clear HAW; rintro r wz ⟨rfl, hbz⟩; have HBZ := Lib.hid (bl_trans HBf.out hbz); clear hbz; go_wp2; go_ret; exact ⟨rfl, HBZ.out⟩
end Go.Proofs.YtifcelebfagjbaaGreatDoor
