/-
  Layer proofs, merged: PoSo PoSs PoSy PoCk PoPy PoEx.
-/
import Derived.Test.YtifcelebfagjbaaGreatDoorMgN
import Derived.Test.YtifcelebfagjbaaGreatDoorMgK
import Derived.Test.YtifcelebfagjbaaGreatDoorMgB
import Derived.Test.YtifcelebfagjbaaGreatDoorMgF
import Derived.Test.YtifcelebfagjbaaGreatDoorShelf
import Derived.Test.YtifcelebfagjbaaGreatDoorMgL
import Derived.Test.YtifcelebfagjbaaGreatDoorMgM
import Derived.Test.YtifcelebfagjbaaGreatDoorMgI
namespace Go.Proofs.YtifcelebfagjbaaGreatDoor
open Go.RowKit Go.Tw Go.Tw.Ord Go.Tw.Po Go.Sort
theorem OwnSl.form2 {α : Type} {T : Ty α} {e : TypeId} {B : Nat} {w : World} {v : Value} {l : List α} (h : OwnSl T e B w v l) : (v = .slice none 0 0 ∧ l = []) ∨ ∃ g cap, v = .slice (some ⟨g, 0, none⟩) l.length cap := by
 obtain ⟨css, h1, h2⟩ := h
 rcases h1.2 with ⟨h, h'⟩ | ⟨g, cap, cur, h, _⟩
 · exact .inl ⟨h, List.eq_nil_of_length_eq_zero h'⟩
 · exact .inr ⟨g, cap, h⟩
set_option maxRecDepth 100000 in
theorem stabC_nil (fv : Value) (w : World) : Calls Tryz.prog 117 #[.slice none 0 0, .int .i64 0, fv] w fun e w' => e = .returned (.tuple #[]) ∧ w = w' := by
 go_enter Tryz.func117, Tryz.ntmps117
 go_wp2; refine wp_loop_rounds 1 ?_; rw [rounds_succ]
 go_wp2_with (fail)
 with_reducible refine (insP_nil _ _ _).mono ?_
 rintro e w1 ⟨rfl, rfl⟩; go_wp2; refine wp_loop_rounds 1 ?_; rw [rounds_succ]; go_wp2
 go_end0
 exact ⟨rfl, rfl⟩
theorem sortSt_nil (fv : Value) (w : World) : Calls Tryz.prog 92 #[.slice none 0 0, fv] w fun e w' => e = .returned (.tuple #[]) ∧ w = w' := by
 go_enter Tryz.func92, Tryz.ntmps92
 go_wp2_with (fail)
 with_reducible refine (stabC_nil _ _).mono ?_
 rintro e w1 ⟨rfl, rfl⟩; go_wp2
 go_end0
 exact ⟨rfl, rfl⟩
set_option maxRecDepth 100000 in
set_option maxHeartbeats 4000000 in
theorem psort_any (l : List Chg) (v : Value) (w : World) (h : SlIs (tChg eL) (· < w.heap.size) w v l) (hl : l.length < 60) (hls : ∀ x ∈ l, x.ls.length ≤ 1000000) (hn : (keysC l).Nodup) :
  Calls Tryz.prog 55 #[v] w fun e w' => (∃ v', e = .returned v' ∧ SlIs (tChg eL) (fun k => w.heap.size ≤ k ∧ k < w'.heap.size) w' v' (sortC l)) ∧ Below w.heap.size w w' := by
 obtain ⟨ao, cap, bd, od, rfl, hd1, hd2, hdo⟩ := chg_open h; have HDO := Lib.hid hdo; have HLS := Lib.hid hls; have HNN := Lib.hid hn; unfold maxLen at hd2; clear h hdo hls hn
 go_enter Tryz.func55, Tryz.ntmps55
 go_wp2
 go_loopg [3, 8] l.length (fun gx sv i wr => ∃ k : Nat, k + gx = l.length ∧ i = .int .i64 k ∧ NewL (tChg eL) 49 w.heap.size wr sv (l.take k) ∧ Below w.heap.size w wr)
 case atStart => exact ⟨0, by omega, rfl, NewL.nil, Below.refl _ _⟩
 case round =>
  obtain ⟨k, hk, rfl, hn, hb1⟩ := hrel; have HN := Lib.hid hn; have HB1 := Lib.hid hb1; obtain ⟨a3, c3, rfl, hc31, hc32⟩ := hn.form; have htl : (l.take k).length = k := by simp; omega
  rw [htl] at HN; clear hn hc31 hc32
  by_cases hlt : k < l.length
  · obtain ⟨rfl, -, hbi, hok, hv, hsl, d0, d1, d2, d3, d4, d5, d6⟩ := HDO.out wr (.of_below hb1) k hlt
    have hll := HLS.out _ (List.getElem_mem hlt); have HG := Lib.hid (show l.take (k + 1) = l.take k ++ [l[k]] from List.take_succ_eq_append_getElem hlt); have k0 : (0 : Int) ≤ (k : Int) := by omega
    have k1 : (k : Int) < (l.length : Int) := by omega
    generalize l[k] = y at *
    obtain ⟨hva, hvn, hvc, hve⟩ : ∃ a n c, hv = .slice a n c := by
     obtain ⟨a, c, _, _, e, -⟩ := hsl; exact ⟨a, _, c, e⟩
    subst hve; have hsl1 : SlIs tSI (· < wr.heap.size) wr (.slice hva hvn hvc) y.ls := hsl.keep (fun q (hq : q < w.heap.size) => Nat.lt_of_lt_of_le hq hb1.size) (SameOn.refl _ _); have hb3 := bl_alloc (Below.refl wr.heap.size wr) (.cells #[.string y.key, .string y.veh, .string y.sys, .int .i64 y.cls, .int .i64 y.tm, .slice hva hvn hvc, .int .i64 y.c] 49); have n3 := heap_alloc_new wr (.cells #[.string y.key, .string y.veh, .string y.sys, .int .i64 y.cls, .int .i64 y.tm, .slice hva hvn hvc, .int .i64 y.c] 49); have HCL := Lib.hid (cloneL_any y.ls _ _ (hsl1.step hb3) hll); have HOK := Lib.hid hok; have HB3 := Lib.hid hb3; have hz3 : (wr.alloc (.cells #[.string y.key, .string y.veh, .string y.sys, .int .i64 y.cls, .int .i64 y.tm, .slice hva hvn hvc, .int .i64 y.c] 49)).heap.size = wr.heap.size + 1 := by simp
    clear hsl hsl1 hok hb1 hb3
    go_wp2_with (fail)
    with_reducible refine HCL.out.mono ?_
    rintro e w2 ⟨h', rfl, hi2, hb2⟩; obtain ⟨ao3, cap3, rfl, -⟩ := hi2.form; rw [hz3] at hi2; have hz2 := hb2.size; rw [hz3] at hz2; have n2 := (hb2.block wr.heap.size (by simp)).trans n3; obtain ⟨e0, e1, e2, e3, e4, e5, e6, ef⟩ := blk7 n2; have HI2 := Lib.hid hi2; have HB2 := Lib.hid (bl_trans HB3.out hb2); have hl2 := lt_of_heap n2; clear hi2 hb2 n3 n2 HCL d0 d1 d2 d3 d4 d5 d6 hz3; have b4 : Below wr.heap.size wr (w2.setCell ⟨wr.heap.size, 5, none⟩ (.slice ao3 y.ls.length cap3)) := bl_set HB2.out _ (Nat.le_refl _); have n4 : New (tChg eL) wr.heap.size (w2.setCell ⟨wr.heap.size, 5, none⟩ (.slice ao3 y.ls.length cap3)) (cCells y (.slice ao3 y.ls.length cap3)) y := newChg HOK.out ((HI2.out.same (fun j hj => Below.heap_setCell _ _ _ _ (by simp; omega))).mono (by omega)); have HB4 := Lib.hid b4; have HN4 := Lib.hid n4; have HTL := Lib.hid (show (l.take k).length ≤ 1000000 by omega); have hsw := HB1.out.size; clear b4 n4
    go_wp2_with (at_builtin
                 refine wpList_append_new (.tmp 16) (.tmp 18) rfl 52 rfl slChg rfl HN.out HB4.out (by rw [World.size_setCell]; rfl) HN4.out (by have := HTL.out; omega) (by have := HTL.out; unfold maxLen; omega) hsw ?_; intro v5 w5 hn5 hb5; have hf5 := hn5.form; rw [List.length_append, htl] at hf5; obtain ⟨a5, c5, rfl, -⟩ := hf5; have HN5 := Lib.hid hn5; have HB5 := Lib.hid (show Below w.heap.size w w5 from (HB1.out.trans (HB4.out.mono hsw)).trans hb5)
                 clear hn5 hb5)
    go_roundg (l.length - (k + 1))
    case measure => omega
    case rel => exact ⟨k + 1, by omega, by go_num, by rw [HG.out]; exact HN5.out, HB5.out⟩
  · have hkd : decide ((k : Int) < (l.length : Int)) = false := by simp; omega
    have HO := Lib.hid (NewL.ownS (show NewL (tChg eL) 49 w.heap.size wr (.slice a3 k c3) l by have := HN.out; rwa [List.take_of_length_le (by omega)] at this)); have hkl : k = l.length := by omega
    rcases OwnSl.form2 (HO.out.to fun k hk => ⟨hk.2.1, hk.2.2⟩) with ⟨hv, hnil⟩ | ⟨g, cp, hv⟩
    · injection hv with q1 q2 q3
      subst q1 q3; subst hnil; obtain rfl : k = 0 := hkl
      go_wp2_with (fail)
      with_reducible refine (sortSt_nil _ _).mono ?_
      rintro e w1 ⟨rfl, rfl⟩; go_wp2; go_ret; have e0 : sortC [] = [] := (show (sortC []).Perm [] from sortL_perm []).eq_nil; exact ⟨⟨.slice none 0 0, rfl, by rw [e0]; exact SlIs.nil⟩, HB1.out⟩
    · injection hv with q1 q2 q3
      subst q1 q3; subst hkl; have HS := Lib.hid (sortStP_any l g c3 w.heap.size wr HO.out hb1.size hl); clear hb1
      go_wp2_with (fail)
      with_reducible refine HS.out.mono ?_
      rintro e w1 ⟨rfl, ⟨l', h1, h2, h3⟩, hb⟩; have he := sort_uniq HNN.out h1 h2; subst he; have HB9 := Lib.hid (HB1.out.trans hb); have HR := Lib.hid h3; clear h1 h2 h3 hb; go_wp2; go_ret; exact ⟨⟨_, rfl, HR.out⟩, HB9.out⟩
end Go.Proofs.YtifcelebfagjbaaGreatDoor
namespace Go.Proofs.YtifcelebfagjbaaGreatDoor
open Go.RowKit Go.Tw Go.Tw.Ord Go.Tw.Po Go.Sort
theorem sortWorld_at {α : Type} [Inhabited α] (enc : α → Value) (w : World) (blk off m : Nat) (dk : Array α) (os : Array Obj) {k : Nat} (hk : k < w.heap.size) (hne : k ≠ blk) :
  (sortWorld enc w blk off m dk os).heap[k]? = w.heap[k]? := by
 have h1 : (Sort.putRow enc (Sort.ahead w m) blk off dk).heap[k]? = w.heap[k]? := by
  unfold Sort.putRow Sort.mapBlock
  rw [show ∀ (h : Array Obj) (f : Obj → Obj), (h.modify blk f)[k]? = h[k]? from fun h f => by
   rw [Array.getElem?_modify, if_neg (fun e => hne e.symm)]]
  rfl
 have h2 : k < (Sort.putRow enc (Sort.ahead w m) blk off dk).heap.size := by
  unfold Sort.putRow Sort.mapBlock; simp; exact hk
 unfold sortWorld; rw [Sort.heap_grow_old _ _ h2, h1]
theorem below_put_rowS {B g : Nat} {w : World} {d : List (List UInt8)} {os : Array Obj} {n : Nat} (hB : B ≤ g) (hg : g < w.heap.size) : Below B w (grow (putRow encStr (Sort.ahead w n) g 0 d.toArray) os) := by
 refine Below.of_grown (row := some g) ⟨rfl, rfl, rfl, ?_, fun k hk hne => ?_⟩ (by omega) (fun k hk => by cases hk; exact hB)
 · show w.heap.size ≤ (_ ++ os).size
   simp [putRow, mapBlock, Sort.ahead]
 · exact sortWorld_at encStr w g 0 n d.toArray os hk (fun e => hne (by rw [e]))
theorem holds_putS {g n : Nat} {w : World} {l d : List (List UInt8)} {os : Array Obj} (h : Holds encStr w g 0 l.toArray) (hg : g < w.heap.size) (hl : d.length = l.length) : Holds encStr (grow (putRow encStr (Sort.ahead w n) g 0 d.toArray) os) g 0 d.toArray := by
 have h1 : Holds encStr (putRow encStr (Sort.ahead w n) g 0 d.toArray) g 0 d.toArray := holds_putRow _ _ _ _ l.toArray d.toArray (holds_ahead _ _ _ _ _ _ h) (by simpa using hl); exact holds_grow _ _ _ _ _ _ (by simp [putRow, mapBlock, Sort.ahead]; exact hg) h1
theorem slStr : SlT Tryz.prog 87 9 1 16 := SlT.of (z := .string ByteArray.empty) Tryz.underlying87 (by kernel_rfl) rfl (by decide)
theorem kb_le {a b : ByteArray} (h : ltB a b = true) : leK (kb a) (kb b) = true := by
 have h1 : kb a < kb b := (lt_kb _ _).2 h; simp only [leK, decide_eq_true_eq]; exact List.le_of_lt h1
theorem ssort_any {B : Nat} (O : List ByteArray) (v : Value) (w : World) (h : OwnSl tStr 9 B w v O) (hl : O.length ≤ 1000) (hs : O.Pairwise fun a b => ltB a b = true) (hz : ∀ s ∈ O, s.size ≤ maxLen) (_hB : B ≤ w.heap.size) :
  Calls Tryz.prog 56 #[v] w fun e w' => e = .returned (.tuple #[]) ∧ SlIs tStr (fun k => B ≤ k ∧ k < w'.heap.size) w' v O ∧ Below B w w' := by
 rcases own_strs h with ⟨rfl, rfl⟩ | ⟨gb, cap, rfl, p1, p2, p3, p4, p5⟩
 · refine (Tryz.slices_Sort_string_none none 0 w).mono fun e w' ⟨he, hw⟩ => ⟨he, SlIs.nil, ?_⟩
   rw [hw]; exact Below.refl _ _
 · have hg := p4.lt
   have hH := holdsS p4; unfold maxLen at p2; have hS1 := Tryz.slices_Sort_string gb 0 cap (O.map kb) w hH hg (by rw [List.length_map]; omega); rw [List.length_map] at hS1
   have hms : (O.map kb).mergeSort leK = O.map kb := List.mergeSort_of_pairwise (by
    rw [List.pairwise_map]
    exact hs.imp fun h => kb_le h)
   have hms' : (O.map kb).mergeSort (fun x y => decide (x ≤ y)) = O.map kb := hms; rw [hms'] at hS1; refine hS1.mono ?_; rintro e w' ⟨rfl, n, os, rfl⟩; have hh := holds_putS (n := n) (os := os) hH hg (d := O.map kb) rfl; have hb := below_put_rowS (B := B) (os := os) (n := n) (d := O.map kb) p3 hg
   have hsl := slS_of (cap := cap) hh (Nat.lt_of_lt_of_le hg hb.size) (List.length_map _) p1 (by unfold maxLen; omega) (fun x hx => by
    obtain ⟨s, hs, rfl⟩ := List.mem_map.1 hx
    rw [ofB_kb]; exact hz s hs)
   have e1 : (O.map kb).map ofB = O := by rw [List.map_map]; conv => rhs; rw [← List.map_id O]
                                          exact List.map_congr_left fun s _ => ofB_kb s
   rw [e1] at hsl; refine ⟨rfl, ?_, hb⟩; obtain ⟨ao, cap2, b, off, hv, z1, z2, z3, z4⟩ := hsl; refine ⟨ao, cap2, b, off, hv, z1, z2, z3, fun k hk => ?_⟩; obtain ⟨r1, r2, r3, cs, r4, r5⟩ := z4 k hk; simp only [Value.slice.injEq] at hv; rw [← hv.1] at r1; simp only [Option.some.injEq, Addr.mk.injEq] at r1; exact ⟨by rw [← hv.1]; simp [r1], ⟨by omega, r3⟩, r3, cs, r4, r5⟩
end Go.Proofs.YtifcelebfagjbaaGreatDoor
namespace Go.Tw.Po
open Go.RowKit Go.Tw Go.Sort Go.Tw.Ord Go.Proofs.YtifcelebfagjbaaGreatDoor
theorem sy_dup {c : List Acc} {b : Bk} {l : List Chg} {t : Int} (h : ¬ (keysC l).Nodup) : syncP c b l t = (b, 9) := by unfold syncP; rw [if_pos (by simp [dupK, h])]
theorem sy_a {c : List Acc} {b : Bk} {l : List Chg} {t : Int} (h : (keysC l).Nodup) (h2 : (runA c b (sortC l)).2 ≠ 0) : syncP c b l t = (b, (runA c b (sortC l)).2) := by unfold syncP; rw [if_neg (by simp [dupK, h])]; simp only; rw [if_pos h2]
theorem sy_v {c : List Acc} {b b1 : Bk} {l : List Chg} {t : Int} (h : (keysC l).Nodup) (h2 : runA c b (sortC l) = (b1, 0)) {z : Int} (hz : z ≠ 0) {b2 : Bk} (h3 : runV c t b1 (goneK b1.ds l) = (b2, z)) : syncP c b l t = (b, z) := by unfold syncP; rw [if_neg (by simp [dupK, h]), h2]; simp only [ne_eq, not_true_eq_false, if_false]; rw [h3]; simp only; rw [if_pos hz]
theorem sy_ok {c : List Acc} {b b1 b2 : Bk} {l : List Chg} {t : Int} (h : (keysC l).Nodup) (h2 : runA c b (sortC l) = (b1, 0)) (h3 : runV c t b1 (goneK b1.ds l) = (b2, 0)) : syncP c b l t = (b2, 0) := by unfold syncP; rw [if_neg (by simp [dupK, h]), h2]; simp only [ne_eq, not_true_eq_false, if_false]; rw [h3]; simp
theorem runA_step {c : List Acc} {b : Bk} {m : List Chg} {k : Nat} (hk : k < m.length) : runA c b (m.drop k) = if (applyP c b m[k]).2 ≠ 0 then (b, (applyP c b m[k]).2) else runA c (applyP c b m[k]).1 (m.drop (k + 1)) := by rw [List.drop_eq_getElem_cons hk, runA]
theorem runV_step {c : List Acc} {t : Int} {b : Bk} {m : List ByteArray} {k : Nat} (hk : k < m.length) : runV c t b (m.drop k) = if (voidP c b m[k] t).2 ≠ 0 then (b, (voidP c b m[k] t).2) else runV c t (voidP c b m[k] t).1 (m.drop (k + 1)) := by rw [List.drop_eq_getElem_cons hk, runV]
theorem keys_take {l : List Chg} {k : Nat} (hk : k < l.length) : keysC (l.take (k + 1)) = keysC (l.take k) ++ [l[k].key] := by unfold keysC; rw [List.take_succ_eq_append_getElem hk, List.map_append]; rfl
theorem keys_dup {l : List Chg} {k : Nat} (hk : k < l.length) (h : hasS (keysC (l.take k)) l[k].key = true) : ¬ (keysC l).Nodup := fun hn => by
 have h1 : keysC l = keysC (l.take k) ++ keysC (l.drop k) := by unfold keysC; rw [← List.map_append, List.take_append_drop]
 rw [h1, List.nodup_append] at hn; exact hn.2.2 _ (hasS_iff.1 h) l[k].key (by unfold keysC; exact List.mem_map.2 ⟨l[k], by rw [List.drop_eq_getElem_cons hk]; exact List.mem_cons_self, rfl⟩) rfl
theorem keys_new {l : List Chg} {k : Nat} (hk : k < l.length) (hn : (keysC (l.take k)).Nodup) (h : hasS (keysC (l.take k)) l[k].key = false) : (keysC (l.take (k + 1))).Nodup := by
 rw [keys_take hk, List.nodup_append]; exact ⟨hn, by simp, fun a ha b hb => by rw [List.mem_singleton] at hb; subst hb; rintro rfl; exact (hasS_no.1 h) ha⟩
theorem gone_take {ds l : List Chg} {k : Nat} (hk : k < ds.length) : goneK (ds.take (k + 1)) l = if hasS (keysC l) ds[k].key = true then goneK (ds.take k) l else goneK (ds.take k) l ++ [ds[k].key] := by
 unfold goneK; rw [keys_take hk, List.filter_append, List.filter_cons, List.filter_nil]
 cases h : hasS (keysC l) ds[k].key <;> simp
theorem gone_sort {ds l : List Chg} (h : SortK ds) : (goneK ds l).Pairwise fun a b => ltB a b = true := List.Pairwise.filter _ (List.pairwise_map.2 h)
end Go.Tw.Po
namespace Go.Proofs.YtifcelebfagjbaaGreatDoor
open Go.RowKit Go.Tw Go.Tw.Ord Go.Tw.Po Go.Sort
structure SyW (w : World) (A : Array Value) (ve vd : Value) (mb bx : Nat) (f : ByteArray → Option Value) (kn : Nat) (X : World) (vE vD : Value) (b : Bk) (wr : World) : Prop where
 y : VW w.heap.size A ve vd wr
 mp : MapIs kStr wr mb f kn
 bb : BB bx vE vD wr
 se : SlIs (tEnt 101) (fun q => w.heap.size + 3 ≤ q ∧ q < wr.heap.size ∧ q ≠ bx) wr vE b.es
 sd : SlIs (tChg eL) (fun q => w.heap.size + 3 ≤ q ∧ q < wr.heap.size ∧ q ≠ bx) wr vD b.ds
 sm : SameOn (fun q => bx < q ∧ q < X.heap.size) X wr
 bl : Below w.heap.size w wr
 xs : X.heap.size ≤ wr.heap.size
 l1 : w.heap.size + 2 < mb
 l2 : mb < bx
theorem SyW.step {w X wr w' : World} {A : Array Value} {ve vd vE vD : Value} {mb bx kn : Nat} {f : ByteArray → Option Value} {b : Bk} (h : SyW w A ve vd mb bx f kn X vE vD b wr) (hb : Below wr.heap.size wr w') : SyW w A ve vd mb bx f kn X vE vD b w' :=
 ⟨h.y.step hb (lt_of_heap h.y.b2), h.mp.below hb, (hb.block _ (lt_of_heap h.bb)).trans h.bb, h.se.keep (fun _q hq => ⟨hq.1, Nat.lt_of_lt_of_le hq.2.1 hb.size, hq.2.2⟩) (fun q hq => hb.block q hq.2.1), h.sd.keep (fun _q hq => ⟨hq.1, Nat.lt_of_lt_of_le hq.2.1 hb.size, hq.2.2⟩) (fun q hq => hb.block q hq.2.1), fun q hq => (hb.block q (Nat.lt_of_lt_of_le hq.2 h.xs)).trans (h.sm q hq), bl_trans h.bl hb, Nat.le_trans h.xs hb.size, h.l1, h.l2⟩
theorem SyW.put {w X wr : World} {A : Array Value} {ve vd vE vD u1 u2 : Value} {mb bx kn B : Nat} {f : ByteArray → Option Value} {b b' : Bk} (h : SyW w A ve vd mb bx f kn X vE vD b wr) (hB : bx < B) (he : SlIs (tEnt 101) (fun q => B ≤ q ∧ q < wr.heap.size) wr u1 b'.es) (hd : SlIs (tChg eL) (fun q => B ≤ q ∧ q < wr.heap.size) wr u2 b'.ds) :
  SyW w A ve vd mb bx f kn X u1 u2 b' ((wr.setCell ⟨bx, 0, none⟩ u1).setCell ⟨bx, 1, none⟩ u2) := by
 have h1 := h.l1; have h2 := h.l2; have key : ∀ q, q ≠ bx → ((wr.setCell ⟨bx, 0, none⟩ u1).setCell ⟨bx, 1, none⟩ u2).heap[q]? = wr.heap[q]? := fun q hq => (Below.heap_setCell _ _ _ _ hq).trans (Below.heap_setCell _ _ _ _ hq)
 have hz : ((wr.setCell ⟨bx, 0, none⟩ u1).setCell ⟨bx, 1, none⟩ u2).heap.size = wr.heap.size := by simp
 refine ⟨h.y.same fun k _ hk => key k (by omega), h.mp.kept (key mb (by omega)), heap_setCell_same _ _ _ _ _ _ (heap_setCell_same _ _ _ _ _ _ h.bb), he.keep (fun q hq => ⟨by omega, by omega, by omega⟩) (fun q hq => key q (by omega)), hd.keep (fun q hq => ⟨by omega, by omega, by omega⟩) (fun q hq => key q (by omega)), fun q hq => (key q (by omega)).trans (h.sm q hq), bl_set (bl_set h.bl _ (by simp only; omega)) _ (by simp only; omega), by rw [hz]; exact h.xs, h1, h2⟩
theorem SyW.re {w X Y wr : World} {A : Array Value} {ve vd vE vD : Value} {mb bx kn : Nat} {f : ByteArray → Option Value} {b : Bk} (h : SyW w A ve vd mb bx f kn X vE vD b wr) (hy : SameOn (fun q => bx < q ∧ q < Y.heap.size) Y wr) (hz : Y.heap.size ≤ wr.heap.size) : SyW w A ve vd mb bx f kn Y vE vD b wr := ⟨h.y, h.mp, h.bb, h.se, h.sd, hy, h.bl, hz, h.l1, h.l2⟩
set_option maxRecDepth 100000 in
set_option maxHeartbeats 8000000 in
theorem sync_any (L : List Chg) (N : Nat) (c : List Acc) (A : Array Value) (va ve vd vl : Value) (es : List Ent) (ds l : List Chg) (tm : Int) (w : World) (hA : CfgA A va) (hc : SlIs (tAcc 138) (· < w.heap.size) w va c) (hk : CfOk c) (hb : BOk L N ⟨es, ds⟩) (hN : N ≤ 880)
  (he : SlIs (tEnt 101) (· < w.heap.size) w ve es) (hd : SlIs (tChg eL) (· < w.heap.size) w vd ds) (hl : SlIs (tChg eL) (· < w.heap.size) w vl l) (hlL : ∀ x ∈ l, x ∈ L) (hl8 : l.length ≤ 8) (hlo : ∀ x ∈ l, ChgOk x) (htm : i64ok tm) (hf : FmtAll w) :
  Calls Tryz.prog 23 #[.agg A, .agg #[ve, vd], vl, .int .i64 tm] w (BookE w (.agg #[ve, vd]) (syncP c ⟨es, ds⟩ l tm)) := by
 have h0 := alloc3 w (.cells A 46) (.cells #[ve, vd] 70) (.cells #[.slice none 0 0, .slice none 0 0] 70); have HY := Lib.hid (show VW w.heap.size A ve vd _ from ⟨h0.1, h0.2.1, h0.2.2⟩); have HB0 := Lib.hid (bl_alloc (bl_alloc (bl_alloc (Below.refl w.heap.size w) (.cells A 46)) (.cells #[ve, vd] 70)) (.cells #[.slice none 0 0, .slice none 0 0] 70)); obtain ⟨ae, ce, _, _, rfl, -⟩ := id he; obtain ⟨ad, cd, _, _, rfl, -⟩ := id hd; obtain ⟨al, cl, bl, ol, rfl, hl1, hl2, hlop⟩ := chg_open hl; have HLO := Lib.hid hlop; have HL := Lib.hid hl; have HA := Lib.hid hA; have HC := Lib.hid hc; have HK := Lib.hid hk; have HF := Lib.hid hf; have HE := Lib.hid he; have HD := Lib.hid hd; have HBK := Lib.hid hb; have HTM := Lib.hid htm; have HLL := Lib.hid hlL; have HLC := Lib.hid hlo; unfold maxLen at hl2; clear hA hc hk hf h0 he hd hlop hb htm hl hlL hlo; have hmm := @run_makeMap Tryz.prog
 go_enter Tryz.func23, Tryz.ntmps23
 go_upto_region 1 with (fail)
 generalize ((w.alloc (.cells A 46)).alloc (.cells #[.slice ae es.length ce, .slice ad ds.length cd] 70)).alloc (.cells #[.slice none 0 0, .slice none 0 0] 70) = w0 at HY HB0 ⊢; have HM0 := Lib.hid (MapIs.made (K := kStr) w0); have hAl := bl_alloc (Below.refl w0.heap.size w0) (.map #[] 0); have HBM := Lib.hid (bl_trans HB0.out hAl); have hl0 := lt_of_heap HY.out.b2; have HYM := Lib.hid (HY.out.step hAl hl0)
 go_upto_region 2 with (fail)
 clear hmm; generalize w0.alloc (.map #[] 0) = wm at HM0 HBM HYM hAl ⊢; obtain ⟨mb, hmb⟩ : ∃ mb, w0.heap.size = mb := ⟨_, rfl⟩; rw [hmb] at HM0 hl0 ⊢; clear hAl hmb HY HB0; go_wp2
 go_loopg [28] l.length (fun g i wr => ∃ k : Nat, k + g = l.length ∧ i = .int .i64 k ∧ Hid ((keysC (l.take k)).Nodup) ∧ Hid (MapIs kStr wr mb (seenM (keysC (l.take k))) k) ∧ Hid (Below mb wm wr) ∧ mb < wr.heap.size)
 case atStart => exact ⟨0, by omega, rfl, Lib.hid List.nodup_nil, Lib.hid (HM0.out.ext (fun p => rfl)), Lib.hid (Below.refl _ _), HM0.out.lt⟩
 case round =>
  obtain ⟨k, hk, rfl, HNO, HMP, HBW, hmw⟩ := hrel; have HYW := Lib.hid (HYM.out.step HBW.out hl0); have HWW := Lib.hid (HBM.out.trans (HBW.out.mono (by omega)))
  by_cases hlt : k < l.length
  · obtain ⟨rfl, -, hbi, hok, hv, hsl, d0, d1, d2, d3, d4, d5, d6⟩ := HLO.out wr (.of_below HWW.out) k hlt
    have k0 : (0 : Int) ≤ (k : Int) := by omega
    have k1 : (k : Int) < (l.length : Int) := by omega
    obtain ⟨hva, hvn, hvc, hve⟩ : ∃ a n c, hv = .slice a n c := by
     obtain ⟨a, c, _, _, e, -⟩ := hsl; exact ⟨a, _, c, e⟩
    subst hve; have HKD := Lib.hid (keys_dup hlt); have HKN := Lib.hid (keys_new hlt HNO.out); have HKT := Lib.hid (keys_take hlt); generalize l[k] = y at *; have hb3 := bl_alloc (Below.refl wr.heap.size wr) (.cells #[.string y.key, .string y.veh, .string y.sys, .int .i64 y.cls, .int .i64 y.tm, .slice hva hvn hvc, .int .i64 y.c] 49); have n3 := heap_alloc_new wr (.cells #[.string y.key, .string y.veh, .string y.sys, .int .i64 y.cls, .int .i64 y.tm, .slice hva hvn hvc, .int .i64 y.c] 49); have HMA := Lib.hid (HMP.out.alloc (.cells #[.string y.key, .string y.veh, .string y.sys, .int .i64 y.cls, .int .i64 y.tm, .slice hva hvn hvc, .int .i64 y.c] 49)); clear hsl hok
    go_upto_region 5 with (fail)
    generalize wr.alloc (.cells #[.string y.key, .string y.veh, .string y.sys, .int .i64 y.cls, .int .i64 y.tm, .slice hva hvn hvc, .int .i64 y.c] 49) = wb at hb3 n3 HMA ⊢; have hlk := HMA.out.look Tryz.underlying118 Tryz.underlying9 (z := .bool false) (by kernel_rfl) y.key false; obtain ⟨q, hq⟩ : ∃ q, hasS (keysC (l.take k)) y.key = q := ⟨_, rfl⟩; rw [seenM_get, hq] at hlk; have hlk : (Instr.lookup 118 (.map (some mb)) (.string y.key) false).run Tryz.prog wb = .ok (.bool q) wb := hlk; obtain ⟨e0, -⟩ := blk7 n3; have hbs := hb3.size; have HB3 := Lib.hid hb3; have HYB := Lib.hid (HYW.out.step hb3 (by omega)); have HWB := Lib.hid (bl_trans HWW.out hb3); rw [hq] at HKD HKN; clear d0 d1 d2 d3 d4 d5 d6 hb3 n3 hq
    cases q with
    | true =>
     have HR := Lib.hid (sy_dup (c := c) (b := ⟨es, ds⟩) (t := tm) (HKD.out rfl)); obtain ⟨c0, c1, -⟩ := blk2 HYB.out.b1; obtain ⟨f0, f1, ff⟩ := blk2 HYB.out.b2; have f0' : wb.cell? ⟨w.heap.size + 1 + 1, 0, none⟩ = some (.slice none 0 0) := f0; have f1' : wb.cell? ⟨w.heap.size + 1 + 1, 1, none⟩ = some (.slice none 0 0) := f1; have ff' : ∀ j, wb.frozen? ⟨w.heap.size + 1 + 1, j, none⟩ = false := ff; have hlb := lt_of_heap HYB.out.b2; clear f0 f1 ff; go_wp2; have g5 : ((wb.setCell ⟨w.heap.size + 1 + 1, 0, none⟩ (.slice ae es.length ce)).setCell ⟨w.heap.size + 1 + 1, 1, none⟩ (.slice ad ds.length cd)).heap[w.heap.size + 1 + 1]? = some (.cells #[(.slice ae es.length ce), (.slice ad ds.length cd)] 70 (0, 0)) := heap_setCell_same _ _ _ _ _ _ (heap_setCell_same _ _ _ _ _ _ HYB.out.b2); have b5 : Below w.heap.size w ((wb.setCell ⟨w.heap.size + 1 + 1, 0, none⟩ (.slice ae es.length ce)).setCell ⟨w.heap.size + 1 + 1, 1, none⟩ (.slice ad ds.length cd)) := bl_set (bl_set HWB.out _ (by simp only; omega)) _ (by simp only; omega); obtain ⟨k0, k1, -⟩ := blk2 g5; generalize (wb.setCell ⟨w.heap.size + 1 + 1, 0, none⟩ (.slice ae es.length ce)).setCell ⟨w.heap.size + 1 + 1, 1, none⟩ (.slice ad ds.length cd) = w9 at *; refine bodyPost_ret (v := .tuple #[.agg #[(.slice ae es.length ce), (.slice ad ds.length cd)], .int .i64 9]) (by simp [results, Tryz.results23, go_sem, k0, k1]) rfl ?_; rw [HR.out]; exact BookE.old (by decide) HE.out HD.out b5
    | false =>
     have HKN' := Lib.hid (HKN.out rfl); have HPUT := Lib.hid (show ∀ q, (if q = y.key then some (Value.bool true) else seenM (keysC (l.take k)) q) = seenM (keysC (l.take (k + 1))) q from fun q => by rw [HKT.out]; exact seenM_put _ _ q)
     go_wp2_with (at_mapUpdate
                  refine wpList_put (.tmp 37) (.tmp 39) (.const (.bool true)) rfl 118 rfl Tryz.underlying118 Tryz.underlying9 HMA.out rfl y.key (.string y.key) (.bool true) rfl rfl rfl ?_; intro w3 hm3 hg3; have HM3 := Lib.hid (hm3.ext HPUT.out); have HG3 := Lib.hid ((HBW.out.trans (HB3.out.mono (by omega))).grown hg3 (by have := HBW.out.size; have := HM0.out.lt; omega) (fun q hq => by cases hq; exact Nat.le_refl _)); have hs3 := hg3.size
                  clear hm3 hg3)
     go_roundg (l.length - (k + 1))
     case measure => omega
     case rel => exact ⟨k + 1, by omega, by go_num, HKN', HM3, HG3, by omega⟩
  · have hkd : decide ((k : Int) < (l.length : Int)) = false := by simp; omega
    rw [show l.take k = l from List.take_of_length_le (by omega)] at HNO HMP; have hds8 := HBK.out.ds; simp only at hds8; have hel := HBK.out.len; simp only at hel; obtain ⟨d0, d1, -⟩ := blk2 HYW.out.b1; have hCL := bclone_any es ds (.slice ae es.length ce) (.slice ad ds.length cd) wr (HE.out.step HWW.out) (HD.out.step HWW.out) (by omega) (by omega) (fun e he => by have := (HBK.out.es e he).ps; omega) (fun y hy => by have := (HBK.out.cok y hy).ls; omega); have HCL := Lib.hid hCL; clear hCL
    go_wp2_with (fail)
    with_reducible refine HCL.out.mono ?_
    clear HCL; rintro r w11 ⟨ve2, vd2, m, rfl, hm, hm11, hs2, hn2, hb11⟩; obtain ⟨ae2, ce2, _, _, rfl, -⟩ := id hs2; obtain ⟨ad2, cd2, rfl, hcd2, hcd3⟩ := hn2.form; have hAl := bl_alloc (Below.refl w11.heap.size w11) (.cells #[.slice ae2 es.length ce2, .slice ad2 ds.length cd2] 70); have gB := heap_alloc_new w11 (.cells #[.slice ae2 es.length ce2, .slice ad2 ds.length cd2] 70); have hb1 := bl_trans hb11 hAl; have HM12 := Lib.hid (HMP.out.below hb1); have HY12 := Lib.hid (HYW.out.step hb1 (lt_of_heap HYW.out.b2)); have HW12 := Lib.hid (bl_trans HWW.out hb1); have HSE := Lib.hid (hs2.keep (S' := fun q => w.heap.size + 3 ≤ q ∧ q < w11.heap.size) (fun q hq => ⟨by omega, Nat.lt_of_lt_of_le hq.2 hm11⟩) (SameOn.refl _ _)); have HSD := Lib.hid (hn2.sl.keep (S' := fun q => w.heap.size + 3 ≤ q ∧ q < w11.heap.size) (fun q hq => ⟨by omega, hq.2⟩) (SameOn.refl _ _)); have hs11 := hb11.size; clear hs2 hn2 hm hm11 d0 d1 hcd2 hcd3; have HPS := Lib.hid (psort_any l (.slice al l.length cl) (w11.alloc (.cells #[.slice ae2 es.length ce2, .slice ad2 ds.length cd2] 70)) (HL.out.step HW12.out) (by omega) (fun x hx => by have := (HBK.out.ok x (HLL.out x hx)).ls; omega) HNO.out)
    go_wp2_with (fail)
    with_reducible refine HPS.out.mono ?_
    clear HPS; rintro r w13 ⟨⟨v13, rfl, hsl13⟩, hb13⟩; obtain ⟨M, hM⟩ : ∃ M, sortC l = M := ⟨_, rfl⟩
    have HMP := Lib.hid (show ∀ x ∈ M, x ∈ L ∧ ChgOk x from fun x hx => by
     have h1 : x ∈ l := (sortL_perm l).mem_iff.1 (by rw [← hM] at hx; exact hx)
     exact ⟨HLL.out x h1, HLC.out x h1⟩)
    have hMl : M.length = l.length := by rw [← hM]; exact (sortL_perm l).length_eq
    rw [hM] at hsl13; have HRA := Lib.hid (show runA c ⟨es, ds⟩ (sortC l) = runA c ⟨es, ds⟩ M by rw [hM]); obtain ⟨aM, cM, bM, oM, rfl, -, hcM, hoM⟩ := chg_open hsl13; have HOM := Lib.hid hoM; unfold maxLen at hcM; obtain ⟨bx, hbx⟩ : ∃ bx, w11.heap.size = bx := ⟨_, rfl⟩; have hb2 := (bl_alloc (Below.refl w11.heap.size w11) (.cells #[.slice ae2 es.length ce2, .slice ad2 ds.length cd2] 70)).trans (hb13.mono (by simp)); have hz13 := hb13.size; rw [World.size_alloc] at hz13
    have HSY := Lib.hid (show SyW w A (.slice ae es.length ce) (.slice ad ds.length cd) mb bx (seenM (keysC l)) k w13 (.slice ae2 es.length ce2) (.slice ad2 ds.length cd2) ⟨es, ds⟩ w13 from
     ⟨HY12.out.step hb13 (lt_of_heap HY12.out.b2), HM12.out.below hb13, by rw [← hbx]; exact (hb13.block _ (lt_of_heap gB)).trans gB, HSE.out.keep (fun q hq => ⟨by omega, by omega, by omega⟩) (fun q hq => hb2.block q hq.2), HSD.out.keep (fun q hq => ⟨by omega, by omega, by omega⟩) (fun q hq => hb2.block q hq.2), SameOn.refl _ _, bl_trans HW12.out hb13, Nat.le_refl _, hl0, by omega⟩)
    have hS0 : ∀ q, (w11.alloc (.cells #[.slice ae2 es.length ce2, .slice ad2 ds.length cd2] 70)).heap.size ≤ q → bx < q := fun q hq => by simp at hq; omega
    have HS0 := Lib.hid hS0; rw [hbx]; clear hsl13 hoM hM hbx hb13 hb2 hb1 gB hAl hb11 HY12 HM12 HW12 HSE HSD HYW HWW HBW hS0; go_wp2
    go_loopg [46] M.length (fun g i wr => ∃ (j : Nat) (b : Bk) (vE vD : Value), j + g = M.length ∧ i = .int .i64 j ∧ Hid (runA c ⟨es, ds⟩ M = runA c b (M.drop j)) ∧ Hid (BOk L (N + j) b) ∧ Hid (SyW w A (.slice ae es.length ce) (.slice ad ds.length cd) mb bx (seenM (keysC l)) k w13 vE vD b wr))
    case atStart => exact ⟨0, _, _, _, by omega, rfl, Lib.hid rfl, HBK, HSY⟩
    case round =>
     obtain ⟨j, ⟨eb, db⟩, vE, vD, hj, rfl, HRU, HBO, HSW⟩ := hrel; obtain ⟨aE, cE, _, _, rfl, -⟩ := id HSW.out.se; obtain ⟨aD, cD, _, _, rfl, -⟩ := id HSW.out.sd; have hxs := HSW.out.xs
     by_cases hlt2 : j < M.length
     · obtain ⟨rfl, -, hbi, hok, hv, hsl, d0, d1, d2, d3, d4, d5, d6⟩ := HOM.out wr (fun q hq => HSW.out.sm q ⟨HS0.out q hq.1, hq.2⟩) j hlt2
       have j0 : (0 : Int) ≤ (j : Int) := by omega
       have j1 : (j : Int) < (M.length : Int) := by omega
       obtain ⟨hva, hvn, hvc, hve⟩ : ∃ a n c, hv = .slice a n c := by
        obtain ⟨a, c, _, _, e, -⟩ := hsl; exact ⟨a, _, c, e⟩
       subst hve; have HYL := Lib.hid (HMP.out _ (List.getElem_mem hlt2)); have HST := Lib.hid (runA_step (c := c) (b := ⟨eb, db⟩) hlt2); generalize M[j] = y at *; have HBY := Lib.hid (HBO.out.apply (c := c) (by omega) HYL.out.1); have hb3 := bl_alloc (Below.refl wr.heap.size wr) (.cells #[.string y.key, .string y.veh, .string y.sys, .int .i64 y.cls, .int .i64 y.tm, .slice hva hvn hvc, .int .i64 y.c] 49); have n3 := heap_alloc_new wr (.cells #[.string y.key, .string y.veh, .string y.sys, .int .i64 y.cls, .int .i64 y.tm, .slice hva hvn hvc, .int .i64 y.c] 49); have hsl1 : SlIs tSI (· < wr.heap.size) wr (.slice hva hvn hvc) y.ls := hsl.keep (fun q hq => Nat.lt_of_lt_of_le hq.2 hxs) (SameOn.refl _ _); have HSL := Lib.hid (hsl1.step hb3); clear hsl hsl1 hok
       go_upto_region 13 with (fail)
       generalize wr.alloc (.cells #[.string y.key, .string y.veh, .string y.sys, .int .i64 y.cls, .int .i64 y.tm, .slice hva hvn hvc, .int .i64 y.c] 49) = wb at hb3 n3 HSL ⊢; have HS1 := Lib.hid (HSW.out.step hb3); have HAP := Lib.hid (apply_any L (N + j) c A va _ _ _ eb db y wb HA.out (HC.out.step HS1.out.bl) HK.out HBO.out (by omega) (HBO.out.ok _ HYL.out.1) (HS1.out.se.keep (fun _ h => h.2.1) (SameOn.refl _ _)) (HS1.out.sd.keep (fun _ h => h.2.1) (SameOn.refl _ _)) HYL.out.2 HSL.out (HF.out.step HS1.out.bl)); have hld := load_blk HS1.out.y.b0 HA.out.size Tryz.prog; obtain ⟨e0, e1, -⟩ := blk2 HS1.out.bb; obtain ⟨x0, x1, x2, x3, x4, x5, x6, -⟩ := blk7 n3; clear d0 d1 d2 d3 d4 d5 d6 hb3 n3 HSL
       go_wp2_with (first | (refine wpList_loadA _ rfl 46 rfl Tryz.isAgg46 Tryz.sizeOf46 rfl (by with_reducible assumption) ?_) | fail)
       with_reducible refine HAP.out.mono ?_
       clear HAP; rintro r w2 ⟨u1, u2, rfl, hu1, hu2, hb4, -⟩; have HS2 := Lib.hid (HS1.out.step hb4); obtain ⟨⟨⟨e9, d9⟩, z⟩, hr⟩ : ∃ r, applyP c ⟨eb, db⟩ y = r := ⟨_, rfl⟩; rw [hr] at hu1 hu2 HST HBY ⊢; simp only at hu1 hu2 HST HBY ⊢; obtain ⟨a1, c1, _, _, rfl, -⟩ := id hu1; obtain ⟨a2, c2, _, _, rfl, -⟩ := id hu2; have HU1 := Lib.hid hu1; have HU2 := Lib.hid hu2; clear hu1 hu2 hb4 hld e0 e1 x0 x1 x2 x3 x4 x5 x6 hr
       by_cases hz : z = 0
       case neg =>
        have hz1 : (z != 0) = true := by simpa using hz
        have hru := HRU.out.trans (HST.out.trans (if_pos hz))
        have HR := Lib.hid (show syncP c ⟨es, ds⟩ l tm = (⟨es, ds⟩, z) from by
         have h1 := HRA.out.trans hru
         rw [sy_a HNO.out (by rw [h1]; exact hz), h1])
        have hl9 := lt_of_heap HS2.out.y.b2; obtain ⟨q0, q1, -⟩ := blk2 HS2.out.y.b1; obtain ⟨f0, f1, ff⟩ := blk2 HS2.out.y.b2; have f0' : w2.cell? ⟨w.heap.size + 1 + 1, 0, none⟩ = some (.slice none 0 0) := f0; have f1' : w2.cell? ⟨w.heap.size + 1 + 1, 1, none⟩ = some (.slice none 0 0) := f1; have ff' : ∀ j, w2.frozen? ⟨w.heap.size + 1 + 1, j, none⟩ = false := ff; have m1 : w.heap.size + 1 < w2.heap.size := by omega
        have m2 : w.heap.size + 1 + 1 < w2.heap.size := by omega
        have HY9 := Lib.hid HS2.out.y; have HB9 := Lib.hid HS2.out.bl; clear f0 f1 ff hz hru; go_wp2; have g5 := alloc1_old (.cells #[.slice a1 e9.length c1, .slice a2 d9.length c2] 70) (show ((w2.setCell ⟨w.heap.size + 1 + 1, 0, none⟩ (.slice ae es.length ce)).setCell ⟨w.heap.size + 1 + 1, 1, none⟩ (.slice ad ds.length cd)).heap[w.heap.size + 1 + 1]? = some (.cells #[(.slice ae es.length ce), (.slice ad ds.length cd)] 70 (0, 0)) from heap_setCell_same _ _ _ _ _ _ (heap_setCell_same _ _ _ _ _ _ HY9.out.b2)); have b5 : Below w.heap.size w (((w2.setCell ⟨w.heap.size + 1 + 1, 0, none⟩ (.slice ae es.length ce)).setCell ⟨w.heap.size + 1 + 1, 1, none⟩ (.slice ad ds.length cd)).alloc (.cells #[.slice a1 e9.length c1, .slice a2 d9.length c2] 70)) := bl_alloc (bl_set (bl_set HB9.out _ (by simp only; omega)) _ (by simp only; omega)) _; obtain ⟨k0, k1, -⟩ := blk2 g5; generalize ((w2.setCell ⟨w.heap.size + 1 + 1, 0, none⟩ (.slice ae es.length ce)).setCell ⟨w.heap.size + 1 + 1, 1, none⟩ (.slice ad ds.length cd)).alloc (.cells #[.slice a1 e9.length c1, .slice a2 d9.length c2] 70) = wz at *; refine bodyPost_ret (v := .tuple #[.agg #[(.slice ae es.length ce), (.slice ad ds.length cd)], .int .i64 z]) (by simp [results, Tryz.results23, go_sem, k0, k1]) rfl ?_; rw [HR.out]; exact BookE.old (by simpa using hz1) HE.out HD.out b5
       subst hz; have HPT := Lib.hid (HS2.out.put (u1 := .slice a1 e9.length c1) (u2 := .slice a2 d9.length c2) (b' := ⟨e9, d9⟩) (B := wb.heap.size) (lt_of_heap HS1.out.bb) (HU1.out.keep (fun q hq => ⟨hq.1 rfl, hq.2⟩) (SameOn.refl _ _)) (HU2.out.keep (fun q hq => ⟨hq.1 rfl, hq.2⟩) (SameOn.refl _ _))); obtain ⟨q0, q1, qf⟩ := blk2 HS2.out.bb; have hlb := lt_of_heap HS2.out.bb; go_wp2
       go_roundg (M.length - (j + 1))
       case measure => omega
       case rel => exact ⟨j + 1, ⟨e9, d9⟩, _, _, by omega, by go_num, Lib.hid (HRU.out.trans (HST.out.trans (if_neg (by simp)))), HBY, Lib.hid (HPT.out.step (bl_alloc (Below.refl _ _) _))⟩
     · have hjd : decide ((j : Int) < (M.length : Int)) = false := by simp; omega
       have HRB := Lib.hid (show runA c ⟨es, ds⟩ (sortC l) = (⟨eb, db⟩, 0) from by rw [HRA.out, HRU.out, List.drop_eq_nil_of_le (by omega), runA]); have hd8 := HBO.out.ds; simp only at hd8; obtain ⟨wo, rfl⟩ : ∃ wo : World, wo = wr := ⟨_, rfl⟩; have HSW' := Lib.hid HSW.out.sd; obtain ⟨aD2, cD2, bD, oD, hvD, -, hcD, hoD⟩ := chg_open HSW'.out
       injection hvD with q1 q2 q3
       subst q1 q3; have HOD := Lib.hid hoD; unfold maxLen at hcD; obtain ⟨e0, e1, -⟩ := blk2 HSW.out.bb; clear hoD HSW' q2; go_wp2
       go_loopg [18, 66] db.length (fun g sv i wr => ∃ q : Nat, q + g = db.length ∧ i = .int .i64 q ∧ OwnSl tStr 9 wo.heap.size wr sv (goneK (db.take q) l) ∧ Below wo.heap.size wo wr)
       case atStart => exact ⟨0, by omega, rfl, OwnSl.nil _ _ _ _, Below.refl _ _⟩
       case round =>
        obtain ⟨q, hq, rfl, hown, hbw⟩ := hrel; have HBW := Lib.hid hbw; have HOW := Lib.hid hown; obtain ⟨aO, cO, rfl, -⟩ := hown.form; have hgl : (goneK (db.take q) l).length ≤ q := Nat.le_trans (gone_len _ _) (by rw [List.length_take]; omega)
        by_cases hlt3 : q < db.length
        · obtain ⟨rfl, -, hbi, hok, hv, hsl, d0, d1, d2, d3, d4, d5, d6⟩ := HOD.out wr (fun u hu => hbw.block u hu.2.1) q hlt3
          have j0 : (0 : Int) ≤ (q : Int) := by omega
          have j1 : (q : Int) < (db.length : Int) := by omega
          obtain ⟨hva, hvn, hvc, hve⟩ : ∃ a n c, hv = .slice a n c := by
           obtain ⟨a, c, _, _, e, -⟩ := hsl; exact ⟨a, _, c, e⟩
          subst hve; have HGT := Lib.hid (gone_take (l := l) hlt3); have hky := hok.key; generalize db[q] = y at *; have hb3 := bl_alloc (Below.refl wr.heap.size wr) (.cells #[.string y.key, .string y.veh, .string y.sys, .int .i64 y.cls, .int .i64 y.tm, .slice hva hvn hvc, .int .i64 y.c] 49); have n3 := heap_alloc_new wr (.cells #[.string y.key, .string y.veh, .string y.sys, .int .i64 y.cls, .int .i64 y.tm, .slice hva hvn hvc, .int .i64 y.c] 49); clear hsl hok hown hbw
          go_upto_region 22 with (fail)
          generalize wr.alloc (.cells #[.string y.key, .string y.veh, .string y.sys, .int .i64 y.cls, .int .i64 y.tm, .slice hva hvn hvc, .int .i64 y.c] 49) = wb at hb3 n3 ⊢; have HBB := Lib.hid (bl_trans HBW.out hb3); have hlk := (HSW.out.step HBB.out).mp.look Tryz.underlying118 Tryz.underlying9 (z := .bool false) (by kernel_rfl) y.key false; obtain ⟨h, hh⟩ : ∃ h, hasS (keysC l) y.key = h := ⟨_, rfl⟩; rw [seenM_get, hh] at hlk; rw [hh] at HGT; have hlk : (Instr.lookup 118 (.map (some mb)) (.string y.key) false).run Tryz.prog wb = .ok (.bool h) wb := hlk; obtain ⟨x0, -⟩ := blk7 n3; have HO1 := Lib.hid (HOW.out.below hb3); have hzb := HBB.out.size; clear d0 d1 d2 d3 d4 d5 d6 hb3 n3 hh
          cases h with
          | true =>
           go_wp2
           go_roundg (db.length - (q + 1))
           case measure => omega
           case rel => exact ⟨q + 1, by omega, by go_num, by rw [HGT.out, if_pos (by trivial)]; exact HO1.out, HBB.out⟩
          | false =>
           go_wp2_with (at_builtin
                        refine wpList_append_one (.tmp 75) (.tmp 78) rfl 87 rfl slStr rfl HO1.out rfl (S := fun _ => False) (y := y.key) ⟨rfl, hky⟩ (fun _ h => h.elim) (small_bytes (k := 1001) (by omega) (by decide)) (by unfold maxLen; omega) hzb ?_; intro v6 w6 ho6 hg6 hb6; have HO6 := Lib.hid ho6; have HB6 := Lib.hid (HBB.out.trans hb6)
                        clear ho6 hg6 hb6)
           go_roundg (db.length - (q + 1))
           case measure => omega
           case rel => exact ⟨q + 1, by omega, by go_num, by rw [HGT.out, if_neg (by simp)]; exact HO6.out, HB6.out⟩
        · have hqd : decide ((q : Int) < (db.length : Int)) = false := by simp; omega
          rw [show db.take q = db from List.take_of_length_le (by omega)] at HOW hgl ⊢; have hgs := gone_sort (l := l) HBO.out.sort; simp only at hgs
          have hgz : ∀ s ∈ goneK db l, s.size ≤ maxLen := fun s hs => by
           obtain ⟨x, hx, rfl⟩ := List.mem_map.1 (List.mem_filter.1 hs).1; have := (HBO.out.cok x hx).key; unfold maxLen; omega
          have HGE := Lib.hid (show goneK db l = goneK db l from rfl); obtain ⟨O, hO⟩ : ∃ O, goneK db l = O := ⟨_, rfl⟩; have HGO := Lib.hid hO; rw [hO] at HOW hgl hgs hgz ⊢; have HSS := Lib.hid (ssort_any O (.slice aO O.length cO) wr HOW.out (by omega) hgs hgz hbw.size); clear hO HGE hgs hgz hown e0 e1
          go_wp2_with (fail)
          with_reducible refine HSS.out.mono ?_
          clear HSS; rintro r w5 ⟨rfl, hs5, hb5⟩; obtain ⟨aS, cS, bS, oS, hvS, -, hcS, hoS⟩ := strs_open hs5
          injection hvS with q1 q2 q3
          subst q1 q3; have HOS := Lib.hid hoS; unfold maxLen at hcS; have hw5 := HBW.out.trans hb5; have HS5 := Lib.hid ((HSW.out.step hw5).re (SameOn.refl _ w5) (Nat.le_refl _)); have HLB := Lib.hid (lt_of_heap HSW.out.bb); have HB8 := Lib.hid (HBO.out.mono (M := N + 8) (by omega)); have hol : O.length ≤ 8 := by rw [← HGO.out]; exact Nat.le_trans (gone_len _ _) (by omega)
          clear hoS hs5 hb5 hw5 q2 hbw HOW HOD hcD; go_wp2
          go_loopg [85] O.length (fun g i wr => ∃ (p : Nat) (b : Bk) (vE vD : Value), p + g = O.length ∧ i = .int .i64 p ∧ Hid (runV c tm ⟨eb, db⟩ O = runV c tm b (O.drop p)) ∧ Hid (BOk L (N + 8 + p) b) ∧ Hid (SyW w A (.slice ae es.length ce) (.slice ad ds.length cd) mb bx (seenM (keysC l)) k w5 vE vD b wr))
          case atStart => exact ⟨0, _, _, _, by omega, rfl, Lib.hid rfl, HB8, HS5⟩
          case round =>
           obtain ⟨p, ⟨ec, dc⟩, vE, vD, hp, rfl, HRW, HBP, HSX⟩ := hrel; obtain ⟨aE3, cE3, _, _, rfl, -⟩ := id HSX.out.se; obtain ⟨aD3, cD3, _, _, rfl, -⟩ := id HSX.out.sd; have hxs := HSX.out.xs
           by_cases hlt4 : p < O.length
           · obtain ⟨rfl, -, -, d0, -⟩ := HOS.out wr (fun u hu => HSX.out.sm u ⟨by have := HLB.out; omega, hu.2⟩) p hlt4
             have j0 : (0 : Int) ≤ (p : Int) := by omega
             have j1 : (p : Int) < (O.length : Int) := by omega
             have HST := Lib.hid (runV_step (c := c) (t := tm) (b := ⟨ec, dc⟩) hlt4); generalize O[p] = s at *; have HBY := Lib.hid (HBP.out.void (c := c) (s := s) (t := tm) (by omega)); have HVD := Lib.hid (void_any L (N + 8 + p) c A va _ _ ec dc s tm wr HA.out (HC.out.step HSX.out.bl) HK.out HBP.out (by omega) (HSX.out.se.keep (fun _ h => h.2.1) (SameOn.refl _ _)) (HSX.out.sd.keep (fun _ h => h.2.1) (SameOn.refl _ _)) HTM.out (HF.out.step HSX.out.bl)); have hld := load_blk HSX.out.y.b0 HA.out.size Tryz.prog; obtain ⟨e0, e1, -⟩ := blk2 HSX.out.bb
             go_wp2_with (first | (refine wpList_loadA _ rfl 46 rfl Tryz.isAgg46 Tryz.sizeOf46 rfl (by with_reducible assumption) ?_) | fail)
             with_reducible refine HVD.out.mono ?_
             clear HVD; rintro r w2 ⟨u1, u2, rfl, hu1, hu2, hb4, -⟩; have HS2 := Lib.hid (HSX.out.step hb4); obtain ⟨⟨⟨e9, d9⟩, z⟩, hr⟩ : ∃ r, voidP c ⟨ec, dc⟩ s tm = r := ⟨_, rfl⟩; rw [hr] at hu1 hu2 HST HBY ⊢; simp only at hu1 hu2 HST HBY ⊢; obtain ⟨a1, c1, _, _, rfl, -⟩ := id hu1; obtain ⟨a2, c2, _, _, rfl, -⟩ := id hu2; have HU1 := Lib.hid hu1; have HU2 := Lib.hid hu2; clear hu1 hu2 hb4 hld e0 e1 d0 hr
             by_cases hz : z = 0
             case neg =>
              have hz1 : (z != 0) = true := by simpa using hz
              have hru := HRW.out.trans (HST.out.trans (if_pos hz)); have HR := Lib.hid (show syncP c ⟨es, ds⟩ l tm = (⟨es, ds⟩, z) from sy_v HNO.out HRB.out hz (by rw [HGO.out]; exact hru)); have hl9 := lt_of_heap HS2.out.y.b2; obtain ⟨q0, q1, -⟩ := blk2 HS2.out.y.b1; obtain ⟨f0, f1, ff⟩ := blk2 HS2.out.y.b2; have f0' : w2.cell? ⟨w.heap.size + 1 + 1, 0, none⟩ = some (.slice none 0 0) := f0; have f1' : w2.cell? ⟨w.heap.size + 1 + 1, 1, none⟩ = some (.slice none 0 0) := f1; have ff' : ∀ j, w2.frozen? ⟨w.heap.size + 1 + 1, j, none⟩ = false := ff; have m1 : w.heap.size + 1 < w2.heap.size := by omega
              have m2 : w.heap.size + 1 + 1 < w2.heap.size := by omega
              have HY9 := Lib.hid HS2.out.y; have HB9 := Lib.hid HS2.out.bl; clear f0 f1 ff hz hru; go_wp2; have g5 := alloc1_old (.cells #[.slice a1 e9.length c1, .slice a2 d9.length c2] 70) (show ((w2.setCell ⟨w.heap.size + 1 + 1, 0, none⟩ (.slice ae es.length ce)).setCell ⟨w.heap.size + 1 + 1, 1, none⟩ (.slice ad ds.length cd)).heap[w.heap.size + 1 + 1]? = some (.cells #[(.slice ae es.length ce), (.slice ad ds.length cd)] 70 (0, 0)) from heap_setCell_same _ _ _ _ _ _ (heap_setCell_same _ _ _ _ _ _ HY9.out.b2)); have b5 : Below w.heap.size w (((w2.setCell ⟨w.heap.size + 1 + 1, 0, none⟩ (.slice ae es.length ce)).setCell ⟨w.heap.size + 1 + 1, 1, none⟩ (.slice ad ds.length cd)).alloc (.cells #[.slice a1 e9.length c1, .slice a2 d9.length c2] 70)) := bl_alloc (bl_set (bl_set HB9.out _ (by simp only; omega)) _ (by simp only; omega)) _; obtain ⟨k0, k1, -⟩ := blk2 g5; generalize ((w2.setCell ⟨w.heap.size + 1 + 1, 0, none⟩ (.slice ae es.length ce)).setCell ⟨w.heap.size + 1 + 1, 1, none⟩ (.slice ad ds.length cd)).alloc (.cells #[.slice a1 e9.length c1, .slice a2 d9.length c2] 70) = wz at *; refine bodyPost_ret (v := .tuple #[.agg #[(.slice ae es.length ce), (.slice ad ds.length cd)], .int .i64 z]) (by simp [results, Tryz.results23, go_sem, k0, k1]) rfl ?_; rw [HR.out]; exact BookE.old (by simpa using hz1) HE.out HD.out b5
             subst hz; have HPT := Lib.hid (HS2.out.put (u1 := .slice a1 e9.length c1) (u2 := .slice a2 d9.length c2) (b' := ⟨e9, d9⟩) (B := wr.heap.size) (lt_of_heap HSX.out.bb) (HU1.out.keep (fun q hq => ⟨hq.1 rfl, hq.2⟩) (SameOn.refl _ _)) (HU2.out.keep (fun q hq => ⟨hq.1 rfl, hq.2⟩) (SameOn.refl _ _))); obtain ⟨q0, q1, qf⟩ := blk2 HS2.out.bb; have hlb := lt_of_heap HS2.out.bb; go_wp2
             go_roundg (O.length - (p + 1))
             case measure => omega
             case rel => exact ⟨p + 1, ⟨e9, d9⟩, _, _, by omega, by go_num, Lib.hid (HRW.out.trans (HST.out.trans (if_neg (by simp)))), HBY, Lib.hid (HPT.out.step (bl_alloc (Below.refl _ _) _))⟩
           · have hpd : decide ((p : Int) < (O.length : Int)) = false := by simp; omega
             have HR := Lib.hid (show syncP c ⟨es, ds⟩ l tm = (⟨ec, dc⟩, 0) from sy_ok HNO.out HRB.out (by rw [HGO.out, HRW.out, List.drop_eq_nil_of_le (by omega), runV])); obtain ⟨e0, e1, -⟩ := blk2 HSX.out.bb; have hl9 := lt_of_heap HSX.out.y.b2; obtain ⟨f0, f1, ff⟩ := blk2 HSX.out.y.b2; have f0' : wr.cell? ⟨w.heap.size + 1 + 1, 0, none⟩ = some (.slice none 0 0) := f0; have f1' : wr.cell? ⟨w.heap.size + 1 + 1, 1, none⟩ = some (.slice none 0 0) := f1; have ff' : ∀ j, wr.frozen? ⟨w.heap.size + 1 + 1, j, none⟩ = false := ff; have hw2 : w.heap.size + 1 + 1 < wr.heap.size := by omega
             have HT16 := Lib.hid HSX.out.y.b2; have HB16 := Lib.hid HSX.out.bl; have HSE16 := Lib.hid (HSX.out.se.keep (S' := fun q => w.heap.size + 3 ≤ q ∧ q < wr.heap.size) (fun q hq => ⟨hq.1, hq.2.1⟩) (SameOn.refl _ _)); have HSD16 := Lib.hid (HSX.out.sd.keep (S' := fun q => w.heap.size + 3 ≤ q ∧ q < wr.heap.size) (fun q hq => ⟨hq.1, hq.2.1⟩) (SameOn.refl _ _)); clear f0 f1 ff; go_wp2; have g5 : ((wr.setCell ⟨w.heap.size + 1 + 1, 0, none⟩ (.slice aE3 ec.length cE3)).setCell ⟨w.heap.size + 1 + 1, 1, none⟩ (.slice aD3 dc.length cD3)).heap[w.heap.size + 1 + 1]? = some (.cells #[(.slice aE3 ec.length cE3), (.slice aD3 dc.length cD3)] 70 (0, 0)) := heap_setCell_same _ _ _ _ _ _ (heap_setCell_same _ _ _ _ _ _ HT16.out); have b5 : Below w.heap.size w ((wr.setCell ⟨w.heap.size + 1 + 1, 0, none⟩ (.slice aE3 ec.length cE3)).setCell ⟨w.heap.size + 1 + 1, 1, none⟩ (.slice aD3 dc.length cD3)) := bl_set (bl_set HB16.out _ (by simp only; omega)) _ (by simp only; omega); have hoth : ∀ q, w.heap.size + 3 ≤ q → ((wr.setCell ⟨w.heap.size + 1 + 1, 0, none⟩ (.slice aE3 ec.length cE3)).setCell ⟨w.heap.size + 1 + 1, 1, none⟩ (.slice aD3 dc.length cD3)).heap[q]? = wr.heap[q]? := fun q hq => (Below.heap_setCell _ _ _ _ (by simp only; omega)).trans (Below.heap_setCell _ _ _ _ (by simp only; omega))
             have hz17 : wr.heap.size = ((wr.setCell ⟨w.heap.size + 1 + 1, 0, none⟩ (.slice aE3 ec.length cE3)).setCell ⟨w.heap.size + 1 + 1, 1, none⟩ (.slice aD3 dc.length cD3)).heap.size := by simp
             obtain ⟨k0, k1, -⟩ := blk2 g5; generalize (wr.setCell ⟨w.heap.size + 1 + 1, 0, none⟩ (.slice aE3 ec.length cE3)).setCell ⟨w.heap.size + 1 + 1, 1, none⟩ (.slice aD3 dc.length cD3) = wf at *; refine bodyPost_ret (v := .tuple #[.agg #[(.slice aE3 ec.length cE3), (.slice aD3 dc.length cD3)], .int .i64 0]) (by simp [results, Tryz.results23, go_sem, k0, k1]) rfl ?_; rw [HR.out]; exact ⟨(.slice aE3 ec.length cE3), (.slice aD3 dc.length cD3), rfl, HSE16.out.keep (fun q hq => ⟨fun _ => by omega, by omega⟩) (fun q hq => hoth q hq.1), HSD16.out.keep (fun q hq => ⟨fun _ => by omega, by omega⟩) (fun q hq => hoth q hq.1), b5, fun h => absurd rfl h⟩
end Go.Proofs.YtifcelebfagjbaaGreatDoor
namespace Go.Tw.Po
open Go.RowKit Go.Tw Go.Sort Go.Tw.Ord Go.Proofs.YtifcelebfagjbaaGreatDoor
def OrdD (ds : List Chg) : Prop := ∀ i (h : i + 1 < ds.length), ltB ds[i].key ds[i + 1].key = true
def keysE (es : List Ent) : List ByteArray := es.map Ent.key
open Classical in
noncomputable def checkP (b : Bk) : Int :=
 if orL (b.es.map entC) ≠ 0 then orL (b.es.map entC) else if ¬ (keysE b.es).Nodup then 9 else if orL (b.ds.map chkC) ≠ 0 then orL (b.ds.map chkC) else if OrdD b.ds then 0 else 15
theorem ck_e {b : Bk} (h : orL (b.es.map entC) ≠ 0) : checkP b = orL (b.es.map entC) := by unfold checkP; rw [if_pos h]
theorem ck_d {b : Bk} (h : orL (b.es.map entC) = 0) (h2 : ¬ (keysE b.es).Nodup) : checkP b = 9 := by unfold checkP; rw [if_neg (by simp [h]), if_pos h2]
theorem ck_c {b : Bk} (h : orL (b.es.map entC) = 0) (h2 : (keysE b.es).Nodup) (h3 : orL (b.ds.map chkC) ≠ 0) : checkP b = orL (b.ds.map chkC) := by unfold checkP; rw [if_neg (by simp [h]), if_neg (by simp [h2]), if_pos h3]
theorem ck_o {b : Bk} (h : orL (b.es.map entC) = 0) (h2 : (keysE b.es).Nodup) (h3 : orL (b.ds.map chkC) = 0) (h4 : ¬ OrdD b.ds) : checkP b = 15 := by unfold checkP; rw [if_neg (by simp [h]), if_neg (by simp [h2]), if_neg (by simp [h3]), if_neg h4]
theorem ck_0 {b : Bk} (h : orL (b.es.map entC) = 0) (h2 : (keysE b.es).Nodup) (h3 : orL (b.ds.map chkC) = 0) (h4 : OrdD b.ds) : checkP b = 0 := by unfold checkP; rw [if_neg (by simp [h]), if_neg (by simp [h2]), if_neg (by simp [h3]), if_pos h4]
theorem orM_drop {α : Type} {f : α → Int} {l : List α} {k : Nat} (hk : k < l.length) : orL ((l.drop k).map f) = if f l[k] = 0 then orL ((l.drop (k + 1)).map f) else f l[k] := by rw [List.drop_eq_getElem_cons hk, List.map_cons, orL]
theorem orM_end {α : Type} {f : α → Int} {l : List α} {k : Nat} (hk : l.length ≤ k) : orL ((l.drop k).map f) = 0 := by rw [List.drop_eq_nil_of_le hk]; rfl
theorem keysE_take {l : List Ent} {k : Nat} (hk : k < l.length) : keysE (l.take (k + 1)) = keysE (l.take k) ++ [l[k].key] := by unfold keysE; rw [List.take_succ_eq_append_getElem hk, List.map_append]; rfl
theorem keysE_dup {l : List Ent} {k : Nat} (hk : k < l.length) (h : hasS (keysE (l.take k)) l[k].key = true) : ¬ (keysE l).Nodup := fun hn => by
 have h1 : keysE l = keysE (l.take k) ++ keysE (l.drop k) := by unfold keysE; rw [← List.map_append, List.take_append_drop]
 rw [h1, List.nodup_append] at hn; exact hn.2.2 _ (hasS_iff.1 h) l[k].key (by unfold keysE; exact List.mem_map.2 ⟨l[k], by rw [List.drop_eq_getElem_cons hk]; exact List.mem_cons_self, rfl⟩) rfl
theorem keysE_new {l : List Ent} {k : Nat} (hk : k < l.length) (hn : (keysE (l.take k)).Nodup) (h : hasS (keysE (l.take k)) l[k].key = false) : (keysE (l.take (k + 1))).Nodup := by
 rw [keysE_take hk, List.nodup_append]; exact ⟨hn, by simp, fun a ha b hb => by rw [List.mem_singleton] at hb; subst hb; rintro rfl; exact (hasS_no.1 h) ha⟩
end Go.Tw.Po
namespace Go.Proofs.YtifcelebfagjbaaGreatDoor
open Go.RowKit Go.Tw Go.Tw.Ord Go.Tw.Po Go.Sort
set_option maxRecDepth 100000 in
set_option maxHeartbeats 8000000 in
theorem bcheck_any (ve vd : Value) (es : List Ent) (ds : List Chg) (w : World) (he : SlIs (tEnt 101) (· < w.heap.size) w ve es) (hd : SlIs (tChg eL) (· < w.heap.size) w vd ds) (hls : ∀ x ∈ ds, x.ls.length ≤ 1000) (hel : es.length ≤ 10000) :
  Calls Tryz.prog 17 #[.agg #[ve, vd]] w fun e w' => e = .returned (.int .i64 (checkP ⟨es, ds⟩)) ∧ Below w.heap.size w w' := by
 have n0 := alloc1_0 w (.cells #[ve, vd] 70); have HN := Lib.hid (show BB w.heap.size ve vd _ from n0); have HB0 := Lib.hid (bl_alloc (Below.refl w.heap.size w) (.cells #[ve, vd] 70)); obtain ⟨ae, ce, be, oe, rfl, hl1, hm1, ho1⟩ := ent_open he; obtain ⟨ad, cd, bd, od, rfl, hl2, hm2, ho2⟩ := chg_open hd; have HO := Lib.hid ho1; have HO2 := Lib.hid ho2; have HLS := Lib.hid hls; unfold maxLen at hm1 hm2; have hmm := @run_makeMap Tryz.prog; obtain ⟨d0, d1, -⟩ := blk2 n0; clear he hd ho1 ho2 hls n0
 go_enter Tryz.func17, Tryz.ntmps17
 go_wp2; generalize w.alloc (.cells #[.slice ae es.length ce, .slice ad ds.length cd] 70) = w0 at HN HB0 d0 d1 ⊢
 go_loopg [17] es.length (fun g i wr => ∃ k : Nat, k + g = es.length ∧ i = .int .i64 k ∧ Hid (orL (es.map entC) = orL ((es.drop k).map entC)) ∧ Hid (Below w0.heap.size w0 wr))
 case atStart => exact ⟨0, by omega, rfl, Lib.hid rfl, Lib.hid (Below.refl _ _)⟩
 case round =>
  obtain ⟨k, hk, rfl, HT, HBW⟩ := hrel; have HWW := Lib.hid (bl_trans HB0.out HBW.out)
  by_cases hlt : k < es.length
  · obtain ⟨rfl, -, hbi, hok, hv, hsl, e0, e1, e2⟩ := HO.out wr (.of_below HWW.out) k hlt
    have k0 : (0 : Int) ≤ (k : Int) := by omega
    have k1 : (k : Int) < (es.length : Int) := by omega
    have HST := Lib.hid (orM_drop (f := entC) hlt); generalize es[k] = y at *
    obtain ⟨hva, hvn, hvc, hve⟩ : ∃ a n c, hv = .slice a n c := by
     obtain ⟨a, c, _, _, e, -⟩ := hsl; exact ⟨a, _, c, e⟩
    subst hve; have hb3 := bl_alloc (Below.refl wr.heap.size wr) (.cells #[.string y.key, .int .i64 y.tm, .slice hva hvn hvc] 56); have hsl1 : SlIs tSI (· < wr.heap.size) wr (.slice hva hvn hvc) y.ps := hsl.keep (fun q (hq : q < w.heap.size) => Nat.lt_of_lt_of_le hq HWW.out.size) (SameOn.refl _ _); have HCK := Lib.hid (lcheck_any y (.slice hva hvn hvc) _ hok (hsl1.step hb3)); have HBA := Lib.hid (bl_trans HBW.out hb3); clear hsl hsl1 hok hb3; obtain ⟨z, hz⟩ : ∃ z, entC y = z := ⟨_, rfl⟩; rw [hz] at HCK HST; clear hz
    by_cases hz0 : z = 0
    · subst hz0
      go_wp2_with (fail)
      with_reducible refine HCK.out.mono ?_
      rintro r w2 ⟨rfl, hb2⟩; have HB2 := Lib.hid (bl_trans HBA.out hb2); clear hb2 HCK; go_wp2
      go_roundg (es.length - (k + 1))
      case measure => omega
      case rel => exact ⟨k + 1, by omega, by go_num, Lib.hid (HT.out.trans (HST.out.trans (if_pos (by trivial)))), HB2⟩
    · have hz1 : (z != 0) = true := by simpa using hz0
      have hzz := HT.out.trans (HST.out.trans (if_neg hz0)); have HR := Lib.hid (show checkP ⟨es, ds⟩ = z from (ck_e (b := ⟨es, ds⟩) (by simp only; rw [hzz]; exact hz0)).trans hzz); clear hzz hz0
      go_wp2_with (fail)
      with_reducible refine HCK.out.mono ?_
      rintro r w2 ⟨rfl, hb2⟩; have HB2 := Lib.hid (bl_trans HB0.out (bl_trans HBA.out hb2)); clear hb2 HCK; go_wp2; go_ret; exact ⟨ret_int HR.out, HB2.out⟩
  · have hkd : decide ((k : Int) < (es.length : Int)) = false := by simp; omega
    have HZ := Lib.hid (HT.out.trans (orM_end (by omega))); have gw := (HBW.out.block _ (lt_of_heap HN.out)).trans HN.out; have HGW := Lib.hid (show BB w.heap.size (.slice ae es.length ce) (.slice ad ds.length cd) wr from gw); have hlw := lt_of_heap gw; have HM0 := Lib.hid (MapIs.made (K := kStr) wr); have hAl := bl_alloc (Below.refl wr.heap.size wr) (.map #[] 0)
    go_upto_region 9 with (fail)
    clear hmm d0 d1 gw; generalize wr.alloc (.map #[] 0) = wm at HM0 hAl ⊢; obtain ⟨mb, hmb⟩ : ∃ mb, wr.heap.size = mb := ⟨_, rfl⟩; have HBM := Lib.hid (bl_trans HWW.out hAl); have HGM := Lib.hid (show BB w.heap.size (.slice ae es.length ce) (.slice ad ds.length cd) wm from (hAl.block _ hlw).trans HGW.out); obtain ⟨d0, d1, -⟩ := blk2 HGM.out; rw [hmb] at HM0 hlw ⊢; clear hAl hmb HBW HWW HT HN HB0; go_wp2; clear d0 d1
    go_loopg [32] es.length (fun g i wr => ∃ k : Nat, k + g = es.length ∧ i = .int .i64 k ∧ Hid ((keysE (es.take k)).Nodup) ∧ Hid (MapIs kStr wr mb (seenM (keysE (es.take k))) k) ∧ Hid (Below mb wm wr) ∧ mb < wr.heap.size)
    case atStart => exact ⟨0, by omega, rfl, Lib.hid List.nodup_nil, Lib.hid (HM0.out.ext (fun p => rfl)), Lib.hid (Below.refl _ _), HM0.out.lt⟩
    case round =>
     obtain ⟨k, hk, rfl, HNO, HMP, HBW, hmw⟩ := hrel; have HWW := Lib.hid (HBM.out.trans (HBW.out.mono (by omega)))
     by_cases hlt : k < es.length
     · obtain ⟨rfl, -, hbi, hok, hv, hsl, e0, e1, e2⟩ := HO.out wr (.of_below HWW.out) k hlt
       have k0 : (0 : Int) ≤ (k : Int) := by omega
       have k1 : (k : Int) < (es.length : Int) := by omega
       obtain ⟨hva, hvn, hvc, hve⟩ : ∃ a n c, hv = .slice a n c := by
        obtain ⟨a, c, _, _, e, -⟩ := hsl; exact ⟨a, _, c, e⟩
       subst hve; have HKD := Lib.hid (keysE_dup hlt); have HKN := Lib.hid (keysE_new hlt HNO.out); have HKT := Lib.hid (keysE_take hlt); generalize es[k] = y at *; have hb3 := bl_alloc (Below.refl wr.heap.size wr) (.cells #[.string y.key, .int .i64 y.tm, .slice hva hvn hvc] 56); have n3 := heap_alloc_new wr (.cells #[.string y.key, .int .i64 y.tm, .slice hva hvn hvc] 56); have HMA := Lib.hid (HMP.out.alloc (.cells #[.string y.key, .int .i64 y.tm, .slice hva hvn hvc] 56)); clear hsl hok
       go_upto_region 12 with (fail)
       generalize wr.alloc (.cells #[.string y.key, .int .i64 y.tm, .slice hva hvn hvc] 56) = wb at hb3 n3 HMA ⊢; have hlk := HMA.out.look Tryz.underlying118 Tryz.underlying9 (z := .bool false) (by kernel_rfl) y.key false; obtain ⟨q, hq⟩ : ∃ q, hasS (keysE (es.take k)) y.key = q := ⟨_, rfl⟩; rw [seenM_get, hq] at hlk; have hlk : (Instr.lookup 118 (.map (some mb)) (.string y.key) false).run Tryz.prog wb = .ok (.bool q) wb := hlk; obtain ⟨x0, -⟩ := blk3 n3; have hbs := hb3.size; have HB3 := Lib.hid hb3; have HWB := Lib.hid (bl_trans HWW.out hb3); rw [hq] at HKD HKN; clear e0 e1 e2 hb3 n3 hq
       cases q with
       | true =>
        have HR := Lib.hid (ck_d (b := ⟨es, ds⟩) HZ.out (HKD.out rfl)); go_wp2; go_ret; exact ⟨ret_int HR.out, HWB.out⟩
       | false =>
        have HKN' := Lib.hid (HKN.out rfl); have HPUT := Lib.hid (show ∀ q, (if q = y.key then some (Value.bool true) else seenM (keysE (es.take k)) q) = seenM (keysE (es.take (k + 1))) q from fun q => by rw [HKT.out]; exact seenM_put _ _ q)
        go_wp2_with (at_mapUpdate
                     refine wpList_put (.tmp 40) (.tmp 42) (.const (.bool true)) rfl 118 rfl Tryz.underlying118 Tryz.underlying9 HMA.out rfl y.key (.string y.key) (.bool true) rfl rfl rfl ?_; intro w3 hm3 hg3; have HM3 := Lib.hid (hm3.ext HPUT.out); have HG3 := Lib.hid ((HBW.out.trans (HB3.out.mono (by omega))).grown hg3 (by have := HBW.out.size; have := HM0.out.lt; omega) (fun q hq => by cases hq; exact Nat.le_refl _)); have hs3 := hg3.size
                     clear hm3 hg3)
        go_roundg (es.length - (k + 1))
        case measure => omega
        case rel => exact ⟨k + 1, by omega, by go_num, HKN', HM3, HG3, by omega⟩
     · have hkd : decide ((k : Int) < (es.length : Int)) = false := by simp; omega
       rw [show es.take k = es from List.take_of_length_le (by omega)] at HNO; have HGR := Lib.hid (show BB w.heap.size (.slice ae es.length ce) (.slice ad ds.length cd) wr from (HBW.out.block _ hlw).trans HGM.out); obtain ⟨d0, d1, -⟩ := blk2 HGR.out; obtain ⟨wo, rfl⟩ : ∃ wo : World, wo = wr := ⟨_, rfl⟩; go_wp2; clear d0 d1
       go_loopg [47] ds.length (fun g i wr => ∃ j : Nat, j + g = ds.length ∧ i = .int .i64 j ∧ Hid (orL (ds.map chkC) = orL ((ds.drop j).map chkC)) ∧ Hid (Below wo.heap.size wo wr))
       case atStart => exact ⟨0, by omega, rfl, Lib.hid rfl, Lib.hid (Below.refl _ _)⟩
       case round =>
        obtain ⟨j, hj, rfl, HT, HBV⟩ := hrel; have HWV := Lib.hid (bl_trans HWW.out HBV.out)
        by_cases hlt2 : j < ds.length
        · obtain ⟨rfl, -, hbi, hok, hv, hsl, e0, e1, e2, e3, e4, e5, e6⟩ := HO2.out wr (.of_below HWV.out) j hlt2
          have k0 : (0 : Int) ≤ (j : Int) := by omega
          have k1 : (j : Int) < (ds.length : Int) := by omega
          have hyl := HLS.out _ (List.getElem_mem hlt2); have HST := Lib.hid (orM_drop (f := chkC) hlt2); generalize ds[j] = y at *
          obtain ⟨hva, hvn, hvc, hve⟩ : ∃ a n c, hv = .slice a n c := by
           obtain ⟨a, c, _, _, e, -⟩ := hsl; exact ⟨a, _, c, e⟩
          subst hve; have hb3 := bl_alloc (Below.refl wr.heap.size wr) (.cells #[.string y.key, .string y.veh, .string y.sys, .int .i64 y.cls, .int .i64 y.tm, .slice hva hvn hvc, .int .i64 y.c] 49); have hsl1 : SlIs tSI (· < wr.heap.size) wr (.slice hva hvn hvc) y.ls := hsl.keep (fun q (hq : q < w.heap.size) => Nat.lt_of_lt_of_le hq HWV.out.size) (SameOn.refl _ _); have HCK := Lib.hid (pcheck_any y (.slice hva hvn hvc) _ hok (hsl1.step hb3) hyl); have HBA := Lib.hid (bl_trans HBV.out hb3); clear hsl hsl1 hok hb3; obtain ⟨z, hz⟩ : ∃ z, chkC y = z := ⟨_, rfl⟩; rw [hz] at HCK HST; clear hz
          by_cases hz0 : z = 0
          · subst hz0
            go_wp2_with (fail)
            with_reducible refine HCK.out.mono ?_
            rintro r w2 ⟨rfl, hb2⟩; have HB2 := Lib.hid (bl_trans HBA.out hb2); clear hb2 HCK; go_wp2
            go_roundg (ds.length - (j + 1))
            case measure => omega
            case rel => exact ⟨j + 1, by omega, by go_num, Lib.hid (HT.out.trans (HST.out.trans (if_pos (by trivial)))), HB2⟩
          · have hz1 : (z != 0) = true := by simpa using hz0
            have hzz := HT.out.trans (HST.out.trans (if_neg hz0)); have HR := Lib.hid (show checkP ⟨es, ds⟩ = z from (ck_c (b := ⟨es, ds⟩) HZ.out HNO.out (by simp only; rw [hzz]; exact hz0)).trans hzz); clear hzz hz0
            go_wp2_with (fail)
            with_reducible refine HCK.out.mono ?_
            rintro r w2 ⟨rfl, hb2⟩; have HB2 := Lib.hid (bl_trans HWW.out (bl_trans HBA.out hb2)); clear hb2 HCK; go_wp2; go_ret; exact ⟨ret_int HR.out, HB2.out⟩
        · have hjd : decide ((j : Int) < (ds.length : Int)) = false := by simp; omega
          have HZC := Lib.hid (HT.out.trans (orM_end (by omega))); have HGV := Lib.hid (show BB w.heap.size (.slice ae es.length ce) (.slice ad ds.length cd) wr from (HBV.out.block _ (lt_of_heap HGR.out)).trans HGR.out); obtain ⟨wp, rfl⟩ : ∃ wp : World, wp = wr := ⟨_, rfl⟩; go_wp2
          go_loopg [12] ds.length (fun g i wr => ∃ m : Nat, m + g = ds.length ∧ i = .int .i64 ((m : Int) + 1) ∧ Hid (∀ q (hq : q + 1 < ds.length), q < m → ltB ds[q].key ds[q + 1].key = true) ∧ Hid (Below wp.heap.size wp wr))
          case atStart => exact ⟨0, by omega, rfl, Lib.hid (fun q _ h => by omega), Lib.hid (Below.refl _ _)⟩
          case round =>
           obtain ⟨m, hm, rfl, HT, HBX⟩ := hrel; have HWX := Lib.hid (bl_trans HWV.out HBX.out); have gx := (HBX.out.block _ (lt_of_heap HGV.out)).trans HGV.out; obtain ⟨d0, d1, -⟩ := blk2 gx; clear gx
           by_cases hlt3 : m + 1 < ds.length
           · obtain ⟨hao, -, -, -, hv1, -, e0, -⟩ := HO2.out wr (.of_below HWX.out) m (by omega)
             obtain ⟨-, -, -, -, hv2, -, f0, -⟩ := HO2.out wr (.of_below HWX.out) (m + 1) hlt3; subst hao; have j0 : (0 : Int) ≤ (m : Int) := by omega
             have j1 : (m : Int) + 1 < (ds.length : Int) := by omega
             have j2 : (m : Int) < (ds.length : Int) := by omega
             have j3 : (0 : Int) ≤ (m : Int) + 1 := by omega
             have js : IntKind.i64.wrap ((m : Int) + 1 - 1) = (m : Int) := (show IntKind.i64.wrap ((m : Int) + 1 - 1) = (m : Int) + 1 - 1 from wrap_in (by omega) (by omega)).trans (by omega); have jt : ((m : Int) + 1).toNat = m + 1 := by omega
             obtain ⟨q, hq⟩ : ∃ q, Op.bytesLess ds[m].key.toList ds[m + 1].key.toList = q := ⟨_, rfl⟩; have HQ := Lib.hid (show ltB ds[m].key ds[m + 1].key = q from (less_str _ _).symm.trans hq)
             cases q with
             | true =>
              go_wp2_with (go_quiet (fail))
              go_roundg (ds.length - (m + 1))
              case measure => omega
              case rel => exact ⟨m + 1, by omega, by go_num, Lib.hid (fun i hi h => by
               by_cases e : i = m
               · subst e; exact HQ.out
               · exact HT.out i hi (by omega)), Lib.hid (bl_drewN HBX.out _)⟩
             | false =>
              have HR := Lib.hid (ck_o (b := ⟨es, ds⟩) HZ.out HNO.out HZC.out (fun h => by have := h m hlt3; rw [HQ.out] at this; cases this))
              go_wp2_with (go_quiet (fail))
              go_ret; exact ⟨ret_int HR.out, bl_drewN HWX.out _⟩
           · have hmd : decide ((m : Int) + 1 < (ds.length : Int)) = false := by simp; omega
             have HR := Lib.hid (ck_0 (b := ⟨es, ds⟩) HZ.out HNO.out HZC.out (fun i hi => HT.out i hi (by have h2 : i + 1 < ds.length := hi; omega))); go_wp2; go_ret; exact ⟨ret_int HR.out, HWX.out⟩
end Go.Proofs.YtifcelebfagjbaaGreatDoor
namespace Go.Tw.Po
open Go.RowKit Go.Tw Go.Sort Go.Tw.Ord Go.Proofs.YtifcelebfagjbaaGreatDoor
theorem py_name {b : Bk} {nm : ByteArray} {n t : Int} (h : nameC nm = false) : payP b nm n t = (b, 6) := by unfold payP; rw [if_pos h]
theorem py_amt {b : Bk} {nm : ByteArray} {n t : Int} (h : nameC nm = true) (h2 : n < 1 ∨ 1125899906842624 < n) : payP b nm n t = (b, 13) := by unfold payP; rw [if_neg (by simp [h]), if_pos h2]
theorem py_time {b : Bk} {nm : ByteArray} {n t : Int} (h : nameC nm = true) (h2 : ¬ (n < 1 ∨ 1125899906842624 < n)) (h3 : momC t = false) : payP b nm n t = (b, 12) := by unfold payP; rw [if_neg (by simp [h]), if_neg h2, if_pos h3]
theorem py_s {b : Bk} {nm : ByteArray} {n t : Int} (h : nameC nm = true) (h2 : ¬ (n < 1 ∨ 1125899906842624 < n)) (h3 : momC t = true) {es' : List Ent} {z : Int} (he : postL b.es ⟨keyC sPay (payN b.es), t, [⟨sCash, n⟩, ⟨sAcc ++ nm, -n⟩]⟩ = (es', z)) : payP b nm n t = if z ≠ 0 then (b, z) else (⟨es', b.ds⟩, 0) := by
 unfold payP; rw [if_neg (by simp [h]), if_neg h2, if_neg (by simp [h3])]; simp only [he]
theorem payN_succ {l : List Ent} {k : Nat} (hk : k < l.length) : payN (l.take (k + 1)) = payN (l.take k) + if Lib.hasPrefix (l[k].key.data.toList) [112, 97, 121, 35] = true then 1 else 0 := by
 unfold payN; rw [List.take_succ_eq_append_getElem hk, List.filter_append, List.length_append]
 congr 1
 show (List.filter (fun e => Lib.hasPrefix e.key.data.toList [112, 97, 121, 35]) [l[k]]).length = _
 rw [List.filter_cons, List.filter_nil]
 split <;> rfl
end Go.Tw.Po
namespace Go.Proofs.YtifcelebfagjbaaGreatDoor
open Go.RowKit Go.Tw Go.Tw.Ord Go.Tw.Po Go.Sort
structure YPW (n : Nat) (ve vd : Value) (wr : World) : Prop where
 b0 : BB n ve vd wr
 b1 : BB (n + 1) (.slice none 0 0) (.slice none 0 0) wr
theorem YPW.same {n : Nat} {ve vd : Value} {w w' : World} (h : YPW n ve vd w) (hs : ∀ k, n ≤ k → k ≤ n + 1 → w'.heap[k]? = w.heap[k]?) : YPW n ve vd w' :=
 ⟨(hs n (Nat.le_refl _) (by omega)).trans h.b0, (hs (n + 1) (by omega) (by omega)).trans h.b1⟩
theorem YPW.step {n B : Nat} {ve vd : Value} {w w' : World} (h : YPW n ve vd w) (hb : Below B w w') (hB : n + 1 < B) : YPW n ve vd w' := h.same fun k _ hk => hb.block k (by omega)
theorem YPW.put {n : Nat} {ve vd : Value} {w : World} (h : YPW n ve vd w) {q : Addr} (hq : n + 1 < q.block) (u : Value) : YPW n ve vd (w.setCell q u) := h.same fun k _ hk => Below.heap_setCell _ _ _ _ (by omega)
set_option maxRecDepth 100000 in
set_option maxHeartbeats 8000000 in
theorem pay_any (L : List Chg) (N : Nat) (ve vd : Value) (es : List Ent) (ds : List Chg) (s : ByteArray) (m tm : Int) (w : World) (hb : BOk L N ⟨es, ds⟩) (hN : N ≤ 900)
  (he : SlIs (tEnt 101) (· < w.heap.size) w ve es) (hd : SlIs (tChg eL) (· < w.heap.size) w vd ds) (hs : s.size ≤ maxLen) (hm : i64ok m) (htm : i64ok tm) (hf : FmtAll w) :
  Calls Tryz.prog 30 #[.agg #[ve, vd], .string s, .int .i64 m, .int .i64 tm] w (BookE w (.agg #[ve, vd]) (payP ⟨es, ds⟩ s m tm)) := by
 have n0 := alloc2_0 w (.cells #[ve, vd] 70) (.cells #[.slice none 0 0, .slice none 0 0] 70); have n1 := alloc2_1 w (.cells #[ve, vd] 70) (.cells #[.slice none 0 0, .slice none 0 0] 70); have HY := Lib.hid (show YPW w.heap.size ve vd _ from ⟨n0, n1⟩); have HB0 := Lib.hid (bl_alloc (bl_alloc (Below.refl w.heap.size w) (.cells #[ve, vd] 70)) (.cells #[.slice none 0 0, .slice none 0 0] 70)); obtain ⟨ae, ce, be, oe, rfl, hl, hm1, ho⟩ := ent_open he; obtain ⟨ad, cd, _, _, rfl, -⟩ := id hd; have HO := Lib.hid ho; have HF := Lib.hid hf; have HE := Lib.hid he; have HD := Lib.hid hd; have HBK := Lib.hid hb; have HTM := Lib.hid htm; have HSZ := Lib.hid hs; have HNM := Lib.hid (Name_any s ((w.alloc (.cells #[.slice ae es.length ce, .slice ad ds.length cd] 70)).alloc (.cells #[.slice none 0 0, .slice none 0 0] 70))); have HMA := Lib.hid (fun W => moment_any tm W); have HFI := Lib.hid (fun W => mFits_any m W); unfold maxLen at hm1; unfold i64ok at hm; clear hf he hd hb htm ho n0 n1 hs; obtain ⟨q, hq⟩ : ∃ q, nameC s = q := ⟨_, rfl⟩; rw [hq] at HNM
 cases q with
 | false =>
  have HR := Lib.hid (py_name (b := ⟨es, ds⟩) (n := m) (t := tm) hq); clear hq
  go_enter Tryz.func30, Tryz.ntmps30
  go_wp2_with (fail)
  with_reducible refine HNM.out.mono ?_
  rintro r w7 ⟨rfl, hb7⟩; have HY7 := Lib.hid (HY.out.step hb7 (by simp)); have HB7 := Lib.hid (bl_trans HB0.out hb7); clear hb7 HNM HY; have hl7 := lt_of_heap HY7.out.b1; obtain ⟨d0, d1, -⟩ := blk2 HY7.out.b0; obtain ⟨f0, f1, ff⟩ := blk2 HY7.out.b1; go_wp2; have g5 : ((w7.setCell ⟨w.heap.size + 1, 0, none⟩ (.slice ae es.length ce)).setCell ⟨w.heap.size + 1, 1, none⟩ (.slice ad ds.length cd)).heap[w.heap.size + 1]? = some (.cells #[(.slice ae es.length ce), (.slice ad ds.length cd)] 70 (0, 0)) := heap_setCell_same _ _ _ _ _ _ (heap_setCell_same _ _ _ _ _ _ HY7.out.b1); have b5 : Below w.heap.size w ((w7.setCell ⟨w.heap.size + 1, 0, none⟩ (.slice ae es.length ce)).setCell ⟨w.heap.size + 1, 1, none⟩ (.slice ad ds.length cd)) := bl_set (bl_set HB7.out _ (by simp only; omega)) _ (by simp only; omega); obtain ⟨k0, k1, -⟩ := blk2 g5; generalize (w7.setCell ⟨w.heap.size + 1, 0, none⟩ (.slice ae es.length ce)).setCell ⟨w.heap.size + 1, 1, none⟩ (.slice ad ds.length cd) = w9 at *; refine bodyPost_ret (v := .tuple #[.agg #[(.slice ae es.length ce), (.slice ad ds.length cd)], .int .i64 6]) (by simp [results, Tryz.results30, go_sem, k0, k1]) rfl ?_; rw [HR.out]; exact BookE.old (by decide) HE.out HD.out b5
 | true =>
 have HNA := Lib.hid hq; clear hq
 by_cases ha : m < 1 ∨ 1125899906842624 < m
 · have HR := Lib.hid (py_amt (b := ⟨es, ds⟩) (t := tm) HNA.out ha)
   have hcs : (decide (m < 1) = true) ∨ (decide (m < 1) = false ∧ fitsM m = false) := by
    by_cases h1 : m < 1
    · exact .inl (by simpa using h1)
    · exact .inr ⟨by simpa using h1, fitsM_no (by omega)⟩
   clear ha
   go_enter Tryz.func30, Tryz.ntmps30
   go_wp2_with (fail)
   with_reducible refine HNM.out.mono ?_
   rintro r w7 ⟨rfl, hb7⟩; have HY7 := Lib.hid (HY.out.step hb7 (by simp)); have HB7 := Lib.hid (bl_trans HB0.out hb7); clear hb7 HNM HY; have hl7 := lt_of_heap HY7.out.b1; obtain ⟨d0, d1, -⟩ := blk2 HY7.out.b0; obtain ⟨f0, f1, ff⟩ := blk2 HY7.out.b1
   rcases hcs with h1 | ⟨h1, h2⟩
   · go_wp2_with (fail)
     have g5 : ((w7.setCell ⟨w.heap.size + 1, 0, none⟩ (.slice ae es.length ce)).setCell ⟨w.heap.size + 1, 1, none⟩ (.slice ad ds.length cd)).heap[w.heap.size + 1]? = some (.cells #[(.slice ae es.length ce), (.slice ad ds.length cd)] 70 (0, 0)) := heap_setCell_same _ _ _ _ _ _ (heap_setCell_same _ _ _ _ _ _ HY7.out.b1); have b5 : Below w.heap.size w ((w7.setCell ⟨w.heap.size + 1, 0, none⟩ (.slice ae es.length ce)).setCell ⟨w.heap.size + 1, 1, none⟩ (.slice ad ds.length cd)) := bl_set (bl_set HB7.out _ (by simp only; omega)) _ (by simp only; omega); obtain ⟨k0, k1, -⟩ := blk2 g5; generalize (w7.setCell ⟨w.heap.size + 1, 0, none⟩ (.slice ae es.length ce)).setCell ⟨w.heap.size + 1, 1, none⟩ (.slice ad ds.length cd) = w9 at *; refine bodyPost_ret (v := .tuple #[.agg #[(.slice ae es.length ce), (.slice ad ds.length cd)], .int .i64 13]) (by simp [results, Tryz.results30, go_sem, k0, k1]) rfl ?_; rw [HR.out]; exact BookE.old (by decide) HE.out HD.out b5
   · rw [h2] at HFI
     clear h2
     go_wp2_with (go_at_call 33; with_reducible refine (HFI.out _).mono ?_; rintro e w1 ⟨rfl, rfl⟩)
     have g5 : ((w7.setCell ⟨w.heap.size + 1, 0, none⟩ (.slice ae es.length ce)).setCell ⟨w.heap.size + 1, 1, none⟩ (.slice ad ds.length cd)).heap[w.heap.size + 1]? = some (.cells #[(.slice ae es.length ce), (.slice ad ds.length cd)] 70 (0, 0)) := heap_setCell_same _ _ _ _ _ _ (heap_setCell_same _ _ _ _ _ _ HY7.out.b1); have b5 : Below w.heap.size w ((w7.setCell ⟨w.heap.size + 1, 0, none⟩ (.slice ae es.length ce)).setCell ⟨w.heap.size + 1, 1, none⟩ (.slice ad ds.length cd)) := bl_set (bl_set HB7.out _ (by simp only; omega)) _ (by simp only; omega); obtain ⟨k0, k1, -⟩ := blk2 g5; generalize (w7.setCell ⟨w.heap.size + 1, 0, none⟩ (.slice ae es.length ce)).setCell ⟨w.heap.size + 1, 1, none⟩ (.slice ad ds.length cd) = w9 at *; refine bodyPost_ret (v := .tuple #[.agg #[(.slice ae es.length ce), (.slice ad ds.length cd)], .int .i64 13]) (by simp [results, Tryz.results30, go_sem, k0, k1]) rfl ?_; rw [HR.out]; exact BookE.old (by decide) HE.out HD.out b5
 have HAM := Lib.hid ha; have h1 : decide (m < 1) = false := by simp; omega
 rw [fitsM_yes (n := m) (by omega) (by omega)] at HFI; obtain ⟨q, hq⟩ : ∃ q, (decide (0 ≤ tm) && decide (tm ≤ 68719476736)) = q := ⟨_, rfl⟩; rw [hq] at HMA
 cases q with
 | false =>
  have HR := Lib.hid (py_time (b := ⟨es, ds⟩) HNA.out HAM.out hq); clear hq ha
  go_enter Tryz.func30, Tryz.ntmps30
  go_wp2_with (fail)
  with_reducible refine HNM.out.mono ?_
  rintro r w7 ⟨rfl, hb7⟩; have HY7 := Lib.hid (HY.out.step hb7 (by simp)); have HB7 := Lib.hid (bl_trans HB0.out hb7); clear hb7 HNM HY; have hl7 := lt_of_heap HY7.out.b1; obtain ⟨d0, d1, -⟩ := blk2 HY7.out.b0; obtain ⟨f0, f1, ff⟩ := blk2 HY7.out.b1
  go_wp2_with (first | (go_at_call 33; with_reducible refine (HFI.out _).mono ?_; rintro e w1 ⟨rfl, rfl⟩) | (go_at_call 63; with_reducible refine (HMA.out _).mono ?_; rintro e w1 ⟨rfl, rfl⟩))
  have g5 : ((w7.setCell ⟨w.heap.size + 1, 0, none⟩ (.slice ae es.length ce)).setCell ⟨w.heap.size + 1, 1, none⟩ (.slice ad ds.length cd)).heap[w.heap.size + 1]? = some (.cells #[(.slice ae es.length ce), (.slice ad ds.length cd)] 70 (0, 0)) := heap_setCell_same _ _ _ _ _ _ (heap_setCell_same _ _ _ _ _ _ HY7.out.b1); have b5 : Below w.heap.size w ((w7.setCell ⟨w.heap.size + 1, 0, none⟩ (.slice ae es.length ce)).setCell ⟨w.heap.size + 1, 1, none⟩ (.slice ad ds.length cd)) := bl_set (bl_set HB7.out _ (by simp only; omega)) _ (by simp only; omega); obtain ⟨k0, k1, -⟩ := blk2 g5; generalize (w7.setCell ⟨w.heap.size + 1, 0, none⟩ (.slice ae es.length ce)).setCell ⟨w.heap.size + 1, 1, none⟩ (.slice ad ds.length cd) = w9 at *; refine bodyPost_ret (v := .tuple #[.agg #[(.slice ae es.length ce), (.slice ad ds.length cd)], .int .i64 12]) (by simp [results, Tryz.results30, go_sem, k0, k1]) rfl ?_; rw [HR.out]; exact BookE.old (by decide) HE.out HD.out b5
 | true =>
 have HMO := Lib.hid (show momC tm = true from hq); clear hq ha
 go_enter Tryz.func30, Tryz.ntmps30
 go_wp2_with (fail)
 with_reducible refine HNM.out.mono ?_
 rintro r w7 ⟨rfl, hb7⟩; have HY7 := Lib.hid (HY.out.step hb7 (by simp)); have HB7 := Lib.hid (bl_trans HB0.out hb7); clear hb7 HNM HY; have hl7 := lt_of_heap HY7.out.b1; obtain ⟨d0, d1, -⟩ := blk2 HY7.out.b0
 go_wp2_with (first | (go_at_call 33; with_reducible refine (HFI.out _).mono ?_; rintro e w1 ⟨rfl, rfl⟩) | (go_at_call 63; with_reducible refine (HMA.out _).mono ?_; rintro e w1 ⟨rfl, rfl⟩))
 have hpl := pay_le (es := es); have hel := HBK.out.len; simp only at hel; clear d0 d1
 go_loopg [10, 39] es.length (fun gx cv i wr => ∃ k : Nat, k + gx = es.length ∧ i = .int .i64 k ∧ cv = .int .i64 (payN (es.take k) : Nat) ∧ Hid (Below w7.heap.size w7 wr))
 case atStart => exact ⟨0, by omega, rfl, rfl, Lib.hid (Below.refl _ _)⟩
 case round =>
  obtain ⟨k, hk, rfl, rfl, HBW⟩ := hrel
  by_cases hlt : k < es.length
  · obtain ⟨rfl, -, hbi, hok, hv, hsl, d0, d1, d2⟩ := HO.out wr (.of_below (HB7.out.trans (HBW.out.mono HB7.out.size))) k hlt
    have hps := Lib.hid (payN_succ hlt); have k0 : (0 : Int) ≤ (k : Int) := by omega
    have k1 : (k : Int) < (es.length : Int) := by omega
    have hpc : payN (es.take k) ≤ k := Nat.le_trans pay_le (by rw [List.length_take]; omega); generalize payN (es.take k) = pc at hps hpc; generalize es[k] = y at *
    obtain ⟨hva, hvn, hvc, hve⟩ : ∃ a n c, hv = .slice a n c := by
     obtain ⟨a, c, _, _, e, -⟩ := hsl; exact ⟨a, _, c, e⟩
    subst hve; have HPX := Lib.hid (fun W => Tryz.strings_HasPrefix y.key ⟨#[112, 97, 121, 35]⟩ W); obtain ⟨q, hq⟩ : ∃ q, Lib.hasPrefix y.key.data.toList [112, 97, 121, 35] = q := ⟨_, rfl⟩; have hq' : Lib.hasPrefix y.key.data.toList (⟨#[112, 97, 121, 35]⟩ : ByteArray).data.toList = q := hq; rw [hq] at hps; rw [hq'] at HPX; clear hq hq' hsl hok
    cases q with
    | true =>
     go_wp2_with (go_at_call 64; with_reducible refine (HPX.out _).mono ?_; rintro e w1 ⟨rfl, rfl⟩)
     go_roundg (es.length - (k + 1))
     case measure => omega
     case rel => exact ⟨k + 1, by omega, by go_num, by rw [hps.out]; go_num, Lib.hid (bl_alloc HBW.out _)⟩
    | false =>
     go_wp2_with (go_at_call 64; with_reducible refine (HPX.out _).mono ?_; rintro e w1 ⟨rfl, rfl⟩)
     go_roundg (es.length - (k + 1))
     case measure => omega
     case rel => exact ⟨k + 1, by omega, by go_num, by rw [hps.out]; go_num, Lib.hid (bl_alloc HBW.out _)⟩
  · have hkd : decide ((k : Int) < (es.length : Int)) = false := by simp; omega
    rw [show es.take k = es from List.take_of_length_le (by omega)]; have HYr := Lib.hid (HY7.out.step HBW.out hl7); have HBr := Lib.hid (HB7.out.trans (HBW.out.mono HB7.out.size)); clear HY7 HB7 hl7 HBW; have hl7 := lt_of_heap HYr.out.b1; have hma : 1 ≤ m ∧ m ≤ 1125899906842624 := by have := HAM.out; omega
    obtain ⟨pc, hpc⟩ : ∃ pc, payN es = pc := ⟨_, rfl⟩; rw [hpc] at hpl ⊢; have HPC := Lib.hid hpc; clear hpc; have hA3 := bl_alloc (Below.refl wr.heap.size wr) (.cells #[.string ⟨#[]⟩, .int .i64 0, .slice none 0 0] 105); have g3 := heap_alloc_new wr (.cells #[.string ⟨#[]⟩, .int .i64 0, .slice none 0 0] 105)
    go_upto_region 15 with (fail)
    generalize wr.alloc (.cells #[.string ⟨#[]⟩, .int .i64 0, .slice none 0 0] 105) = wb at hA3 g3 ⊢; have HY3 := Lib.hid (HYr.out.step hA3 hl7); have HB3 := Lib.hid (bl_trans HBr.out hA3); have HG3 := Lib.hid g3; have HKY := Lib.hid (show Calls Tryz.prog 34 #[.string ⟨#[112, 97, 121]⟩, .int .i64 (pc : Int)] wb fun e w' => e = .returned (.string (keyC sPay pc)) ∧ Below wb.heap.size wb w' from key_any sPay (pc : Int) wb (by decide) (by unfold i64ok; omega) ((HF.out _ (by unfold i64ok; omega)).step HB3.out)); have HKS := Lib.hid (show (keyC sPay pc).size ≤ 81 from keyC_size (s := sPay) (by decide) (by unfold i64ok; omega)); generalize hkk : keyC sPay (pc : Int) = kk at HKY HKS; clear hA3
    go_wp2_with (fail)
    with_reducible refine HKY.out.mono ?_
    rintro r w5 ⟨rfl, hb5⟩; have HB35 := Lib.hid (show Below wb.heap.size wb w5 from hb5); clear hb5 HKY; have g5 := (HB35.out.block _ (lt_of_heap HG3.out)).trans HG3.out; obtain ⟨q0, q1, q2, qf⟩ := blk3 g5; have hl5 : wr.heap.size < w5.heap.size := lt_of_heap g5; have HG5 := Lib.hid g5; clear g5 g3 HG3
    go_upto_region 16 with (fail)
    have g6 : ((w5.setCell ⟨wr.heap.size, 0, none⟩ (.string kk)).setCell ⟨wr.heap.size, 1, none⟩ (.int .i64 tm)).heap[wr.heap.size]? = some (.cells #[.string kk, .int .i64 tm, .slice none 0 0] 105 (0, 0)) := heap_setCell_same _ _ _ _ _ _ (heap_setCell_same _ _ _ _ _ _ HG5.out); have b6 : Below w.heap.size w ((w5.setCell ⟨wr.heap.size, 0, none⟩ (.string kk)).setCell ⟨wr.heap.size, 1, none⟩ (.int .i64 tm)) := bl_set (bl_set (bl_trans HB3.out HB35.out) _ HBr.out.size) _ HBr.out.size; have y6 := ((HY3.out.step HB35.out (by have := lt_of_heap HY3.out.b1; omega)).put (q := ⟨wr.heap.size, 0, none⟩) (by simp only; omega) (.string kk)).put (q := ⟨wr.heap.size, 1, none⟩) (by simp only; omega) (.int .i64 tm); generalize (w5.setCell ⟨wr.heap.size, 0, none⟩ (.string kk)).setCell ⟨wr.heap.size, 1, none⟩ (.int .i64 tm) = wc at g6 b6 y6 ⊢; have HYC := Lib.hid y6; have HBC := Lib.hid b6; have hl6 : wr.heap.size < wc.heap.size := lt_of_heap g6; obtain ⟨gd, hgd⟩ : ∃ gd, wr.heap.size = gd := ⟨_, rfl⟩; rw [hgd] at g6 hl6 hl7 ⊢; have HDW := Lib.hid (show DW wc.heap.size gd kk tm [] wc (.slice none 0 0) from ⟨g6, NewL.nil, lt_of_heap g6⟩); have HA1 := Lib.hid (show Calls Tryz.prog 65 #[.pointer (some ⟨gd, 0, none⟩), .string ⟨#[99, 97, 115, 104]⟩, .int .i64 m] wc _ from add_any wc.heap.size gd kk tm [] (.slice none 0 0) sCash m wc HDW.out (Nat.le_refl _) (by simp) (by decide) (nil_amt _) (by omega)); clear g6 b6 y6 q0 q1 q2 qf hl5 HG5 HY3 HB3 HB35 HYr HBr hgd
    go_wp2_with (fail)
    with_reducible refine HA1.out.mono ?_
    clear HA1; rintro r w7 ⟨rfl, ⟨v7, hd7⟩, hk7, hs7⟩; have hd7' : DW wc.heap.size gd kk tm [⟨sCash, m⟩] w7 v7 := hd7; have HD7 := Lib.hid hd7'; have HK7 := Lib.hid hk7
    have HSY := Lib.hid (show s.size ≤ 12 from by
     by_cases hq : nameP s
     · exact hq.2.1
     · have := HNA.out; rw [name_no hq] at this; cases this)
    have hsz : (sAcc ++ s).size ≤ maxLen := by rw [ByteArray.size_append]; show 8 + s.size ≤ _; have := HSY.out; unfold maxLen; omega
    have hneg : IntKind.i64.wrap (-m) = -m := wrap_in (by omega) (by omega); have HA2 := Lib.hid (show Calls Tryz.prog 65 #[.pointer (some ⟨gd, 0, none⟩), .string (⟨#[97, 99, 99, 111, 117, 110, 116, 58]⟩ ++ s), .int .i64 (-m)] w7 _ from add_any wc.heap.size gd kk tm [⟨sCash, m⟩] v7 (sAcc ++ s) (-m) w7 HD7.out hs7 (by simp) hsz (fun p hp => by rw [List.mem_singleton] at hp; subst hp; show -4611686018427387904 ≤ m ∧ m ≤ 4611686018427387904; omega) (by omega)); have hcz : ¬ (9223372036854775807 < 8 + s.size) := by have := HSY.out; omega
    have hne : sCash ≠ sAcc ++ s := fun e => by
     have h1 := congrArg (fun b : ByteArray => b.data.toList[0]?) e
     have h2 : (sAcc ++ s).data.toList = [97, 99, 99, 111, 117, 110, 116, 58] ++ s.data.toList := by
      show (sAcc ++ s).data.toList = sAcc.data.toList ++ s.data.toList
      simp
     simp only [h2] at h1; exact absurd (show some (99 : UInt8) = some 97 from h1) (by decide)
    have HAD := Lib.hid (show addP [⟨sCash, m⟩] (sAcc ++ s) (-m) = [⟨sCash, m⟩, ⟨sAcc ++ s, -m⟩] by rw [addP, if_neg hne]; rfl); clear hd7 hd7' hk7 hne
    go_wp2_with (fail)
    with_reducible refine HA2.out.mono ?_
    clear HA2; rintro r w8 ⟨rfl, ⟨v8, hd8⟩, hk8, hs8⟩; rw [HAD.out] at hd8; obtain ⟨a8, c8, rfl, -⟩ := hd8.own.form; have HY8 := Lib.hid ((HYC.out.same fun j h1 h2 => HK7.out.same j ⟨by omega, by omega⟩).same fun j h1 h2 => hk8.same j ⟨by omega, by omega⟩); have HB8 := Lib.hid (show Below w.heap.size w w8 from (HBC.out.trans (HK7.out.bel.mono (by omega))).trans (hk8.bel.mono (by omega))); have HPO := Lib.hid (post_any w.heap.size es (.slice ae es.length ce) ⟨kk, tm, [⟨sCash, m⟩, ⟨sAcc ++ s, -m⟩]⟩ (.slice a8 2 c8) w8 HB8.out.size (HE.out.keep (fun _ h => h) (.of_below HB8.out)) hd8.own.sl' ⟨Nat.le_trans HKS.out (by decide), HTM.out⟩ HBK.out.es (by omega) (by simp)); obtain ⟨e0, e1, e2, -⟩ := blk3 hd8.box; obtain ⟨d0, d1, -⟩ := blk2 HY8.out.b0; clear hd8 hk8 HK7 HD7
    go_wp2_with (fail)
    with_reducible refine HPO.out.mono ?_
    clear HPO; rintro r w9 ⟨⟨ve9, rfl, hs9⟩, hb9⟩; have HY9 := Lib.hid (HY8.out.step hb9 (by omega)); have HB9 := Lib.hid (bl_trans HB8.out hb9); obtain ⟨⟨es9, z9⟩, hen⟩ : ∃ r, postL es ⟨kk, tm, [⟨sCash, m⟩, ⟨sAcc ++ s, -m⟩]⟩ = r := ⟨_, rfl⟩; rw [hen] at hs9 ⊢; simp only at hs9 ⊢; have hs9' : SlIs (tEnt 101) (· < w9.heap.size) w9 ve9 es9 := hs9.keep (fun _ h => h.2) (SameOn.refl _ _); obtain ⟨a9, c9, _, _, rfl, -⟩ := id hs9'; have HS9 := Lib.hid hs9'; have HEN := Lib.hid (show postL es ⟨keyC sPay (payN es), tm, [⟨sCash, m⟩, ⟨sAcc ++ s, -m⟩]⟩ = (es9, z9) by rw [HPC.out, hkk]; exact hen); have HRR := Lib.hid (py_s (b := ⟨es, ds⟩) HNA.out HAM.out HMO.out HEN.out); have hl9 := lt_of_heap HY9.out.b1; clear hs9 hs9' hb9 hen e0 e1 e2 d0 d1; obtain ⟨d0, d1, -⟩ := blk2 HY9.out.b0; obtain ⟨f0, f1, ff⟩ := blk2 HY9.out.b1; have m0 : w.heap.size < w9.heap.size := by omega
    by_cases hz9 : z9 = 0
    case neg =>
     have HR := Lib.hid (HRR.out.trans (if_pos hz9)); have hz1 : (z9 != 0) = true := by simpa using hz9
     clear hz9; go_wp2; have g5 := alloc1_old (.cells #[.slice a9 es9.length c9] 68) (show ((w9.setCell ⟨w.heap.size + 1, 0, none⟩ (.slice ae es.length ce)).setCell ⟨w.heap.size + 1, 1, none⟩ (.slice ad ds.length cd)).heap[w.heap.size + 1]? = some (.cells #[(.slice ae es.length ce), (.slice ad ds.length cd)] 70 (0, 0)) from heap_setCell_same _ _ _ _ _ _ (heap_setCell_same _ _ _ _ _ _ HY9.out.b1)); have b5 : Below w.heap.size w (((w9.setCell ⟨w.heap.size + 1, 0, none⟩ (.slice ae es.length ce)).setCell ⟨w.heap.size + 1, 1, none⟩ (.slice ad ds.length cd)).alloc (.cells #[.slice a9 es9.length c9] 68)) := bl_alloc (bl_set (bl_set HB9.out _ (by simp only; omega)) _ (by simp only; omega)) _; obtain ⟨k0, k1, -⟩ := blk2 g5; generalize ((w9.setCell ⟨w.heap.size + 1, 0, none⟩ (.slice ae es.length ce)).setCell ⟨w.heap.size + 1, 1, none⟩ (.slice ad ds.length cd)).alloc (.cells #[.slice a9 es9.length c9] 68) = wz at *; refine bodyPost_ret (v := .tuple #[.agg #[(.slice ae es.length ce), (.slice ad ds.length cd)], .int .i64 z9]) (by simp [results, Tryz.results30, go_sem, k0, k1]) rfl ?_; rw [HR.out]; exact BookE.old (by simpa using hz1) HE.out HD.out b5
    subst hz9; have HR := Lib.hid (HRR.out.trans (if_neg (by simp))); clear HRR; obtain ⟨q1, q2, -⟩ := post_facts HEN.out; have hds8 := HBK.out.ds; simp only at hds8; have hAl := bl_alloc (Below.refl w9.heap.size w9) (.cells #[.slice a9 es9.length c9] 68)
    have HCL := Lib.hid (bclone_any es9 ds (.slice a9 es9.length c9) (.slice ad ds.length cd) (w9.alloc (.cells #[.slice a9 es9.length c9] 68)) (HS9.out.step hAl) (HD.out.keep (fun j (hj : j < w.heap.size) => Nat.lt_of_lt_of_le hj (Nat.le_trans HB9.out.size hAl.size)) (.of_below (HB9.out.trans (hAl.mono HB9.out.size)))) (by rw [q1, List.length_append]; simp; omega) (by omega) (fun e he => by
     rw [q1] at he
     rcases List.mem_append.1 he with he | he
     · have := (HBK.out.es e he).ps; omega
     · rw [List.mem_singleton] at he; subst he; simp) (fun y hy => by have := (HBK.out.cok y hy).ls; omega))
    have HBA := Lib.hid (HB9.out.trans (hAl.mono HB9.out.size)); have HYA := Lib.hid (HY9.out.step hAl hl9); clear hAl q1 q2
    go_wp2_with (fail)
    with_reducible refine HCL.out.mono ?_
    clear HCL; rintro r w11 ⟨ve2, vd2, mm, rfl, hm, hm11, hs2, hn2, hb11⟩; obtain ⟨ae2, ce2, _, _, rfl, -⟩ := id hs2; obtain ⟨ad2, cd2, rfl, hcd2, hcd3⟩ := hn2.form; have HY11 := Lib.hid (HYA.out.step hb11 (by have := lt_of_heap HYA.out.b1; omega)); have HB11 := Lib.hid (bl_trans HBA.out hb11); have hm9 : w9.heap.size + 1 ≤ mm := by simpa using hm
    have HSE := Lib.hid (show SlIs (tEnt 101) (fun j => w.heap.size + 2 ≤ j ∧ j < w11.heap.size) w11 (.slice ae2 es9.length ce2) es9 from hs2.keep (fun j hj => ⟨by have h1 := hj.1; simp only [World.size_alloc] at h1; omega, Nat.lt_of_lt_of_le hj.2 hm11⟩) (SameOn.refl _ _)); have HSD := Lib.hid (show SlIs (tChg eL) (fun j => w.heap.size + 2 ≤ j ∧ j < w11.heap.size) w11 (.slice ad2 ds.length cd2) ds from hn2.sl.keep (fun j hj => ⟨by omega, hj.2⟩) (SameOn.refl _ _)); have HPX := Lib.hid (NewL.sl hn2); clear hs2 hn2 hb11 hm d0 d1 f0 f1 ff HBA HYA HPX; obtain ⟨f0, f1, ff⟩ := blk2 HY11.out.b1; have hl11 := lt_of_heap HY11.out.b1; go_wp2; have g5 : ((w11.setCell ⟨w.heap.size + 1, 0, none⟩ (.slice ae2 es9.length ce2)).setCell ⟨w.heap.size + 1, 1, none⟩ (.slice ad2 ds.length cd2)).heap[w.heap.size + 1]? = some (.cells #[.slice ae2 es9.length ce2, .slice ad2 ds.length cd2] 70 (0, 0)) := heap_setCell_same _ _ _ _ _ _ (heap_setCell_same _ _ _ _ _ _ HY11.out.b1); have b5 : Below w.heap.size w ((w11.setCell ⟨w.heap.size + 1, 0, none⟩ (.slice ae2 es9.length ce2)).setCell ⟨w.heap.size + 1, 1, none⟩ (.slice ad2 ds.length cd2)) := bl_set (bl_set HB11.out _ (by simp only; omega)) _ (by simp only; omega); have hoth : ∀ q, w.heap.size + 2 ≤ q → ((w11.setCell ⟨w.heap.size + 1, 0, none⟩ (.slice ae2 es9.length ce2)).setCell ⟨w.heap.size + 1, 1, none⟩ (.slice ad2 ds.length cd2)).heap[q]? = w11.heap[q]? := fun q hq => (Below.heap_setCell _ _ _ _ (by simp only; omega)).trans (Below.heap_setCell _ _ _ _ (by simp only; omega))
    have hz17 : w11.heap.size = ((w11.setCell ⟨w.heap.size + 1, 0, none⟩ (.slice ae2 es9.length ce2)).setCell ⟨w.heap.size + 1, 1, none⟩ (.slice ad2 ds.length cd2)).heap.size := by simp
    obtain ⟨t0, t1, -⟩ := blk2 g5; clear f0 f1 ff; generalize (w11.setCell ⟨w.heap.size + 1, 0, none⟩ (.slice ae2 es9.length ce2)).setCell ⟨w.heap.size + 1, 1, none⟩ (.slice ad2 ds.length cd2) = wf at *; refine bodyPost_ret (v := .tuple #[.agg #[.slice ae2 es9.length ce2, .slice ad2 ds.length cd2], .int .i64 0]) (by simp [results, Tryz.results30, go_sem, t0, t1]) rfl ?_; rw [HR.out]; exact ⟨.slice ae2 es9.length ce2, .slice ad2 ds.length cd2, rfl, HSE.out.keep (fun q hq => ⟨fun _ => by omega, by omega⟩) (fun q hq => hoth q hq.1), HSD.out.keep (fun q hq => ⟨fun _ => by omega, by omega⟩) (fun q hq => hoth q hq.1), b5, fun h => absurd rfl h⟩
end Go.Proofs.YtifcelebfagjbaaGreatDoor
namespace Go.Tw.Po
open Go.RowKit Go.Tw Go.Sort Go.Tw.Ord Go.Proofs.YtifcelebfagjbaaGreatDoor
def kX : ByteArray := ⟨#[116, 58, 99, 49, 46, 53]⟩
def aX : ByteArray := ⟨#[99, 97, 115, 101, 58, 65, 66, 49, 50]⟩
def rX : ByteArray := ⟨#[114, 101, 118, 101, 110, 117, 101, 58, 109]⟩
def nX : ByteArray := ⟨#[97, 110, 110]⟩
def naX : ByteArray := ⟨#[97, 99, 99, 111, 117, 110, 116, 58, 97, 110, 110]⟩
def cX : Chg := ⟨kX, ⟨#[65, 66, 49, 50]⟩, ⟨#[109]⟩, 1, 100, [⟨⟨#[98, 97, 115, 101]⟩, 400⟩], 400⟩
def e0X : Ent := ⟨⟨#[116, 58, 99, 49, 46, 53, 35, 48]⟩, 100, [⟨aX, 400⟩, ⟨rX, -400⟩]⟩
def p0X : Ent := ⟨⟨#[112, 97, 121, 35, 48]⟩, 200, [⟨sCash, 50⟩, ⟨naX, -50⟩]⟩
def v0X : Ent := ⟨⟨#[116, 58, 99, 49, 46, 53, 35, 49]⟩, 300, [⟨aX, -400⟩, ⟨rX, 400⟩]⟩
theorem fld {s : ByteArray} (h : (decide (s.size ≠ 0) && s.data.toList.all fun c => decide (33 ≤ c.toNat) && decide (c.toNat ≤ 126)) = true) : fieldC s = true := by
 simp only [Bool.and_eq_true, decide_eq_true_eq, List.all_eq_true] at h; refine field_yes ⟨h.1, fun i hi => ?_⟩
 have := h.2 s[i] (by
  show s.data[i] ∈ s.data.toList
  exact Array.getElem_mem_toList _)
 exact this
theorem chkX : chkC cX = 0 := by decide
theorem debX : debC [] cX = aX := by decide
theorem creX : creC cX = rX := by decide
theorem fmtd {i : Nat} (h : i < 10) : fmtS (i : Int) = ⟨#[UInt8.ofNat (48 + i)]⟩ := by
 unfold fmtS Lib.itoa; rw [if_neg (by omega), Int.toNat_natCast, Lib.decDigits_one h]
 rfl
theorem key0 : keyC kX ((0 : Nat) : Int) = ⟨#[116, 58, 99, 49, 46, 53, 35, 48]⟩ := by unfold keyC; rw [fmtd (by decide)]; decide
theorem key1 : keyC kX ((1 : Nat) : Int) = ⟨#[116, 58, 99, 49, 46, 53, 35, 49]⟩ := by unfold keyC; rw [fmtd (by decide)]; decide
theorem key2 : keyC kX 2 = ⟨#[116, 58, 99, 49, 46, 53, 35, 50]⟩ := by unfold keyC; rw [show (2 : Int) = ((2 : Nat) : Int) from rfl, fmtd (by decide)]; decide
theorem keyp : keyC sPay ((0 : Nat) : Int) = ⟨#[112, 97, 121, 35, 48]⟩ := by unfold keyC; rw [fmtd (by decide)]; decide
theorem entX (s : ByteArray) (t : Int) (a b : ByteArray) (m n : Int) (h1 : fieldC s = true) (h2 : 0 ≤ t ∧ t ≤ 68719476736) (h3 : fieldC a = true) (h4 : fieldC b = true) (h5 : m ≠ 0 ∧ n ≠ 0) (h6 : fitsM m = true ∧ fitsM n = true) (h7 : m + n = 0) : entC ⟨s, t, [⟨a, m⟩, ⟨b, n⟩]⟩ = 0 := by
 rw [ent_s h1, if_neg (by simp only; omega), if_neg (by simp), if_neg (by simp)]
 have hp : orL ([(⟨a, m⟩ : SI), ⟨b, n⟩].map postE) = 0 := by
  rw [List.map_cons, List.map_cons, List.map_nil, postE_0 h3 h5.1 h6.1, postE_0 h4 h5.2 h6.2]
  rfl
 show postsC [⟨a, m⟩, ⟨b, n⟩] = 0
 rw [posts_sum hp, if_neg]
 show ¬ (sumL [⟨a, m⟩, ⟨b, n⟩] ≠ 0)
 simp [sumL, h7]
theorem fa : fieldC aX = true := fld (by decide)
theorem fr : fieldC rX = true := fld (by decide)
theorem fn : fieldC naX = true := fld (by decide)
theorem fc : fieldC sCash = true := fld (by decide)
theorem e0ok : entC e0X = 0 := entX _ _ _ _ _ _ (fld (by decide)) (by decide) fa fr (by decide) (by decide) (by decide)
theorem v0ok : entC v0X = 0 := entX _ _ _ _ _ _ (fld (by decide)) (by decide) fa fr (by decide) (by decide) (by decide)
theorem p0ok : entC p0X = 0 := entX _ _ _ _ _ _ (fld (by decide)) (by decide) fc fn (by decide) (by decide) (by decide)
theorem postX1 : postL [] e0X = ([e0X], 0) := by
 unfold postL; rw [e0ok, if_neg (by simp), if_neg (by decide), if_pos (by decide)]; rfl
theorem postX2 : postL [e0X] p0X = ([e0X, p0X], 0) := by
 unfold postL; rw [p0ok, if_neg (by simp), if_neg (by decide), if_pos (by decide)]; rfl
theorem postX3 : postL [e0X] v0X = ([e0X, v0X], 0) := by
 unfold postL; rw [v0ok, if_neg (by simp), if_neg (by decide), if_pos (by decide)]; rfl
theorem moveX (n : Int) (_h : n ≠ 0) : moveP [] [] cX n = [⟨aX, n⟩, ⟨rX, -n⟩] := by
 unfold moveP; rw [debX, creX, addP, addP, if_neg (show aX ≠ rX by decide), addP]
theorem cleanX (a b : ByteArray) (n : Int) (h : n ≠ 0) : cleanP [⟨a, n⟩, ⟨b, -n⟩] = [⟨a, n⟩, ⟨b, -n⟩] := by
 unfold cleanP; rw [List.filter_cons, if_pos (by simpa using h), List.filter_cons, if_pos (by simpa using h), List.filter_nil]
theorem applyX : applyP [] ⟨[], []⟩ cX = (⟨[e0X], [cX]⟩, 0) := by
 unfold applyP; rw [chkX, if_neg (by simp)]
 have h1 : enterL [] (keyC cX.key (verN [] cX.key)) cX.tm (postsA [] [] cX) = ([e0X], 0) := by
  have h2 : postsA [] [] cX = [⟨aX, 400⟩, ⟨rX, -400⟩] := moveX 400 (by decide); rw [h2]; unfold enterL; rw [cleanX aX rX 400 (by decide), if_neg (by simp)]; exact (show postL [] ⟨keyC kX ((0 : Nat) : Int), 100, [⟨aX, 400⟩, ⟨rX, -400⟩]⟩ = _ from by rw [key0]; exact postX1)
 simp only [h1]
 rfl
theorem payX : payP ⟨[e0X], [cX]⟩ nX 50 200 = (⟨[e0X, p0X], [cX]⟩, 0) := by
 unfold payP
 have hn : nameC nX = true := name_yes (by
  refine ⟨by decide, by decide, fun i h => ?_⟩; have h3 : i < 3 := h; have : i = 0 ∨ i = 1 ∨ i = 2 := by omega
  rcases this with rfl | rfl | rfl
  · exact (show nb 0 (nX[0]'(by decide)) from by unfold nb; decide)
  · exact (show nb 1 (nX[1]'(by decide)) from by unfold nb; decide)
  · exact (show nb 2 (nX[2]'(by decide)) from by unfold nb; decide))
 rw [hn, if_neg (by decide), if_neg (by decide), if_neg (by decide)]
 have h1 : postL [e0X] ⟨keyC sPay (payN [e0X]), 200, [⟨sCash, 50⟩, ⟨sAcc ++ nX, -50⟩]⟩ = ([e0X, p0X], 0) := by
  have h2 : payN [e0X] = 0 := by decide
  rw [h2]; exact (show postL [e0X] ⟨keyC sPay ((0 : Nat) : Int), 200, [⟨sCash, 50⟩, ⟨sAcc ++ nX, -50⟩]⟩ = _ from by rw [keyp]; exact postX2)
 simp only [h1]
 rfl
theorem voidX : voidP [] ⟨[e0X], [cX]⟩ kX 300 = (⟨[e0X, v0X], []⟩, 0) := by
 have hf : fndC [cX] kX = some cX := by decide
 have h1 : enterL [e0X] (keyC kX (verN [e0X] kX)) 300 (moveP [] [] cX (-cX.c)) = ([e0X, v0X], 0) := by
  rw [show moveP [] [] cX (-cX.c) = [⟨aX, -400⟩, ⟨rX, - -400⟩] from moveX (-400) (by decide)]; unfold enterL; rw [cleanX aX rX (-400) (by decide), if_neg (by simp)]; have h2 : verN [e0X] kX = 1 := by decide
  rw [h2]; exact (show postL [e0X] ⟨keyC kX ((1 : Nat) : Int), 300, [⟨aX, -400⟩, ⟨rX, - -400⟩]⟩ = _ from by rw [key1]; exact postX3)
 rw [vo_s (b := ⟨[e0X], [cX]⟩) hf (by decide) h1, if_neg (by simp)]
 rfl
theorem syncX : syncP [] ⟨[], []⟩ [cX] 300 = (⟨[e0X], [cX]⟩, 0) := by
 refine sy_ok (b1 := ⟨[e0X], [cX]⟩) (by simp [keysC]) ?_ ?_
 · have hs : sortC [cX] = [cX] := by
     have := sortL_perm (c := chgC) [cX]; exact List.perm_singleton.1 this
   rw [hs, runA, applyX, if_neg (by simp), runA]
 · have hg : goneK [cX] [cX] = [] := by decide
   rw [hg, runV]
theorem entryX : entryP [] cX 100 2 = (⟨⟨#[116, 58, 99, 49, 46, 53, 35, 50]⟩, 100, [⟨aX, 300⟩, ⟨rX, -300⟩]⟩, 0) := by
 rw [ey_s chkX, if_neg (by decide), if_neg (by decide), if_neg (by decide)]; rw [show cX.c - 100 = 300 from rfl, moveX 300 (by decide)]
 show (Ent.mk (keyC kX 2) 100 _, (0 : Int)) = _
 rw [key2]
theorem postedX : postedC [cX] kX = 400 := by decide
theorem postedY : postedC [] kX = 0 := by decide
theorem balX : balL naX [e0X, p0X] = -50 := by decide
theorem checkX : checkP ⟨[e0X, p0X], [cX]⟩ = 0 := by
 refine ck_0 ?_ ?_ ?_ ?_
 · show orL [entC e0X, entC p0X] = 0
   rw [e0ok, p0ok]; rfl
 · show [e0X.key, p0X.key].Nodup
   decide
 · show orL [chkC cX] = 0
   rw [chkX]; rfl
 · intro i h
   exact absurd h (by show ¬ i + 1 < 1; omega)
theorem checkY : checkP ⟨[], [zeroC]⟩ = 6 := by
 have h1 : orL ([zeroC].map chkC) = 6 := by decide
 have := ck_c (b := ⟨[], [zeroC]⟩) rfl (by simp [keysE]) (by simp only; rw [h1]; decide); rw [this]; exact h1
end Go.Tw.Po
