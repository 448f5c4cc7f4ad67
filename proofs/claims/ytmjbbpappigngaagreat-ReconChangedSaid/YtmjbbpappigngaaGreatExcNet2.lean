/-
  Layers 42, 43: the walks of Net, claims, Claims.
-/
import Derived.Test.YtmjbbpappigngaaGreatExcSort
import Derived.Test.YtmjbbpappigngaaGreatExcRecv
namespace Go.Tw.Exc
open Go.RowKit Go.Tw
theorem amount_bound (y : ByteArray) (l : List Rec) : (∀ r ∈ l, -1125899906842624 ≤ r.c ∧ r.c ≤ 1125899906842624) → -(l.length : Int) * 1125899906842624 ≤ amountC l y ∧ amountC l y ≤ (l.length : Int) * 1125899906842624 := by
  refine snocRec (p := fun l => (∀ r ∈ l, -1125899906842624 ≤ r.c ∧ r.c ≤ 1125899906842624) → -(l.length : Int) * 1125899906842624 ≤ amountC l y ∧ amountC l y ≤ (l.length : Int) * 1125899906842624) ?_ ?_ l
  · intro _
    exact ⟨by simp [amountC], by simp [amountC]⟩
  · intro l x ih h
    obtain ⟨i1, i2⟩ := ih (fun r hr => h r (by simp [hr]))
    obtain ⟨x1, x2⟩ := h x (by simp)
    rw [amount_snoc, List.length_append]
    by_cases e : x.key = y
    · rw [if_pos e]
      exact after_bound i1 i2 x1 x2
    · rw [if_neg e]
      simp only [List.length_cons, List.length_nil]
      omega
/-- an own row of records, opened -/
theorem OwnSl.row {w : World} {e : TypeId} {B : Nat} {v : Value} {l : List Rec} (h : OwnSl tRec e B w v l) (hpos : 0 < l.length) : ∃ g cap, v = .slice (some ⟨g, 0, none⟩) l.length cap ∧ B ≤ g ∧ g < w.heap.size ∧ l.length ≤ cap ∧ cap ≤ 9223372036854775807 ∧
    ∀ w', Below w.heap.size w w' → (∀ j, w'.frozen? ⟨g, j, none⟩ = false) ∧ ∀ k (_ : k < l.length), RecOk l[k] ∧ w'.cell? ⟨g, k * 5 + 2, none⟩ = some (.int .i64 l[k].t) ∧ w'.cell? ⟨g, k * 5 + 3, none⟩ = some (.int .i64 l[k].c) := by
  have hsl := h.sl
  obtain ⟨css, h1, -⟩ := h
  rcases h1.2 with ⟨-, hz⟩ | ⟨g, cap, cur, rfl, q1, q2, q3, q4, q5, q6⟩
  · omega
  · refine ⟨g, cap, rfl, q1, lt_of_heap q2, q3, q4, fun w' hb => ⟨fun j => frozen_of_row _ _ j _ _ ((hb.block _ (lt_of_heap q2)).trans q2), fun k hk => ?_⟩⟩
    obtain ⟨_, _, b, off, hv, -, -, ho⟩ := rec_open hsl
    obtain ⟨r1, -, -, r2, -, -, r3, r4, -⟩ := ho w' (.of_below hb) k hk
    simp only [Value.slice.injEq] at hv
    rw [← hv.1] at r1
    simp only [Option.some.injEq, Addr.mk.injEq] at r1
    obtain ⟨rfl, rfl, -⟩ := r1
    rw [Nat.zero_add] at r3 r4
    exact ⟨r2, r3, r4⟩
theorem wpList_append_oneH {α : Type} {P : Program} {w : World} {ops : Array Oper} {rest : List Oper} {o : Oper} {a : Act} {Q : Exit → Act → World → Prop} (s x : Operand) (hgd : o.guard = none) (t : TypeId)
    (ho : o.op = .call { callee := .builtin .append, args := #[s, x], argTypes := #[t, t] }) {T : Ty α} {e e' : TypeId} {bytes B : Nat} (hT : SlT P t e T.sz bytes) {v : Value} {l : List α} {y : α} {cs : Array Value} {S : Nat → Prop} (hs : a.eval s = v) (hown : OwnSl T e B w v l)
    (hx : a.eval x = .slice (some ⟨w.heap.size, 0, none⟩) 1 1) (hy : T.is S w cs.toList y) (hS : ∀ k, S k → k < w.heap.size ∧ some k ≠ v.ownBlock) (hbytes : (l.length + 1) * bytes ≤ 140737488355328) (h63 : l.length + 1 ≤ maxLen) (hB : B ≤ w.heap.size)
    (h : ∀ v' w', OwnSl T e B w' v' (l ++ [y]) → (w.alloc (.cells cs e')).grownBy w' v.ownBlock → Below B w w' → (v'.ownBlock = v.ownBlock ∨ v'.ownBlock = some (w.heap.size + 1)) → wpList P ops Q rest (a.put o.dst v') w') : wpList P ops Q (o :: rest) a (w.alloc (.cells cs e')) :=
  wpList_append_sl s x hgd t ho hT hs (hown.alloc _) hx (SlIs.single hy (fun k hk => (hS k hk).1)) (fun k hk => by
      rcases hk with hk | rfl
      · have := hS k hk
        exact ⟨by simp; omega, this.2⟩
      · exact ⟨by simp, fun e => by have := (hown.own_lt _ e.symm).2; omega⟩)
    hbytes h63 (by simp; omega) fun v' w' h2 h3 h4 => h v' w' h2 h3 (((Below.refl _ _).alloc hB _).trans (Below.of_grown h3 (by simp; omega) (fun k hk => (hown.own_lt k hk).1))) (by simpa using h4)
theorem netStep_len (out : List Rec) (x : Rec) : (netStep out x).length ≤ out.length + 1 := by
  cases h : idxK out x.key with
  | none => rw [netStep_none h]; simp
  | some i => obtain ⟨hi, -⟩ := idxK_some h; rw [netStep_some h hi]; simp
theorem netGo_len (l : List Rec) : (netGo l).length ≤ l.length := by
  refine snocRec (p := fun l => (netGo l).length ≤ l.length) (Nat.le_refl _) ?_ l
  intro l x ih
  rw [netGo_snoc, List.length_append]
  have := netStep_len (netGo l) x
  simp only [List.length_cons, List.length_nil]
  omega
theorem newR_ok {key : ByteArray} (h : key.size ≤ maxLen) : RecOk (newR key) := ⟨(show i64ok 1 by unfold i64ok; decide), h, (show i64ok 0 by unfold i64ok; decide), (show i64ok 0 by unfold i64ok; decide), (show i64ok 0 by unfold i64ok; decide)⟩
end Go.Tw.Exc
namespace Go.Proofs.YtmjbbpappigngaaGreat
open Go.RowKit Go.Tw Go.Tw.Exc
/-- what a round of Net's loop leaves -/
def NetSt (m B : Nat) (w0 : World) (out : List Rec) (n : Nat) (w : World) (v : Value) : Prop := OwnSl tRec 49 B w v out ∧ MapIs kStr w m (fO out) n ∧ Below m w0 w
set_option maxRecDepth 100000 in
set_option maxHeartbeats 8000000 in
theorem net_any (l : List Rec) (v : Value) (w : World) (h : SlIs tRec (· < w.heap.size) w v l) (hlen : l.length ≤ 1000) (hc : ∀ r ∈ l, -1125899906842624 ≤ r.c ∧ r.c ≤ 1125899906842624) :
    Calls Tryz.prog 64 #[v] w fun e w' => (∃ v' l', e = .returned v' ∧ l'.Perm (netGo l) ∧ SlIs tRec (· < w'.heap.size) w' v' l') ∧ Below w.heap.size w w' := by
  obtain ⟨ao, cp, bb, off, rfl, hl1, hl2, ho⟩ := rec_open h
  have HH := Lib.hid h
  unfold maxLen at hl2
  have HCC := Lib.hid hc
  clear h hc
  have hmm := @run_makeMap Tryz.prog
  go_enter Tryz.func64, Tryz.ntmps64
  go_wp2
  clear hmm
  go_loopg [12, 4] l.length (fun g i v wr => ∃ (k : Nat) (v0 : Value), v0 = v ∧ k + g = l.length ∧ i = .int .i64 k ∧ NetSt w.heap.size (w.heap.size + 1) w (netGo (l.take k)) k wr v0)
  case atStart => exact ⟨0, _, rfl, by omega, rfl, OwnSl.nil _ _ _ _, MapIs.made _, bl_alloc (Below.refl _ _) _⟩
  case round =>
    obtain ⟨k, v0, rfl, hk, rfl, hown, hmap, hbl⟩ := hrel
    have HBL := Lib.hid hbl
    have hms := hmap.lt
    by_cases hlt : k < l.length
    · obtain ⟨rfl, hbw, hbs, hok, c0, c1, c2, c3, c4⟩ := ho wr (.of_below hbl) k hlt
      have hcx := HCC.out l[k] (List.getElem_mem hlt)
      have HSTP := Lib.hid (show netGo (l.take (k + 1)) = netStep (netGo (l.take k)) l[k] by rw [List.take_succ_eq_append_getElem hlt, netGo_snoc])
      have hnet := net_is (l.take k)
      obtain ⟨x, hx⟩ : ∃ x, l[k] = x := ⟨_, rfl⟩
      rw [hx] at c0 c1 c2 c3 c4 hok HSTP hcx
      obtain ⟨out, hout⟩ : ∃ out, netGo (l.take k) = out := ⟨_, rfl⟩
      rw [hout] at hown hmap HSTP hnet
      have hsz := hbl.size
      have hxt := hok.t
      have hms2 : w.heap.size < wr.heap.size := hms
      have HOK := Lib.hid hok
      have hol : out.length ≤ 1000 := by
        have := netGo_len (l.take k)
        rw [hout, List.length_take] at this
        omega
      clear hout ho hbl hok
      cases hid : idxK out x.key with
      | some i =>
        obtain ⟨hi, hki⟩ := idxK_some hid
        have HSTP2 := Lib.hid (HSTP.out.trans (netStep_some hid hi))
        have HMX := Lib.hid (fun y => (fO_set (r := bump out[i] x) hi rfl y).symm)
        obtain ⟨g, cap, rfl, hg1, hg2, hg3, hg4, hrw⟩ := Go.Tw.Exc.OwnSl.row hown (by omega)
        have hamt := amount_bound out[i].key (l.take k) (fun r hr => HCC.out r (List.mem_of_mem_take hr))
        rw [← hnet.amt _ (List.getElem_mem hi), List.length_take] at hamt
        have HO := Lib.hid hown
        have HM := Lib.hid hmap
        have hlk : ∀ o, (Instr.lookup 84 (.map (some w.heap.size)) (.string x.key) true).run Tryz.prog (wr.alloc o) = .ok (.tuple #[.int .i64 i, .bool true]) (wr.alloc o) := fun o => by
          have := (hmap.alloc o).look Tryz.underlying84 Tryz.underlying9 (z := .int .i64 0) (by kernel_rfl) x.key true
          unfold fO at this
          rw [hid] at this
          exact this
        clear hnet hid hown hmap HSTP hx
        have i0 : (0 : Int) ≤ (i : Int) := by omega
        have i1 : (i : Int) < (out.length : Int) := by omega
        have k0 : (0 : Int) ≤ (k : Int) := by omega
        have k1 : (k : Int) < (l.length : Int) := by omega
        have hgn : ¬ g = wr.heap.size := by omega
        have hgn2 : ¬ wr.heap.size = g := by omega
        go_upto_region 11 with (fail)
        clear hlk
        obtain ⟨W, hW⟩ : ∃ W, wr.alloc (.cells #[.int .i64 x.k, .string x.key, .int .i64 x.t, .int .i64 x.c, .int .i64 x.y] 49) = W := ⟨_, rfl⟩
        have hWb := heap_alloc_new wr (.cells #[.int .i64 x.k, .string x.key, .int .i64 x.t, .int .i64 x.c, .int .i64 x.y] 49)
        have hbW : Below wr.heap.size wr W := by rw [← hW]; exact bl_alloc (Below.refl _ _) _
        rw [hW] at hWb ⊢
        clear hW
        have hWs : wr.heap.size < W.heap.size := lt_of_heap hWb
        have HBX := Lib.hid hWb
        obtain ⟨b0, b1, b2, b3, b4, bf⟩ := blk5 hWb
        have hOW := HO.out.below hbW
        obtain ⟨rfr, rrow⟩ := hrw W hbW
        obtain ⟨-, r2, r3⟩ := rrow i hi
        have rf2 := rfr
        have HRW := Lib.hid (show ∀ w7, Below W.heap.size W w7 → True ∧ True ∧ w7.cell? ⟨g, i * 5 + 2, none⟩ = some (.int .i64 out[i].t) ∧ w7.cell? ⟨g, i * 5 + 3, none⟩ = some (.int .i64 out[i].c) ∧ True from fun w7 hb => by
          obtain ⟨-, q⟩ := hrw w7 (bl_trans hbW hb)
          obtain ⟨-, q2, q3⟩ := q i hi
          exact ⟨trivial, trivial, q2, q3, trivial⟩)
        have HFR := Lib.hid (show ∀ w7, Below W.heap.size W w7 → ∀ j, w7.frozen? ⟨g, j, none⟩ = false from fun w7 hb => (hrw w7 (bl_trans hbW hb)).1)
        have HAF := Lib.hid (show ∀ W', Calls Tryz.prog 74 #[.int .i64 out[i].c, .agg #[.int .i64 x.k, .string x.key, .int .i64 x.t, .int .i64 x.c, .int .i64 x.y]] W' fun e w' => e = .returned (.int .i64 (afterC out[i].c x)) ∧ Below W'.heap.size W' w' from fun W' => after_any out[i].c x W' (by omega) (by omega) hcx.1 hcx.2)
        have hafb := after_bound (n := out[i].c) (r := x) (k := 1000) (by omega) (by omega) hcx.1 hcx.2
        have HFIN := Lib.hid (show ∀ w7, Below W.heap.size W w7 → NetSt w.heap.size (w.heap.size + 1) w (out.set i (bump out[i] x)) (k + 1) ((w7.setCell ⟨g, i * 5 + 2, none⟩ (.int .i64 x.t)).setCell ⟨g, i * 5 + 3, none⟩ (.int .i64 (afterC out[i].c x))) (.slice (some ⟨g, 0, none⟩) out.length cap) from fun w7 hb =>
          ⟨Go.Tw.Exc.OwnSl.setRec (HO.out.below (bl_trans hbW hb)) hi hxt (by unfold i64ok; omega),
           MapIs.ext (((HM.out.below (bl_trans hbW hb)).kept ((Below.heap_setCell _ _ _ _ (by show w.heap.size ≠ g; omega)).trans (Below.heap_setCell _ _ _ _ (by show w.heap.size ≠ g; omega)))).mono (by omega)) HMX.out,
           bl_set (bl_set (HBL.out.trans ((bl_trans hbW hb).mono (by omega))) _ (by show w.heap.size ≤ g; omega)) _ (by show w.heap.size ≤ g; omega)⟩)
        have hgb : (⟨wr.heap.size, 0, none⟩ : Addr).block ≠ g := by show wr.heap.size ≠ g; omega
        obtain ⟨ac, hac⟩ : ∃ z, afterC out[i].c x = z := ⟨_, rfl⟩
        obtain ⟨oc, hoc⟩ : ∃ z, out[i].c = z := ⟨_, rfl⟩
        rw [hac] at HAF HFIN
        rw [hoc] at HAF HRW r3
        clear hac hoc hOW rrow hrw hWb
        go_region_with (
           (go_at_call 74
            refine (HAF.out _).mono ?_
            rintro e w7 ⟨rfl, hb7⟩
            have HB7 := Lib.hid (show Below W.heap.size W w7 from Below.trans (b := W.drew) (Below.drew (Below.refl _ _)) hb7)
            obtain ⟨e0, e1, e2, e3, e4, ef⟩ := blk5 ((HB7.out.block _ hWs).trans HBX.out)
            obtain ⟨-, -, f2, f3, -⟩ := HRW.out w7 HB7.out
            have ff := HFR.out w7 HB7.out
            clear hb7))
        all_goals
          go_wp2_with (fail)
          go_roundg (l.length - (k + 1))
          case measure => omega
          case rel => exact ⟨k + 1, _, rfl, by omega, by go_num, by rw [HSTP2.out]; exact HFIN.out w7 HB7.out⟩
      | none =>
        have HSTP2 := Lib.hid (HSTP.out.trans (netStep_none hid))
        obtain ⟨a0, cp0, rfl, q1, q2⟩ := hown.form
        unfold maxLen at q2
        have HO := Lib.hid hown
        have HM := Lib.hid hmap
        have HFS := Lib.hid (fun y => fO_snoc hid y)
        have hlk : ∀ o, (Instr.lookup 84 (.map (some w.heap.size)) (.string x.key) true).run Tryz.prog (wr.alloc o) = .ok (.tuple #[.int .i64 0, .bool false]) (wr.alloc o) := fun o => by
          have := (hmap.alloc o).look Tryz.underlying84 Tryz.underlying9 (z := .int .i64 0) (by kernel_rfl) x.key true
          unfold fO at this
          rw [hid] at this
          exact this
        have HOL := Lib.hid (fun g e => hown.own_lt g e)
        have hne1 : some w.heap.size ≠ some wr.heap.size := by simp; omega
        clear hnet hid hown hmap HSTP hx
        have k0 : (0 : Int) ≤ (k : Int) := by omega
        have k1 : (k : Int) < (l.length : Int) := by omega
        go_upto_region 11 with (first
          | (at_mapUpdate
             refine wpList_put (.tmp 27) (.tmp 29) (.tmp 30) rfl 84 rfl Tryz.underlying84 Tryz.underlying9 (HM.out.alloc _) rfl x.key (.string x.key) (.int .i64 out.length) rfl rfl rfl ?_
             intro w1 hs1 hg1
             have HS1 := Lib.hid hs1
             have HG1 := Lib.hid hg1
             have HB1 := Lib.hid (grown_new hg1 hne1)
             have hz1 : wr.heap.size + 1 ≤ w1.heap.size := by have := hg1.size; simpa using this
             obtain ⟨d0, d1, d2, d3, d4, df⟩ := blk5 (grown_new hg1 hne1)
             have HO1 := Lib.hid (OwnSl.on (w' := w1) HO.out flatRec (fun q h1 h2 => (hg1.block q (by simp; omega) (fun e => by injection e with e; omega)).trans (Below.heap_alloc _ _ _ h2)) (by omega))
             clear hs1 hg1)
          | (at_builtin
             refine wpList_append_oneH (.tmp 31) (.tmp 35) rfl 27 rfl slRec rfl HO1.out rfl (S := fun _ => False) (y := newR x.key) (tRec_mk (newR_ok HOK.out.key)) (fun _ h => h.elim) (by omega) (by unfold maxLen; omega) (by omega) ?_
             intro v3 W ho3 hg3 hb3 hor3
             obtain ⟨out1, ho1⟩ : ∃ o, out ++ [newR x.key] = o := ⟨_, rfl⟩
             rw [ho1] at ho3
             have hl1 : out1.length = out.length + 1 := by rw [← ho1]; simp
             obtain ⟨g, cap, e3, hg1, hg2, hg3', hg4, hrw⟩ := Go.Tw.Exc.OwnSl.row ho3 (by omega)
             subst e3
             have HO3 := Lib.hid ho3
             have HB3 := Lib.hid hb3
             have HG3 := Lib.hid hg3
             have HOR3 := Lib.hid hor3
             have HE1 := Lib.hid ho1
             have HL1 := Lib.hid hl1
             clear ho3 hb3 hg3 hor3 ho1 hl1))
        clear hlk
        have hi : out.length < out1.length := by have := HL1.out; omega
        have hown0 : ∀ q, (Value.slice a0 out.length cp0).ownBlock = some q → q < wr.heap.size := fun q e => (HOL.out q e).2
        have hWb : W.heap[wr.heap.size]? = _ := (HG3.out.block wr.heap.size (by simp; omega) (fun e => by have := hown0 _ e.symm; omega)).trans ((Below.heap_alloc _ _ _ (by omega)).trans HB1.out)
        have hgn : ¬ g = wr.heap.size := fun e => by
          rcases HOR3.out with q | q
          · have := hown0 g q.symm
            omega
          · have q' : g = w1.heap.size + 1 := by injection q
            omega
        have hgn2 : ¬ wr.heap.size = g := fun e => hgn e.symm
        have HO := HO3
        have hc0 : out1[out.length].c = 0 := by
          have := HE1.out
          subst this
          simp [newR]
        have HSTP2 := Lib.hid (show netGo (l.take (k + 1)) = out1.set out.length (bump out1[out.length] x) by
          rw [HSTP2.out]
          have := HE1.out
          subst this
          simp)
        have HMX := Lib.hid (fun y => (fO_set (r := bump out1[out.length] x) hi rfl y).symm)
        have hmk : W.heap[w.heap.size]? = w1.heap[w.heap.size]? := HB3.out.block _ (by omega)
        have HM := Lib.hid (show MapIs kStr W w.heap.size (fO out1) (k + 1) from MapIs.ext (HS1.out.kept hmk) (fun y => by rw [← HE1.out]; exact HFS.out y))
        have HBL := Lib.hid (show Below w.heap.size w W from (HBL.out.trans ((bl_alloc (Below.refl wr.heap.size wr) _).mono (by omega))).trans ((Below.of_grown HG1.out (by simp; omega) (fun q e => by injection e with e; omega)).trans (HB3.out.mono (by omega))))
        have hbW : Below W.heap.size W W := Below.refl _ _
        have i0 : (0 : Int) ≤ (out.length : Int) := by omega
        have i1 : (out.length : Int) < (out1.length : Int) := by omega
        clear hmk hown0
        have hWs : wr.heap.size < W.heap.size := lt_of_heap hWb
        have HBX := Lib.hid hWb
        obtain ⟨b0, b1, b2, b3, b4, bf⟩ := blk5 hWb
        have hOW := HO.out.below hbW
        obtain ⟨rfr, rrow⟩ := hrw W hbW
        obtain ⟨-, r2, r3⟩ := rrow out.length hi
        have rf2 := rfr
        have HRW := Lib.hid (show ∀ w7, Below W.heap.size W w7 → True ∧ True ∧ w7.cell? ⟨g, out.length * 5 + 2, none⟩ = some (.int .i64 out1[out.length].t) ∧ w7.cell? ⟨g, out.length * 5 + 3, none⟩ = some (.int .i64 out1[out.length].c) ∧ True from fun w7 hb => by
          obtain ⟨-, q⟩ := hrw w7 (bl_trans hbW hb)
          obtain ⟨-, q2, q3⟩ := q out.length hi
          exact ⟨trivial, trivial, q2, q3, trivial⟩)
        have HFR := Lib.hid (show ∀ w7, Below W.heap.size W w7 → ∀ j, w7.frozen? ⟨g, j, none⟩ = false from fun w7 hb => (hrw w7 (bl_trans hbW hb)).1)
        have HAF := Lib.hid (show ∀ W', Calls Tryz.prog 74 #[.int .i64 out1[out.length].c, .agg #[.int .i64 x.k, .string x.key, .int .i64 x.t, .int .i64 x.c, .int .i64 x.y]] W' fun e w' => e = .returned (.int .i64 (afterC out1[out.length].c x)) ∧ Below W'.heap.size W' w' from fun W' => after_any out1[out.length].c x W' (by omega) (by omega) hcx.1 hcx.2)
        have hafb := after_bound (n := out1[out.length].c) (r := x) (k := 1000) (by omega) (by omega) hcx.1 hcx.2
        have HFIN := Lib.hid (show ∀ w7, Below W.heap.size W w7 → NetSt w.heap.size (w.heap.size + 1) w (out1.set out.length (bump out1[out.length] x)) (k + 1) ((w7.setCell ⟨g, out.length * 5 + 2, none⟩ (.int .i64 x.t)).setCell ⟨g, out.length * 5 + 3, none⟩ (.int .i64 (afterC out1[out.length].c x))) (.slice (some ⟨g, 0, none⟩) out1.length cap) from fun w7 hb =>
          ⟨Go.Tw.Exc.OwnSl.setRec (HO.out.below (bl_trans hbW hb)) hi hxt (by unfold i64ok; omega),
           MapIs.ext (((HM.out.below (bl_trans hbW hb)).kept ((Below.heap_setCell _ _ _ _ (by show w.heap.size ≠ g; omega)).trans (Below.heap_setCell _ _ _ _ (by show w.heap.size ≠ g; omega)))).mono (by omega)) HMX.out,
           bl_set (bl_set (HBL.out.trans ((bl_trans hbW hb).mono (by omega))) _ (by show w.heap.size ≤ g; omega)) _ (by show w.heap.size ≤ g; omega)⟩)
        have hgb : (⟨wr.heap.size, 0, none⟩ : Addr).block ≠ g := by show wr.heap.size ≠ g; omega
        obtain ⟨ac, hac⟩ : ∃ z, afterC out1[out.length].c x = z := ⟨_, rfl⟩
        obtain ⟨oc, hoc⟩ : ∃ z, out1[out.length].c = z := ⟨_, rfl⟩
        rw [hac] at HAF HFIN
        rw [hoc] at HAF HRW r3
        clear hac hoc hOW rrow hrw hWb
        go_region_with (
           (go_at_call 74
            refine (HAF.out _).mono ?_
            rintro e w7 ⟨rfl, hb7⟩
            have HB7 := Lib.hid (show Below W.heap.size W w7 from Below.trans (b := W.drew) (Below.drew (Below.refl _ _)) hb7)
            obtain ⟨e0, e1, e2, e3, e4, ef⟩ := blk5 ((HB7.out.block _ hWs).trans HBX.out)
            obtain ⟨-, -, f2, f3, -⟩ := HRW.out w7 HB7.out
            have ff := HFR.out w7 HB7.out
            clear hb7))
        all_goals
          go_wp2_with (fail)
          go_roundg (l.length - (k + 1))
          case measure => omega
          case rel => exact ⟨k + 1, _, rfl, by omega, by go_num, by rw [HSTP2.out]; exact HFIN.out w7 HB7.out⟩
    · obtain rfl : k = l.length := by omega
      have hkd : decide ((l.length : Int) < (l.length : Int)) = false := by simp
      rw [List.take_length] at hown
      have HS := Lib.hid (sort_any (netGo l) v0 (w.heap.size + 1) wr hown hms (Nat.le_trans (netGo_len l) (by omega)))
      clear ho hlt hown hmap hbl
      go_wp2_with (
        go_at_call 75
        refine HS.out.mono ?_
        rintro e w2 ⟨rfl, ⟨l', hp, hs⟩, hb, hsz⟩
        have HP := Lib.hid hp
        have HSL := Lib.hid hs
        have HB := Lib.hid (HBL.out.trans (hb.mono (Nat.le_succ _)))
        clear hp hs hb hsz)
      go_ret
      exact ⟨⟨_, l', rfl, HP.out, HSL.out⟩, HB.out⟩
end Go.Proofs.YtmjbbpappigngaaGreat
